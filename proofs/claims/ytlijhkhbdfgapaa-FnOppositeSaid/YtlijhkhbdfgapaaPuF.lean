/- Lists of terms; combinations. Plain Lean. -/
import Derived.Test.YtlijhkhbdfgapaaPuE
namespace Go.Mod
open Go.AM
set_option linter.unusedVariables false
set_option linter.unusedSimpArgs false

/-! ### Lists of terms: sizes, copies, comparisons, marks -/
def cTermS (ts : List Term) : Nat := ts.length + (ts.map cTerm).sum
theorem mem_sum {α : Type} {c : α → Nat} {xs : List α} {x : α} (h : x ∈ xs) : c x ≤ (xs.map c).sum := by
  induction xs with
  | nil => cases h
  | cons y r ih =>
    simp only [List.map_cons, List.sum_cons]
    rcases List.mem_cons.1 h with rfl | h
    · omega
    · have := ih h; omega
theorem cTermS_mem {ts : List Term} {t : Term} (h : t ∈ ts) : cTerm t ≤ cTermS ts := by have := mem_sum (c := cTerm) h; unfold cTermS; omega
theorem sz_TermS {ts : List Term} (k : kLa_Term ts) : SzP m_laws_szTermS cTermS ts := fun b hb => by
  unfold m_laws_szTermS cTermS
  rw [szW k.1 hb]
  by_cases h : ts.length ≤ b
  · rw [decide_eq_false (by omega), cond_false, show (b : Int) - (ts.length : Int) = ((b - ts.length : Nat) : Int) by omega,
      iter_sz (xs := ts) (c := cTerm) (sz := m_laws_szTerm)
        (fun n x b hx => by unfold m_laws_szTermS_L0; rw [dec_lt (get_lt hx), cond_true, getI_some hx]; rfl)
        (fun b => by unfold m_laws_szTermS_L0; rw [dec_self]; rfl) k.1 (fun x hx => sz_Term (k.2 x hx).2.1) (by omega), Option.bind_some]
    by_cases h2 : (ts.map cTerm).sum ≤ b - ts.length
    · rw [if_pos h2, szOut_ok (by omega)]
      unfold m_laws_szTermS_A0; simp only; congr 2; omega
    · rw [if_neg h2, szOut_no (by omega)]; rfl
  · rw [decide_eq_true (by omega), szOut_no (by omega)]; rfl
theorem to_TermS {ts : List Term} (hl : cTermS ts ≤ 1048576) : m_laws_toTermS ts = some ts := by
  have hlen : ts.length ≤ 1048576 := by unfold cTermS at hl; omega
  unfold m_laws_toTermS
  rw [makeI_some (by omega), Option.bind_some, iter_to (xs := ts) (z := Term.mk 0 []) (cp := m_laws_toTerm)
    (fun n x ys hx => by unfold m_laws_toTermS_L0; rw [dec_lt (get_lt hx), cond_true, getI_some hx]; rfl)
    (fun ys => by unfold m_laws_toTermS_L0; rw [dec_self]; rfl) hlen (fun x hx => to_Term (by have := cTermS_mem hx; omega))]
  rfl
theorem eq_TermS {xs ys : List Term} (hl : cTermS xs ≤ 1048576) : m_laws_eqTermS xs ys = some (decide (xs = ys)) := by
  have hlen : xs.length ≤ 1048576 := by unfold cTermS at hl; omega
  unfold m_laws_eqTermS
  by_cases h : xs.length = ys.length
  · rw [decide_eq_true (by omega), Bool.not_true, cond_false, iter_eq (xs := xs) (ys := ys) (eq := m_laws_eqTerm)
      (fun n x y hx hy => by unfold m_laws_eqTermS_L0; rw [dec_lt (get_lt hx), cond_true, getI_some hx, getI_some hy]; rfl)
      (by unfold m_laws_eqTermS_L0; rw [dec_self]; rfl) (by omega) h (fun x hx y => eq_Term (by have := cTermS_mem hx; omega))]
    by_cases e : xs = ys
    · rw [if_pos e, decide_eq_true e]; rfl
    · rw [if_neg e, decide_eq_false e]; rfl
  · rw [decide_eq_false (by omega), decide_eq_false (fun e => h (by rw [e]))]; rfl
/-- An element's marks: its number, then its coefficients. -/
noncomputable def mkEl (x : Term) (k : Int) : Option (Int × Term) := (m_laws_markInt64S x.Coeffs (w64 (k + 1))).bind fun r => some (r.1, Term.mk k r.2)
theorem mkEl_ok {x : Term} (hl : cTerm x ≤ 1048576) {k : Nat} (hk : k ≤ 1125899906842623) : ∃ x', mkEl x k = some (((k + (1 + cTerm x) : Nat) : Int), x') := by
  obtain ⟨r, h1, _⟩ := mk_ints (xs := x.Coeffs) hl (k := k + 1) (by omega)
  refine ⟨Term.mk k r, ?_⟩
  unfold mkEl
  rw [w64_succ (by omega), h1, Option.bind_some]
  unfold cTerm
  congr 3
  omega
/-- The marks of a list of terms. -/
theorem mk_TermS {ts : List Term} (hl : cTermS ts ≤ 1048576) {k : Nat} (hk : k ≤ 1048577) : ∃ ts', m_laws_markTermS ts k = some (((k + cTermS ts : Nat) : Int), ts') := by
  have hlen : ts.length ≤ 1048576 := by unfold cTermS at hl; omega
  have key : ∀ (q n : Nat) (ys : List Term) (k : Nat), n + q = ts.length → ys.length = ts.length → ys.drop n = ts.drop n → k + cTermS (ts.drop n) ≤ 1000000000 →
      ∃ xs', iter m_laws_markTermS_L0 (ys, (k : Int), (n : Int)) = some (((k + cTermS (ts.drop n) : Nat) : Int), xs') := by
    intro q
    induction q with
    | zero =>
      intro n ys k hn hy _ hk
      obtain rfl : n = ts.length := by omega
      refine ⟨ys, ?_⟩
      rw [iter_out (t := ((k : Int), ys))]
      · simp [cTermS]
      · unfold m_laws_markTermS_L0; rw [← hy, dec_self]; rfl
    | succ q ih =>
      intro n ys k hn hy hd hk
      have hlt : n < ts.length := by omega
      have hyn : ys[n]? = some ts[n] := by
        have := congrArg (fun l => l[0]?) hd
        simpa [List.getElem?_drop, hlt] using this
      have hc : cTermS (ts.drop n) = 1 + cTerm ts[n] + cTermS (ts.drop (n + 1)) := by
        rw [List.drop_eq_getElem_cons hlt]; unfold cTermS; simp only [List.length_cons, List.map_cons, List.sum_cons]; omega
      have hm := cTermS_mem (List.getElem_mem hlt)
      obtain ⟨r, h1, _⟩ := mk_ints (xs := (ts[n]).Coeffs) (by unfold cTerm at hm; omega) (k := k + 1) (by omega)
      obtain ⟨xs', e1⟩ := ih (n + 1) ((ys.set n (Term.mk k (ts[n]).Coeffs)).set n (Term.mk k r)) (k + 1 + cTerm ts[n]) (by omega) (by simpa using hy)
        (by
          have := congrArg (fun l => l.drop 1) hd
          simp only [List.drop_drop] at this
          rw [List.drop_set_of_lt (by omega), List.drop_set_of_lt (by omega)]; exact this) (by omega)
      refine ⟨xs', ?_⟩
      rw [iter_next (s' := ((ys.set n (Term.mk k (ts[n]).Coeffs)).set n (Term.mk k r), ((k + 1 + cTerm ts[n] : Nat) : Int), ((n + 1 : Nat) : Int))), e1, hc]
      · congr 2; omega
      · unfold m_laws_markTermS_L0
        simp only
        rw [dec_lt (by omega), cond_true, getI_some hyn, Option.bind_some, Int.toNat_natCast,
          getI_some (x := Term.mk k (ts[n]).Coeffs) (by rw [List.getElem?_set_self (by omega)]), Option.bind_some, w64_succ (by omega)]
        simp only
        rw [h1, Option.bind_some, w64_succ (by omega)]
        rfl
  obtain ⟨xs', h⟩ := key ts.length 0 ts k (by omega) rfl rfl (by simp only [List.drop_zero]; omega)
  refine ⟨xs', ?_⟩
  unfold m_laws_markTermS
  rw [List.drop_zero] at h
  rw [show (0 : Int) = ((0 : Nat) : Int) from rfl, h]; rfl

/-! ### Combinations -/
theorem comb_loop {ts : List Term} {ms : List Int} (h : Lin ts ms) :
    forL (m_impl_combined_L0 ms) (fun s0 => (s0.1, s0.2)) 0 ts (0, tab fun _ => 0) = some (lin ts ms Term.Const ts.length, tab fun i => lin ts ms (fun t => coef t.Coeffs i) ts.length) := by
  obtain ⟨t, h1, h2⟩ := forL_inv (step := m_impl_combined_L0 ms) (fin := fun s0 => (s0.1, s0.2)) (xs := ts) (fun n s => s = (lin ts ms Term.Const n, tab fun i => lin ts ms (fun t => coef t.Coeffs i) n))
    (fun t => t = (lin ts ms Term.Const ts.length, tab fun i => lin ts ms (fun t => coef t.Coeffs i) ts.length))
    (fun n x s hxn hs => by
      subst hs
      have hn := get_lt hxn
      refine .inl ⟨_, ?_, rfl⟩
      unfold m_impl_combined_L0
      have hmn : n < ms.length := by rw [h.2.2.2]; exact hn
      have hm : ms[n]? = some ms[n] := by simp [hmn]
      have hv := h.1 x (List.mem_of_getElem? hxn)
      have hmo := h.2.1 _ (List.mem_of_getElem? hm)
      rw [getI_some hm, Option.bind_some, inner hmo (vT_len hv) (vT_coef hv)
        (fun i => by have := lin_rng h (g := fun t => coef t.Coeffs i) (fun t ht => coef_rng ht i) (n := n) (by have := h.2.2.1; omega); omega), Option.bind_some]
      unfold m_impl_combined_A1
      have hp := mul_rng hmo (const_rng hv)
      have hq := lin_rng h (g := Term.Const) (fun t ht => const_rng ht) (n := n) (by have := h.2.2.1; omega)
      simp only
      rw [w64_eq (n := ms[n] * x.Const) (by omega), w64_eq (by omega)]
      have e : ∀ g : Term → Int, lin ts ms g (n + 1) = lin ts ms g n + ms[n] * g x := by
        intro g
        unfold lin
        rw [show sumN (fun k => coef ms k * g (tAt ts k)) (n + 1) = sumN (fun k => coef ms k * g (tAt ts k)) n + coef ms n * g (tAt ts n) from rfl, coef_get hm]
        unfold tAt
        rw [hxn]; rfl
      simp only [e])
    (fun s hs => hs) rfl
  change forL (m_impl_combined_L0 ms) (fun s0 => (s0.1, s0.2)) 0 ts (lin ts ms Term.Const 0, tab fun i => lin ts ms (fun t => coef t.Coeffs i) 0) = _
  rw [h1, h2]
theorem spec_inner {m : Int} {t : Term} (hl : t.Coeffs.length ≤ 1048576) (s : List Int) :
    iter (m_spec_l02Combine_L1 m t) (s, 0) = forL (m_impl_combined_L1 m) (fun s1 => s1) 0 t.Coeffs s :=
  iter_for (step := m_spec_l02Combine_L1 m t) t.Coeffs (fun n (s : List Int) => (s, (n : Int))) (m_impl_combined_L1 m) (fun s1 => s1)
    (fun n x r hx => by
      unfold m_spec_l02Combine_L1 m_impl_combined_L1
      simp only
      rw [dec_lt (get_lt hx), cond_true]
      cases getI r (n : Int) with
      | none => rfl
      | some y =>
        simp only [Option.bind_some]
        rw [getI_some hx, Option.bind_some, w64_succ (by have := get_lt hx; omega)]; rfl)
    (fun r => by unfold m_spec_l02Combine_L1; simp only; rw [dec_self]; rfl) s
theorem spec_comb_loop {ts : List Term} {ms : List Int} (h1 : ∀ t ∈ ts, t.Coeffs.length ≤ 1048576) (h2 : ts.length ≤ 1048576) (s : Int × List Int) :
    iter (m_spec_l02Combine_L0 ts ms) (s.1, s.2, 0) = forL (m_impl_combined_L0 ms) (fun s0 => (s0.1, s0.2)) 0 ts s :=
  iter_for (step := m_spec_l02Combine_L0 ts ms) ts (fun n (s : Int × List Int) => (s.1, s.2, (n : Int))) (m_impl_combined_L0 ms) (fun s0 => (s0.1, s0.2))
    (fun n x r hx => by
      unfold m_spec_l02Combine_L0 m_impl_combined_L0
      simp only
      rw [dec_lt (get_lt hx), cond_true]
      cases getI ms (n : Int) with
      | none => rfl
      | some y =>
        simp only [Option.bind_some]
        rw [getI_some hx, Option.bind_some, spec_inner (h1 x (List.mem_of_getElem? hx))]
        cases forL (m_impl_combined_L1 y) (fun s1 => s1) 0 x.Coeffs r.2 with
        | none => rfl
        | some u =>
          simp only [Option.bind_some]
          unfold m_spec_l02Combine_A1 m_impl_combined_A1
          simp only
          rw [w64_succ (by have := get_lt hx; omega)]; rfl)
    (fun r => by unfold m_spec_l02Combine_L0; simp only; rw [dec_self]; rfl) s
theorem spec_combine {ts : List Term} {ms : List Int} (h : Lin ts ms) :
    m_spec_l02Combine ts ms = some (chk (Term.mk (lin ts ms Term.Const ts.length) (trim (tab fun i => lin ts ms (fun t => coef t.Coeffs i) ts.length)))) := by
  unfold m_spec_l02Combine
  rw [show (10 : Int) = ((10 : Nat) : Int) from rfl, makeI_some (by omega), Option.bind_some, tab_zero,
    show iter (m_spec_l02Combine_L0 ts ms) (0, tab (fun _ => 0), 0) = _ from spec_comb_loop (fun t ht => by have := vT_len (h.1 t ht); omega) (by have := h.2.2.1; omega) (0, tab fun _ => 0),
    comb_loop h, Option.bind_some]
  unfold m_spec_l02Combine_A0
  rw [spec_make (by simp only [tab_len]; omega)]; rfl

def inM (m : Int) : Bool := decide (0 ≤ m) && decide (m ≤ 1000000)
theorem inM_ok {m : Int} (h : inM m = true) : mOK m := by simp [inM] at h; unfold mOK; omega
theorem dec_eqN {a b : Nat} : decide ((a : Int) = (b : Int)) = decide (a = b) := by by_cases h : a = b <;> simp [h]; omega
theorem dec_leN {a b : Nat} : decide ((a : Int) ≤ (b : Int)) = decide (a ≤ b) := by by_cases h : a ≤ b <;> simp [h]
theorem spec_all {ts : List Term} {k : Nat} (hl : cTermS ts ≤ 1048576) : m_spec_l02All ts (k : Int) = some (ts.all vT && decide (ts.length ≤ k)) := by
  have hlen : ts.length ≤ 1048576 := by unfold cTermS at hl; omega
  have h := iter_for (step := m_spec_l02All_L0 ts) ts (fun n (_ : Unit) => (n : Int)) (fun _ x _ => bif vT x then some (.next ()) else some (.out (.inr false))) (fun _ => .inl ())
    (fun n x r hx => by
      unfold m_spec_l02All_L0
      rw [dec_lt (get_lt hx), cond_true, getI_some hx, Option.bind_some, spec_is (by have := cTermS_mem (List.mem_of_getElem? hx); omega), Option.bind_some]
      have hw : w64 ((n : Int) + 1) = ((n + 1 : Nat) : Int) := w64_succ (by have := get_lt hx; omega)
      cases vT x
      · rfl
      · rw [hw]; rfl)
    (fun r => by unfold m_spec_l02All_L0; rw [dec_self]; rfl) ()
  rw [forL_all vT _ _ (fun n x _ => rfl)] at h
  unfold m_spec_l02All
  rw [show (0 : Int) = ((0 : Nat) : Int) from rfl, h, Option.bind_some]
  cases ts.all vT
  · rfl
  · change some (decide ((ts.length : Int) ≤ (k : Int))) = _
    rw [dec_leN]; rfl
theorem spec_mult {ms : List Int} (hl : ms.length ≤ 1048576) : m_spec_l02Multipliers ms = some (ms.all inM) := by
  have h := iter_for (step := m_spec_l02Multipliers_L0 ms) ms (fun n (_ : Unit) => (n : Int)) (fun _ x _ => bif inM x then some (.next ()) else some (.out (.inr false))) (fun _ => .inl ())
    (fun n x r hx => by
      unfold m_spec_l02Multipliers_L0
      rw [dec_lt (get_lt hx), cond_true, getI_some hx, Option.bind_some, show m_spec_l00In x 0 1000000 = some (inM x) from rfl, Option.bind_some]
      have hw : w64 ((n : Int) + 1) = ((n + 1 : Nat) : Int) := w64_succ (by have := get_lt hx; omega)
      cases inM x
      · rfl
      · rw [hw]; rfl)
    (fun r => by unfold m_spec_l02Multipliers_L0; rw [dec_self]; rfl) ()
  rw [forL_all inM _ _ (fun n x _ => rfl)] at h
  unfold m_spec_l02Multipliers
  rw [show (0 : Int) = ((0 : Nat) : Int) from rfl, h, Option.bind_some]
  cases ms.all inM <;> rfl
theorem impl_terms {ts : List Term} {k : Nat} : m_impl_areTerms ts (k : Int) = some (decide (ts.length ≤ k) && ts.all vT) := by
  unfold m_impl_areTerms
  by_cases h : ts.length ≤ k
  · rw [decide_eq_false (by omega), cond_false, decide_eq_true h, Bool.true_and, forL_all vT (f := .inr false) ts 0 (fun n x _ => by
      unfold m_impl_areTerms_L0
      rw [impl_valid, Option.bind_some]
      cases vT x <;> rfl), Option.bind_some]
    cases ts.all vT <;> rfl
  · rw [decide_eq_true (by omega), decide_eq_false h]; rfl
def fComb (ts : List Term) (ms : List Int) : Term × Bool :=
  bif ts.all vT && decide (ts.length ≤ 14) && decide (ms.length = ts.length) && ms.all inM then
    chk (Term.mk (lin ts ms Term.Const ts.length) (trim (tab fun i => lin ts ms (fun t => coef t.Coeffs i) ts.length))) else (Term.mk 0 [], false)
theorem comb_lin {ts : List Term} {ms : List Int} (h1 : ts.all vT = true) (h2 : ts.length ≤ 14) (h3 : ms.length = ts.length) (h4 : ms.all inM = true) : Lin ts ms :=
  ⟨fun t ht => List.all_eq_true.1 h1 t ht, fun m hm => inM_ok (List.all_eq_true.1 h4 m hm), h2, h3⟩
theorem spec_comb {ts : List Term} {ms : List Int} (hl : cTermS ts ≤ 1048576) (hm : ms.length ≤ 1048576) : m_spec_CombineTerms ts ms = some (fComb ts ms) := by
  unfold m_spec_CombineTerms fComb
  rw [show (14 : Int) = ((14 : Nat) : Int) from rfl, spec_all hl, Option.bind_some, spec_mult hm, dec_eqN]
  cases h1 : ts.all vT with
  | false => rfl
  | true =>
    by_cases h2 : ts.length ≤ 14
    · by_cases h3 : ms.length = ts.length
      · rw [decide_eq_true h2, decide_eq_true h3]
        cases h4 : ms.all inM with
        | false => rfl
        | true => simp only [spec_combine (comb_lin h1 h2 h3 h4)]; rfl
      · rw [decide_eq_false h3]; simp
    · rw [decide_eq_false h2]; rfl
theorem impl_comb {ts : List Term} {ms : List Int} : m_impl_CombineTerms ts ms = some (fComb ts ms) := by
  unfold m_impl_CombineTerms fComb m_impl_ValidFacts
  rw [show (14 : Int) = ((14 : Nat) : Int) from rfl, impl_terms, impl_all, dec_eqN]
  change ((some _).bind _).bind (fun r7 => bif (!r7 || _) then _ else (some (ms.all inM)).bind _) = _
  cases h1 : ts.all vT with
  | false => simp
  | true =>
    by_cases h2 : ts.length ≤ 14
    · by_cases h3 : ms.length = ts.length
      · cases h4 : ms.all inM with
        | false => simp [h2, h3]
        | true => simp [h2, h3, impl_combined (comb_lin h1 h2 h3 h4), impl_checked]
      · simp [h2, h3]
    · simp [h2]
theorem fComb_small (ts : List Term) (ms : List Int) : small (fComb ts ms) := by
  unfold fComb
  cases ts.all vT && decide (ts.length ≤ 14) && decide (ms.length = ts.length) && ms.all inM
  · exact Nat.zero_le _
  · exact chk_small _
theorem law_CombineTerms {ts : List Term} {ms : List Int} (kt : kLa_Term ts) (km : kLa_i64 ms) : m_laws_FnExactCombineTerms ts ms = some true := by
  unfold m_laws_FnExactCombineTerms
  by_cases h0 : ms.length ≤ 1048576
  · rw [decide_eq_false (by omega), cond_false, show (1048576 : Int) = ((1048576 : Nat) : Int) from rfl, sz_TermS kt _ (Nat.le_refl _), Option.bind_some]
    by_cases h1 : cTermS ts ≤ 1048576
    · obtain ⟨r1, a1⟩ := mk_TermS h1 (k := 1) (by omega)
      obtain ⟨r2, a2, _⟩ := mk_ints h0 (k := 1 + cTermS ts) (by omega)
      obtain ⟨r3, a3, b3⟩ := mk_Term (fComb_small ts ms) (k := 1) (by omega)
      replace a1 : m_laws_markTermS ts 1 = _ := a1
      replace a3 : m_laws_markTerm (fComb ts ms).1 1 = _ := a3
      replace b3 : m_laws_heldTerm (Term.mk (fComb ts ms).1.Const r3) 1 = _ := b3
      simp only [szOut_ok h1, dec_neg, cond_false, Option.bind_some, to_TermS h1, to_ints h0, spec_comb h1 h0, impl_comb, eq_Term (fComb_small ts ms), eq_TermS h1, eq_ints (show ms.length ≤ 9223372036854775807 by omega), decide_true, bool_beq, Bool.not_true, Bool.or_false, a1, a2, a3, b3]
    · rw [szOut_no h1]; rfl
  · rw [decide_eq_true (by omega)]; rfl
def fRef (r : Term × Bool) : Bool := (r.2 && decide ((r.1.Coeffs.length : Int) = 0)) && decide (r.1.Const < 0)
theorem spec_ref {ts : List Term} {ms : List Int} (hl : cTermS ts ≤ 1048576) (hm : ms.length ≤ 1048576) : m_spec_IsRefuted ts ms = some (fRef (fComb ts ms)) := by
  unfold m_spec_IsRefuted fComb
  rw [show (14 : Int) = ((14 : Nat) : Int) from rfl, spec_all hl, Option.bind_some, spec_mult hm, dec_eqN]
  cases h1 : ts.all vT with
  | false => rfl
  | true =>
    by_cases h2 : ts.length ≤ 14
    · by_cases h3 : ms.length = ts.length
      · rw [decide_eq_true h2, decide_eq_true h3]
        cases h4 : ms.all inM with
        | false => rfl
        | true => simp only [spec_combine (comb_lin h1 h2 h3 h4)]; rfl
      · rw [decide_eq_false h3]; simp [fRef]
    · rw [decide_eq_false h2]; rfl
theorem law_IsRefuted {ts : List Term} {ms : List Int} (kt : kLa_Term ts) (km : kLa_i64 ms) : m_laws_FnExactIsRefuted ts ms = some true := by
  unfold m_laws_FnExactIsRefuted
  by_cases h0 : ms.length ≤ 1048576
  · rw [decide_eq_false (by omega), cond_false, show (1048576 : Int) = ((1048576 : Nat) : Int) from rfl, sz_TermS kt _ (Nat.le_refl _), Option.bind_some]
    by_cases h1 : cTermS ts ≤ 1048576
    · have hi : m_impl_IsRefuted ts ms = some (fRef (fComb ts ms)) := by unfold m_impl_IsRefuted; rw [impl_comb]; rfl
      simp only [szOut_ok h1, dec_neg, cond_false, Option.bind_some, to_TermS h1, to_ints h0, spec_ref h1 h0, hi, eq_TermS h1, eq_ints (show ms.length ≤ 9223372036854775807 by omega), decide_true, bool_beq, Bool.not_true, Bool.or_false]
    · rw [szOut_no h1]; rfl
  · rw [decide_eq_true (by omega)]; rfl
end Go.Mod
