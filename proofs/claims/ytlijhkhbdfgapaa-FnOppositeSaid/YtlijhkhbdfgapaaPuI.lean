/- Substitutions. Plain Lean. -/
import Derived.Test.YtlijhkhbdfgapaaPuH
namespace Go.Mod
open Go.AM
set_option linter.unusedVariables false
set_option linter.unusedSimpArgs false

theorem lin_succ {ts : List Term} {ms : List Int} {n : Nat} {t : Term} {m : Int} (h1 : ts[n]? = some t) (h2 : ms[n]? = some m) (g : Term → Int) :
    lin ts ms g (n + 1) = lin ts ms g n + m * g t := by
  unfold lin
  rw [show sumN (fun k => coef ms k * g (tAt ts k)) (n + 1) = sumN (fun k => coef ms k * g (tAt ts k)) n + coef ms n * g (tAt ts n) from rfl, coef_get h2]
  unfold tAt
  rw [h1]; rfl
def unitT (n : Nat) : Term := Term.mk 0 ((List.replicate (n + 1) 0).set n 1)
theorem unit_coef (n i : Nat) : coef (unitT n).Coeffs i = if i = n then 1 else 0 := by
  unfold coef unitT
  simp only [List.getElem?_set, List.length_replicate, List.getElem?_replicate]
  by_cases h : i = n
  · subst h; simp
  · rw [if_neg (Ne.symm h), if_neg h]
    by_cases h2 : i < n + 1
    · rw [if_pos h2]; rfl
    · rw [if_neg h2]; rfl
theorem unit_valid : ∀ n, n < 10 → vT (unitT n) = true := by decide
def subT (ps : List Term) (n : Nat) : Term := match ps[n]? with | some t => t | none => unitT n
theorem subT_valid {ps : List Term} (h : ps.all vT = true) {n : Nat} (hn : n < 10) : vT (subT ps n) = true := by
  unfold subT
  cases hx : ps[n]? with
  | none => exact unit_valid n hn
  | some t => exact List.all_eq_true.1 h t (List.mem_of_getElem? hx)
def subL (p : Term) (ps : List Term) (n : Nat) : List Term := Term.mk p.Const [] :: (List.range n).map (subT ps)
def subM (p : Term) : List Int := 1 :: p.Coeffs
theorem sub_lin {p : Term} {ps : List Term} (hp : vT p = true) (hs : ps.all vT = true) : Lin (subL p ps p.Coeffs.length) (subM p) := by
  have hl := vT_len hp
  refine ⟨fun t ht => ?_, fun m hm => ?_, by simp [subL]; omega, by simp [subL, subM]⟩
  · unfold subL at ht
    rcases List.mem_cons.1 ht with rfl | ht
    · exact vT_one _ (vT_const hp)
    · obtain ⟨i, hi, rfl⟩ := List.mem_map.1 ht
      exact subT_valid hs (by rw [List.mem_range] at hi; omega)
  · unfold subM at hm
    rcases List.mem_cons.1 hm with rfl | hm
    · unfold mOK; omega
    · exact inR_iff.1 (vT_coef hp m hm)
def fSub (p : Term) (ps : List Term) : Term × Bool :=
  bif vT p && ps.all vT && decide (ps.length ≤ 10) then
    chk (Term.mk (lin (subL p ps p.Coeffs.length) (subM p) Term.Const (p.Coeffs.length + 1)) (trim (tab fun i => lin (subL p ps p.Coeffs.length) (subM p) (fun t => coef t.Coeffs i) (p.Coeffs.length + 1)))) else (Term.mk 0 [], false)
theorem impl_sub {p : Term} {ps : List Term} : m_impl_SubstituteTerm p ps = some (fSub p ps) := by
  unfold m_impl_SubstituteTerm fSub
  rw [impl_valid, Option.bind_some, show (10 : Int) = ((10 : Nat) : Int) from rfl, impl_terms, Option.bind_some]
  cases h1 : vT p with
  | false => rfl
  | true =>
    have hl := vT_len h1
    cases h2 : ps.all vT with
    | false => cases decide (ps.length ≤ 10) <;> rfl
    | true =>
      by_cases h3 : ps.length ≤ 10
      · rw [decide_eq_true h3]
        simp only [Bool.not_true, cond_false, Bool.and_true, Bool.true_and, cond_true]
        obtain ⟨u, e1, e2⟩ := forL_inv (step := m_impl_SubstituteTerm_L0 ps) (fin := fun s0 => (s0.1, s0.2)) (xs := p.Coeffs)
          (fun n s => s = (subL p ps n, 1 :: p.Coeffs.take n)) (fun t => t = (subL p ps p.Coeffs.length, subM p))
          (fun n x s hx hs => by
            subst hs
            have hn := get_lt hx
            refine .inl ⟨_, ?_, rfl⟩
            have hj : m_impl_SubstituteTerm_J0 (subL p ps n, 1 :: p.Coeffs.take n) x ((subT ps n).Const, (subT ps n).Coeffs) = some (.next (subL p ps (n + 1), 1 :: p.Coeffs.take (n + 1))) := by
              unfold m_impl_SubstituteTerm_J0
              rw [capI_some (by simp [subL]; omega), Option.bind_some, capI_some (by simp; omega), Option.bind_some]
              simp only [Term.eta]
              rw [List.take_add_one, hx, Option.toList_some]
              unfold subL
              rw [List.range_succ, List.map_append]
              rfl
            unfold m_impl_SubstituteTerm_L0
            rw [makeI_some (by omega), Option.bind_some, getI_some (x := (0 : Int)) (by simp), Option.bind_some]
            by_cases hp : n < ps.length
            · have hpx : ps[n]? = some ps[n] := by simp [hp]
              rw [dec_lt hp, cond_true, getI_some hpx, Option.bind_some, ← hj, show subT ps n = ps[n] by unfold subT; rw [hpx]]
            · have hpx : ps[n]? = none := by simp; omega
              rw [dec_not_lt hp, cond_false, ← hj, show subT ps n = unitT n by unfold subT; rw [hpx]]
              rw [Int.toNat_natCast]; rfl)
          (fun s hs => by subst hs; simp only [List.take_length]; rfl) rfl
        rw [show ([Term.mk p.Const []], [(1 : Int)]) = (subL p ps 0, 1 :: p.Coeffs.take 0) from rfl, e1, e2, Option.bind_some]
        unfold m_impl_SubstituteTerm_A0
        have hln : (subL p ps p.Coeffs.length).length = p.Coeffs.length + 1 := by simp [subL]
        rw [impl_combined (sub_lin h1 h2), Option.bind_some, impl_checked, hln]; rfl
      · rw [decide_eq_false h3]; rfl
theorem spec_sub_inner (m : Int) (t : Term) : m_spec_l02Replace_L1 m t = m_spec_l02Combine_L1 m t := rfl
theorem spec_sub {p : Term} {ps : List Term} (hp : cTerm p ≤ 1048576) (hs : cTermS ps ≤ 1048576) : m_spec_SubstituteTerm p ps = some (fSub p ps) := by
  unfold m_spec_SubstituteTerm fSub
  rw [spec_is hp, Option.bind_some, show (10 : Int) = ((10 : Nat) : Int) from rfl, spec_all hs, Option.bind_some]
  cases h1 : vT p with
  | false => rfl
  | true =>
    have hl := vT_len h1
    cases h2 : ps.all vT with
    | false => rfl
    | true =>
      by_cases h3 : ps.length ≤ 10
      · rw [decide_eq_true h3]
        simp only [Bool.not_true, cond_false, Bool.and_true, Bool.true_and, cond_true]
        have hL := sub_lin h1 h2
        have hts : ∀ n, n < p.Coeffs.length → (subL p ps p.Coeffs.length)[n + 1]? = some (subT ps n) := by
          intro n hn; simp [subL, hn]
        have key : ∀ (m n : Nat), n + m = p.Coeffs.length →
            iter (m_spec_l02Replace_L0 p ps) (lin (subL p ps p.Coeffs.length) (subM p) Term.Const (n + 1), tab (fun i => lin (subL p ps p.Coeffs.length) (subM p) (fun t => coef t.Coeffs i) (n + 1)), (n : Int)) =
            some (lin (subL p ps p.Coeffs.length) (subM p) Term.Const (p.Coeffs.length + 1), tab (fun i => lin (subL p ps p.Coeffs.length) (subM p) (fun t => coef t.Coeffs i) (p.Coeffs.length + 1))) := by
          intro m
          induction m with
          | zero =>
            intro n hn
            obtain rfl : n = p.Coeffs.length := by omega
            refine iter_out ?_
            unfold m_spec_l02Replace_L0
            simp only
            rw [dec_self]; rfl
          | succ m ih =>
            intro n hn
            have hlt : n < p.Coeffs.length := by omega
            have hx : p.Coeffs[n]? = some p.Coeffs[n] := by simp
            have hm : (subM p)[n + 1]? = some p.Coeffs[n] := by simp [subM]
            have hxr := inR_iff.1 (vT_coef h1 _ (List.getElem_mem hlt))
            have hr := fun (g : Term → Int) hg => lin_rng hL (g := g) hg (n := n + 1) (by omega)
            rw [iter_next (s' := (lin (subL p ps p.Coeffs.length) (subM p) Term.Const (n + 1 + 1), tab (fun i => lin (subL p ps p.Coeffs.length) (subM p) (fun t => coef t.Coeffs i) (n + 1 + 1)), ((n + 1 : Nat) : Int)))]
            · exact ih (n + 1) (by omega)
            · simp only [lin_succ (hts n hlt) hm]
              unfold m_spec_l02Replace_L0
              simp only
              rw [dec_lt hlt, cond_true]
              by_cases hp : n < ps.length
              · have hpx : ps[n]? = some ps[n] := by simp [hp]
                have hv := List.all_eq_true.1 h2 _ (List.getElem_mem hp)
                rw [decide_eq_false (by omega), cond_false, getI_some hx, Option.bind_some, getI_some hpx, Option.bind_some, spec_sub_inner, spec_inner (by have := vT_len hv; omega),
                  inner hxr (vT_len hv) (vT_coef hv) (fun i => by have := hr (fun t => coef t.Coeffs i) (fun t ht => coef_rng ht i); omega), Option.bind_some]
                unfold m_spec_l02Replace_A1
                have h4 := hr Term.Const (fun t ht => const_rng ht)
                have h5 := mul_rng hxr (const_rng hv)
                simp only
                rw [w64_succ (by omega), w64_eq (n := p.Coeffs[n] * (ps[n]).Const) (by omega), w64_eq (by omega), show subT ps n = ps[n] by unfold subT; rw [hpx]]
              · have hpx : ps[n]? = none := by simp; omega
                have h6 := hr (fun t => coef t.Coeffs n) (fun t ht => coef_rng ht n)
                rw [decide_eq_true (by omega), cond_true, getI_some (tab_get (by omega)), Option.bind_some, getI_some hx, Option.bind_some, w64_succ (by omega), w64_eq (by omega), Int.toNat_natCast, tab_set (by omega),
                  show subT ps n = unitT n by unfold subT; rw [hpx]]
                simp only [unit_coef, show (unitT n).Const = 0 from rfl, Int.mul_zero, Int.add_zero]
                congr 4
                unfold tab
                apply List.map_congr_left
                intro i hi
                by_cases h7 : i = n
                · subst h7; rw [if_pos rfl, if_pos rfl, Int.mul_one]
                · rw [if_neg h7, if_neg h7, Int.mul_zero, Int.add_zero]
        unfold m_spec_l02Replace
        rw [show makeI 10 8 = some 10 from rfl, Option.bind_some]
        have h0 := key p.Coeffs.length 0 (by omega)
        have e0 : lin (subL p ps p.Coeffs.length) (subM p) Term.Const (0 + 1) = p.Const := by
          rw [lin_succ (t := Term.mk p.Const []) (m := 1) rfl rfl]; simp [lin, sumN]
        have e1 : (fun i => lin (subL p ps p.Coeffs.length) (subM p) (fun t => coef t.Coeffs i) (0 + 1)) = fun _ => 0 := by
          funext i
          rw [lin_succ (t := Term.mk p.Const []) (m := 1) rfl rfl]; simp [lin, sumN, coef]
        rw [e0, e1] at h0
        rw [tab_zero, show (0 : Int) = ((0 : Nat) : Int) from rfl]
        rw [show iter (m_spec_l02Replace_L0 p ps) (p.Const, tab (fun _ => ((0 : Nat) : Int)), ((0 : Nat) : Int)) = _ from h0, Option.bind_some]
        unfold m_spec_l02Replace_A0
        rw [spec_make (by simp only [tab_len]; omega)]; rfl
      · rw [decide_eq_false h3]; rfl
theorem fSub_small (p : Term) (ps : List Term) : small (fSub p ps) := by
  unfold fSub
  cases vT p && ps.all vT && decide (ps.length ≤ 10)
  · exact Nat.zero_le _
  · exact chk_small _
theorem law_SubstituteTerm {p : Term} {ps : List Term} (kp : k_Term p) (ks : kLa_Term ps) : m_laws_FnExactSubstituteTerm p ps = some true := by
  unfold m_laws_FnExactSubstituteTerm
  rw [show (1048576 : Int) = ((1048576 : Nat) : Int) from rfl, sz_Term kp.2.1 _ (Nat.le_refl _), Option.bind_some]
  by_cases h1 : cTerm p ≤ 1048576
  · rw [szOut_ok h1, dec_neg, cond_false, sz_TermS ks _ (by omega), Option.bind_some]
    by_cases h2 : cTermS ps ≤ 1048576 - cTerm p
    · have h3 : cTermS ps ≤ 1048576 := by omega
      have hs := fSub_small p ps
      unfold small at hs
      obtain ⟨r1, a1, b1⟩ := mkh_Term (t := p) (k := 1) (by omega)
      obtain ⟨r2, a2, b2⟩ := mkh_TermS (ts := ps) (k := 1 + cTerm p) (by omega)
      obtain ⟨r3, a3, b3⟩ := mkh_Term (t := (fSub p ps).1) (k := 1) (by omega)
      replace a1 : m_laws_markTerm p 1 = _ := a1
      replace a3 : m_laws_markTerm (fSub p ps).1 1 = _ := a3
      replace b3 : m_laws_heldTerm (Term.mk (fSub p ps).1.Const r3) 1 = _ := b3
      simp only [szOut_ok h2, dec_neg, cond_false, Option.bind_some, to_Term h1, to_TermS h3, spec_sub h1 h3, impl_sub, eq_Term hs, eq_Term h1, eq_TermS h3, decide_true, bool_beq, Bool.not_true, Bool.or_false, a1, a2, a3, b3]
    · rw [szOut_no h2]; rfl
  · rw [szOut_no h1]; rfl
end Go.Mod
