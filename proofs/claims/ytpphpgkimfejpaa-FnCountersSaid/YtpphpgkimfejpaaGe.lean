import Derived.Test.YtpphpgkimfejpaaGd
namespace Go.Mod
open Go.AM
set_option linter.unusedVariables false
set_option linter.unusedSimpArgs false
theorem impl_eval {t : Term} {v : List Int} (ht : vT t = true) (hv : Vals v) : m_impl_Term_eval t v = some (Go.Mod.val t v) := by
  have hl := vT_len ht
  have hp : ∀ i, -6000000 ≤ coef t.Coeffs i * coef v i ∧ coef t.Coeffs i * coef v i ≤ 6000000 := by
    intro i
    have := prod_small (A := 1000000) (B := 6) (coef_rng ht i) (hv.coef i)
    omega
  have hsum := sumN_rng (f := fun i => coef t.Coeffs i * coef v i) (B := 6000000) hp
  have hc := const_rng ht
  unfold m_impl_Term_eval
  obtain ⟨u, e1, e2⟩ := forL_inv (step := m_impl_Term_eval_L0 v) (fin := fun s0 => s0) (xs := t.Coeffs)
    (fun n s => s = t.Const + sumN (fun i => coef t.Coeffs i * coef v i) n) (fun s => s = Go.Mod.val t v)
    (fun n x s hx hs => by
      subst hs
      have hlt := get_lt hx
      have hltv : n < v.length := by rw [hv.1]; omega
      have hy : v[n]? = some v[n] := by simp
      have hs := hsum n
      have hpn := hp n
      rw [coef_get hx, coef_get hy] at hpn
      refine .inl ⟨_, ?_, rfl⟩
      unfold m_impl_Term_eval_L0
      rw [getI_some hy, Option.bind_some, w64_eq (n := x * v[n]) (by omega), w64_eq (by omega), sumN, coef_get hx, coef_get hy, Int.add_assoc])
    (fun s hs => by
      subst hs
      unfold Go.Mod.val
      rw [sumN_stop (n := t.Coeffs.length) (fun i hi => by rw [coef_no hi, Int.zero_mul]) 10 hl])
    (s := t.Const) (by simp [sumN])
  rw [e1, e2]; rfl
theorem spec_eval {t : Term} {v : List Int} (ht : vT t = true) (hv : Vals v) : m_spec_l02Eval t v = some (Go.Mod.val t v) := by
  have hl := vT_len ht
  have h := iter_for (step := m_spec_l02Eval_L0 t v) t.Coeffs (fun n (s : Int) => (s, (n : Int))) (fun n x s => m_impl_Term_eval_L0 v n x s) (fun s => s)
    (fun n x r hx => by
      have hlt := get_lt hx
      have hltv : n < v.length := by rw [hv.1]; omega
      have hy : v[n]? = some v[n] := by simp
      unfold m_spec_l02Eval_L0 m_impl_Term_eval_L0
      simp only
      rw [dec_lt hlt, cond_true, getI_some hx, getI_some hy, Option.bind_some, Option.bind_some, Option.bind_some, w64_succ (by omega)]; rfl)
    (fun r => by unfold m_spec_l02Eval_L0; simp only; rw [dec_self]; rfl) t.Const
  have h2 := impl_eval ht hv
  unfold m_impl_Term_eval at h2
  unfold m_spec_l02Eval
  rw [show iter (m_spec_l02Eval_L0 t v) (t.Const, (0 : Int)) = _ from h]
  cases hf : forL (fun n x s => m_impl_Term_eval_L0 v n x s) (fun s => s) 0 t.Coeffs t.Const with
  | none => have hf' : forL (m_impl_Term_eval_L0 v) (fun s0 => s0) 0 t.Coeffs t.Const = none := hf
            rw [hf'] at h2; cases h2
  | some u => have hf' : forL (m_impl_Term_eval_L0 v) (fun s0 => s0) 0 t.Coeffs t.Const = some u := hf
              rw [hf'] at h2; exact h2
theorem impl_hold {ts : List Term} {v : List Int} (h : ∀ t ∈ ts, vT t = true) (hv : Vals v) : m_impl_hold ts v = some (allHold ts v) := by
  unfold m_impl_hold allHold
  rw [forL_all (fun t => !decide (Go.Mod.val t v < 0)) (f := .inr false) ts 0 (fun n x hx => by
    unfold m_impl_hold_L0
    rw [impl_eval (h x hx) hv, Option.bind_some]
    cases decide (Go.Mod.val x v < 0) <;> rfl), Option.bind_some]
  cases ts.all fun t => !decide (Go.Mod.val t v < 0) <;> rfl
def ctr (s : Sequent) (v : List Int) : Bool := allHold s.Facts v && decide (Go.Mod.val s.Goal v < 0)
theorem vSeq_iff {s : Sequent} : vSeq s = true ↔ (∀ t ∈ s.Facts, vT t = true) ∧ s.Facts.length ≤ 13 ∧ vT s.Goal = true := by
  unfold vSeq
  simp only [Bool.and_eq_true, List.all_eq_true, decide_eq_true_eq, and_assoc]
theorem impl_seq (s : Sequent) : m_impl_ValidSequent s = some (vSeq s) := by
  unfold m_impl_ValidSequent vSeq
  rw [show (13 : Int) = ((13 : Nat) : Int) from rfl, impl_terms, Option.bind_some, impl_valid, Bool.and_comm (decide (s.Facts.length ≤ 13))]
  cases s.Facts.all vT && decide (s.Facts.length ≤ 13) <;> rfl
theorem impl_counter {s : Sequent} {v : List Int} (hs : vSeq s = true) (hv : Vals v) : m_impl_IsCounter s v = some (ctr s v) := by
  obtain ⟨h1, h2, h3⟩ := vSeq_iff.1 hs
  unfold m_impl_IsCounter ctr
  rw [impl_seq, hs, Option.bind_some, cond_true, values_yes hv, Option.bind_some, cond_true, impl_hold h1 hv, Option.bind_some]
  cases allHold s.Facts v with
  | false => rfl
  | true => rw [cond_true, impl_eval h3 hv]; rfl
theorem spec_counter {s : Sequent} {v : List Int} (hs : vSeq s = true) (hv : Vals v) : m_spec_l02Counter s v = some (ctr s v) := by
  obtain ⟨h1, h2, h3⟩ := vSeq_iff.1 hs
  have h := iter_for (step := m_spec_l02Counter_L0 s v) s.Facts (fun n (_ : Unit) => (n : Int)) (fun _ x _ => bif !decide (Go.Mod.val x v < 0) then some (.next ()) else some (.out (.inr false))) (fun _ => .inl ())
    (fun n x r hx => by
      have hlt := get_lt hx
      unfold m_spec_l02Counter_L0
      rw [dec_lt hlt, cond_true, getI_some hx, Option.bind_some, spec_eval (h1 x (List.mem_of_getElem? hx)) hv, Option.bind_some, w64_succ (by omega)]
      cases decide (Go.Mod.val x v < 0) <;> rfl)
    (fun r => by unfold m_spec_l02Counter_L0; rw [dec_self]; rfl) ()
  rw [forL_all (fun t => !decide (Go.Mod.val t v < 0)) _ _ (fun n x _ => rfl)] at h
  unfold m_spec_l02Counter ctr
  rw [show iter (m_spec_l02Counter_L0 s v) (0 : Int) = _ from h, Option.bind_some]
  unfold allHold
  cases s.Facts.all fun t => !decide (Go.Mod.val t v < 0) with
  | false => rfl
  | true =>
    unfold m_spec_l02Counter_A0
    simp only [cond_true, Bool.true_and]
    rw [spec_eval h3 hv]; rfl
def putL (k : Int) : List Int → List Int
  | [] => [k]
  | x :: r => if k ≤ x then (if k < x then k :: x :: r else x :: r) else x :: putL k r
theorem putL_mem {k y : Int} : ∀ {xs : List Int}, y ∈ putL k xs ↔ y = k ∨ y ∈ xs
  | [] => by simp [putL]
  | x :: r => by
    unfold putL
    by_cases h1 : k ≤ x
    · rw [if_pos h1]
      by_cases h2 : k < x
      · rw [if_pos h2]; simp
      · rw [if_neg h2]
        have : k = x := by omega
        subst this; simp
    · rw [if_neg h1]
      simp only [List.mem_cons, putL_mem (xs := r)]
      constructor
      · rintro (h | h | h)
        · exact .inr (.inl h)
        · exact .inl h
        · exact .inr (.inr h)
      · rintro (h | h | h)
        · exact .inr (.inl h)
        · exact .inl h
        · exact .inr (.inr h)
theorem putL_srt {k : Int} : ∀ {xs : List Int}, xs.Pairwise (· < ·) → (putL k xs).Pairwise (· < ·)
  | [], _ => by simp [putL]
  | x :: r, h => by
    obtain ⟨h1, h2⟩ := List.pairwise_cons.1 h
    unfold putL
    by_cases c1 : k ≤ x
    · rw [if_pos c1]
      by_cases c2 : k < x
      · rw [if_pos c2]
        refine List.pairwise_cons.2 ⟨fun y hy => ?_, h⟩
        rcases List.mem_cons.1 hy with rfl | hy
        · exact c2
        · have := h1 y hy; omega
      · rw [if_neg c2]; exact h
    · rw [if_neg c1]
      refine List.pairwise_cons.2 ⟨fun y hy => ?_, putL_srt h2⟩
      rcases putL_mem.1 hy with rfl | hy
      · omega
      · exact h1 y hy
theorem putL_len (k : Int) : ∀ xs : List Int, (putL k xs).length ≤ xs.length + 1
  | [] => by simp [putL]
  | x :: r => by
    unfold putL
    have := putL_len k r
    by_cases c1 : k ≤ x
    · rw [if_pos c1]; split <;> simp
    · rw [if_neg c1]; simp; omega
theorem put_true {xs : List Int} {k : Int} : ∀ (r pre acc : List Int), xs = pre ++ r → acc.length + r.length ≤ 10000 → pre.length + r.length ≤ 10000 → iter (m_spec_l00Put_L0 xs k) (acc, true, (pre.length : Int)) = some (acc ++ r, true)
  | [], pre, acc, e, _, _ => by
    refine iter_out ?_
    unfold m_spec_l00Put_L0
    simp only
    rw [decide_eq_false (by rw [e]; simp)]; simp
  | x :: r, pre, acc, e, hl, hp => by
    have hx : xs[pre.length]? = some x := by rw [e]; simp
    have hlt := get_lt hx
    simp only [List.length_cons] at hl hp
    have hst : m_spec_l00Put_L0 xs k (acc, true, (pre.length : Int)) = some (.next (acc ++ [x], true, (((pre ++ [x]).length : Nat) : Int))) := by
      unfold m_spec_l00Put_L0
      simp only
      rw [decide_eq_true (by omega), cond_true]
      unfold m_spec_l00Put_J1 m_spec_l00Put_J0
      simp only [Bool.not_true, cond_false]
      rw [getI_some hx, Option.bind_some, capI_some (by simp; omega), Option.bind_some, w64_succ (by omega), List.length_append]; rfl
    rw [iter_next hst, put_true r (pre ++ [x]) (acc ++ [x]) (by rw [e]; simp) (by simp; omega) (by simp; omega)]
    simp
theorem put_false {xs : List Int} {k : Int} : ∀ (r pre acc : List Int), xs = pre ++ r → acc.length + r.length ≤ 9000 → pre.length + r.length ≤ 9000 → (iter (m_spec_l00Put_L0 xs k) (acc, false, (pre.length : Int))).bind (m_spec_l00Put_A0 k) = some (acc ++ putL k r)
  | [], pre, acc, e, hl, _ => by
    simp only [List.length_nil] at hl
    have hst : m_spec_l00Put_L0 xs k (acc, false, (pre.length : Int)) = some (.out (acc, false)) := by
      unfold m_spec_l00Put_L0
      simp only
      rw [decide_eq_false (by rw [e]; simp)]; rfl
    rw [iter_out hst, Option.bind_some]
    unfold m_spec_l00Put_A0
    simp only [Bool.not_false, cond_true]
    rw [capI_some (by simp; omega)]; rfl
  | x :: r, pre, acc, e, hl, hp => by
    have hx : xs[pre.length]? = some x := by rw [e]; simp
    have hlt := get_lt hx
    simp only [List.length_cons] at hl hp
    have hb : m_spec_l00Put_L0 xs k (acc, false, (pre.length : Int)) = m_spec_l00Put_J1 xs k (acc, false, (pre.length : Int)) (decide (k ≤ x)) := by
      unfold m_spec_l00Put_L0
      simp only
      rw [decide_eq_true (by omega), cond_true]
      simp only [Bool.not_false, cond_true]
      rw [getI_some hx, Option.bind_some]
    have hJ0 : ∀ (a : List Int) (b : Bool), a.length ≤ 9500 → m_spec_l00Put_J0 xs (acc, false, (pre.length : Int)) (a, b) = some (.next (a ++ [x], b, (((pre ++ [x]).length : Nat) : Int))) := by
      intro a b ha
      unfold m_spec_l00Put_J0
      simp only
      rw [getI_some hx, Option.bind_some, capI_some (by simp; omega), Option.bind_some, w64_succ (by omega), List.length_append]; rfl
    unfold putL
    by_cases c1 : k ≤ x
    · rw [if_pos c1]
      rw [decide_eq_true c1] at hb
      unfold m_spec_l00Put_J1 at hb
      simp only [cond_true] at hb
      rw [getI_some hx, Option.bind_some] at hb
      by_cases c2 : k < x
      · rw [decide_eq_true c2, cond_true, capI_some (by simp; omega), Option.bind_some, hJ0 _ _ (by simp; omega)] at hb
        rw [iter_next hb, put_true r (pre ++ [x]) _ (by rw [e]; simp) (by simp; omega) (by simp; omega), if_pos c2]
        unfold m_spec_l00Put_A0
        simp
      · rw [decide_eq_false c2, cond_false, hJ0 _ _ (by omega)] at hb
        rw [iter_next hb, put_true r (pre ++ [x]) _ (by rw [e]; simp) (by simp; omega) (by simp; omega), if_neg c2]
        unfold m_spec_l00Put_A0
        simp
    · rw [if_neg c1]
      rw [decide_eq_false c1] at hb
      unfold m_spec_l00Put_J1 at hb
      simp only [cond_false] at hb
      rw [hJ0 _ _ (by omega)] at hb
      rw [iter_next hb, put_false r (pre ++ [x]) (acc ++ [x]) (by rw [e]; simp) (by simp; omega) (by simp; omega)]
      simp
theorem spec_put {xs : List Int} {k : Int} (hl : xs.length ≤ 9000) : m_spec_l00Put xs k = some (putL k xs) := by
  unfold m_spec_l00Put
  have := put_false (xs := xs) (k := k) xs [] [] rfl (by simpa using hl) (by simpa using hl)
  rw [List.nil_append] at this
  exact this
theorem syms_inner {ts : List Term} {n : Nat} {t : Term} (ht : ts[n]? = some t) {s0 : (List Int) × Int} (h0 : s0.2 = (n : Int)) : ∀ (r pre : List Int) (S : List Int), t.Coeffs = pre ++ r → S.Pairwise (· < ·) → S.length + r.length ≤ 9000 → pre.length + r.length ≤ 100 →
    ∃ S', iter (m_spec_l02Symbols_L1 ts s0) (S, (pre.length : Int)) = some S' ∧ S'.Pairwise (· < ·) ∧ S'.length ≤ S.length + r.length ∧ ∀ y, y ∈ S' ↔ y ∈ S ∨ ∃ (i : Nat) (x : Int), r[i]? = some x ∧ x ≠ 0 ∧ y = ((pre.length + i : Nat) : Int)
  | [], pre, S, e, hs, _, _ => by
    refine ⟨S, iter_out ?_, hs, by simp, fun y => ⟨.inl, fun h => h.elim id (fun ⟨i, x, h, _⟩ => by simp at h)⟩⟩
    unfold m_spec_l02Symbols_L1
    simp only
    rw [h0, getI_some ht, Option.bind_some, decide_eq_false (by rw [e]; simp)]; rfl
  | x :: r, pre, S, e, hs, hl, hp => by
    have hx : t.Coeffs[pre.length]? = some x := by rw [e]; simp
    have hlt := get_lt hx
    simp only [List.length_cons] at hl hp
    have el : (((pre ++ [x]).length : Nat) : Int) = (pre.length : Int) + 1 := by simp
    have hst : m_spec_l02Symbols_L1 ts s0 (S, (pre.length : Int)) = some (.next (if x = 0 then S else putL (pre.length : Int) S, (((pre ++ [x]).length : Nat) : Int))) := by
      unfold m_spec_l02Symbols_L1
      simp only
      rw [h0, getI_some ht, Option.bind_some, decide_eq_true (by omega), cond_true, getI_some hx, Option.bind_some, w64_succ (by omega), el]
      by_cases c : x = 0
      · rw [decide_eq_true c, if_pos c]; rfl
      · rw [decide_eq_false c, if_neg c, Bool.not_false, cond_true, spec_put (by omega)]; rfl
    rw [iter_next hst]
    have hS2 : (if x = 0 then S else putL (pre.length : Int) S).Pairwise (· < ·) ∧ (if x = 0 then S else putL (pre.length : Int) S).length ≤ S.length + 1 := by
      by_cases c : x = 0
      · rw [if_pos c]; exact ⟨hs, by omega⟩
      · rw [if_neg c]; exact ⟨putL_srt hs, putL_len _ _⟩
    obtain ⟨S', e1, e2, e3, e4⟩ := syms_inner ht h0 r (pre ++ [x]) _ (by rw [e]; simp) hS2.1 (by omega) (by simp; omega)
    refine ⟨S', e1, e2, by simp only [List.length_cons]; omega, fun y => (e4 y).trans ?_⟩
    constructor
    · rintro (h | ⟨i, z, h1, h2, h3⟩)
      · by_cases c : x = 0
        · rw [if_pos c] at h; exact .inl h
        · rw [if_neg c] at h
          rcases putL_mem.1 h with h | h
          · exact .inr ⟨0, x, rfl, c, by rw [h]; simp⟩
          · exact .inl h
      · exact .inr ⟨i + 1, z, by simpa using h1, h2, by rw [h3]; simp; omega⟩
    · rintro (h | ⟨i, z, h1, h2, h3⟩)
      · refine .inl ?_
        by_cases c : x = 0
        · rw [if_pos c]; exact h
        · rw [if_neg c]; exact putL_mem.2 (.inr h)
      · cases i with
        | zero =>
          simp only [List.getElem?_cons_zero, Option.some.injEq] at h1
          subst h1
          refine .inl ?_
          rw [if_neg h2]
          exact putL_mem.2 (.inl (by rw [h3]; simp))
        | succ i => exact .inr ⟨i, z, by simpa using h1, h2, by rw [h3]; simp; omega⟩
theorem syms_outer {ts : List Term} (hv : ∀ t ∈ ts, vT t = true) : ∀ (r pre : List Term) (S : List Int), ts = pre ++ r → S.Pairwise (· < ·) → S.length + 10 * r.length ≤ 9000 → pre.length + r.length ≤ 900 →
    ∃ S', iter (m_spec_l02Symbols_L0 ts) (S, (pre.length : Int)) = some S' ∧ S'.Pairwise (· < ·) ∧ ∀ y, y ∈ S' ↔ y ∈ S ∨ ∃ t ∈ r, ∃ (i : Nat) (x : Int), t.Coeffs[i]? = some x ∧ x ≠ 0 ∧ y = (i : Int)
  | [], pre, S, e, hs, _, _ => by
    refine ⟨S, iter_out ?_, hs, fun y => ⟨.inl, fun h => h.elim id (fun ⟨t, h, _⟩ => by simp at h)⟩⟩
    unfold m_spec_l02Symbols_L0
    simp only
    rw [decide_eq_false (by rw [e]; simp)]; rfl
  | t :: r, pre, S, e, hs, hl, hp => by
    have hx : ts[pre.length]? = some t := by rw [e]; simp
    have hlt := get_lt hx
    have h10 := vT_len (hv t (List.mem_of_getElem? hx))
    simp only [List.length_cons] at hl hp
    obtain ⟨S1, e1, e2, e3, e4⟩ := syms_inner hx (s0 := (S, (pre.length : Int))) rfl t.Coeffs [] S rfl hs (by omega) (by simp; omega)
    have hst : m_spec_l02Symbols_L0 ts (S, (pre.length : Int)) = some (.next (S1, (((pre ++ [t]).length : Nat) : Int))) := by
      unfold m_spec_l02Symbols_L0
      simp only
      rw [decide_eq_true (by omega), cond_true, show iter (m_spec_l02Symbols_L1 ts (S, (pre.length : Int))) (S, (0 : Int)) = _ from e1, Option.bind_some]
      unfold m_spec_l02Symbols_A1
      simp only
      rw [w64_succ (by omega), List.length_append]; rfl
    rw [iter_next hst]
    obtain ⟨S', f1, f2, f3⟩ := syms_outer hv r (pre ++ [t]) S1 (by rw [e]; simp) e2 (by omega) (by simp; omega)
    refine ⟨S', f1, f2, fun y => (f3 y).trans ?_⟩
    rw [e4]
    constructor
    · rintro ((h | ⟨i, x, h1, h2, h3⟩) | ⟨u, h0, h⟩)
      · exact .inl h
      · exact .inr ⟨t, by simp, i, x, h1, h2, by rw [h3]; simp⟩
      · exact .inr ⟨u, by simp [h0], h⟩
    · rintro (h | ⟨u, h0, i, x, h1, h2, h3⟩)
      · exact .inl (.inl h)
      · rcases List.mem_cons.1 h0 with rfl | h0
        · exact .inl (.inr ⟨i, x, h1, h2, by rw [h3]; simp⟩)
        · exact .inr ⟨u, h0, i, x, h1, h2, h3⟩
theorem srt_ext : ∀ (xs ys : List Int), xs.Pairwise (· < ·) → ys.Pairwise (· < ·) → (∀ y, y ∈ xs ↔ y ∈ ys) → xs = ys
  | [], [], _, _, _ => rfl
  | [], y :: s, _, _, h => absurd ((h y).2 (by simp)) (by simp)
  | x :: r, [], _, _, h => absurd ((h x).1 (by simp)) (by simp)
  | x :: r, y :: s, h1, h2, h => by
    obtain ⟨a1, a2⟩ := List.pairwise_cons.1 h1
    obtain ⟨b1, b2⟩ := List.pairwise_cons.1 h2
    have hxy : x = y := by
      rcases List.mem_cons.1 ((h x).1 (by simp)) with e | e
      · exact e
      · rcases List.mem_cons.1 ((h y).2 (by simp)) with e2 | e2
        · exact e2.symm
        · have := b1 x e; have := a1 y e2; omega
    subst hxy
    rw [srt_ext r s a2 b2 (fun z => ?_)]
    constructor
    · intro hz
      rcases List.mem_cons.1 ((h z).1 (by simp [hz])) with e | e
      · have := a1 z hz; omega
      · exact e
    · intro hz
      rcases List.mem_cons.1 ((h z).2 (by simp [hz])) with e | e
      · have := b1 z hz; omega
      · exact e
def symsN (ts : List Term) : List Nat := (List.range 10).filter (hasSym ts)
theorem symsN_lt {ts : List Term} : ∀ k ∈ symsN ts, k < 10 := fun k hk => List.mem_range.1 (List.mem_filter.1 hk).1
theorem symsN_nd (ts : List Term) : (symsN ts).Nodup := List.nodup_range.filter _
theorem spec_syms {ts : List Term} (hv : ∀ t ∈ ts, vT t = true) (hl : ts.length ≤ 100) : m_spec_l02Symbols ts = some (symsL ts) := by
  obtain ⟨S, e1, e2, e3⟩ := syms_outer hv ts [] [] rfl (by simp) (by simp; omega) (by simp; omega)
  unfold m_spec_l02Symbols
  rw [show iter (m_spec_l02Symbols_L0 ts) (([] : List Int), (0 : Int)) = _ from e1, Option.bind_some]
  unfold m_spec_l02Symbols_A0
  congr 1
  refine srt_ext _ _ e2 ?_ (fun y => (e3 y).trans ?_)
  · unfold symsL
    refine List.pairwise_map.2 (List.Pairwise.imp (fun {a b} h => ?_) (List.Pairwise.filter _ (List.pairwise_lt_range)))
    show (a : Int) < (b : Int)
    omega
  · unfold symsL
    simp only [List.not_mem_nil, false_or, List.mem_map, List.mem_filter, List.mem_range]
    constructor
    · rintro ⟨t, ht, i, x, h1, h2, h3⟩
      have := vT_len (hv t ht)
      refine ⟨i, ⟨by have := get_lt h1; omega, ?_⟩, h3.symm⟩
      unfold hasSym
      rw [List.any_eq_true]
      exact ⟨t, ht, by rw [coef_get h1, decide_eq_false h2]; rfl⟩
    · rintro ⟨k, ⟨hk, hs⟩, rfl⟩
      unfold hasSym at hs
      obtain ⟨t, ht, hc⟩ := List.any_eq_true.1 hs
      have hc : coef t.Coeffs k ≠ 0 := by simpa using hc
      cases hx : t.Coeffs[k]? with
      | none => exact absurd (by unfold coef; rw [hx]; rfl) hc
      | some x => exact ⟨t, ht, k, x, hx, by rw [coef_get hx] at hc; exact hc, rfl⟩
end Go.Mod

namespace Go.Mod
open Go.AM
set_option linter.unusedVariables false
set_option linter.unusedSimpArgs false
theorem iter_same {σ τ : Type} {f g : σ → Option (Ctl σ τ)} (I : σ → Prop) (μ : σ → Nat) (Q : τ → Prop)
    (h : ∀ s, I s → ∃ c, f s = some c ∧ g s = some c ∧ match c with | .next s' => I s' ∧ μ s' < μ s | .out t => Q t) {s : σ} (hs : I s) : ∃ t, iter f s = some t ∧ iter g s = some t ∧ Q t := by
  have key : ∀ (n : Nat) (s : σ), μ s < n → I s → ∃ t, iter f s = some t ∧ iter g s = some t ∧ Q t := by
    intro n
    induction n with
    | zero => intro s h0; omega
    | succ n ih =>
      intro s hn hI
      obtain ⟨c, h1, h2, h3⟩ := h s hI
      cases c with
      | next s' =>
        rw [iter_next h1, iter_next h2]
        exact ih s' (by have := h3.2; omega) h3.1
      | out t => exact ⟨t, iter_out h1, iter_out h2, h3⟩
  exact key _ s (Nat.lt_succ_self _) hs
def Good (v : List Int) : Prop := v.length = 10 ∧ ∀ x ∈ v, -2 ≤ x ∧ x ≤ 2
theorem Good.vals {v : List Int} (h : Good v) : Vals v := ⟨h.1, fun x hx => by have := h.2 x hx; omega⟩
theorem Good.set {v : List Int} (h : Good v) {j : Nat} {x : Int} (hx : -2 ≤ x ∧ x ≤ 2) : Good (v.set j x) := by
  refine ⟨by rw [List.length_set]; exact h.1, fun y hy => ?_⟩
  rcases List.mem_or_eq_of_mem_set hy with hy | rfl
  · exact h.2 y hy
  · exact hx
theorem coef_set {v : List Int} {j k : Nat} {x : Int} (hj : j < v.length) : coef (v.set j x) k = if j = k then x else coef v k := by
  unfold coef
  by_cases h : j = k
  · subst h; rw [if_pos rfl, List.getElem?_set_self hj]; rfl
  · rw [if_neg h, List.getElem?_set_ne h]
def dg (js : List Nat) (v : List Int) : List Int := js.map (coef v)
theorem dg_len (js : List Nat) (v : List Int) : (dg js v).length = js.length := by unfold dg; simp
theorem dg_set {js : List Nat} (hn : js.Nodup) {v : List Int} {i j : Nat} (hi : js[i]? = some j) (hj : j < v.length) (x : Int) : dg js (v.set j x) = (dg js v).set i x := by
  unfold dg
  refine List.ext_getElem? fun q => ?_
  rw [List.getElem?_map]
  cases hq : js[q]? with
  | none =>
    rw [List.getElem?_eq_none (by rw [List.length_set, List.length_map]; exact List.getElem?_eq_none_iff.1 hq)]; rfl
  | some k =>
    rw [Option.map_some, coef_set hj]
    by_cases e : i = q
    · subst e
      rw [hi] at hq
      cases hq
      rw [if_pos rfl, List.getElem?_set_self (by rw [List.length_map]; exact get_lt hi)]
    · have hjk : j ≠ k := by
        intro e2
        subst e2
        obtain ⟨l1, g1⟩ := List.getElem?_eq_some_iff.1 hi
        obtain ⟨l2, g2⟩ := List.getElem?_eq_some_iff.1 hq
        exact e (List.getElem_inj hn |>.1 (g1.trans g2.symm))
      rw [if_neg hjk, List.getElem?_set_ne e, List.getElem?_map, hq]; rfl
def encA (a : Nat) (ds : List Int) : Nat := ds.foldl (fun a d => 5 * a + (2 - d).toNat) a
theorem encA_app (a : Nat) (xs ys : List Int) : encA a (xs ++ ys) = encA (encA a xs) ys := List.foldl_append
theorem encA_two : ∀ (m a : Nat), encA a (List.replicate m 2) = 5 ^ m * a
  | 0, a => by simp [encA]
  | m + 1, a => by
    have ih := encA_two m (5 * a)
    rw [List.replicate_succ]
    show encA (5 * a + (2 - 2 : Int).toNat) (List.replicate m 2) = _
    rw [show 5 * a + (2 - 2 : Int).toNat = 5 * a by simp, ih, Nat.pow_succ, Nat.mul_assoc]
theorem encA_low : ∀ (m a : Nat), encA a (List.replicate m (-2)) + 1 = 5 ^ m * (a + 1)
  | 0, a => by simp [encA]
  | m + 1, a => by
    have ih := encA_low m (5 * a + 4)
    rw [List.replicate_succ]
    show encA (5 * a + (2 - (-2) : Int).toNat) (List.replicate m (-2)) + 1 = _
    rw [show 5 * a + (2 - (-2) : Int).toNat = 5 * a + 4 by rfl, ih, Nat.pow_succ, Nat.mul_assoc, show 5 * a + 4 + 1 = 5 * (a + 1) by omega]
theorem enc_step {p : List Int} {d : Int} {m : Nat} (hd : d ≤ 1) : encA 0 ((p ++ [d + 1]) ++ List.replicate m (-2)) < encA 0 ((p ++ [d]) ++ List.replicate m 2) := by
  rw [encA_app, encA_app 0 (p ++ [d]), encA_two, encA_app 0 p, encA_app 0 p]
  have h := encA_low m (encA (encA 0 p) [d + 1])
  have e1 : encA (encA 0 p) [d + 1] + 1 = encA (encA 0 p) [d] := by
    show 5 * encA 0 p + (2 - (d + 1)).toNat + 1 = 5 * encA 0 p + (2 - d).toNat
    omega
  rw [e1] at h
  omega
section
variable {s : Sequent} {js : List Nat} (hs : vSeq s = true) (hn : js.Nodup) (hj : ∀ j ∈ js, j < 10)
def jI (js : List Nat) : List Int := js.map fun (k : Nat) => (k : Int)
theorem jI_get {i j : Nat} (h : js[i]? = some j) : getI (jI js) (i : Int) = some (j : Int) := getI_some (by unfold jI; rw [List.getElem?_map, h]; rfl)
include hn hj in
theorem back_ok {v0 : List Int} (h0 : Good v0) (hk : js.length ≤ 10) : ∃ u, iter (m_impl_LeastCounter_L2 2 (jI js)) (v0, (js.length : Int) - 1) = some u ∧ Good u.1 ∧
    (u.2 < 0 ∨ ∃ (n : Nat) (p : List Int) (d : Int) (m : Nat), u.2 = (n : Int) ∧ p.length = n ∧ dg js v0 = (p ++ [d]) ++ List.replicate m 2 ∧ dg js u.1 = (p ++ [d]) ++ List.replicate m (-2) ∧ d ≠ 2) := by
  refine iter_inv (step := m_impl_LeastCounter_L2 2 (jI js)) (fun w => ∃ (n : Nat) (p : List Int) (m : Nat), w.2 = (n : Int) - 1 ∧ p.length = n ∧ Good w.1 ∧ dg js v0 = p ++ List.replicate m 2 ∧ dg js w.1 = p ++ List.replicate m (-2))
    (fun w => (w.2 + 1).toNat) _ (fun w ⟨n, p, m, w1, w2, w3, w4, w5⟩ => ?_) (s := (v0, (js.length : Int) - 1)) ⟨js.length, dg js v0, 0, rfl, dg_len _ _, h0, by simp, by simp⟩
  unfold m_impl_LeastCounter_L2
  rw [w1]
  cases n with
  | zero =>
    rw [decide_eq_false (by omega), cond_false]
    exact .inr ⟨_, rfl, w3, .inl (by simp)⟩
  | succ n =>
    obtain ⟨p', d, rfl⟩ : ∃ p' d, p = p' ++ [d] := ⟨p.dropLast, p.getLast (by intro e; rw [e] at w2; simp at w2), (List.dropLast_concat_getLast _).symm⟩
    have hp' : p'.length = n := by simpa using w2
    have hlen := dg_len js w.1
    rw [w5] at hlen
    simp at hlen
    have hnj : n < js.length := by omega
    have hi : js[n]? = some js[n] := List.getElem?_eq_getElem hnj
    have h10 := hj _ (List.getElem_mem hnj)
    have hd : (dg js w.1)[n]? = some d := by rw [w5, List.append_assoc, List.getElem?_append_right (by omega), hp', Nat.sub_self]; rfl
    have hd2 : coef w.1 js[n] = d := by
      unfold dg at hd
      rw [List.getElem?_map, hi] at hd
      exact Option.some.inj hd
    have hl := w3.1
    have hv : w.1[js[n]]? = some d := by
      rw [List.getElem?_eq_getElem (by omega)]
      rw [coef_get (List.getElem?_eq_getElem (by omega))] at hd2
      rw [hd2]
    rw [show ((n + 1 : Nat) : Int) - 1 = (n : Int) by omega, decide_eq_true (by omega), cond_true, jI_get hi, Option.bind_some, getI_some hv, Option.bind_some]
    by_cases h2 : d = 2
    · subst h2
      rw [decide_eq_true rfl, cond_true]
      refine .inl ⟨_, rfl, ⟨n, p', m + 1, ?_, hp', ?_, ?_, ?_⟩, ?_⟩
      · exact w64_eq (by omega)
      · exact w3.set (by decide)
      · rw [w4, List.append_assoc, List.replicate_succ]; rfl
      · show dg js (w.1.set (js[n] : Int).toNat (w64 (0 - 2))) = _
        rw [Int.toNat_natCast, dg_set hn hi (by omega), w5, List.append_assoc, List.set_append_right _ _ (by omega), hp', Nat.sub_self, List.replicate_succ]; rfl
      · simp only
        rw [w64_eq (by omega)]
        omega
    · rw [decide_eq_false h2, cond_false]
      exact .inr ⟨_, rfl, w3, .inr ⟨n, p', d, m, rfl, hp', w4, w5, h2⟩⟩
include hs hn hj in
theorem search_ok (hk : js.length ≤ 10) {v0 : List Int} (h0 : Good v0) : ∃ r : List Int × Bool, iter (m_impl_LeastCounter_L1 s 2 (jI js)) v0 = some r ∧ iter (m_spec_l02Least_L1 s (jI js) 2) v0 = some r ∧ (r.2 = true → Good r.1 ∧ ctr s r.1 = true) := by
  refine iter_same Good (fun v => encA 0 (dg js v)) _ (fun v hv => ?_) h0
  have hjl : (jI js).length = js.length := by unfold jI; simp
  have e1 : m_impl_LeastCounter_L1 s 2 (jI js) v = bif ctr s v then some (.out (v, true)) else (iter (m_impl_LeastCounter_L2 2 (jI js)) (v, (js.length : Int) - 1)).bind fun u2 => m_impl_LeastCounter_A2 (jI js) u2 := by
    unfold m_impl_LeastCounter_L1
    rw [impl_counter hs hv.vals, Option.bind_some, hjl, w64_eq (by omega)]
  have e2 : m_spec_l02Least_L1 s (jI js) 2 v = bif ctr s v then some (.out (v, true)) else (iter (m_impl_LeastCounter_L2 2 (jI js)) (v, (js.length : Int) - 1)).bind fun u2 => m_impl_LeastCounter_A2 (jI js) u2 := by
    unfold m_spec_l02Least_L1
    rw [spec_counter hs hv.vals, Option.bind_some, hjl, w64_eq (by omega)]; rfl
  rw [e1, e2]
  cases hc : ctr s v with
  | true => exact ⟨_, rfl, rfl, fun _ => ⟨hv, hc⟩⟩
  | false =>
    rw [cond_false]
    obtain ⟨u, g1, g2, g3⟩ := back_ok hn hj hv hk
    rw [g1, Option.bind_some]
    unfold m_impl_LeastCounter_A2
    rcases g3 with g3 | ⟨n, p, d, m, q1, q2, q3, q4, q5⟩
    · rw [decide_eq_true g3]; exact ⟨_, rfl, rfl, fun h => by cases h⟩
    · have hlen := dg_len js u.1
      rw [q4] at hlen
      simp at hlen
      have hnj : n < js.length := by omega
      have hi : js[n]? = some js[n] := List.getElem?_eq_getElem hnj
      have h10 := hj _ (List.getElem_mem hnj)
      have hd : (dg js u.1)[n]? = some d := by rw [q4, List.append_assoc, List.getElem?_append_right (by omega), q2, Nat.sub_self]; rfl
      have hd2 : coef u.1 js[n] = d := by
        unfold dg at hd
        rw [List.getElem?_map, hi] at hd
        exact Option.some.inj hd
      have hl := g2.1
      have hvd : u.1[js[n]]? = some d := by
        rw [List.getElem?_eq_getElem (by omega)]
        rw [coef_get (List.getElem?_eq_getElem (by omega))] at hd2
        rw [hd2]
      have hdr := g2.2 d (List.mem_of_getElem? hvd)
      rw [q1, decide_eq_false (by omega), cond_false, jI_get hi, Option.bind_some, getI_some hvd, Option.bind_some, w64_eq (by omega)]
      refine ⟨_, rfl, rfl, g2.set (by omega), ?_⟩
      rw [Int.toNat_natCast, dg_set hn hi (by omega), q3, q4]
      have : ((p ++ [d]) ++ List.replicate m (-2)).set n (d + 1) = (p ++ [d + 1]) ++ List.replicate m (-2) := by
        rw [List.append_assoc, List.set_append_right _ _ (by omega), q2, Nat.sub_self, List.append_assoc]; rfl
      rw [this]
      exact enc_step (by omega)
include hj in
theorem first_set : ∃ v0, Good v0 ∧ forL (m_impl_LeastCounter_L0 2) (fun s0 => s0) 0 (jI js) (List.replicate 10 (0 : Int)) = some v0 ∧ (js.length ≤ 100 → iter (m_spec_l02Least_L0 (jI js) 2) ((List.replicate 10 (0 : Int)), (0 : Int)) = some v0) := by
  have hg : Good (List.replicate 10 (0 : Int)) := by unfold Good; decide
  obtain ⟨v0, e1, e2⟩ := forL_inv (step := m_impl_LeastCounter_L0 2) (fin := fun s0 => s0) (xs := jI js) (fun _ v => Good v) Good
    (fun n x v hx hv => by
      unfold jI at hx
      rw [List.getElem?_map] at hx
      cases hq : js[n]? with
      | none => rw [hq] at hx; cases hx
      | some j =>
        rw [hq] at hx
        obtain rfl : (j : Int) = x := Option.some.inj hx
        have := hj j (List.mem_of_getElem? hq)
        have hl := hv.1
        unfold m_impl_LeastCounter_L0
        rw [getI_some (List.getElem?_eq_getElem (show j < v.length by omega)), Option.bind_some]
        exact .inl ⟨_, rfl, hv.set (by decide)⟩)
    (fun v h => h) (s := List.replicate 10 (0 : Int)) hg
  refine ⟨v0, e2, e1, fun hl => ?_⟩
  have hjl : (jI js).length = js.length := by unfold jI; simp
  have h := iter_for (step := m_spec_l02Least_L0 (jI js) 2) (jI js) (fun n (v : List Int) => (v, (n : Int))) (fun n x v => m_impl_LeastCounter_L0 2 n x v) (fun v => v)
    (fun n x v hx => by
      have hlt := get_lt hx
      unfold m_spec_l02Least_L0 m_impl_LeastCounter_L0
      simp only
      rw [dec_lt hlt, cond_true, getI_some hx, Option.bind_some, w64_succ (by omega)]
      cases getI v x <;> rfl)
    (fun v => by unfold m_spec_l02Least_L0; simp only; rw [dec_self]; rfl) (List.replicate 10 (0 : Int))
  exact h.trans e1
end
theorem terms_len {ts : List Term} (h : ∀ t ∈ ts, vT t = true) : cTermS ts ≤ 11 * ts.length := by
  have : (ts.map cTerm).sum ≤ 10 * ts.length := by
    induction ts with
    | nil => simp
    | cons t r ih =>
      have h1 := ih (fun x hx => h x (by simp [hx]))
      have h2 := vT_len (h t (by simp))
      have h3 : cTerm t ≤ 10 := h2
      simp only [List.map_cons, List.sum_cons, List.length_cons]
      omega
  unfold cTermS
  omega
theorem least_ok2 {s : Sequent} (hs : vSeq s = true) : ∃ r : List Int × Bool, m_impl_LeastCounter s 2 = some r ∧ m_spec_LeastCounter s 2 = some r ∧ (r.2 = true → Good r.1 ∧ ctr s r.1 = true) := by
  obtain ⟨h1, h2, h3⟩ := vSeq_iff.1 hs
  have hc := terms_len h1
  have hg : cTerm s.Goal ≤ 10 := vT_len h3
  have hall : ∀ t ∈ s.Facts ++ [s.Goal], vT t = true := fun t ht => by
    rcases List.mem_append.1 ht with ht | ht
    · exact h1 t ht
    · rw [List.mem_singleton.1 ht]; exact h3
  have hl : (s.Facts ++ [s.Goal]).length ≤ 100 := by simp; omega
  have hi : m_impl_LeastCounter s 2 = m_impl_LeastCounter_J0 s 2 (symsL (s.Facts ++ [s.Goal])) := by
    unfold m_impl_LeastCounter
    rw [impl_seq, hs, Option.bind_some, Bool.not_true, cond_false, show m_impl_within 2 0 4 = some true from rfl, Option.bind_some, Bool.not_true, cond_false]
    unfold m_slices_Clone_impl_Term_impl_Term
    rw [capI_some (by simp; omega), Option.bind_some, Option.bind_some, List.nil_append, capI_some (by simp; omega), Option.bind_some, impl_syms hall, Option.bind_some]
  have hsp : m_spec_LeastCounter s 2 = m_spec_LeastCounter_J0 s 2 (symsL (s.Facts ++ [s.Goal])) := by
    unfold m_spec_LeastCounter m_spec_l02Sequent
    have ha : s.Facts.all vT = true := List.all_eq_true.2 h1
    rw [show (13 : Int) = ((13 : Nat) : Int) from rfl, spec_all (by omega), ha, decide_eq_true h2, Option.bind_some, Bool.and_self, cond_true, spec_is (by omega), h3, Option.bind_some, Option.bind_some, Bool.not_true, cond_false, show m_spec_l00In 2 0 4 = some true from rfl, Option.bind_some, Bool.not_true, cond_false,
      spec_ownAll (by omega), Option.bind_some, capI_some (by simp; omega), Option.bind_some, spec_syms hall hl, Option.bind_some]
  rw [hi, hsp]
  have hj := symsN_lt (ts := s.Facts ++ [s.Goal])
  have hn := symsN_nd (s.Facts ++ [s.Goal])
  have hk : (symsN (s.Facts ++ [s.Goal])).length ≤ 10 := by
    have := List.length_filter_le (hasSym (s.Facts ++ [s.Goal])) (List.range 10)
    rw [List.length_range] at this
    exact this
  rw [show symsL (s.Facts ++ [s.Goal]) = jI (symsN (s.Facts ++ [s.Goal])) from rfl]
  generalize symsN (s.Facts ++ [s.Goal]) = js at hj hn hk
  unfold m_impl_LeastCounter_J0 m_spec_LeastCounter_J0
  by_cases h4 : (4 : Int) < ((jI js).length : Int)
  · rw [decide_eq_true h4]; exact ⟨_, rfl, rfl, fun h => by cases h⟩
  · obtain ⟨v0, g1, g2, g3⟩ := first_set hj
    obtain ⟨r, e1, e2, e3⟩ := search_ok hs hn hj hk g1
    rw [decide_eq_false h4, cond_false, cond_false]
    unfold m_spec_l02Least
    rw [show makeI (10 : Int) 8 = some 10 from makeI_some (n := 10) (by omega), Option.bind_some, Option.bind_some, g2, g3 (by omega), Option.bind_some, Option.bind_some]
    unfold m_impl_LeastCounter_A0 m_spec_l02Least_A0
    rw [e1, e2]
    exact ⟨r, rfl, rfl, e3⟩
end Go.Mod

namespace Go.Mod
open Go.AM
set_option linter.unusedVariables false
set_option linter.unusedSimpArgs false
theorem l1_same : m_spec_B10Sequent_L1 = m_spec_B10Facts_L1 := rfl
theorem seq_loop : ∀ (n : Nat) (s : l00Src) (k : Nat) (fs : List Term) (ts : List Int), fs.length + n ≤ 4 → ts.length = fs.length → (∀ t ∈ fs, Fact t 5) → (∀ x ∈ ts, 0 ≤ x ∧ x ≤ 2) → Src s k → k + 20 * n ≤ 10000 →
    ∃ (s' : l00Src) (fs' : List Term) (ts' : List Int), iter m_spec_B10Sequent_L0 (s.code, s.at_, s.seed, fs, ts, (n : Int)) = some (s'.code, s'.at_, s'.seed, fs', ts') ∧ fs'.length = fs.length + n ∧ ts'.length = fs'.length ∧ (∀ t ∈ fs', Fact t 5) ∧ (∀ x ∈ ts', 0 ≤ x ∧ x ≤ 2) ∧ Src s' (k + 20 * n)
  | 0, s, k, fs, ts, hl, ht, hf, hx, hs, _ => ⟨s, fs, ts, iter_out (by unfold m_spec_B10Sequent_L0; rfl), rfl, ht, hf, hx, hs⟩
  | n + 1, s, k, fs, ts, hl, ht, hf, hx, hs, hk => by
    obtain ⟨r, s1, e1, r0, r1, hs1⟩ := pick_ok (n := 4) hs (by omega) (by omega)
    obtain ⟨c2, a2, sd2, xs, e2, hs2, hx1, hx2⟩ := facts_inner hs1 (by omega) (n := r) (by omega)
    obtain ⟨q, s3, e3, q0, q1, hs3⟩ := pick_ok (n := 9) hs2 (by omega) (by omega)
    obtain ⟨z, s4, e4, z0, z1, hs4⟩ := pick_ok (n := 3) hs3 (by omega) (by omega)
    have hfact := make_fact (c := q - 3) (xs := xs) (by omega) hx2
    have w1 : w64 (q - 3) = q - 3 := w64_eq (by omega)
    have w2 : w64 (((n + 1 : Nat) : Int) - 1) = (n : Int) := by rw [w64_eq (by omega)]; omega
    have hst : m_spec_B10Sequent_L0 (s.code, s.at_, s.seed, fs, ts, ((n + 1 : Nat) : Int)) = some (.next (s4.code, s4.at_, s4.seed, fs ++ [(chk (Term.mk (q - 3) (trim xs))).1], ts ++ [z], (n : Int))) := by
      unfold m_spec_B10Sequent_L0
      simp only
      rw [decide_eq_true (show (0 : Int) < ((n + 1 : Nat) : Int) by clear w1 w2; omega), cond_true, show l00Src.mk s.code s.at_ s.seed = s from rfl, e1, Option.bind_some]
      simp only
      rw [l1_same, e2, Option.bind_some]
      unfold m_spec_B10Sequent_A1
      simp only
      rw [e3, Option.bind_some]
      simp only
      rw [w1, spec_make (by clear w1 w2; omega), Option.bind_some, capI_some (by clear w1 w2; simp; omega), Option.bind_some, e4, Option.bind_some]
      simp only
      rw [capI_some (by clear w1 w2; simp; omega), Option.bind_some, w2]
    clear w1 w2
    rw [iter_next hst]
    obtain ⟨s', fs', ts', g1, g2, g3, g4, g5, g6⟩ := seq_loop n s4 (k + 20) (fs ++ [(chk (Term.mk (q - 3) (trim xs))).1]) (ts ++ [z]) (by simp; omega) (by simp [ht]) (fun t ht' => by
      rcases List.mem_append.1 ht' with h | h
      · exact hf t h
      · rw [List.mem_singleton.1 h]; exact hfact) (fun y hy => by
      rcases List.mem_append.1 hy with h | h
      · exact hx y h
      · rw [List.mem_singleton.1 h]; omega) (hs4.mono (by omega)) (by omega)
    exact ⟨s', fs', ts', g1, by rw [g2]; simp; omega, g3, g4, g5, g6.mono (by omega)⟩
theorem vT_with {t : Term} (h : vT t = true) {c : Int} (hc : -1000000 ≤ c ∧ c ≤ 1000000) : vT (Term.mk c t.Coeffs) = true := by
  unfold vT at h ⊢
  simp only [Bool.and_eq_true] at h ⊢
  exact ⟨⟨⟨inR_iff.2 hc, h.1.1.2⟩, h.1.2⟩, h.2⟩
theorem sequent_ok {code : List Int} (h1 : ∀ x ∈ code, 0 ≤ x ∧ x ≤ 255) (h2 : code.length ≤ 1048576) : ∃ s, m_spec_B10Sequent code = some s ∧ vSeq s = true ∧ s.Facts.length ≤ 4 ∧ vT (opp s.Goal) = true := by
  obtain ⟨e0, hs0⟩ := from_ok h1 h2
  obtain ⟨r, s1, e1, r0, r1, hs1⟩ := pick_ok (n := 4) hs0 (by omega) (by omega)
  obtain ⟨n, hn⟩ : ∃ n : Nat, 1 + r = (n : Int) := ⟨(1 + r).toNat, by omega⟩
  obtain ⟨s2, fs, ts, e2, f1, f2, f3, f4, hs2⟩ := seq_loop n s1 1 [] [] (by simp; omega) rfl (by simp) (by simp) hs1 (by omega)
  simp only [List.length_nil, Nat.zero_add] at f1
  have hfl : fs.length ≤ 4 := by omega
  have hv : ∀ t ∈ fs, vT t = true := fun t ht => (f3 t ht).v
  have hlin : Lin fs ts := ⟨hv, fun m hm => by have := f4 m hm; unfold mOK; omega, by omega, f2⟩
  have bnd : ∀ (g : Term → Int), (∀ t ∈ fs, -5 ≤ g t ∧ g t ≤ 5) → -40 ≤ lin fs ts g fs.length ∧ lin fs ts g fs.length ≤ 40 := by
    intro g hg
    have := sumN_bnd (f := fun k => coef ts k * g (tAt fs k)) (B := 10) fs.length (fun i hi => by
      have hx : fs[i]? = some fs[i] := List.getElem?_eq_getElem hi
      have ht := hg _ (List.getElem_mem hi)
      rw [tAt_get hx]
      have hm := list_coef (a := 0) (b := 2) (fun x hx => f4 x hx) (by omega) i
      have := prod_small (A := 2) (B := 5) (a := coef ts i) (b := g fs[i]) (by omega) (by omega)
      omega)
    unfold lin
    omega
  have hc := bnd Term.Const (fun t ht => by have := (f3 t ht).c; omega)
  have hf := fun i => bnd (fun t => coef t.Coeffs i) (fun t ht => by have := (f3 t ht).f i; omega)
  have hchk := mkT_chk (c := lin fs ts Term.Const fs.length) (f := fun i => lin fs ts (fun t => coef t.Coeffs i) fs.length) (by omega) (fun i _ => by have := hf i; omega)
  have hgv := mkT_valid (c := lin fs ts Term.Const fs.length) (f := fun i => lin fs ts (fun t => coef t.Coeffs i) fs.length) (by omega) (fun i _ => by have := hf i; omega)
  generalize hG : mkT (lin fs ts Term.Const fs.length) (fun i => lin fs ts (fun t => coef t.Coeffs i) fs.length) = G at hchk hgv
  have hGc : G.Const = lin fs ts Term.Const fs.length := by rw [← hG]; rfl
  -- the last part
  have fin : ∀ j0 : Int × List Int, vT (Term.mk j0.1 j0.2) = true → -50 ≤ j0.1 ∧ j0.1 ≤ 50 → ∃ s, m_spec_B10Sequent_J0 (s2.code, s2.at_, s2.seed, fs, ts) j0 = some s ∧ vSeq s = true ∧ s.Facts.length ≤ 4 ∧ vT (opp s.Goal) = true := by
    rintro ⟨c, l⟩ hj hjc
    simp only at hj hjc
    obtain ⟨r3, s3, e3, a0, a1, hs3⟩ := pick_ok (n := 4) hs2 (by omega) (by omega)
    obtain ⟨r4, s4, e4, b0, b1, hs4⟩ := pick_ok (n := 3) hs3 (by omega) (by omega)
    have good : ∀ c' : Int, -100 ≤ c' ∧ c' ≤ 100 → vSeq (Sequent.mk fs (Term.mk c' l)) = true ∧ (Sequent.mk fs (Term.mk c' l)).Facts.length ≤ 4 ∧ vT (opp (Sequent.mk fs (Term.mk c' l)).Goal) = true := by
      intro c' hc'
      have hv' : vT (Term.mk c' l) = true := vT_with (t := Term.mk c l) hj (by omega)
      refine ⟨vSeq_iff.2 ⟨hv, by simp only; omega, hv'⟩, hfl, ?_⟩
      exact mkT_valid (c := -c' - 1) (f := fun i => -coef l i) (by omega) (fun i _ => by have := coef_rng hv' i; simp only at this; omega)
    unfold m_spec_B10Sequent_J0
    simp only
    rw [show l00Src.mk s2.code s2.at_ s2.seed = s2 from rfl, e3, Option.bind_some]
    unfold m_spec_B10Sequent_J1 m_spec_l00Src_one
    simp only
    rw [show l00Src.mk s3.code s3.at_ s3.seed = s3 from rfl, e4, Option.bind_some, Option.bind_some]
    simp only
    rw [w64_eq (n := c + r3) (by omega), w64_eq (n := c + r3 - 4) (by omega)]
    cases decide (r4 = 0) with
    | true => exact ⟨_, rfl, good _ (by omega)⟩
    | false => exact ⟨_, rfl, good _ (by omega)⟩
  unfold m_spec_B10Sequent
  rw [e0, Option.bind_some, e1, Option.bind_some]
  simp only
  rw [w64_eq (by omega), hn, e2, Option.bind_some]
  unfold m_spec_B10Sequent_A0
  simp only
  rw [spec_combine hlin, hchk, Option.bind_some]
  simp only
  rw [spec_tightP hgv, Option.bind_some]
  cases ht : (fTight G).2 with
  | false => rw [cond_false]; exact fin _ hgv (by rw [hGc]; simp only; omega)
  | true =>
    rw [cond_true]
    have hd : 2 ≤ gcdL G.Coeffs := by
      unfold fTight at ht
      rw [hgv, Bool.true_and] at ht
      by_cases h : 2 ≤ gcdL G.Coeffs
      · exact h
      · rw [decide_eq_false h] at ht; cases ht
    have he : (fTight G).1 = Term.mk (flo G.Const (gcdL G.Coeffs)) (quos G.Coeffs (gcdL G.Coeffs)) := by unfold fTight; rw [hgv, decide_eq_true hd]; rfl
    rw [he]
    refine fin _ (tight_valid hgv hd) ?_
    simp only
    have := tdiv_le G.Const (gcdL G.Coeffs)
    unfold flo
    split <;> omega
theorem opp_val {t : Term} {v : List Int} : Go.Mod.val (opp t) v = -Go.Mod.val t v - 1 := by
  have h : Go.Mod.val (opp t) v = (-t.Const - 1) + sumN (fun i => -coef t.Coeffs i * coef v i) 10 := val_mkT (-t.Const - 1) (fun i => -coef t.Coeffs i) v
  rw [h, sumN_congr (g := fun i => -(coef t.Coeffs i * coef v i)) 10 (fun i _ => by rw [Int.neg_mul]), sumN_neg]
  show _ = -(t.Const + sumN (fun i => coef t.Coeffs i * coef v i) 10) - 1
  omega
theorem law_Counters {a b : List Int} (ka : kLa_u8 a) (kb : kLa_u8 b) : m_laws_FnCounters a b = some true := by
  unfold m_laws_FnCounters
  by_cases hlong : a.length ≤ 1048576 ∧ b.length ≤ 1048576
  case neg => rw [long_yes hlong]; rfl
  rw [long_no hlong.1 hlong.2, Option.bind_some, cond_false]
  obtain ⟨s, e1, hs, hl, ho⟩ := sequent_ok (fun x hx => ka.2 x hx) hlong.1
  obtain ⟨v, e2, hv⟩ := values_ok (fun x hx => kb.2 x hx) hlong.2
  obtain ⟨h1, h2, h3⟩ := vSeq_iff.1 hs
  have hc := terms_len h1
  have hg : cTerm s.Goal ≤ 10 := vT_len h3
  have hsm : cSeq s ≤ 1048576 := by unfold cSeq; omega
  have hctx : fCtx s = (s.Facts ++ [opp s.Goal], true) := by unfold fCtx; rw [hs, ho]; rfl
  have hall : ∀ t ∈ s.Facts ++ [opp s.Goal], vT t = true := fun t ht => by
    rcases List.mem_append.1 ht with ht | ht
    · exact h1 t ht
    · rw [List.mem_singleton.1 ht]; exact ho
  have hold : ∀ v, allHold (s.Facts ++ [opp s.Goal]) v = ctr s v := by
    intro v
    unfold ctr allHold
    rw [List.all_append, List.all_cons, List.all_nil, Bool.and_true, opp_val]
    congr 1
    by_cases h : Go.Mod.val s.Goal v < 0
    · rw [decide_eq_true h, decide_eq_false (by omega)]; rfl
    · rw [decide_eq_false h, decide_eq_true (by omega)]; rfl
  obtain ⟨r, q1, q2⟩ := prove_ok hsm
  obtain ⟨w, l1, l2, l3⟩ := least_ok2 hs
  have none : ∀ v, ctr s v = true → r.2 = false := fun v hv => by
    cases hr : r.2 with
    | false => rfl
    | true => exact (q2 hr v (by rw [hctx, hold]; exact hv)).elim
  rw [e1, Option.bind_some, e2, Option.bind_some, impl_ctx hsm, hctx, Option.bind_some]
  simp only
  rw [w64_eq (by omega), show ((s.Facts ++ [opp s.Goal]).length : Int) = (s.Facts.length : Int) + 1 by simp, decide_eq_true rfl]
  simp only [Bool.not_true, Bool.or_self, cond_false]
  rw [impl_counter hs hv, Option.bind_some, hold_ok hall (by simp; omega) hv, hold, Option.bind_some]
  rw [show (ctr s v == ctr s v) = true by simp, Bool.not_true, cond_false, l1, Option.bind_some, q1, Option.bind_some, Option.bind_some]
  have h0 : (ctr s v && r.2) = false := by
    cases hv' : ctr s v with
    | false => rfl
    | true => rw [none v hv']; rfl
  rw [h0, cond_false]
  cases hw : w.2 with
  | false => rw [Bool.not_false, cond_true, l2, Option.bind_some, hw]; rfl
  | true =>
    obtain ⟨g1, g2⟩ := l3 hw
    rw [Bool.not_true, cond_false, decide_eq_true (by rw [g1.1]; rfl), cond_true, impl_counter hs g1.vals, g2, Option.bind_some, none _ g2]; rfl
end Go.Mod
