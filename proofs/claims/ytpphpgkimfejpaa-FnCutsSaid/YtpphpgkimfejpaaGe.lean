import Derived.Test.YtpphpgkimfejpaaGd
namespace Go.Mod
open Go.AM
set_option linter.unusedVariables false
set_option linter.unusedSimpArgs false
theorem impl_symbols : m_impl_allSymbols 10 = some ((List.range 10).map fun (k : Nat) => (k : Int)) := by
  unfold m_impl_allSymbols
  have h := iter_cnt (step := m_impl_allSymbols_L0 10) (fun j => ((List.range j).map (fun (k : Nat) => (k : Int)), (j : Int))) 10 (t := (List.range 10).map fun (k : Nat) => (k : Int)) (fun j hj => by
    unfold m_impl_allSymbols_L0
    simp only
    rw [decide_eq_true (by omega), cond_true, capI_some (by simp; omega), Option.bind_some, w64_succ (by omega), List.range_succ, List.map_append]; rfl)
    (by unfold m_impl_allSymbols_L0; rfl)
  rw [show iter (m_impl_allSymbols_L0 10) ([], 0) = _ from h]; rfl
def neg (x : combination) : Bool := decide (x.term.Const < 0)
theorem range10 : ∀ k ∈ List.range 10, k < 10 := fun k hk => List.mem_range.1 hk
theorem facts_small {ts : List Term} (h : ∀ t ∈ ts, vT t = true) (hl : ts.length ≤ 1000) : cTermS ts ≤ 1048576 := by
  have := terms_small (rows := ts.map fun t => combination.mk t []) (fun x hx => by obtain ⟨t, ht, rfl⟩ := List.mem_map.1 hx; exact h t ht) (by simpa using hl)
  unfold terms at this
  rw [List.map_map] at this
  simpa [Function.comp_def] using this
end Go.Mod

namespace Go.Mod
open Go.AM
set_option linter.unusedVariables false
set_option linter.unusedSimpArgs false
end Go.Mod

namespace Go.Mod
open Go.AM
set_option linter.unusedVariables false
set_option linter.unusedSimpArgs false
theorem rem_far {x : Int} {d : Nat} (hd : 0 < d) : remI x (d : Int) = some (x.tmod d) := by unfold remI; rw [decide_eq_false (by omega)]; rfl
theorem spec_tightP {t : Term} (h1 : vT t = true) : m_spec_l02Tight t = some (fTight t) := by
  have hl : t.Coeffs.length ≤ 1048576 := by have := vT_len h1; omega
  unfold m_spec_l02Tight fTight
  rw [spec_gcd (vT_coef h1) hl, Option.bind_some, h1]
  by_cases h2 : 2 ≤ gcdL t.Coeffs
  · have hv := tight_valid h1 h2
    rw [decide_eq_false (by omega), cond_false, spec_quos h2 (vT_coef h1) hl, decide_eq_true h2]
    simp only [Option.bind_some, Bool.true_and, cond_true]
    unfold m_spec_l02Tight_A0 m_spec_l02Tight_J0
    have hr := (tdiv_rng h2 (vT_const h1)).2
    have hm : ∀ c, m_spec_l02Make c (quos t.Coeffs (gcdL t.Coeffs)) = some (chk (Term.mk c (quos t.Coeffs (gcdL t.Coeffs)))) := by
      intro c
      rw [spec_make (by unfold quos; simp; have := vT_len h1; omega), trim_id (vT_last hv)]
    rw [quo_nat h2 (vT_const h1), Option.bind_some, rem_far (by omega), Option.bind_some, hm, hm, w64_eq (by omega)]
    have e : ∀ c, c = flo t.Const (gcdL t.Coeffs) → (chk (Term.mk c (quos t.Coeffs (gcdL t.Coeffs)))) = (Term.mk (flo t.Const (gcdL t.Coeffs)) (quos t.Coeffs (gcdL t.Coeffs)), true) := by
      rintro c rfl
      unfold chk; rw [hv]; rfl
    by_cases h3 : t.Const.tmod (gcdL t.Coeffs) < 0
    · rw [decide_eq_true h3, cond_true, e _ (by unfold flo; rw [if_pos h3])]; rfl
    · rw [decide_eq_false h3, cond_false, e _ (by unfold flo; rw [if_neg h3])]; rfl
  · rw [decide_eq_true (show ((gcdL t.Coeffs : Nat) : Int) < 2 by omega), decide_eq_false h2]; rfl
theorem impl_tightP {t : Term} (h1 : vT t = true) : m_impl_Term_tightened t = some (fTight t) := by
  have hl := vT_len h1
  unfold m_impl_Term_tightened fTight
  rw [impl_gcd (vT_coef h1), Option.bind_some, h1]
  by_cases h2 : 2 ≤ gcdL t.Coeffs
  · have hr := (tdiv_rng h2 (vT_const h1)).2
    rw [decide_eq_false (by omega), cond_false, impl_own (by omega), decide_eq_true h2]
    simp only [Option.bind_some, Bool.true_and, cond_true]
    unfold m_impl_divFloor
    rw [quo_nat h2 (vT_const h1), Option.bind_some, rem_far (by omega), Option.bind_some, w64_eq (by omega)]
    have e : (bif decide (t.Const.tmod (gcdL t.Coeffs) < 0) then some (t.Const.tdiv (gcdL t.Coeffs) - 1) else some (t.Const.tdiv (gcdL t.Coeffs))) = some (flo t.Const (gcdL t.Coeffs)) := by
      unfold flo
      by_cases h3 : t.Const.tmod (gcdL t.Coeffs) < 0
      · rw [decide_eq_true h3, if_pos h3]; rfl
      · rw [decide_eq_false h3, if_neg h3]; rfl
    rw [e, Option.bind_some, impl_quos h2 (vT_coef h1) (by omega)]; rfl
  · rw [decide_eq_true (show ((gcdL t.Coeffs : Nat) : Int) ≤ 1 by omega), decide_eq_false h2]; rfl
theorem spec_sameI {xs ys : List Int} (hl : xs.length ≤ 1048576) : m_spec_l00Same xs ys = some (decide (xs = ys)) := by
  unfold m_spec_l00Same
  by_cases h : xs.length = ys.length
  · rw [decide_eq_true (by omega), Bool.not_true, cond_false, iter_eq (xs := xs) (ys := ys) (eq := fun x y => some (decide (x = y)))
      (fun n x y hx hy => by unfold m_spec_l00Same_L0; rw [dec_lt (get_lt hx), cond_true, getI_some hx, getI_some hy]; rfl)
      (by unfold m_spec_l00Same_L0; rw [dec_self]; rfl) (by omega) h (fun _ _ _ => rfl)]
    by_cases e : xs = ys
    · rw [if_pos e, decide_eq_true e]; rfl
    · rw [if_neg e, decide_eq_false e]; rfl
  · rw [decide_eq_false (by omega), decide_eq_false (fun e => h (by rw [e]))]; rfl
theorem spec_sameT {x y : Term} (hl : x.Coeffs.length ≤ 1048576) : m_spec_l02Same x y = some (decide (x = y)) := by
  unfold m_spec_l02Same
  rw [spec_sameI hl]
  obtain ⟨a, as⟩ := x
  obtain ⟨b, bs⟩ := y
  by_cases h1 : a = b <;> by_cases h2 : as = bs <;> simp [h1, h2]
theorem impl_sameT (x y : Term) : m_impl_Term_equal x y = some (decide (x = y)) := by
  unfold m_impl_Term_equal
  rw [slices_eq]
  obtain ⟨a, as⟩ := x
  obtain ⟨b, bs⟩ := y
  by_cases h1 : a = b <;> by_cases h2 : as = bs <;> simp [h1, h2]
def hasB (ts : List Term) (t : Term) : Bool := ts.any fun x => decide (x = t)
theorem has_index (t : Term) : ∀ (ts : List Term) (m : Nat), ∃ u, forL (m_slices_IndexFunc_impl_Term_impl_Term_fequal_L0 t.Const t.Coeffs) (fun s0 => (.inl ())) m ts () = some u ∧
    (hasB ts t = true → ∃ n : Nat, u = .inr (n : Int)) ∧ (hasB ts t = false → u = .inl ()) := by
  intro ts
  induction ts with
  | nil => intro m; exact ⟨.inl (), rfl, ⟨fun h => by simp [hasB] at h, fun _ => rfl⟩⟩
  | cons x r ih =>
    intro m
    have hs : m_slices_IndexFunc_impl_Term_impl_Term_fequal_L0 t.Const t.Coeffs m x () = bif decide (x = t) then some (.out (.inr (m : Int))) else some (.next ()) := by
      unfold m_slices_IndexFunc_impl_Term_impl_Term_fequal_L0
      rw [impl_sameT, Option.bind_some]
      by_cases h : x = t
      · rw [decide_eq_true h, decide_eq_true (show Term.mk t.Const t.Coeffs = x from h.symm)]
      · rw [decide_eq_false h, decide_eq_false (show ¬ Term.mk t.Const t.Coeffs = x from fun e => h e.symm)]
    obtain ⟨u, hu, h1, h2⟩ := ih (m + 1)
    have e : hasB (x :: r) t = (decide (x = t) || hasB r t) := by unfold hasB; rw [List.any_cons]
    unfold forL
    rw [hs, e]
    cases hc : decide (x = t) with
    | true => exact ⟨.inr (m : Int), rfl, fun _ => ⟨m, rfl⟩, fun h => by cases h⟩
    | false => exact ⟨u, hu, fun h => h1 h, fun h => h2 h⟩
theorem impl_has (ts : List Term) (t : Term) : m_impl_hasTerm ts t = some (hasB ts t) := by
  unfold m_impl_hasTerm m_slices_ContainsFunc_impl_Term_impl_Term_fequal m_slices_IndexFunc_impl_Term_impl_Term_fequal
  obtain ⟨u, hu, h1, h2⟩ := has_index t ts 0
  rw [hu, Option.bind_some]
  unfold m_slices_IndexFunc_impl_Term_impl_Term_fequal_A0
  cases hs : hasB ts t with
  | true => obtain ⟨n, rfl⟩ := h1 hs; simp only [Option.bind_some]; rw [decide_eq_true (by omega)]
  | false => rw [h2 hs]; rfl
theorem spec_has {ts : List Term} {t : Term} (h : ∀ x ∈ ts, vT x = true) (hl : ts.length ≤ 1000) : m_spec_l06Known ts t = some (hasB ts t) := by
  have key : ∀ (q j : Nat), j + q = ts.length → iter (m_spec_l06Known_L0 ts t) (j : Int) = some (bif hasB (ts.drop j) t then .inr true else .inl ()) := by
    intro q
    induction q with
    | zero =>
      intro j hj
      obtain rfl : j = ts.length := by omega
      rw [List.drop_length]
      exact iter_out (by unfold m_spec_l06Known_L0; rw [dec_self]; rfl)
    | succ q ih =>
      intro j hj
      have hjl : j < ts.length := by omega
      have hx := h _ (List.getElem_mem hjl)
      have hs : m_spec_l06Known_L0 ts t (j : Int) = bif decide (ts[j] = t) then some (.out (.inr true)) else some (.next ((j + 1 : Nat) : Int)) := by
        unfold m_spec_l06Known_L0
        rw [dec_lt hjl, cond_true, getI_some (List.getElem?_eq_getElem hjl), Option.bind_some, spec_sameT (by have := vT_len hx; omega), Option.bind_some, w64_succ (by omega)]
      rw [List.drop_eq_getElem_cons hjl]
      have e : hasB (ts[j] :: ts.drop (j + 1)) t = (decide (ts[j] = t) || hasB (ts.drop (j + 1)) t) := by unfold hasB; rw [List.any_cons]
      rw [e]
      cases hc : decide (ts[j] = t) with
      | true => rw [hc] at hs; rw [iter_out hs]; rfl
      | false => rw [hc] at hs; rw [iter_next hs]; exact ih (j + 1) (by omega)
  unfold m_spec_l06Known
  have := key ts.length 0 (by omega)
  rw [List.drop_zero] at this
  rw [show iter (m_spec_l06Known_L0 ts t) 0 = _ from this]
  cases hasB ts t <;> rfl
def fCut (ts : List Term) (t : Term) : Term × Bool :=
  bif decide (gcdL t.Coeffs < 2) || decide (t.Const.tmod (gcdL t.Coeffs) = 0) then (Term.mk 0 [], false)
  else ((fTight t).1, (fTight t).2 && !hasB ts (fTight t).1)
theorem impl_cuts {ts : List Term} {t : Term} (h : vT t = true) : m_impl_cuts t ts = some (fCut ts t) := by
  unfold m_impl_cuts fCut
  rw [impl_gcd (vT_coef h), Option.bind_some]
  by_cases h2 : gcdL t.Coeffs < 2
  · rw [decide_eq_true (show ((gcdL t.Coeffs : Nat) : Int) ≤ 1 by omega), decide_eq_true h2]; rfl
  · rw [decide_eq_false (show ¬ ((gcdL t.Coeffs : Nat) : Int) ≤ 1 by omega), decide_eq_false h2, cond_false, rem_far (by omega), Option.bind_some, Bool.false_or]
    cases decide (t.Const.tmod (gcdL t.Coeffs) = 0) with
    | true => rfl
    | false =>
      rw [cond_false, cond_false, impl_tightP h, Option.bind_some, impl_has]
      cases (fTight t).2 <;> rfl
theorem spec_cuts {ts : List Term} {t : Term} (h : vT t = true) (hts : ∀ x ∈ ts, vT x = true) (hl : ts.length ≤ 14) : m_spec_l06Sharper ts t = some (fCut ts t) := by
  unfold m_spec_l06Sharper fCut
  rw [spec_gcd (vT_coef h) (by have := vT_len h; omega), Option.bind_some]
  by_cases h2 : gcdL t.Coeffs < 2
  · rw [decide_eq_true (show ((gcdL t.Coeffs : Nat) : Int) < 2 by omega), decide_eq_true h2]; rfl
  · rw [decide_eq_false (show ¬ ((gcdL t.Coeffs : Nat) : Int) < 2 by omega), decide_eq_false h2, cond_false, rem_far (by omega), Option.bind_some, Bool.false_or]
    cases decide (t.Const.tmod (gcdL t.Coeffs) = 0) with
    | true => rfl
    | false =>
      rw [cond_false, cond_false, spec_tightP h, Option.bind_some, spec_has hts (by omega)]
      cases (fTight t).2 <;> rfl
theorem elim_news {n : Nat} (hn : n ≤ 14) : ∀ (ks : List Nat) (rows news : List combination) (r : List combination × List combination), Rws n rows → elimF ks rows news = some r → r.2.length ≤ news.length + 60 * ks.length := by
  intro ks
  induction ks with
  | nil => intro rows news r _ h; cases h; simp
  | cons k ks ih =>
    intro rows news r hr h
    unfold elimF at h
    cases hs : stage k rows with
    | none => rw [hs] at h; cases h
    | some a =>
      rw [hs] at h
      obtain ⟨g1, g2⟩ := hr.next hn hs
      have := ih _ _ r g1 h
      simp at this ⊢; omega
def isCut (ts : List Term) (x : combination) : Bool := (fCut ts x.term).2
def fFirst (ts : List Term) : Term × List Int × Bool :=
  bif okFacts ts then (match elimF (List.range 10) (rows0 ts) [] with
    | some r => (match r.2.find? (isCut ts) with | some x => ((fCut ts x.term).1, x.by_, true) | none => (Term.mk 0 [], [], false))
    | none => (Term.mk 0 [], [], false)) else (Term.mk 0 [], [], false)
theorem impl_findC {ts : List Term} {rows : List combination} (h : ∀ x ∈ rows, vT x.term = true) : ∀ m, forL (m_impl_firstCut_L0 ts) (fun s0 => (.inl ())) m rows () =
    some (match rows.find? (isCut ts) with | some x => .inr ((fCut ts x.term).1.Const, (fCut ts x.term).1.Coeffs, x.term.Const, x.term.Coeffs, x.by_, true) | none => .inl ()) := by
  induction rows with
  | nil => intro m; rfl
  | cons x r ih =>
    intro m
    unfold forL
    rw [List.find?_cons]
    have hs : m_impl_firstCut_L0 ts m x () = bif isCut ts x then some (.out (.inr ((fCut ts x.term).1.Const, (fCut ts x.term).1.Coeffs, x.term.Const, x.term.Coeffs, x.by_, true))) else some (.next ()) := by
      unfold m_impl_firstCut_L0 isCut
      rw [impl_cuts (h x (by simp)), Option.bind_some]
    rw [hs]
    cases isCut ts x with
    | true => rfl
    | false => exact ih (fun y hy => h y (by simp [hy])) (m + 1)
theorem spec_findC {ts : List Term} {rows : List combination} {fr : List l06Row} {b : Bool} (hts : ∀ x ∈ ts, vT x = true) (hl : ts.length ≤ 14) (h : ∀ x ∈ rows, vT x.term = true) (hr : rows.length ≤ 1000) :
    iter (m_spec_l06Cut_L0 ts (fr, rows.map rowOf, b)) 0 = some (match rows.find? (isCut ts) with | some x => .inr ((fCut ts x.term).1.Const, (fCut ts x.term).1.Coeffs, x.by_, ((gcdL x.term.Coeffs : Nat) : Int), true) | none => .inl ()) := by
  have key : ∀ (q j : Nat), j + q = rows.length → iter (m_spec_l06Cut_L0 ts (fr, rows.map rowOf, b)) (j : Int) = some (match (rows.drop j).find? (isCut ts) with | some x => .inr ((fCut ts x.term).1.Const, (fCut ts x.term).1.Coeffs, x.by_, ((gcdL x.term.Coeffs : Nat) : Int), true) | none => .inl ()) := by
    intro q
    induction q with
    | zero =>
      intro j hj
      obtain rfl : j = rows.length := by omega
      rw [List.drop_length]
      exact iter_out (by unfold m_spec_l06Cut_L0; simp only; rw [List.length_map, dec_self]; rfl)
    | succ q ih =>
      intro j hj
      have hjl : j < rows.length := by omega
      have hx : rows[j]? = some rows[j] := List.getElem?_eq_getElem hjl
      have hv := h _ (List.getElem_mem hjl)
      have hs : m_spec_l06Cut_L0 ts (fr, rows.map rowOf, b) (j : Int) = bif isCut ts rows[j] then some (.out (.inr ((fCut ts rows[j].term).1.Const, (fCut ts rows[j].term).1.Coeffs, rows[j].by_, ((gcdL rows[j].term.Coeffs : Nat) : Int), true))) else some (.next ((j + 1 : Nat) : Int)) := by
        unfold m_spec_l06Cut_L0 isCut
        simp only
        rw [List.length_map, dec_lt hjl, cond_true, row_at hx, Option.bind_some, row_term hv, Option.bind_some, spec_cuts hv hts hl, Option.bind_some, spec_gcd (vT_coef hv) (by have := vT_len hv; omega), Option.bind_some, w64_succ (by omega)]; rfl
      rw [List.drop_eq_getElem_cons hjl, List.find?_cons]
      cases hn : isCut ts rows[j] with
      | true => rw [hn] at hs; rw [iter_out hs]
      | false => rw [hn] at hs; rw [iter_next hs]; exact ih (j + 1) (by omega)
  have := key rows.length 0 (by omega)
  rw [List.drop_zero] at this
  exact this
theorem impl_first {ts : List Term} : m_impl_FirstCut ts = some (fFirst ts) := by
  unfold m_impl_FirstCut m_impl_ValidFacts fFirst
  rw [show (14 : Int) = ((14 : Nat) : Int) from rfl, impl_terms, Option.bind_some, Option.bind_some]
  rw [show (decide (ts.length ≤ 14) && ts.all vT) = okFacts ts from Bool.and_comm _ _]
  cases h1 : okFacts ts with
  | false => rfl
  | true =>
    obtain ⟨g1, g2⟩ := okFacts_iff.1 h1
    unfold m_impl_firstCut
    rw [Bool.not_true, cond_false, impl_symbols, Option.bind_some, impl_eliminated g1 g2 range10 (by simp), Option.bind_some, cond_true]
    cases he : elimF (List.range 10) (rows0 ts) [] with
    | none => rfl
    | some r =>
      obtain ⟨e1, e2, e3⟩ := elim_comb g1 g2 range10 he
      simp only [Bool.not_true, cond_false]
      rw [impl_findC (fun x hx => (e3 x hx).1.v), Option.bind_some]
      cases hf : r.2.find? (isCut ts) with
      | none => rfl
      | some x =>
        have hx := (e3 x (List.mem_of_find?_eq_some hf)).1
        unfold m_impl_firstCut_A0
        simp only [Option.bind_some, Bool.not_true, cond_false]
        rw [impl_copy (by rw [hx.len]; omega), Option.bind_some]
theorem spec_first {ts : List Term} (hl : cTermS ts ≤ 1048576) : m_spec_FirstCut ts = some (fFirst ts) := by
  unfold m_spec_FirstCut fFirst
  rw [show (14 : Int) = ((14 : Nat) : Int) from rfl, spec_all hl, Option.bind_some]
  change (bif !okFacts ts then _ else _) = _
  cases h1 : okFacts ts with
  | false => rfl
  | true =>
    obtain ⟨g1, g2⟩ := okFacts_iff.1 h1
    unfold m_spec_l06Cut
    rw [Bool.not_true, cond_false, spec_every g1 g2, Option.bind_some, cond_true]
    cases he : elimF (List.range 10) (rows0 ts) [] with
    | none => rfl
    | some r =>
      obtain ⟨e1, e2, e3⟩ := elim_comb g1 g2 range10 he
      have hn := elim_news g2 _ _ _ _ (rows0_ok g1 g2) he
      simp only [Bool.not_true, cond_false]
      rw [spec_findC g1 g2 (fun x hx => (e3 x hx).1.v) (by simp at hn; omega), Option.bind_some]
      cases hf : r.2.find? (isCut ts) with
      | none => rfl
      | some x =>
        have hx := (e3 x (List.mem_of_find?_eq_some hf)).1
        unfold m_spec_l06Cut_A0
        simp only [Option.bind_some, Bool.not_true, cond_false]
        rw [spec_own (by rw [hx.len]; omega), Option.bind_some]
end Go.Mod

namespace Go.Mod
open Go.AM
set_option linter.unusedVariables false
set_option linter.unusedSimpArgs false
theorem impl_floor {c : Int} {d : Nat} (hd : 0 < d) (h : -1000000 ≤ c ∧ c ≤ 1000000) : m_impl_divFloor c (d : Int) = some (flo c d) := by
  have := tdiv_le c d
  unfold m_impl_divFloor flo
  rw [quo_far hd (by unfold Far; omega), Option.bind_some, rem_far hd, Option.bind_some, w64_eq (by omega)]
  by_cases h3 : c.tmod d < 0
  · rw [decide_eq_true h3, if_pos h3]; rfl
  · rw [decide_eq_false h3, if_neg h3]; rfl
theorem spec_up {c : Int} {d : Nat} (hd : 0 < d) (hd2 : d ≤ 1000000) (h : -1000000 ≤ c ∧ c ≤ 1000000) : m_spec_l06Up c (d : Int) = some (-flo c d) := by
  have h1 := tdiv_le c d
  have e1 : (-c).tdiv d = -(c.tdiv d) := Int.neg_tdiv ..
  have e2 : (d : Int) * c.tdiv d + c.tmod d = c := Int.mul_tdiv_add_tmod c d
  have hp := prod_rng (a := c.tdiv d) (A := 1000000) (b := (d : Int)) (B := 1000000) (by omega) (by omega) (by omega) (by omega)
  unfold m_spec_l06Up
  rw [w64_eq (n := 0 - c) (by omega), show (0 - c) = -c by omega, quo_far hd (by unfold Far; omega), Option.bind_some, e1]
  rw [Int.neg_mul, w64_eq (n := -(c.tdiv d * d)) (by omega), w64_eq (n := -c.tdiv d + 1) (by omega)]
  have e3 : c.tdiv d * (d : Int) = (d : Int) * c.tdiv d := Int.mul_comm _ _
  unfold flo
  by_cases h3 : c.tmod d < 0
  · rw [if_pos h3, decide_eq_true (by rw [e3]; omega), cond_true]; congr 1; omega
  · rw [if_neg h3, decide_eq_false (by rw [e3]; omega), cond_false]
def scan : List combination → Int × Bool → Option (Int × Bool)
  | [], s => some s
  | x :: r, s => if coef x.term.Coeffs 9 = 0 then (if x.term.Const < 0 then none else scan r s)
    else if (!s.2 || decide (s.1 < -flo x.term.Const (coef x.term.Coeffs 9).toNat)) = true then scan r (-flo x.term.Const (coef x.term.Coeffs 9).toNat, true) else scan r s
theorem flo_bnd {c : Int} {d : Nat} (hd : 0 < d) (h : -1000000 ≤ c ∧ c ≤ 1000000) : -1000001 ≤ flo c d ∧ flo c d ≤ 1000001 := by
  have := tdiv_le c d
  unfold flo
  split <;> omega
theorem impl_scan : ∀ (rows : List combination) (m : Nat) (s : Int × Bool), (∀ x ∈ rows, vT x.term = true ∧ 0 ≤ coef x.term.Coeffs 9) →
    forL m_impl_LeastOf_L1 (fun s1 => (.inl (s1.1, s1.2))) m rows s = some (match scan rows s with | some t => .inl (t.1, t.2) | none => .inr (0, false)) := by
  intro rows
  induction rows with
  | nil => intro m s _; rfl
  | cons x r ih =>
    intro m s h
    obtain ⟨hv, hm⟩ := h x (by simp)
    have hr : ∀ y ∈ r, vT y.term = true ∧ 0 ≤ coef y.term.Coeffs 9 := fun y hy => h y (by simp [hy])
    have hc9 : m_impl_Term_coeff x.term 9 = some (coef x.term.Coeffs 9) := impl_coeff (i := 9) (vT_len hv)
    have hcr := const_rng hv
    unfold forL scan
    by_cases c1 : coef x.term.Coeffs 9 = 0
    · rw [if_pos c1]
      by_cases c2 : x.term.Const < 0
      · rw [if_pos c2, show m_impl_LeastOf_L1 m x s = some (.out (.inr (0, false))) by unfold m_impl_LeastOf_L1; rw [hc9, Option.bind_some, decide_eq_true c1, cond_true, decide_eq_true c2, cond_true]]
      · rw [if_neg c2, show m_impl_LeastOf_L1 m x s = some (.next s) by unfold m_impl_LeastOf_L1; rw [hc9, Option.bind_some, decide_eq_true c1, cond_true, decide_eq_false c2, cond_false]]
        exact ih (m + 1) s hr
    · rw [if_neg c1]
      have hpos : 0 < (coef x.term.Coeffs 9).toNat := by omega
      have hfl := flo_bnd hpos hcr
      have hs : m_impl_LeastOf_L1 m x s = bif (!s.2 || decide (s.1 < -flo x.term.Const (coef x.term.Coeffs 9).toNat)) then some (.next (-flo x.term.Const (coef x.term.Coeffs 9).toNat, true)) else some (.next s) := by
        unfold m_impl_LeastOf_L1
        rw [hc9, Option.bind_some, decide_eq_false c1, cond_false]
        have e := impl_floor hpos hcr
        rw [show (((coef x.term.Coeffs 9).toNat : Nat) : Int) = coef x.term.Coeffs 9 by omega] at e
        rw [e, Option.bind_some, w64_eq (by omega), show (0 - flo x.term.Const (coef x.term.Coeffs 9).toNat) = -flo x.term.Const (coef x.term.Coeffs 9).toNat by omega]
      rw [hs]
      cases hb : (!s.2 || decide (s.1 < -flo x.term.Const (coef x.term.Coeffs 9).toNat)) with
      | true => rw [if_pos rfl]; exact ih (m + 1) _ hr
      | false => rw [if_neg (by decide)]; exact ih (m + 1) s hr
theorem spec_scan {rows : List combination} (hl : rows.length ≤ 1000) (h : ∀ x ∈ rows, vT x.term = true ∧ 0 ≤ coef x.term.Coeffs 9) : ∀ (q j : Nat) (s : Int × Bool), j + q = rows.length →
    iter (m_spec_LeastOf_L2 (rows.map rowOf)) (s.2, s.1, (j : Int)) = some (match scan (rows.drop j) s with | some t => .inl (t.2, t.1) | none => .inr (0, false)) := by
  intro q
  induction q with
  | zero =>
    intro j s hj
    obtain rfl : j = rows.length := by omega
    rw [List.drop_length]
    exact iter_out (by unfold m_spec_LeastOf_L2; simp only; rw [List.length_map, dec_self]; rfl)
  | succ q ih =>
    intro j s hj
    have hjl : j < rows.length := by omega
    have hx : rows[j]? = some rows[j] := List.getElem?_eq_getElem hjl
    obtain ⟨hv, hm⟩ := h _ (List.getElem_mem hjl)
    rw [List.drop_eq_getElem_cons hjl]
    generalize rows[j] = x at *
    have hcr := const_rng hv
    have hcf := coef_rng hv 9
    have h9 : getI (rowOf x).list 9 = some (coef x.term.Coeffs 9) := row_coef (k := 9) (by omega)
    unfold scan
    by_cases c1 : coef x.term.Coeffs 9 = 0
    · rw [if_pos c1]
      by_cases c2 : x.term.Const < 0
      · rw [if_pos c2, iter_out]
        unfold m_spec_LeastOf_L2
        simp only
        rw [List.length_map, dec_lt hjl, cond_true, row_at hx, Option.bind_some, h9, Option.bind_some, decide_eq_true c1, cond_true, show (rowOf x).c = x.term.Const from rfl, decide_eq_true c2, cond_true]
      · rw [if_neg c2, iter_next (s' := (s.2, s.1, ((j + 1 : Nat) : Int)))]
        · exact ih (j + 1) s (by omega)
        · unfold m_spec_LeastOf_L2
          simp only
          rw [List.length_map, dec_lt hjl, cond_true, row_at hx, Option.bind_some, h9, Option.bind_some, decide_eq_true c1, cond_true, show (rowOf x).c = x.term.Const from rfl, decide_eq_false c2, cond_false]
          unfold m_spec_LeastOf_J0
          rw [decide_eq_true c1, cond_true, w64_succ (by omega)]
    · rw [if_neg c1]
      have hpos : 0 < (coef x.term.Coeffs 9).toNat := by omega
      have hs : m_spec_LeastOf_L2 (rows.map rowOf) (s.2, s.1, (j : Int)) = bif (!s.2 || decide (s.1 < -flo x.term.Const (coef x.term.Coeffs 9).toNat)) then some (.next (true, -flo x.term.Const (coef x.term.Coeffs 9).toNat, ((j + 1 : Nat) : Int))) else some (.next (true, s.1, ((j + 1 : Nat) : Int))) := by
        unfold m_spec_LeastOf_L2
        simp only
        rw [List.length_map, dec_lt hjl, cond_true, row_at hx, Option.bind_some, h9, Option.bind_some, decide_eq_false c1, cond_false]
        unfold m_spec_LeastOf_J0
        have e := spec_up hpos (by omega) hcr
        rw [show (((coef x.term.Coeffs 9).toNat : Nat) : Int) = coef x.term.Coeffs 9 by omega] at e
        rw [decide_eq_false c1, cond_false, show (rowOf x).c = x.term.Const from rfl, e, Option.bind_some, w64_succ (by omega)]
      cases hb : (!s.2 || decide (s.1 < -flo x.term.Const (coef x.term.Coeffs 9).toNat)) with
      | true =>
        rw [hb] at hs
        rw [if_pos rfl, iter_next hs]
        exact ih (j + 1) (-flo x.term.Const (coef x.term.Coeffs 9).toNat, true) (by omega)
      | false =>
        rw [hb] at hs
        have hs2 : s.2 = true := by cases h2 : s.2 with | true => rfl | false => rw [h2] at hb; cases hb
        rw [if_neg (by decide), iter_next hs]
        have := ih (j + 1) s (by omega)
        rw [hs2] at this
        exact this
theorem scan_le {g : Int} : ∀ (rows : List combination) (s t : Int × Bool), (∀ x ∈ rows, 0 ≤ coef x.term.Coeffs 9) → (∀ x ∈ rows, 0 ≤ x.term.Const + coef x.term.Coeffs 9 * g) → (s.2 = true → s.1 ≤ g) → scan rows s = some t → t.2 = true → t.1 ≤ g := by
  intro rows
  induction rows with
  | nil => intro s t _ _ hs h ht; cases h; exact hs ht
  | cons x r ih =>
    intro s t h1 h2 hs h ht
    have hx := h1 x (by simp)
    have hr1 : ∀ y ∈ r, 0 ≤ coef y.term.Coeffs 9 := fun y hy => h1 y (by simp [hy])
    have hr2 : ∀ y ∈ r, 0 ≤ y.term.Const + coef y.term.Coeffs 9 * g := fun y hy => h2 y (by simp [hy])
    unfold scan at h
    by_cases c1 : coef x.term.Coeffs 9 = 0
    · rw [if_pos c1] at h
      by_cases c2 : x.term.Const < 0
      · rw [if_pos c2] at h; cases h
      · rw [if_neg c2] at h; exact ih s t hr1 hr2 hs h ht
    · rw [if_neg c1] at h
      have hb := h2 x (by simp)
      rw [show coef x.term.Coeffs 9 = (((coef x.term.Coeffs 9).toNat : Nat) : Int) by omega] at hb
      have := (sign_flo (c := x.term.Const) (S := g) (d := (coef x.term.Coeffs 9).toNat) (by omega)).2 hb
      split at h
      · exact ih _ t hr1 hr2 (fun _ => by simp only; omega) h ht
      · exact ih s t hr1 hr2 hs h ht
end Go.Mod

namespace Go.Mod
open Go.AM
set_option linter.unusedVariables false
set_option linter.unusedSimpArgs false
def over (goal : Term) : Term := Term.mk (1 * (unitT 9).Const + -1 * goal.Const) (trim (tab fun i => 1 * coef (unitT 9).Coeffs i + -1 * coef goal.Coeffs i))
def noNine (ts : List Term) : Bool := ts.all fun t => decide (coef t.Coeffs 9 = 0)
def fLeast (ts : List Term) (goal : Term) : Int × Bool :=
  bif ts.all vT && decide (ts.length ≤ 13) && vT goal && decide (coef goal.Coeffs 9 = 0) && noNine ts && vT (over goal) then
    (match elimF (List.range 9) (rows0 (ts ++ [over goal])) [] with
     | some r => (match scan r.1 (0, false) with | some t => t | none => (0, false))
     | none => (0, false)) else (0, false)
theorem impl_symbols9 : m_impl_allSymbols 9 = some ((List.range 9).map fun (k : Nat) => (k : Int)) := by
  unfold m_impl_allSymbols
  have h := iter_cnt (step := m_impl_allSymbols_L0 9) (fun j => ((List.range j).map (fun (k : Nat) => (k : Int)), (j : Int))) 9 (t := (List.range 9).map fun (k : Nat) => (k : Int)) (fun j hj => by
    unfold m_impl_allSymbols_L0
    simp only
    rw [decide_eq_true (by omega), cond_true, capI_some (by simp; omega), Option.bind_some, w64_succ (by omega), List.range_succ, List.map_append]; rfl)
    (by unfold m_impl_allSymbols_L0; rfl)
  rw [show iter (m_impl_allSymbols_L0 9) ([], 0) = _ from h]; rfl
theorem range9 : ∀ k ∈ List.range 9, k < 10 := fun k hk => by have := List.mem_range.1 hk; omega
theorem unit9 : m_impl_symbolTerm 9 = some (unitT 9) := by
  unfold m_impl_symbolTerm
  rw [show w64 (9 + 1) = ((10 : Nat) : Int) from rfl, makeI_some (by omega), Option.bind_some, show getI (List.replicate 10 (0 : Int)) 9 = some 0 from rfl, Option.bind_some]; rfl
theorem over_coef (goal : Term) (i : Nat) (hi : i < 10) : coef (over goal).Coeffs i = 1 * coef (unitT 9).Coeffs i + -1 * coef goal.Coeffs i := by
  unfold over; simp only; rw [trim_coef, tab_coef, if_pos hi]
theorem all_ok {ts : List Term} {goal : Term} (h1 : ∀ t ∈ ts, vT t = true) (h2 : vT (over goal) = true) : ∀ t ∈ ts ++ [over goal], vT t = true := by
  intro t ht
  rcases List.mem_append.1 ht with ht | ht
  · exact h1 t ht
  · rw [List.mem_singleton.1 ht]; exact h2
theorem all_nine {ts : List Term} {goal : Term} (h1 : ∀ t ∈ ts, coef t.Coeffs 9 = 0) (h2 : coef goal.Coeffs 9 = 0) : ∀ t ∈ ts ++ [over goal], 0 ≤ coef t.Coeffs 9 := by
  intro t ht
  rcases List.mem_append.1 ht with ht | ht
  · rw [h1 t ht]; omega
  · rw [List.mem_singleton.1 ht, over_coef goal 9 (by omega), unit_coef, h2]; decide
theorem comb_nine {ts : List Term} {x : combination} (h : Comb ts x) (hr : RowOK ts.length x) (hn : ∀ t ∈ ts, 0 ≤ coef t.Coeffs 9) : 0 ≤ coef x.term.Coeffs 9 := by
  rw [h.f 9 (by omega)]
  exact lin_nonneg (fun j => (hr.coefB j).1) hn
theorem nine_loop {ts : List Term} (h : ∀ t ∈ ts, vT t = true) : forL m_impl_LeastOf_L0 (fun s0 => (.inl ())) 0 ts () = some (bif noNine ts then .inl () else .inr (0, false)) :=
  forL_all (fun t => decide (coef t.Coeffs 9 = 0)) ts 0 (fun n t ht => by
    unfold m_impl_LeastOf_L0
    rw [show m_impl_Term_coeff t 9 = some (coef t.Coeffs 9) from impl_coeff (i := 9) (vT_len (h t ht)), Option.bind_some]
    cases decide (coef t.Coeffs 9 = 0) <;> rfl)
theorem impl_withT {ts : List Term} {t : Term} (hl : ts.length ≤ 1000) : m_impl_with ts t = some (ts ++ [t]) := by
  unfold m_impl_with m_slices_Clone_impl_Term_impl_Term
  rw [capI_some (by simp; omega), Option.bind_some, List.nil_append, Option.bind_some, capI_some (by simp; omega)]; rfl
theorem lin_over (goal : Term) : Lin [unitT 9, goal] [1, -1] ↔ vT goal = true := by
  constructor
  · intro h; exact h.1 goal (by simp)
  · intro h
    refine ⟨fun t ht => ?_, fun m hm => ?_, by simp, rfl⟩
    · simp only [List.mem_cons, List.not_mem_nil, or_false] at ht
      rcases ht with rfl | rfl
      · exact unit_valid 9 (by omega)
      · exact h
    · simp only [List.mem_cons, List.not_mem_nil, or_false] at hm
      unfold mOK
      rcases hm with rfl | rfl <;> omega
theorem impl_over {goal : Term} (h : vT goal = true) : m_impl_combined [unitT 9, goal] [1, -1] = some (over goal) := by
  rw [impl_combined ((lin_over goal).2 h)]
  simp only [List.length_cons, List.length_nil, Nat.zero_add, Nat.reduceAdd, lin_two]; rfl
theorem elim9 {ts : List Term} {goal : Term} {r : List combination × List combination} (h1 : ∀ t ∈ ts, vT t = true) (h2 : ts.length ≤ 13) (h3 : vT (over goal) = true) (h4 : ∀ t ∈ ts, coef t.Coeffs 9 = 0) (h5 : coef goal.Coeffs 9 = 0)
    (he : elimF (List.range 9) (rows0 (ts ++ [over goal])) [] = some r) : (∀ x ∈ r.1, RowOK (ts ++ [over goal]).length x ∧ Comb (ts ++ [over goal]) x) ∧ r.1.length ≤ 60 ∧ ∀ x ∈ r.1, vT x.term = true ∧ 0 ≤ coef x.term.Coeffs 9 := by
  have hv := all_ok (goal := goal) h1 h3
  obtain ⟨e1, e2, e3⟩ := elim_comb hv (by simp; omega) range9 he
  exact ⟨e1, e2, fun x hx => ⟨(e1 x hx).1.v, comb_nine (e1 x hx).2 (e1 x hx).1 (all_nine h4 h5)⟩⟩
theorem impl_least {ts : List Term} {goal : Term} : m_impl_LeastOf ts goal = some (fLeast ts goal) := by
  unfold m_impl_LeastOf fLeast
  rw [show (13 : Int) = ((13 : Nat) : Int) from rfl, impl_terms, Option.bind_some, Bool.and_comm (decide (ts.length ≤ 13))]
  cases hA : ts.all vT && decide (ts.length ≤ 13) with
  | false => rfl
  | true =>
    simp only [Bool.and_eq_true, List.all_eq_true, decide_eq_true_eq] at hA
    obtain ⟨h1, h2⟩ := hA
    rw [Bool.not_true, cond_false, impl_valid, Option.bind_some, Bool.true_and]
    cases hG : vT goal with
    | false => rfl
    | true =>
      rw [Bool.not_true, cond_false, show m_impl_Term_coeff goal 9 = some (coef goal.Coeffs 9) from impl_coeff (i := 9) (vT_len hG), Option.bind_some, Bool.true_and]
      by_cases h5 : coef goal.Coeffs 9 = 0
      · rw [decide_eq_true h5, Bool.not_true, cond_false, nine_loop h1, Option.bind_some, Bool.true_and]
        cases hN : noNine ts with
        | false => rfl
        | true =>
          have h4 : ∀ t ∈ ts, coef t.Coeffs 9 = 0 := fun t ht => of_decide_eq_true (List.all_eq_true.1 hN t ht)
          rw [cond_true]
          unfold m_impl_LeastOf_A0
          simp only
          rw [unit9, Option.bind_some, impl_over hG, Option.bind_some]
          unfold m_impl_LeastOf_J0
          simp only
          rw [show Term.mk (over goal).Const (over goal).Coeffs = over goal from rfl, impl_valid, Option.bind_some, Bool.true_and]
          cases h3 : vT (over goal) with
          | false => rfl
          | true =>
            rw [Bool.not_true, cond_false, impl_withT (by omega), Option.bind_some, impl_symbols9, Option.bind_some, impl_eliminated (all_ok h1 h3) (by simp; omega) range9 (by simp), Option.bind_some, cond_true]
            cases he : elimF (List.range 9) (rows0 (ts ++ [over goal])) [] with
            | none => rfl
            | some r =>
              obtain ⟨e1, e2, e3⟩ := elim9 h1 h2 h3 h4 h5 he
              simp only [Bool.not_true, cond_false]
              rw [impl_scan r.1 0 (0, false) e3, Option.bind_some]
              cases scan r.1 (0, false) <;> rfl
      · rw [decide_eq_false h5]; rfl
theorem len_nine {t : Term} (h : vT t = true) : decide ((t.Coeffs.length : Int) = 10) = !decide (coef t.Coeffs 9 = 0) := by
  have hl := vT_len h
  by_cases h9 : t.Coeffs.length = 10
  · have := last_coef (vT_last h) (by omega)
    rw [h9] at this
    rw [decide_eq_true (by omega), decide_eq_false this]; rfl
  · rw [decide_eq_false (by omega), decide_eq_true (coef_no (by omega))]; rfl
theorem spec_nine {ts : List Term} {goal : Term} (h : ∀ t ∈ ts ++ [goal], vT t = true) (hl : ts.length ≤ 13) : iter (m_spec_LeastOf_L0 ts goal) 0 = some (bif noNine (ts ++ [goal]) then .inl () else .inr (0, false)) := by
  have h2 := iter_for (step := m_spec_LeastOf_L0 ts goal) (ts ++ [goal]) (fun n (_ : Unit) => (n : Int)) (fun _ t _ => bif decide (coef t.Coeffs 9 = 0) then some (.next ()) else some (.out (.inr (0, false)))) (fun _ => .inl ())
    (fun n t r hx => by
      have hn := get_lt hx
      have hv := h t (List.mem_of_getElem? hx)
      unfold m_spec_LeastOf_L0
      rw [dec_lt hn, cond_true, getI_some hx, Option.bind_some, len_nine hv]
      cases decide (coef t.Coeffs 9 = 0) with
      | true => rw [w64_succ (by simp at hn; omega)]; rfl
      | false => rfl)
    (fun r => by unfold m_spec_LeastOf_L0; rw [dec_self]; rfl) ()
  rw [forL_all (fun t => decide (coef t.Coeffs 9 = 0)) _ _ (fun n t _ => rfl)] at h2
  exact h2
theorem spec_stages {n : Nat} (hn : n ≤ 14) : ∀ (q s : Nat) (rows news : List combination), s + q = 9 → Rws n rows →
    iter m_spec_LeastOf_L1 (rows.map rowOf, (s : Int)) = some (match elimF (List.range' s q) rows news with | some r => .inl (r.1.map rowOf) | none => .inr (0, false)) := by
  intro q
  induction q with
  | zero =>
    intro s rows news hs _
    obtain rfl : s = 9 := by omega
    exact iter_out (by unfold m_spec_LeastOf_L1; rfl)
  | succ q ih =>
    intro s rows news hs hr
    have hst : m_spec_LeastOf_L1 (rows.map rowOf, (s : Int)) = match stage s rows with
        | some a => some (.next ((keep s rows ++ a).map rowOf, ((s + 1 : Nat) : Int))) | none => some (.out (.inr (0, false))) := by
      unfold m_spec_LeastOf_L1
      simp only
      rw [w64_succ (by omega), decide_eq_true (by omega), cond_true, spec_stage (by omega) hn hr, Option.bind_some]
      cases stage s rows <;> rfl
    rw [List.range'_succ]
    unfold elimF
    cases hsg : stage s rows with
    | none => rw [hsg] at hst; rw [iter_out hst]
    | some a =>
      rw [hsg] at hst
      rw [iter_next hst]
      obtain ⟨g1, g2⟩ := hr.next hn hsg
      exact ih (s + 1) _ _ (by omega) g1
theorem noNine_app (ts : List Term) (goal : Term) : noNine (ts ++ [goal]) = (decide (coef goal.Coeffs 9 = 0) && noNine ts) := by
  unfold noNine
  rw [List.all_append, Bool.and_comm]; simp
theorem spec_least {ts : List Term} {goal : Term} (hl : cTermS ts ≤ 1048576) (hg : cTerm goal ≤ 1048576) : m_spec_LeastOf ts goal = some (fLeast ts goal) := by
  unfold m_spec_LeastOf fLeast
  rw [show (13 : Int) = ((13 : Nat) : Int) from rfl, spec_all hl, Option.bind_some]
  cases hA : ts.all vT && decide (ts.length ≤ 13) with
  | false => rfl
  | true =>
    simp only [Bool.and_eq_true, List.all_eq_true, decide_eq_true_eq] at hA
    obtain ⟨h1, h2⟩ := hA
    rw [Bool.not_true, cond_false, spec_is hg, Option.bind_some, Bool.true_and]
    cases hG : vT goal with
    | false => rfl
    | true =>
      have ho : m_spec_l02Own goal = some goal := by unfold m_spec_l02Own; rw [spec_own (by unfold cTerm at hg; exact hg)]; rfl
      have hvg : ∀ t ∈ ts ++ [goal], vT t = true := fun t ht => by
        rcases List.mem_append.1 ht with ht | ht
        · exact h1 t ht
        · rw [List.mem_singleton.1 ht]; exact hG
      rw [Bool.not_true, cond_false, spec_ownAll hl, Option.bind_some, ho, Option.bind_some, capI_some (by simp; omega), Option.bind_some, spec_nine hvg h2, Option.bind_some, noNine_app, Bool.true_and]
      by_cases h5 : coef goal.Coeffs 9 = 0
      · rw [decide_eq_true h5, Bool.true_and]
        cases hN : noNine ts with
        | false => rfl
        | true =>
          have h4 : ∀ t ∈ ts, coef t.Coeffs 9 = 0 := fun t ht => of_decide_eq_true (List.all_eq_true.1 hN t ht)
          rw [cond_true, Bool.true_and]
          unfold m_spec_LeastOf_A0
          simp only
          rw [show Term.mk 0 [0, 0, 0, 0, 0, 0, 0, 0, 0, 1] = unitT 9 from rfl, spec_sum (unit_valid 9 (by omega)) hG (by unfold mOK; omega) (by unfold mOK; omega), Option.bind_some]
          rw [show Term.mk (1 * (unitT 9).Const + -1 * goal.Const) (trim (tab fun i => 1 * coef (unitT 9).Coeffs i + -1 * coef goal.Coeffs i)) = over goal from rfl]
          unfold chk
          cases h3 : vT (over goal) with
          | false => rfl
          | true =>
            have hw : w64 (((ts ++ [goal]).length : Int) - 1) = ((ts.length : Nat) : Int) := by rw [w64_eq (by simp; omega)]; simp
            have hset : (ts ++ [goal]).set ts.length (over goal) = ts ++ [over goal] := by rw [List.set_append_right _ _ (Nat.le_refl _)]; simp
            simp only [cond_true, Bool.not_true, cond_false]
            rw [hw, getI_some (x := goal) (by rw [List.getElem?_append_right (Nat.le_refl _)]; simp), Option.bind_some, Int.toNat_natCast, hset, spec_rows (all_ok h1 h3) (by simp; omega), Option.bind_some]
            have h9 := spec_stages (n := (ts ++ [over goal]).length) (by simp; omega) 9 0 (rows0 (ts ++ [over goal])) [] (by omega) (rows0_ok (all_ok h1 h3) (by simp; omega))
            rw [show List.range' 0 9 = List.range 9 from rfl, show ((0 : Nat) : Int) = 0 from rfl] at h9
            rw [h9, Option.bind_some]
            cases he : elimF (List.range 9) (rows0 (ts ++ [over goal])) [] with
            | none => rfl
            | some r =>
              obtain ⟨e1, e2, e3⟩ := elim9 h1 h2 h3 h4 h5 he
              unfold m_spec_LeastOf_A1
              simp only
              have hsc := spec_scan (rows := r.1) (by omega) e3 r.1.length 0 (0, false) (by omega)
              rw [List.drop_zero] at hsc
              rw [show iter (m_spec_LeastOf_L2 (r.1.map rowOf)) (false, 0, 0) = _ from hsc, Option.bind_some]
              cases scan r.1 (0, false) <;> rfl
      · rw [decide_eq_false h5]; rfl
theorem nine_val {t : Term} {v : List Int} {g : Int} (h : coef t.Coeffs 9 = 0) : Go.Mod.val t (v.set 9 g) = Go.Mod.val t v := by
  unfold Go.Mod.val
  congr 1
  refine sumN_congr 10 (fun i hi => ?_)
  by_cases h9 : i = 9
  · subst h9; rw [h]; simp
  · have : coef (v.set 9 g) i = coef v i := by unfold coef; rw [List.getElem?_set, if_neg (fun e => h9 e.symm)]
    rw [this]
theorem least_ok {ts : List Term} {goal : Term} {v : List Int} (hv : v.length = 10) (ha : allHold ts v = true) (h : (fLeast ts goal).2 = true) : (fLeast ts goal).1 ≤ Go.Mod.val goal v := by
  unfold fLeast at h ⊢
  cases hA : ts.all vT && decide (ts.length ≤ 13) && vT goal && decide (coef goal.Coeffs 9 = 0) && noNine ts && vT (over goal) with
  | false => rw [hA] at h; cases h
  | true =>
    rw [hA, cond_true] at h
    rw [cond_true]
    simp only [Bool.and_eq_true, List.all_eq_true, decide_eq_true_eq] at hA
    obtain ⟨⟨⟨⟨⟨h1, h2⟩, hG⟩, h5⟩, hN⟩, h3⟩ := hA
    have h4 : ∀ t ∈ ts, coef t.Coeffs 9 = 0 := fun t ht => of_decide_eq_true (List.all_eq_true.1 hN t ht)
    cases he : elimF (List.range 9) (rows0 (ts ++ [over goal])) [] with
    | none => rw [he] at h; cases h
    | some r =>
      rw [he] at h
      simp only at h ⊢
      obtain ⟨e1, e2, e3⟩ := elim9 h1 h2 h3 h4 h5 he
      have h0 := rows0_ok (all_ok h1 h3) (ts := ts ++ [over goal]) (by simp; omega)
      have ez := elim_zero (n := (ts ++ [over goal]).length) (by simp; omega) (List.range 9) [] (rows0 (ts ++ [over goal])) [] r range9 (by simp) (fun x hx => ⟨h0.1 x hx, by simp⟩) h0.2 he
      have hw9 : coef (v.set 9 (Go.Mod.val goal v)) 9 = Go.Mod.val goal v := by unfold coef; rw [List.getElem?_set_self (by omega)]; rfl
      have hov : Go.Mod.val (over goal) (v.set 9 (Go.Mod.val goal v)) = 0 := by
        have hl := (lin_over goal).2 hG
        have : over goal = mkT (lin [unitT 9, goal] [1, -1] Term.Const 2) (fun i => lin [unitT 9, goal] [1, -1] (fun t => coef t.Coeffs i) 2) := by
          unfold over mkT
          simp only [lin_two]
        rw [this, val_mkT_lin, lin_two, val_unit 9 _ (by omega), hw9, nine_val h5]; omega
      have hall : allHold (ts ++ [over goal]) (v.set 9 (Go.Mod.val goal v)) = true := by
        unfold allHold
        refine List.all_eq_true.2 (fun t ht => ?_)
        rcases List.mem_append.1 ht with ht | ht
        · rw [nine_val (h4 t ht)]; exact List.all_eq_true.1 ha t ht
        · rw [List.mem_singleton.1 ht, hov]; rfl
      cases hs : scan r.1 (0, false) with
      | none => rw [hs] at h; cases h
      | some t =>
        rw [hs] at h
        simp only at h ⊢
        refine scan_le r.1 (0, false) t (fun x hx => (e3 x hx).2) (fun x hx => ?_) (fun h => by cases h) hs h
        have hval := comb_hold (e1 x hx).2 (e1 x hx).1 hall
        have : Go.Mod.val x.term (v.set 9 (Go.Mod.val goal v)) = x.term.Const + coef x.term.Coeffs 9 * Go.Mod.val goal v := by
          rw [show Go.Mod.val x.term (v.set 9 (Go.Mod.val goal v)) = x.term.Const + sumN (fun i => coef x.term.Coeffs i * coef (v.set 9 (Go.Mod.val goal v)) i) 10 from rfl]
          rw [show sumN (fun i => coef x.term.Coeffs i * coef (v.set 9 (Go.Mod.val goal v)) i) 10 = sumN (fun i => coef x.term.Coeffs i * coef (v.set 9 (Go.Mod.val goal v)) i) 9 + coef x.term.Coeffs 9 * coef (v.set 9 (Go.Mod.val goal v)) 9 from rfl]
          rw [hw9, sumN_congr (g := fun _ => 0) 9 (fun i hi => by rw [ez x hx i (.inr (List.mem_range.2 hi)), Int.zero_mul]), sumN_zero]
          omega
        rw [← this]; exact hval
theorem first_ok {ts : List Term} {v : List Int} (ha : allHold ts v = true) (h : (fFirst ts).2.2 = true) : (fFirst ts).2.1.length = ts.length ∧ vT (fFirst ts).1 = true ∧ 0 ≤ Go.Mod.val (fFirst ts).1 v := by
  unfold fFirst at h ⊢
  cases h1 : okFacts ts with
  | false => rw [h1] at h; cases h
  | true =>
    obtain ⟨g1, g2⟩ := okFacts_iff.1 h1
    rw [h1, cond_true] at h
    rw [cond_true]
    cases he : elimF (List.range 10) (rows0 ts) [] with
    | none => rw [he] at h; cases h
    | some r =>
      obtain ⟨e1, e2, e3⟩ := elim_comb g1 g2 range10 he
      rw [he] at h
      simp only at h ⊢
      cases hf : r.2.find? (isCut ts) with
      | none => rw [hf] at h; cases h
      | some x =>
        obtain ⟨hx, hc⟩ := e3 x (List.mem_of_find?_eq_some hf)
        have hcut := List.find?_some hf
        have hval := comb_hold hc hx ha
        simp only
        refine ⟨hx.len, ?_⟩
        unfold isCut fCut at hcut
        unfold fCut
        cases hb : decide (gcdL x.term.Coeffs < 2) || decide (x.term.Const.tmod (gcdL x.term.Coeffs) = 0) with
        | true => rw [hb] at hcut; cases hcut
        | false =>
          simp only [Bool.or_eq_false_iff, decide_eq_false_iff_not] at hb
          have hd : 2 ≤ gcdL x.term.Coeffs := by omega
          have ht : (fTight x.term).1 = Term.mk (flo x.term.Const (gcdL x.term.Coeffs)) (quos x.term.Coeffs (gcdL x.term.Coeffs)) := by unfold fTight; rw [hx.v, decide_eq_true hd]; rfl
          rw [cond_false]
          simp only
          rw [ht]
          exact ⟨tight_valid hx.v hd, (fTight_val hx.v hd).2 hval⟩
theorem first_len {ts : List Term} (h : (fFirst ts).2.2 = true) : (fFirst ts).2.1.length = ts.length := by
  unfold fFirst at h ⊢
  cases h1 : okFacts ts with
  | false => rw [h1] at h; cases h
  | true =>
    obtain ⟨g1, g2⟩ := okFacts_iff.1 h1
    rw [h1, cond_true] at h
    rw [cond_true]
    cases he : elimF (List.range 10) (rows0 ts) [] with
    | none => rw [he] at h; cases h
    | some r =>
      obtain ⟨e1, e2, e3⟩ := elim_comb g1 g2 range10 he
      rw [he] at h
      simp only at h ⊢
      cases hf : r.2.find? (isCut ts) with
      | none => rw [hf] at h; cases h
      | some x => exact (e3 x (List.mem_of_find?_eq_some hf)).1.len
theorem law_Cuts {a b : List Int} (ka : kLa_u8 a) (kb : kLa_u8 b) : m_laws_FnCuts a b = some true := by
  unfold m_laws_FnCuts
  by_cases hl : a.length ≤ 1048576 ∧ b.length ≤ 1048576
  · rw [long_no hl.1 hl.2, Option.bind_some, cond_false]
    obtain ⟨ts, et, hlen, hts⟩ := facts_ok ka.2 hl.1
    obtain ⟨v, ev, hv⟩ := values_ok kb.2 hl.2
    obtain ⟨r, er, hr0, hr1⟩ := at_ok (i := 0) (n := 3) kb.2 (by omega) (by omega)
    replace er : m_laws_b10At b 0 3 = some r := er
    have hvt : ∀ t ∈ ts, vT t = true := fun t ht => (hts t ht).v
    have hsm := facts_small hvt (by omega)
    have hgv : vT (Term.mk 0 [1, r + 1]) = true := by
      have : r = 0 ∨ r = 1 ∨ r = 2 := by omega
      rcases this with rfl | rfl | rfl <;> decide
    have hJ1 : m_laws_FnCuts_J1 b ts v () = some true := by
      unfold m_laws_FnCuts_J1
      rw [er, Option.bind_some, w64_eq (by omega), impl_least, Option.bind_some, spec_least hsm (by unfold cTerm; simp), Option.bind_some, bool_beq, cond_true]
      cases h : (fLeast ts (Term.mk 0 [1, r + 1])).2 with
      | false => rfl
      | true =>
        rw [Bool.not_true, cond_false, hold_ok hvt (by omega) hv, Option.bind_some]
        cases hh : allHold ts v with
        | false => rfl
        | true =>
          rw [Bool.not_true, cond_false, value_ok hgv hv, Option.bind_some, decide_eq_true (least_ok hv.1 hh h)]
    rw [et, Option.bind_some, ev, Option.bind_some, impl_first, Option.bind_some, spec_first hsm, Option.bind_some, bool_beq, Bool.not_true, cond_false]
    cases h : (fFirst ts).2.2 with
    | false =>
      rw [cond_false]
      unfold m_laws_FnCuts_J0
      rw [h, cond_false]; exact hJ1
    | true =>
      rw [cond_true, decide_eq_true (by rw [first_len h]), Bool.not_true, cond_false]
      unfold m_laws_FnCuts_J0
      rw [h, cond_true, hold_ok hvt (by omega) hv, Option.bind_some]
      cases hh : allHold ts v with
      | false => exact hJ1
      | true =>
        obtain ⟨_, f2, f3⟩ := first_ok hh h
        rw [cond_true, value_ok f2 hv, Option.bind_some, decide_eq_false (by omega), cond_false]
        exact hJ1
  · rw [long_yes hl]; rfl
end Go.Mod
