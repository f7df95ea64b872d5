import Derived.Test.YtmbbpabjdalfaaaGd
namespace Go.Mod
open Go.AM
set_option linter.unusedVariables false
set_option linter.unusedSimpArgs false
section
variable (p : List Node) (c0 : List Term)
def ent (l : List (Option (List Term))) (k : Nat) : Option (List Term) :=
  if k = 0 then some c0 else match parGo p k k with
    | some a => match l[a]?, p[a]? with
      | some (some c), some x => if rightB x c = true then some (belowB x c (decide (a + 1 = k))) else none
      | _, _ => none
    | none => none
def bld : Nat → List (Option (List Term))
  | 0 => []
  | k + 1 => bld k ++ [ent p c0 (bld k) k]
def cA (k : Nat) : Option (List Term) := ent p c0 (bld p c0 k) k
def rt (k : Nat) : Bool := match cA p c0 k, p[k]? with
  | some c, some x => rightB x c
  | _, _ => false
def bad (k : Nat) : Bool := (cA p c0 k).isSome && !rt p c0 k
def flr (f : Int) (a : Nat) : Nat → Int
  | 0 => f
  | n + 1 => if flr f a n < 0 ∧ bad p c0 (a + n) = true then ((a + n : Nat) : Int) else flr f a n
end
section
variable {p : List Node} {c0 : List Term}
theorem bld_len (n : Nat) : (bld p c0 n).length = n := by
  induction n with
  | zero => rfl
  | succ n ih => unfold bld; simp [ih]
theorem bld_get : ∀ {n i : Nat}, i < n → (bld p c0 n)[i]? = some (cA p c0 i) := by
  intro n
  induction n with
  | zero => intro i h; omega
  | succ n ih =>
    intro i h
    unfold bld
    by_cases hi : i < n
    · rw [List.getElem?_append_left (by rw [bld_len]; exact hi)]; exact ih hi
    · obtain rfl : i = n := by omega
      rw [List.getElem?_append_right (by rw [bld_len]; exact Nat.le_refl _), bld_len, Nat.sub_self]; rfl
theorem cA_zero : cA p c0 0 = some c0 := by unfold cA ent; rw [if_pos rfl]
theorem cA_par {k a : Nat} {x : Node} (h0 : 0 < k) (ha : parGo p k k = some a) (hx : p[a]? = some x) :
    cA p c0 k = match cA p c0 a with | some c => if rightB x c = true then some (belowB x c (decide (a + 1 = k))) else none | none => none := by
  have hlt := (parGo_prop ha).1
  show ent p c0 (bld p c0 k) k = _
  unfold ent
  rw [if_neg (by omega), ha]
  simp only
  rw [bld_get hlt, hx]
  cases cA p c0 a <;> rfl
theorem rt_of {k : Nat} {c : List Term} {x : Node} (hc : cA p c0 k = some c) (hx : p[k]? = some x) : rt p c0 k = rightB x c := by unfold rt; rw [hc, hx]
theorem cA_good (hP : isP p = true) (h0 : GoodC c0) : ∀ (k : Nat) (c : List Term), k < p.length → cA p c0 k = some c → GoodC c := by
  intro k
  induction k using Nat.strongRecOn with
  | _ k ih =>
    intro c hk hc
    by_cases hz : k = 0
    · subst hz; rw [cA_zero] at hc; cases hc; exact h0
    · obtain ⟨a, ha, h1, h2⟩ := par_some hP (by omega) hk
      obtain ⟨x, n, hx, hn, _⟩ := node_at hP (show a < p.length by omega)
      rw [cA_par (by omega) ha hx] at hc
      cases hca : cA p c0 a with
      | none => rw [hca] at hc; cases hc
      | some c1 =>
        rw [hca] at hc
        simp only at hc
        split at hc
        · rename_i hr
          cases hc
          have hn0 : n ≠ 0 := fun e => by have := (end_step hP hx hn).1 e; omega
          exact below_good (ih a h1 c1 (by omega) hca) hn hn0 hr _
        · cases hc
theorem flr_add (f : Int) (a n : Nat) : ∀ m, flr p c0 f a (n + m) = flr p c0 (flr p c0 f a n) (a + n) m := by
  intro m
  induction m with
  | zero => rfl
  | succ m ih =>
    show (if flr p c0 f a (n + m) < 0 ∧ bad p c0 (a + (n + m)) = true then ((a + (n + m) : Nat) : Int) else flr p c0 f a (n + m)) = (if flr p c0 (flr p c0 f a n) (a + n) m < 0 ∧ bad p c0 (a + n + m) = true then ((a + n + m : Nat) : Int) else flr p c0 (flr p c0 f a n) (a + n) m)
    rw [ih, show a + (n + m) = a + n + m by omega]
theorem flr_clear (f : Int) (a : Nat) : ∀ n, (∀ j, a ≤ j → j < a + n → bad p c0 j = false) → flr p c0 f a n = f := by
  intro n
  induction n with
  | zero => intro _; rfl
  | succ n ih =>
    intro h
    unfold flr
    rw [ih (fun j h1 h2 => h j h1 (by omega)), h (a + n) (by omega) (by omega)]
    simp
theorem below_flaw (hP : isP p = true) {k : Nat} (hk : k < p.length) (hr : rt p c0 k = false) : ∀ j, k < j → j < endN p k → cA p c0 j = none := by
  intro j
  induction j using Nat.strongRecOn with
  | _ j ih =>
    intro h1 h2
    obtain ⟨_, _, _, _, he, _, _⟩ := end_spec hP hk
    have hj : j < p.length := by omega
    obtain ⟨a, ha, hka⟩ := parGo_ge h2 h1
    obtain ⟨g1, g2, _⟩ := parGo_prop ha
    obtain ⟨x, n, hx, hn, _⟩ := node_at hP (show a < p.length by omega)
    rw [cA_par (by omega) ha hx]
    by_cases e : k = a
    · subst e
      cases hc : cA p c0 k with
      | none => rfl
      | some c => simp only; rw [rt_of hc hx] at hr; rw [if_neg (by rw [hr]; simp)]
    · rw [ih a g1 (by omega) (by omega)]
def allC (p : List Node) (c0 : List Term) (n : Nat) : List (List Term) := (List.range n).map fun k => (cA p c0 k).getD []
def hasC (p : List Node) (c0 : List Term) (n : Nat) : List Bool := (List.range n).map fun k => (cA p c0 k).isSome
def rtC (p : List Node) (c0 : List Term) (n : Nat) : List Bool := (List.range n).map (rt p c0)
theorem range_snoc {α : Type} (f : Nat → α) (n : Nat) : (List.range (n + 1)).map f = (List.range n).map f ++ [f n] := by rw [List.range_succ, List.map_append]; rfl
theorem ctx_step (hP : isP p = true) {r : List Term × Bool} (h0 : GoodC r.1) {n : Nat} (hn : n < p.length) :
    m_spec_l05Contexts_L0 p r (allC p r.1 n, hasC p r.1 n, rtC p r.1 n, flr p r.1 (-1) 0 n, (n : Int)) =
      some (.next (allC p r.1 (n + 1), hasC p r.1 (n + 1), rtC p r.1 (n + 1), flr p r.1 (-1) 0 (n + 1), ((n + 1 : Nat) : Int))) := by
  have h60 := (isP_iff.1 hP).1
  obtain ⟨x, a, hx, ha, _⟩ := node_at hP hn
  have hl1 : (allC p r.1 n).length = n := by simp [allC]
  have hl2 : (hasC p r.1 n).length = n := by simp [hasC]
  have hl3 : (rtC p r.1 n).length = n := by simp [rtC]
  -- what follows the context
  have J0 : ∀ (j0 : List Term × Bool), j0 = ((cA p r.1 n).getD [], (cA p r.1 n).isSome) →
      m_spec_l05Contexts_J0 p (allC p r.1 n, hasC p r.1 n, rtC p r.1 n, flr p r.1 (-1) 0 n, (n : Int)) j0 =
      some (.next (allC p r.1 (n + 1), hasC p r.1 (n + 1), rtC p r.1 (n + 1), flr p r.1 (-1) 0 (n + 1), ((n + 1 : Nat) : Int))) := by
    rintro j0 rfl
    unfold m_spec_l05Contexts_J0
    simp only
    rw [capI_some (by rw [hl1]; simp; omega), Option.bind_some, capI_some (by rw [hl2]; simp; omega), Option.bind_some]
    have e1 : allC p r.1 (n + 1) = allC p r.1 n ++ [(cA p r.1 n).getD []] := range_snoc _ n
    have e2 : hasC p r.1 (n + 1) = hasC p r.1 n ++ [(cA p r.1 n).isSome] := range_snoc _ n
    have e3 : rtC p r.1 (n + 1) = rtC p r.1 n ++ [rt p r.1 n] := range_snoc _ n
    have e4 : flr p r.1 (-1) 0 (n + 1) = if flr p r.1 (-1) 0 n < 0 ∧ bad p r.1 n = true then (n : Int) else flr p r.1 (-1) 0 n := by
      show (if flr p r.1 (-1) 0 n < 0 ∧ bad p r.1 (0 + n) = true then ((0 + n : Nat) : Int) else flr p r.1 (-1) 0 n) = _
      rw [Nat.zero_add]
    rw [e1, e2, e3, e4]
    unfold bad
    cases hc : cA p r.1 n with
    | none =>
      simp only [Option.isSome_none, cond_false, Option.getD_none]
      rw [capI_some (by rw [hl3]; simp; omega), Option.bind_some]
      unfold m_spec_l05Contexts_J1
      simp only [cond_false]
      rw [w64_succ (by omega), show rt p r.1 n = false by unfold rt; rw [hc]]
      simp
    | some c =>
      have hg := cA_good hP h0 n c hn hc
      simp only [Option.isSome_some, cond_true, Option.getD_some]
      rw [getI_some hx, Option.bind_some, spec_right hg ha, Option.bind_some, capI_some (by rw [hl3]; simp; omega), Option.bind_some, rt_of hc hx]
      unfold m_spec_l05Contexts_J1
      simp only [cond_true]
      rw [getI_some (x := rightB x c) (by rw [List.getElem?_append_right (by omega), hl3, Nat.sub_self]; rfl), Option.bind_some, w64_succ (by omega)]
      cases rightB x c with
      | true => simp
      | false =>
        by_cases hf : flr p r.1 (-1) 0 n < 0
        · simp [hf]
        · simp [hf]
  unfold m_spec_l05Contexts_L0
  simp only
  rw [dec_lt hn, cond_true]
  by_cases hz : n = 0
  · subst hz
    rw [show decide ((0 : Int) < ((0 : Nat) : Int)) = false from rfl, cond_false]
    exact J0 _ (by rw [cA_zero]; rfl)
  · rw [decide_eq_true (show (0 : Int) < (n : Int) by omega), cond_true]
    obtain ⟨b, hb, hpar⟩ := spec_parent hP (show 0 < n by omega) hn
    have hbn := (parGo_prop hb).1
    obtain ⟨y, m, hy, hm, _⟩ := node_at hP (show b < p.length by omega)
    have hm0 : m ≠ 0 := fun e => by have := (end_step hP hy hm).1 e; have := (parGo_prop hb).2.1; omega
    rw [hpar, Option.bind_some]
    simp only
    rw [getI_some (x := rt p r.1 b) (by simp [rtC, hbn]), Option.bind_some]
    have hcn := cA_par (c0 := r.1) (show 0 < n by omega) hb hy
    cases hcb : cA p r.1 b with
    | none =>
      rw [hcb] at hcn
      rw [show rt p r.1 b = false by unfold rt; rw [hcb], cond_false]
      exact J0 _ (by rw [hcn]; rfl)
    | some c =>
      have hg := cA_good hP h0 b c (by omega) hcb
      rw [hcb] at hcn
      simp only at hcn
      rw [rt_of hcb hy]
      cases hr : rightB y c with
      | false =>
        rw [hr, if_neg (by simp)] at hcn
        rw [cond_false]
        exact J0 _ (by rw [hcn]; rfl)
      | true =>
        rw [hr, if_pos rfl] at hcn
        rw [cond_true, getI_some hy, Option.bind_some, getI_some (x := c) (by simp [allC, hbn, hcb]), Option.bind_some, spec_below hg hm hm0 hr, Option.bind_some]
        exact J0 _ (by rw [hcn]; rfl)
theorem ctx_loop (hP : isP p = true) {r : List Term × Bool} (h0 : GoodC r.1) : ∀ m n, n + m = p.length →
    iter (m_spec_l05Contexts_L0 p r) (allC p r.1 n, hasC p r.1 n, rtC p r.1 n, flr p r.1 (-1) 0 n, (n : Int)) = some (allC p r.1 p.length, hasC p r.1 p.length, flr p r.1 (-1) 0 p.length) := by
  intro m
  induction m with
  | zero =>
    intro n hn
    obtain rfl : n = p.length := by omega
    rw [iter_out (t := (allC p r.1 p.length, hasC p r.1 p.length, flr p r.1 (-1) 0 p.length))]
    unfold m_spec_l05Contexts_L0
    simp only
    rw [dec_self]; rfl
  | succ m ih =>
    intro n hn
    rw [iter_next (ctx_step hP h0 (by omega))]
    exact ih (n + 1) (by omega)
theorem impl_with_ok {c : List Term} {t : Term} (h : c.length ≤ 20) : m_impl_with c t = some (c ++ [t]) := by
  unfold m_impl_with m_slices_Clone_impl_Term_impl_Term
  rw [capI_some (by simp; omega), Option.bind_some, Option.bind_some, List.nil_append, capI_some (by simp; omega)]; rfl
theorem flr_flaw (hP : isP p = true) {k : Nat} {f : Int} {c : List Term} (hk : k < p.length) (hc : cA p c0 k = some c) (hr : rt p c0 k = false) :
    flr p c0 f k (endN p k - k) = if f < 0 then (k : Int) else f := by
  obtain ⟨_, _, _, h3, _, _, _⟩ := end_spec hP hk
  rw [show endN p k - k = 1 + (endN p k - k - 1) by omega, flr_add, flr_clear _ _ _ (fun j h1 h2 => by
    unfold bad; rw [below_flaw hP hk hr j (by omega) (by omega)]; rfl)]
  show (if f < 0 ∧ bad p c0 (k + 0) = true then ((k + 0 : Nat) : Int) else f) = _
  have hb : bad p c0 (k + 0) = true := by unfold bad; rw [Nat.add_zero, hc, hr]; rfl
  rw [hb]
  simp
theorem J2_ok (hP : isP p = true) {k : Nat} {c : List Term} {st : checking} {r : Int × Int × Bool} (hk : k < p.length) (hs : st.proof = p) (hc : cA p c0 k = some c) (hr : rt p c0 k = false) (hr1 : r.1 = (endN p k : Int)) :
    ∃ m, m_impl_checking_examine_F_J2 st (k : Int) c r () = some ((endN p k : Int), checking.mk p m (flr p c0 st.flaw k (endN p k - k))) := by
  unfold m_impl_checking_examine_F_J2
  rw [flr_flaw hP hk hc hr, hr1, hs]
  by_cases h : st.flaw < 0
  · rw [decide_eq_true h, cond_true, if_pos h]; exact ⟨_, rfl⟩
  · rw [decide_eq_false h, cond_false, if_neg h]; exact ⟨_, rfl⟩
theorem dec_lt20 {α : Type} (xs : List α) : decide ((xs.length : Int) < (20 : Int)) = !decide (20 ≤ xs.length) := by
  by_cases h : 20 ≤ xs.length
  · rw [decide_eq_true h, decide_eq_false (by omega)]; rfl
  · rw [decide_eq_false h, decide_eq_true (by omega)]; rfl
theorem isIndex_c {f : Int} {n : Nat} (h0 : 0 ≤ f) (hn : n ≤ 1000) : m_impl_isIndex f (n : Int) = some (decide (f.toNat < n)) := by
  unfold m_impl_isIndex m_impl_within m_impl_size
  simp only [Option.bind_some]
  rw [w64_eq (by omega)]
  congr 1
  by_cases h : f.toNat < n
  · rw [decide_eq_true h, decide_eq_true h0, decide_eq_true (by omega)]; rfl
  · rw [decide_eq_false h, decide_eq_false (show ¬ f ≤ (n : Int) - 1 by omega), Bool.and_false]
theorem examine_ok (hP : isP p = true) (h0 : GoodC c0) : ∀ (fu k : Nat) (c : List Term) (st : checking), st.proof = p → k < p.length → p.length - k < fu → cA p c0 k = some c →
    ∃ m, m_impl_checking_examine fu st (k : Int) c = some ((endN p k : Int), checking.mk p m (flr p c0 st.flaw k (endN p k - k))) := by
  have h60 := (isP_iff.1 hP).1
  intro fu
  induction fu with
  | zero => intro k c st _ _ h; omega
  | succ fu ih =>
    intro k c st hs hk hf hc
    have hg := cA_good hP h0 k c hk hc
    obtain ⟨x, a, hx, ha, _⟩ := node_at hP hk
    obtain ⟨r, hr, e2, e3, e4, _, _⟩ := end_spec hP hk
    obtain ⟨d, _, hb⟩ := behind_ok (p := p) (by omega) 1000 k (by omega) (by omega)
    rw [hr] at hb
    simp only at hb
    rw [← e2] at hb
    have hrt := rt_of hc hx
    have hJ2 := fun h => J2_ok (st := st) (r := ((endN p k : Int), (d : Int), true)) hP hk hs hc h rfl
    have hst := end_step hP hx ha
    have hmk : ∀ m, (checking.mk st.proof m st.flaw).proof = p := fun m => hs
    show ∃ m, m_impl_checking_examine_F (m_impl_checking_examine fu) st (k : Int) c = _
    unfold m_impl_checking_examine_F
    rw [hs, hb, Option.bind_some, getI_some hx, Option.bind_some]
    -- the node is right, and nothing is flawed at it
    have hone : rightB x c = true → ∀ f, flr p c0 f k 1 = f := fun h f => flr_clear f k 1 (fun j h1 h2 => by
      obtain rfl : j = k := by omega
      unfold bad; rw [hrt, h]; simp)
    rcases ar_cases ha with ⟨hkd, a0, hm⟩ | ⟨hkd, a2, hv⟩ | ⟨hkd, a1, hf1⟩
    · rw [decide_eq_true hkd, cond_true, impl_closes' hg hm, Option.bind_some]
      have hrb : rightB x c = closesB c x.Multipliers := by unfold rightB; rw [decide_eq_true hkd]; rfl
      cases hcl : closesB c x.Multipliers with
      | true =>
        rw [cond_true]
        have := hst.1 a0
        rw [this, show k + 1 - k = 1 by omega, hone (hrb.trans hcl)]
        exact ⟨_, rfl⟩
      | false => rw [cond_false]; exact hJ2 (by rw [hrt, hrb, hcl])
    · rw [decide_eq_false (show ¬ x.Kind = 1 by omega), cond_false, decide_eq_true hkd, cond_true, impl_opposite hv, Option.bind_some, dec_lt20]
      have hrb : rightB x c = bif decide (20 ≤ c.length) then false else vT (opp x.Term) := by
        unfold rightB; rw [decide_eq_false (show ¬ x.Kind = 1 by omega), cond_false, decide_eq_true hkd]; rfl
      obtain ⟨g1, g2, g3⟩ := hst.2.2 a2
      by_cases hl : 20 ≤ c.length
      · rw [decide_eq_true hl] at hrb ⊢
        rw [Bool.not_true, cond_false]
        unfold m_impl_checking_examine_F_J0
        rw [cond_false]
        exact hJ2 (by rw [hrt, hrb]; rfl)
      · rw [decide_eq_false hl] at hrb ⊢
        rw [Bool.not_false, cond_true, impl_valid, Option.bind_some]
        unfold m_impl_checking_examine_F_J0
        cases hvo : vT (opp x.Term) with
        | false => rw [cond_false]; exact hJ2 (by rw [hrt, hrb, hvo]; rfl)
        | true =>
          rw [hvo, cond_false] at hrb
          rw [cond_true, impl_with_ok hg.2, Option.bind_some, w64_succ (by omega)]
          obtain ⟨_, _, _, q3, q4, _, _⟩ := end_spec hP g1
          obtain ⟨_, _, _, t3, t4, _, _⟩ := end_spec hP g2
          -- the first subproof
          have hp1 : parGo p (k + 1) (k + 1) = some k := parGo_is (by omega) (by omega) (fun j h1 h2 => by omega)
          have hc1 : cA p c0 (k + 1) = some (c ++ [x.Term]) := by
            rw [cA_par (by omega) hp1 hx, hc]
            simp only
            rw [if_pos hrb]
            unfold belowB
            rw [decide_eq_false (show ¬ x.Kind = 3 by omega), cond_false]
            simp
          obtain ⟨m1, i1⟩ := ih (k + 1) _ (checking.mk st.proof (mput st.contexts (k : Int) c) st.flaw) hs g1 (by omega) hc1
          rw [i1, Option.bind_some, impl_with_ok hg.2, Option.bind_some]
          -- the second one
          have hp2 : parGo p (endN p (k + 1)) (endN p (k + 1)) = some k := parGo_is (by omega) (by omega) (fun j h1 h2 => by
            by_cases hj : j = k + 1
            · subst hj; exact Nat.le_refl _
            · exact end_nest hP (by omega) h2)
          have hc2 : cA p c0 (endN p (k + 1)) = some (c ++ [opp x.Term]) := by
            rw [cA_par (by omega) hp2 hx, hc]
            simp only
            rw [if_pos hrb]
            unfold belowB
            rw [decide_eq_false (show ¬ x.Kind = 3 by omega), cond_false, decide_eq_false (show ¬ k + 1 = endN p (k + 1) by omega), cond_false]
          simp only
          obtain ⟨m2, i2⟩ := ih (endN p (k + 1)) _ (checking.mk p m1 (flr p c0 st.flaw (k + 1) (endN p (k + 1) - (k + 1)))) rfl g2 (by omega) hc2
          rw [i2, Option.bind_some]
          refine ⟨m2, ?_⟩
          simp only
          rw [g3, show endN p (endN p (k + 1)) - k = 1 + (endN p (k + 1) - (k + 1)) + (endN p (endN p (k + 1)) - endN p (k + 1)) by omega, flr_add, flr_add, hone hrb,
            show k + (1 + (endN p (k + 1) - (k + 1))) = endN p (k + 1) by omega]
    · rw [decide_eq_false (show ¬ x.Kind = 1 by omega), cond_false, decide_eq_false (show ¬ x.Kind = 2 by omega), cond_false, decide_eq_true hkd, cond_true, dec_lt20]
      have hrb : rightB x c = bif decide (20 ≤ c.length) then false else (match c[x.Fact.toNat]? with | some t => (fTight t).2 | none => false) := by
        unfold rightB; rw [decide_eq_false (show ¬ x.Kind = 1 by omega), cond_false, decide_eq_false (show ¬ x.Kind = 2 by omega), cond_false]; rfl
      obtain ⟨g1, g3⟩ := hst.2.1 a1
      by_cases hl : 20 ≤ c.length
      · rw [decide_eq_true hl] at hrb ⊢
        rw [Bool.not_true, cond_false]
        unfold m_impl_checking_examine_F_J1
        rw [cond_false]
        exact hJ2 (by rw [hrt, hrb]; rfl)
      · rw [decide_eq_false hl, cond_false] at hrb
        rw [decide_eq_false hl, Bool.not_false, cond_true, isIndex_c hf1.1 (by have := hg.2; omega), Option.bind_some]
        unfold m_impl_checking_examine_F_J1
        cases hgt : c[x.Fact.toNat]? with
        | none =>
          rw [decide_eq_false (by have := List.getElem?_eq_none_iff.1 hgt; omega), cond_false]
          exact hJ2 (by rw [hrt, hrb, hgt])
        | some t =>
          have hlt := (List.getElem?_eq_some_iff.1 hgt).1
          rw [hgt] at hrb
          simp only at hrb
          have hgi : getI c x.Fact = some t := by
            have := getI_some hgt
            rwa [Int.toNat_of_nonneg hf1.1] at this
          rw [decide_eq_true hlt, cond_true, hgi, Option.bind_some, impl_tight' (hg.1 t (List.mem_of_getElem? hgt)), Option.bind_some]
          cases hti : (fTight t).2 with
          | false => rw [cond_false]; exact hJ2 (by rw [hrt, hrb, hti])
          | true =>
            rw [hti] at hrb
            rw [cond_true, impl_with_ok hg.2, Option.bind_some, w64_succ (by omega)]
            obtain ⟨_, _, _, q3, q4, _, _⟩ := end_spec hP g1
            have hp1 : parGo p (k + 1) (k + 1) = some k := parGo_is (by omega) (by omega) (fun j h1 h2 => by omega)
            have hc1 : cA p c0 (k + 1) = some (c ++ [(fTight t).1]) := by
              rw [cA_par (by omega) hp1 hx, hc]
              simp only
              rw [if_pos hrb]
              unfold belowB
              rw [decide_eq_true hkd, cond_true, show tAt c x.Fact.toNat = t by unfold tAt; rw [hgt]; rfl]
            obtain ⟨m1, i1⟩ := ih (k + 1) _ (checking.mk st.proof (mput st.contexts (k : Int) c) st.flaw) hs g1 (by omega) hc1
            rw [i1, Option.bind_some]
            refine ⟨m1, ?_⟩
            simp only
            rw [g3, show endN p (k + 1) - k = 1 + (endN p (k + 1) - (k + 1)) by omega, flr_add, hone hrb]
end
def fFlaw (s : Sequent) (p : List Node) : Option Int := bif (fCtx s).2 && isP p then some (flr p (fCtx s).1 (-1) 0 p.length) else none
theorem ctx_goodC {s : Sequent} (h : (fCtx s).2 = true) : GoodC (fCtx s).1 := by
  obtain ⟨h1, h2, h3, h4⟩ := ctx_lin h
  exact ⟨h4, by rw [h2]; simp; omega⟩
theorem impl_examined_ok {s : Sequent} {p : List Node} (hl : cSeq s ≤ 1048576) : match fFlaw s p with
    | some f => ∃ m, m_impl_examined s p = some (checking.mk p m f, true)
    | none => m_impl_examined s p = some (default, false) := by
  unfold fFlaw m_impl_examined
  rw [impl_ctx hl, Option.bind_some]
  cases hc : (fCtx s).2 with
  | false => rfl
  | true =>
    rw [Bool.not_true, cond_false, impl_isP, Option.bind_some, Bool.true_and]
    cases hP : isP p with
    | false => rfl
    | true =>
      rw [Bool.not_true, cond_false, cond_true]
      have h60 := (isP_iff.1 hP).1
      obtain ⟨m, hm⟩ := examine_ok hP (ctx_goodC hc) 1000 0 (fCtx s).1 (checking.mk p [] (-1)) rfl (isP_pos hP) (by omega) cA_zero
      rw [end_zero hP] at hm
      exact ⟨m, by rw [show (0 : Int) = ((0 : Nat) : Int) from rfl, hm]; rfl⟩
theorem spec_contexts_ok {s : Sequent} {p : List Node} (hl : cSeq s ≤ 1048576) (hv : vSeq s = true) (hP : isP p = true) :
    m_spec_l05Contexts s p = some (bif (fCtx s).2 then (allC p (fCtx s).1 p.length, hasC p (fCtx s).1 p.length, flr p (fCtx s).1 (-1) 0 p.length, true) else ([], [], 0, false)) := by
  unfold m_spec_l05Contexts
  rw [spec_context hl hv, Option.bind_some]
  cases hc : (fCtx s).2 with
  | false => rfl
  | true =>
    rw [Bool.not_true, cond_false, cond_true]
    have := ctx_loop hP (ctx_goodC hc) p.length 0 (by omega)
    rw [show ((0 : Nat) : Int) = 0 from rfl] at this
    rw [show (([] : List (List Term)), ([] : List Bool), ([] : List Bool), (-1 : Int), (0 : Int)) = (allC p (fCtx s).1 0, hasC p (fCtx s).1 0, rtC p (fCtx s).1 0, flr p (fCtx s).1 (-1) 0 0, (0 : Int)) from rfl, this]; rfl
theorem ctx_v {s : Sequent} (h : vSeq s = false) : (fCtx s).2 = false := by unfold fCtx; rw [h]; rfl
theorem spec_flaw_ok {s : Sequent} {p : List Node} (hl : cSeq s ≤ 1048576) (hc : pc_NodeS p ≤ 1048576) : m_spec_FirstFlaw s p = some (match fFlaw s p with | some f => bif decide (f < 0) then (0, false) else (f, true) | none => (0, false)) ∧
    m_spec_CheckProof s p = some (match fFlaw s p with | some f => decide (f < 0) | none => false) := by
  unfold m_spec_FirstFlaw m_spec_CheckProof m_spec_l05Check fFlaw
  rw [spec_seq hl, Option.bind_some, Option.bind_some]
  cases hv : vSeq s with
  | false => rw [ctx_v hv]; exact ⟨rfl, rfl⟩
  | true =>
    rw [Bool.not_true, cond_false, cond_false, spec_isP hc, Option.bind_some, Option.bind_some]
    cases hP : isP p with
    | false => rw [Bool.and_false]; exact ⟨rfl, rfl⟩
    | true =>
      rw [Bool.not_true, cond_false, cond_false, spec_contexts_ok hl hv hP, Option.bind_some, Option.bind_some, Bool.and_true]
      cases hcx : (fCtx s).2 with
      | false => exact ⟨rfl, rfl⟩
      | true =>
        simp only [cond_true, Bool.not_true, Bool.false_or, Bool.true_and, Option.bind_some]
        refine ⟨?_, trivial⟩
        cases decide (flr p (fCtx s).1 (-1) 0 p.length < 0) <;> rfl
theorem impl_flaw_ok {s : Sequent} {p : List Node} (hl : cSeq s ≤ 1048576) : m_impl_FirstFlaw s p = some (match fFlaw s p with | some f => bif decide (f < 0) then (0, false) else (f, true) | none => (0, false)) ∧
    m_impl_CheckProof s p = some (match fFlaw s p with | some f => decide (f < 0) | none => false) := by
  have h := impl_examined_ok (p := p) hl
  unfold m_impl_FirstFlaw m_impl_CheckProof
  cases hf : fFlaw s p with
  | none => rw [hf] at h; simp only at h; rw [h]; exact ⟨rfl, rfl⟩
  | some f =>
    rw [hf] at h
    obtain ⟨m, hm⟩ := h
    rw [hm]
    simp only [Option.bind_some, cond_true]
    refine ⟨?_, trivial⟩
    cases decide (f < 0) <;> rfl
theorem same_FirstFlaw (p0 : Sequent) (p1 : List Node) (k0 : k_Sequent p0) (k1 : kLa_Node p1) (h0 : pc_Sequent p0 ≤ 1048576) (h1 : pc_NodeS p1 ≤ 1048576) :
    ∃ r, m_spec_FirstFlaw p0 p1 = some r ∧ m_impl_FirstFlaw p0 p1 = some r := ⟨_, (spec_flaw_ok h0 h1).1, (impl_flaw_ok h0).1⟩
end Go.Mod

namespace Go.Mod
open Go.AM
set_option linter.unusedVariables false
set_option linter.unusedSimpArgs false
theorem law_FirstFlaw {p0 : Sequent} {p1 : List Node} (k0 : k_Sequent p0) (k1 : kLa_Node p1) : m_laws_FnExactFirstFlaw p0 p1 = some true := by
  unfold m_laws_FnExactFirstFlaw
  rw [show (1048576 : Int) = ((1048576 : Nat) : Int) from rfl]
  rw [pz_Sequent k0 _ (by omega), Option.bind_some]
  by_cases h0 : pc_Sequent p0 ≤ 1048576
  · rw [szOut_ok h0, dec_neg, cond_false]
    rw [pz_NodeS k1 _ (by omega), Option.bind_some]
    by_cases h1 : pc_NodeS p1 ≤ 1048576 - pc_Sequent p0
    · rw [szOut_ok h1, dec_neg, cond_false]
      obtain ⟨⟨r0_, r1_⟩, e1, e2⟩ := same_FirstFlaw p0 p1 k0 k1 (show pc_Sequent p0 ≤ 1048576 by omega) (show pc_NodeS p1 ≤ 1048576 by omega)
      have q0 := pq_Sequent_le p0
      have q1 := pq_NodeS_le p1
      obtain ⟨am0_0, am0_1, m0, -⟩ := pm_Sequent (show pc_Sequent p0 ≤ 1048576 by omega) (k := 1) (by omega)
      replace m0 : m_laws_markSequent p0 1 = _ := m0
      obtain ⟨am1_0, m1, -⟩ := pm_NodeS (show pc_NodeS p1 ≤ 1048576 by omega) (k := 1 + pq_Sequent p0) (by omega)
      simp only [Option.bind_some, cond_false, cond_true, dec_neg, e1, e2, decide_true, bool_beq, Bool.not_true, Bool.or_false, Bool.false_eq_true, pt_Sequent (show pc_Sequent p0 ≤ 1048576 by omega), pe_Sequent (show pc_Sequent p0 ≤ 1048576 by omega), pt_NodeS (show pc_NodeS p1 ≤ 1048576 by omega), pe_NodeS (show pc_NodeS p1 ≤ 1048576 by omega), m0, m1]
    · rw [szOut_no h1]; rfl
  · rw [szOut_no h0]; rfl
end Go.Mod
