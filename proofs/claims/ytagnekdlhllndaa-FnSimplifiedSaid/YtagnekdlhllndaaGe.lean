import Derived.Test.YtagnekdlhllndaaGd
namespace Go.Mod
open Go.AM
set_option linter.unusedVariables false
set_option linter.unusedSimpArgs false
def wf (s : running) (g : Int) : running := running.mk s.state s.events g s.steps s.out
theorem act_wf (x : Stmt) (s : running) (g : Int) : act x (wf s g) = ((act x s).1, wf (act x s).2 g) := by
  unfold act wf
  simp only [Bool.cond_eq_ite]
  repeat' split
  all_goals rfl
theorem act_out (x : Stmt) (s : running) : ((act x s).1 = true → (act x s).2.out = s.out) ∧ ((act x s).1 = false → (act x s).2.out = 2 ∨ (act x s).2.out = 3 ∨ (act x s).2.out = 4) := by
  unfold act
  simp only [Bool.cond_eq_ite]
  repeat' split
  all_goals simp [halt]
theorem act_events (x : Stmt) (s : running) : ∃ e, (act x s).2.events = s.events ++ e := by
  unfold act
  simp only [Bool.cond_eq_ite]
  repeat' split
  all_goals first | exact ⟨[_], rfl⟩ | exact ⟨[], by simp [halt]⟩
theorem Run.out {t : Ptree} {s s' : running} {b : Bool} (h : Run t s b s') : (b = true → s'.out = s.out) ∧ (b = false → (s'.out = 1 ∧ s'.steps = s'.fuel) ∨ s'.out = 2 ∨ s'.out = 3 ∨ s'.out = 4) := by
  induction h with
  | seqT _ _ _ ih1 ih2 => exact ⟨fun hb => (ih2.1 hb).trans (ih1.1 rfl), ih2.2⟩
  | seqF _ _ ih => exact ih
  | stop _ hf => exact ⟨fun h => (by cases h), fun _ => .inl ⟨rfl, hf⟩⟩
  | act _ _ _ _ => obtain ⟨h1, h2⟩ := act_out _ _; exact ⟨fun hb => h1 hb, fun hb => .inr (h2 hb)⟩
  | ifT _ _ _ _ ih => exact ih
  | ifF _ _ _ _ ih => exact ih
  | whE _ _ _ => exact ⟨fun _ => rfl, fun h => by cases h⟩
  | whF _ _ _ _ ih => exact ih
  | whT _ _ _ _ _ ih1 ih2 => exact ⟨fun hb => (ih2.1 hb).trans (ih1.1 rfl), ih2.2⟩
theorem Run.events {t : Ptree} {s s' : running} {b : Bool} (h : Run t s b s') : ∃ e, s'.events = s.events ++ e := by
  induction h with
  | seqT _ _ _ ih1 ih2 => obtain ⟨e1, h1⟩ := ih1; obtain ⟨e2, h2⟩ := ih2; exact ⟨e1 ++ e2, by rw [h2, h1, List.append_assoc]⟩
  | seqF _ _ ih => exact ih
  | stop _ _ => exact ⟨[], by simp [halt]⟩
  | @act x a ks s _ _ _ _ => exact act_events x (tick s)
  | ifT _ _ _ _ ih => exact ih
  | ifF _ _ _ _ ih => exact ih
  | whE _ _ _ => exact ⟨[], by simp [tick]⟩
  | whF _ _ _ _ ih => exact ih
  | whT _ _ _ _ _ ih1 ih2 => obtain ⟨e1, h1⟩ := ih1; obtain ⟨e2, h2⟩ := ih2; exact ⟨e1 ++ e2, by rw [h2, h1, List.append_assoc]; rfl⟩
theorem Run.le {t : Ptree} {s s' : running} {b : Bool} (h : Run t s b s') : s.steps ≤ s'.steps := by
  induction h with
  | seqT _ _ _ ih1 ih2 => exact Int.le_trans ih1 ih2
  | seqF _ _ ih => exact ih
  | stop _ _ => exact Int.le_refl _
  | @act x a ks s _ _ _ _ => rw [(act_keep x (tick s)).2.1]; show s.steps ≤ s.steps + 1; omega
  | @ifT x a l r s b s' _ _ _ _ ih => have : (tick s).steps = s.steps + 1 := rfl; omega
  | @ifF x a l r s b s' _ _ _ _ ih => have : (tick s).steps = s.steps + 1 := rfl; omega
  | @whE x a l s _ _ _ => show s.steps ≤ s.steps + 1; omega
  | @whF x a l s s' _ _ _ _ ih => have : (tick s).steps = s.steps + 1 := rfl; omega
  | @whT x a l s s1 b s2 _ _ _ _ _ ih1 ih2 => have : (tick s).steps = s.steps + 1 := rfl; omega
theorem Run.fuel {t : Ptree} {s s' : running} {b : Bool} (h : Run t s b s') : ∀ g, s'.steps ≤ g → (b = true ∨ s'.out ≠ 1) → Run t (wf s g) b (wf s' g) := by
  induction h with
  | @seqT x a l r s s1 s2 b hk h1 h2 ih1 ih2 =>
    intro g hg ho
    exact .seqT hk (ih1 g (Int.le_trans h2.le hg) (.inl rfl)) (ih2 g hg ho)
  | seqF hk h1 ih => intro g hg ho; exact .seqF hk (ih g hg ho)
  | stop _ _ => intro g hg ho; rcases ho with h | h; cases h; exact absurd rfl h
  | @act x a ks s h1 h7 h8 hf =>
    intro g hg ho
    rw [(act_keep x (tick s)).2.1] at hg
    have e := act_wf x (tick s) g
    have := Run.act (a := a) (ks := ks) (s := wf s g) h1 h7 h8 (by show s.steps ≠ g; have : s.steps + 1 ≤ g := hg; omega)
    rw [show tick (wf s g) = wf (tick s) g from rfl, e] at this
    exact this
  | @ifT x a l r s b s' hk hf hs h1 ih => intro g hg ho; have := h1.le; have e : (tick s).steps = s.steps + 1 := rfl; exact .ifT hk (by show s.steps ≠ g; omega) hs (ih g hg ho)
  | @ifF x a l r s b s' hk hf hs h1 ih => intro g hg ho; have := h1.le; have e : (tick s).steps = s.steps + 1 := rfl; exact .ifF hk (by show s.steps ≠ g; omega) hs (ih g hg ho)
  | @whE x a l s hk hf hs => intro g hg ho; exact .whE hk (by show s.steps ≠ g; have : s.steps + 1 ≤ g := hg; omega) hs
  | @whF x a l s s' hk hf hs h1 ih => intro g hg ho; have := h1.le; have e : (tick s).steps = s.steps + 1 := rfl; exact .whF hk (by show s.steps ≠ g; omega) hs (ih g hg ho)
  | @whT x a l s s1 b s2 hk hf hs h1 h2 ih1 ih2 =>
    intro g hg ho
    have := h1.le
    have := h2.le
    have e : (tick s).steps = s.steps + 1 := rfl
    exact .whT hk (by show s.steps ≠ g; omega) hs (ih1 g (by omega) (.inl rfl)) (ih2 g hg ho)
def sh (c : Int) (pre : List Int) (s : running) : running := running.mk s.state (pre ++ s.events) (s.fuel + c) (s.steps + c) s.out
theorem act_sh (x : Stmt) (s : running) (c : Int) (pre : List Int) : act x (sh c pre s) = ((act x s).1, sh c pre (act x s).2) := by
  unfold act sh
  simp only [Bool.cond_eq_ite]
  repeat' split
  all_goals simp [halt]
theorem tick_sh (s : running) (c : Int) (pre : List Int) : tick (sh c pre s) = sh c pre (tick s) := by
  unfold tick sh
  simp only [running.mk.injEq, true_and, and_true]
  omega
theorem Run.shift {t : Ptree} {s s' : running} {b : Bool} (c : Int) (pre : List Int) (h : Run t s b s') : Run t (sh c pre s) b (sh c pre s') := by
  induction h with
  | seqT hk _ _ ih1 ih2 => exact .seqT hk ih1 ih2
  | seqF hk _ ih => exact .seqF hk ih
  | @stop x a ks s h1 hf => exact .stop h1 (by show s.steps + c = s.fuel + c; rw [hf])
  | @act x a ks s h1 h7 h8 hf =>
    have := Run.act (a := a) (ks := ks) (s := sh c pre s) h1 h7 h8 (by show s.steps + c ≠ s.fuel + c; omega)
    rw [tick_sh, act_sh] at this
    exact this
  | @ifT x a l r s b s' hk hf hs _ ih => exact .ifT hk (by show s.steps + c ≠ s.fuel + c; omega) hs (by rw [tick_sh]; exact ih)
  | @ifF x a l r s b s' hk hf hs _ ih => exact .ifF hk (by show s.steps + c ≠ s.fuel + c; omega) hs (by rw [tick_sh]; exact ih)
  | @whE x a l s hk hf hs => have := Run.whE (a := a) (l := l) (s := sh c pre s) hk (by show s.steps + c ≠ s.fuel + c; omega) hs; rw [tick_sh] at this; exact this
  | @whF x a l s s' hk hf hs _ ih => exact .whF hk (by show s.steps + c ≠ s.fuel + c; omega) hs (by rw [tick_sh]; exact ih)
  | @whT x a l s s1 b s2 hk hf hs _ _ ih1 ih2 => exact .whT hk (by show s.steps + c ≠ s.fuel + c; omega) hs (by rw [tick_sh]; exact ih1) ih2
theorem fl_two {a b c d : Ptree} (ha : okT a) (hb : okT b) (hc : okT c) (hd : okT d) (h : fl a ++ fl b = fl c ++ fl d) : fl a = fl c ∧ fl b = fl d := by
  have h1 := okT_go a (fl b) ha
  have h2 := okT_go c (fl d) hc
  rw [h, h2] at h1
  have e : fl d = fl b := Option.some.inj h1
  rw [e] at h
  exact ⟨List.append_cancel_right h, e.symm⟩
theorem ks2 {x : Stmt} {a : Int} {l r : Ptree} {t : Ptree} (h : okT (.mk x a [l, r])) (ht : okT t) (hf : fl (.mk x a [l, r]) = fl t) : ∃ a' l' r', t = .mk x a' [l', r'] ∧ okT l ∧ okT r ∧ okT l' ∧ okT r' ∧ fl l = fl l' ∧ fl r = fl r' := by
  cases t with
  | nil => unfold okT at ht; exact ht.elim
  | mk x' a' ks =>
    unfold fl at hf
    obtain ⟨rfl, hf2⟩ := List.cons.inj hf
    unfold okT at h ht
    have : ks.length = 2 := by have := h.1.symm.trans ht.1; simpa using this.symm
    obtain ⟨l', r', rfl⟩ := two this.symm
    obtain ⟨o1, o2⟩ := okL2 h.2
    obtain ⟨o3, o4⟩ := okL2 ht.2
    rw [flL2, flL2] at hf2
    obtain ⟨f1, f2⟩ := fl_two o1 o2 o3 o4 hf2
    exact ⟨a', l', r', rfl, o1, o2, o3, o4, f1, f2⟩
theorem ks1 {x : Stmt} {a : Int} {l : Ptree} {t : Ptree} (h : okT (.mk x a [l])) (ht : okT t) (hf : fl (.mk x a [l]) = fl t) : ∃ a' l', t = .mk x a' [l'] ∧ okT l ∧ okT l' ∧ fl l = fl l' := by
  cases t with
  | nil => unfold okT at ht; exact ht.elim
  | mk x' a' ks =>
    unfold fl at hf
    obtain ⟨rfl, hf2⟩ := List.cons.inj hf
    unfold okT at h ht
    have : ks.length = 1 := by have := h.1.symm.trans ht.1; simpa using this.symm
    obtain ⟨l', rfl⟩ := one' this.symm
    rw [flL1, flL1] at hf2
    exact ⟨a', l', rfl, okL1 h.2, okL1 ht.2, hf2⟩
theorem Run.same {t : Ptree} {s s' : running} {b : Bool} (h : Run t s b s') : ∀ t', okT t → okT t' → fl t = fl t' → Run t' s b s' := by
  induction h with
  | seqT hk _ _ ih1 ih2 => intro t' h1 h2 hf; obtain ⟨a', l', r', rfl, o1, o2, o3, o4, f1, f2⟩ := ks2 h1 h2 hf; exact .seqT hk (ih1 _ o1 o3 f1) (ih2 _ o2 o4 f2)
  | seqF hk _ ih => intro t' h1 h2 hf; obtain ⟨a', l', r', rfl, o1, o2, o3, o4, f1, f2⟩ := ks2 h1 h2 hf; exact .seqF hk (ih _ o1 o3 f1)
  | @stop x a ks s hk hn =>
    intro t' h1 h2 hf
    cases t' with
    | nil => unfold okT at h2; exact h2.elim
    | mk x' a' ks' => unfold fl at hf; obtain ⟨rfl, _⟩ := List.cons.inj hf; exact .stop hk hn
  | @act x a ks s k1 k7 k8 hn =>
    intro t' h1 h2 hf
    cases t' with
    | nil => unfold okT at h2; exact h2.elim
    | mk x' a' ks' => unfold fl at hf; obtain ⟨rfl, _⟩ := List.cons.inj hf; exact .act k1 k7 k8 hn
  | ifT hk hn hs _ ih => intro t' h1 h2 hf; obtain ⟨a', l', r', rfl, o1, o2, o3, o4, f1, f2⟩ := ks2 h1 h2 hf; exact .ifT hk hn hs (ih _ o1 o3 f1)
  | ifF hk hn hs _ ih => intro t' h1 h2 hf; obtain ⟨a', l', r', rfl, o1, o2, o3, o4, f1, f2⟩ := ks2 h1 h2 hf; exact .ifF hk hn hs (ih _ o2 o4 f2)
  | whE hk hn hs => intro t' h1 h2 hf; obtain ⟨a', l', rfl, o1, o2, f1⟩ := ks1 h1 h2 hf; exact .whE hk hn hs
  | whF hk hn hs _ ih => intro t' h1 h2 hf; obtain ⟨a', l', rfl, o1, o2, f1⟩ := ks1 h1 h2 hf; exact .whF hk hn hs (ih _ o1 o2 f1)
  | whT hk hn hs _ _ ih1 ih2 => intro t' h1 h2 hf; have h3 := h2; obtain ⟨a', l', rfl, o1, o2, f1⟩ := ks1 h1 h2 hf; exact .whT hk hn hs (ih1 _ o1 o2 f1) (ih2 _ h1 h3 hf)
theorem all_set {xs : List Int} {i : Nat} {v : Int} (h : xs.all inInt = true) (hv : inInt v = true) : (xs.set i v).all inInt = true := by
  rw [List.all_eq_true] at *
  intro x hx
  rcases List.mem_or_eq_of_mem_set hx with hx | rfl
  · exact h x hx
  · exact hv
theorem act_ok {x : Stmt} {s : running} (h : s.state.Vars.all inInt = true ∧ s.state.Cells.all inInt = true) : (act x s).2.state.Vars.all inInt = true ∧ (act x s).2.state.Cells.all inInt = true := by
  have hg : inInt (s.state.Cells.getD (evT x.Index s.state.Vars).toNat 0) = true := by
    rw [List.getD_eq_getElem?_getD]
    cases hc : s.state.Cells[(evT x.Index s.state.Vars).toNat]? with
    | none => rfl
    | some v => exact (List.all_eq_true.1 h.2) v (List.mem_of_getElem? hc)
  unfold act
  generalize evT x.Sum s.state.Vars = n
  generalize evT x.Index s.state.Vars = i at *
  simp only [Bool.cond_eq_ite, Bool.and_eq_true, Bool.or_eq_true, decide_eq_true_eq, Bool.not_eq_true']
  repeat' split
  all_goals first
    | exact h
    | (refine ⟨all_set h.1 ?_, h.2⟩; rename_i h1 h2 h3; cases hb : inInt n with
        | true => rfl
        | false => exact absurd ⟨.inl h3, hb⟩ h2)
    | exact ⟨all_set h.1 hg, h.2⟩
    | (refine ⟨h.1, all_set h.2 ?_⟩; rename_i h1 h2 h3 h4 h5; cases hb : inInt n with
        | true => rfl
        | false => exact absurd ⟨.inr h5, hb⟩ h2)
theorem Run.state {t : Ptree} {s s' : running} {b : Bool} (h : Run t s b s') : s.state.Vars.all inInt = true ∧ s.state.Cells.all inInt = true → s'.state.Vars.all inInt = true ∧ s'.state.Cells.all inInt = true := by
  induction h with
  | seqT _ _ _ ih1 ih2 => exact fun h => ih2 (ih1 h)
  | seqF _ _ ih => exact ih
  | stop _ _ => exact fun h => h
  | @act x a ks s _ _ _ _ => exact fun h => act_ok (s := tick s) h
  | ifT _ _ _ _ ih => exact ih
  | ifF _ _ _ _ ih => exact ih
  | whE _ _ _ => exact fun h => h
  | whF _ _ _ _ ih => exact ih
  | whT _ _ _ _ _ ih1 ih2 => exact fun h => ih2 (ih1 h)
theorem st_loop (m : Nat) {step : (List Int) × Int × Int × (List Int) × Int → Option (Ctl ((List Int) × Int × Int × (List Int) × Int) ((List Int) × Int × Int × (List Int)))} (hm : m ≤ 8)
    (hstep : ∀ s0, step s0 = bif (decide (s0.2.2.2.2 < (m : Int))) then
      (QP (l00Src.mk s0.1 s0.2.1 s0.2.2.1) (9 : Int)).bind fun r => (capI (s0.2.2.2.1.length + [(w64 (r.1 - (2 : Int)))].length) 8).bind fun _ =>
      some (.next (r.2.code, r.2.at_, r.2.seed, (s0.2.2.2.1 ++ [(w64 (r.1 - (2 : Int)))]), (w64 (s0.2.2.2.2 + (1 : Int))))) else some (.out (s0.1, s0.2.1, s0.2.2.1, s0.2.2.2.1))) :
    ∀ (n : Nat) (s : l00Src) (k : Nat) (l : List Int), l.length + n = m → Src s k → k + n ≤ 100000 → l.all inInt = true →
      ∃ s' l', iter step (s.code, s.at_, s.seed, l, (l.length : Int)) = some (s'.code, s'.at_, s'.seed, l') ∧ l'.length = m ∧ l'.all inInt = true ∧ Src s' (k + n) := by
  intro n
  induction n with
  | zero =>
    intro s k l hl hs hk ha
    refine ⟨s, l, iter_out ?_, hl, ha, hs⟩
    rw [hstep]
    simp only
    rw [decide_eq_false (by omega), cond_false]
  | succ n ih =>
    intro s k l hl hs hk ha
    obtain ⟨r, s', e, r0, r1, hs'⟩ := pick_ok (n := 9) hs (by omega) (by omega)
    have hr : r ≤ 8 := by omega
    have hc1 : l.length + 1 ≤ 8 := by omega
    have hlt : (l.length : Int) < (m : Int) := by omega
    have w1 := wsub (a := r) (b := 2) (by omega) (by omega) (by omega) (by omega)
    have w2 : w64 ((l.length : Int) + 1) = ((l.length + 1 : Nat) : Int) := w64_succ (Nat.lt_of_le_of_lt (Nat.le_of_succ_le hc1) (by decide))
    have st : step (s.code, s.at_, s.seed, l, (l.length : Int)) = some (.next (s'.code, s'.at_, s'.seed, l ++ [r - 2], (((l ++ [r - 2]).length : Nat) : Int))) := by
      rw [hstep]
      simp only
      rw [decide_eq_true hlt, cond_true, src_mk, e, Option.bind_some]
      simp only
      rw [w1, w2, Xr (by simp only [List.length_cons, List.length_nil]; exact Nat.le_trans (Nat.mul_le_mul_right 8 hc1) (by decide)), Option.bind_some, List.length_append]; rfl
    clear w1 w2
    obtain ⟨s2, l2, e2, hl2, ha2, hs2⟩ := ih s' (k + 1) (l ++ [r - 2]) (by rw [List.length_append]; simp only [List.length_cons, List.length_nil]; omega) hs' (by omega) (by
      rw [List.all_append, ha, List.all_cons]
      have : inInt (r - 2) = true := by unfold inInt; rw [decide_eq_true (by omega), decide_eq_true (by omega)]; rfl
      rw [this]; rfl)
    exact ⟨s2, l2, (iter_next st).trans e2, hl2, ha2, by rw [show k + (n + 1) = k + 1 + n by omega]; exact hs2⟩
theorem r8State_ok {code : List Int} (hc : ∀ x ∈ code, 0 ≤ x ∧ x ≤ 255) (hl : code.length ≤ 1048576) : ∃ s, m_spec_R8State code = some s ∧ okSt s = true := by
  obtain ⟨e, hs⟩ := from_ok hc hl
  obtain ⟨s1, l1, e1, n1, a1, hs1⟩ := st_loop 4 (step := m_spec_l03DrawState_L0) (by omega) (fun s0 => rfl) 4 _ 0 [] rfl hs (by omega) rfl
  obtain ⟨s2, l2, e2, n2, a2, hs2⟩ := st_loop 8 (step := m_spec_l03DrawState_L1) (by omega) (fun s0 => rfl) 8 s1 (0 + 4) [] rfl hs1 (by omega) rfl
  obtain ⟨b, s3, e3, hs3⟩ := one_ok (n := 8) hs2 (by omega) (by omega)
  unfold m_spec_R8State
  rw [e, Option.bind_some]
  unfold m_spec_l03DrawState
  have e1' : iter m_spec_l03DrawState_L0 (code, (0 : Int), (0 : Int), ([] : List Int), (0 : Int)) = _ := e1
  simp only
  rw [e1', Option.bind_some]
  unfold m_spec_l03DrawState_A0
  have e2' : iter m_spec_l03DrawState_L1 (s1.code, s1.at_, s1.seed, ([] : List Int), (0 : Int)) = _ := e2
  simp only
  rw [e2', Option.bind_some]
  unfold m_spec_l03DrawState_A1
  simp only
  rw [src_mk, e3, Option.bind_some]
  cases b with
  | false =>
    refine ⟨_, rfl, ?_⟩
    unfold okSt
    simp only
    rw [a1, a2, n1, n2]; rfl
  | true =>
    obtain ⟨x, s4, e4, hx, hs4⟩ := among_ok (xs := [1000000000, -1000000000]) hs3 (by omega) (by decide) (by decide)
    rw [cond_true, e4, Option.bind_some, show getI l1 (0 : Int) = some (l1[0]'(by omega)) from XA (n := 0) (List.getElem?_eq_getElem (by omega)), Option.bind_some]
    refine ⟨_, rfl, ?_⟩
    have hxi : inInt x = true := by
      simp only [List.mem_cons, List.not_mem_nil, or_false] at hx
      rcases hx with rfl | rfl <;> decide
    unfold okSt
    simp only
    rw [all_set a1 hxi, a2, List.length_set, n1, n2]; rfl
end Go.Mod

namespace Go.Mod
open Go.AM
set_option linter.unusedVariables false
set_option linter.unusedSimpArgs false
theorem r8Same_ok {xs : List Int} (h : xs.length ≤ 1000000) : m_laws_r8Same xs xs = some true := by
  have g := iter_for (step := m_laws_r8Same_L0 xs xs) xs (fun n (_ : Unit) => (n : Int)) (fun _ _ _ => some (.next ())) (fun _ => .inl ())
    (fun n x r hx => by
      have hn := get_lt hx
      unfold m_laws_r8Same_L0
      rw [dec_lt hn, cond_true, XA hx, Option.bind_some, Option.bind_some, decide_eq_true rfl, Bool.not_true, cond_false, w64_succ (by omega)]; rfl)
    (fun r => by unfold m_laws_r8Same_L0; rw [dec_self]; rfl) ()
  have f : ∀ (ys : List Int) (k : Nat), forL (fun (_ : Nat) (_ : Int) (_ : Unit) => some (Ctl.next () : Ctl Unit (Unit ⊕ Bool))) (fun _ => .inl ()) k ys () = some (.inl ()) := by
    intro ys
    induction ys with
    | nil => intro k; rfl
    | cons y ys ih => intro k; unfold forL; exact ih (k + 1)
  unfold m_laws_r8Same
  have g' : iter (m_laws_r8Same_L0 xs xs) (0 : Int) = _ := g
  rw [decide_eq_true rfl, Bool.not_true, cond_false, g', f]; rfl
theorem r8States_ok {s : State} (h : okSt s = true) : m_laws_r8States s s = some true := by
  unfold okSt at h
  simp only [Bool.and_eq_true, decide_eq_true_eq] at h
  unfold m_laws_r8States
  rw [r8Same_ok (by omega), Option.bind_some, cond_true, r8Same_ok (by omega)]; rfl
theorem ran_ok {p : Program} {s : State} {f : Int} (hp : okProg p = true) (hs : okSt s = true) (h0 : 0 ≤ f) (h1 : f ≤ 2000) {t : Ptree} (hf : fl t = p.Body) (ht : okT t) {b : Bool} {s' : running} (hr : Run t (start0 s f) b s') :
    m_impl_RunProgram p s f = some (s'.state, s'.events, s'.out, true) ∧ m_impl_StepsOf p s f = some (s'.steps, true) ∧ Vr s' ∧ s'.fuel = f ∧ okSt s'.state = true := by
  obtain ⟨t2, b2, s2, hf2, ht2, hr2, e⟩ := started_ok hp hs h0 h1
  have v := start_vr hs h0 h1
  have hr3 := hr.same t2 ht ht2 (hf.trans hf2.symm)
  have q1 := run_impl hr3 (dp t2) (Nat.le_refl _) ht2 v
  have q2 := run_impl hr2 (dp t2) (Nat.le_refl _) ht2 v
  rw [q1] at q2
  obtain ⟨rfl, rfl⟩ : b = b2 ∧ s' = s2 := by have := Option.some.inj q2; exact ⟨congrArg Prod.fst this, congrArg Prod.snd this⟩
  obtain ⟨v', f', _⟩ := hr.keep v
  have hst : s.Vars.all inInt = true ∧ s.Cells.all inInt = true := by
    unfold okSt at hs
    simp only [Bool.and_eq_true] at hs
    exact ⟨hs.1.1, hs.2.1⟩
  obtain ⟨a1, a2⟩ := hr.state hst
  refine ⟨?_, ?_, v', f', ?_⟩
  · unfold m_impl_RunProgram; rw [e]; rfl
  · unfold m_impl_StepsOf; rw [e]; rfl
  · unfold okSt; rw [a1, a2, v'.vs, v'.cs]; rfl
theorem bytes {a : List Int} (h : kLa_u8 a) : ∀ x ∈ a, 0 ≤ x ∧ x ≤ 255 := fun x hx => h.2 x hx
theorem long_cases (a b : List Int) : m_laws_r8Long a b = some true ∨ (m_laws_r8Long a b = some false ∧ a.length ≤ 48 ∧ b.length ≤ 48) := by
  unfold m_laws_r8Long
  by_cases h1 : 48 < a.length
  · left; rw [decide_eq_true (by omega)]; rfl
  · by_cases h2 : 48 < b.length
    · left; rw [decide_eq_true (p := (48 : Int) < (b.length : Int)) (by omega), Bool.or_true]
    · right; rw [decide_eq_false (by omega), decide_eq_false (by omega)]; exact ⟨rfl, by omega, by omega⟩
end Go.Mod

namespace Go.Mod
open Go.AM
set_option linter.unusedVariables false
set_option linter.unusedSimpArgs false
def seqS : Stmt := Stmt.mk 1 0 0 (Term.mk 0 []) (Term.mk 0 []) []
theorem ar_seq : arS seqS = some 2 := rfl
def hd : Ptree → Int
  | .nil => 0
  | .mk x _ _ => x.Kind
def jn : List Ptree → Ptree
  | [] => .nil
  | [p] => p
  | p :: q :: r => .mk seqS 0 [p, jn (q :: r)]
mutual
def np : Ptree → List Ptree
  | .nil => []
  | .mk x a ks => bif decide (x.Kind = 1) then npA ks else [.mk x 0 (npL ks)]
def npA : List Ptree → List Ptree
  | [] => []
  | k :: r => np k ++ npA r
def npL : List Ptree → List Ptree
  | [] => []
  | k :: r => jn (np k) :: npL r
end
mutual
def pts : Ptree → List Ptree
  | .nil => []
  | .mk x a ks => bif decide (x.Kind = 1) then ptsA ks else [.mk x a ks]
def ptsA : List Ptree → List Ptree
  | [] => []
  | k :: r => pts k ++ ptsA r
end
def outOf : Ptree → Ptree
  | .nil => .nil
  | .mk x _ ks => .mk x 0 (npL ks)
theorem flL_append : ∀ (a b : List Ptree), flL (a ++ b) = flL a ++ flL b
  | [], b => by unfold flL; rfl
  | t :: a, b => by
    have := flL_append a b
    show fl t ++ flL (a ++ b) = (fl t ++ flL a) ++ flL b
    rw [this, List.append_assoc]
theorem okL_iff : ∀ (a : List Ptree), okL a ↔ ∀ t ∈ a, okT t
  | [] => by unfold okL; simp
  | t :: a => by
    have := okL_iff a
    unfold okL
    rw [this]; simp
theorem jn_cons {p : Ptree} {r : List Ptree} (h : r ≠ []) : jn (p :: r) = .mk seqS 0 [p, jn r] := by
  cases r with
  | nil => exact absurd rfl h
  | cons q r => rfl
theorem jn_ok : ∀ ps, (∀ t ∈ ps, okT t) → ps ≠ [] → okT (jn ps) ∧ (fl (jn ps)).length + 1 = (flL ps).length + ps.length
  | [], _, h => absurd rfl h
  | [p], h, _ => ⟨h p (by simp), by rw [flL1]; rfl⟩
  | p :: q :: r, h, _ => by
    obtain ⟨h1, h2⟩ := jn_ok (q :: r) (fun t ht => h t (List.mem_cons_of_mem _ ht)) (by simp)
    rw [jn_cons (by simp)]
    refine ⟨?_, ?_⟩
    · unfold okT okL okL okL; exact ⟨ar_seq, h p (by simp), h1, trivial⟩
    · have e : fl (Ptree.mk seqS 0 [p, jn (q :: r)]) = seqS :: flL [p, jn (q :: r)] := by conv => lhs; unfold fl
      have e2 : flL (p :: q :: r) = fl p ++ flL (q :: r) := by conv => lhs; unfold flL
      rw [e, flL2, e2, List.length_cons, List.length_append, List.length_append, List.length_cons (a := p)]
      omega
theorem okT_iff {x : Stmt} {a : Int} {ks : List Ptree} : okT (.mk x a ks) ↔ arS x = some ks.length ∧ ∀ t ∈ ks, okT t := by
  rw [← okL_iff]
  conv => lhs; unfold okT
theorem seq_two {x : Stmt} {n : Nat} (h : arS x = some n) (hk : x.Kind = 1) : n = 2 := by
  have := ar_kind h; omega
theorem fl_mk (x : Stmt) (a : Int) (ks : List Ptree) : fl (.mk x a ks) = x :: flL ks := by conv => lhs; unfold fl
theorem np_one {x : Stmt} {a : Int} {ks : List Ptree} (h : x.Kind = 1) : np (.mk x a ks) = npA ks := by
  conv => lhs; unfold np
  rw [decide_eq_true h, cond_true]
theorem np_oth {x : Stmt} {a : Int} {ks : List Ptree} (h : x.Kind ≠ 1) : np (.mk x a ks) = [.mk x 0 (npL ks)] := by
  conv => lhs; unfold np
  rw [decide_eq_false h, cond_false]
theorem npL1 (l : Ptree) : npL [l] = [jn (np l)] := by
  conv => lhs; unfold npL
  rw [show npL [] = [] from rfl]
theorem npL2 (l r : Ptree) : npL [l, r] = [jn (np l), jn (np r)] := by
  conv => lhs; unfold npL
  rw [npL1]
theorem npA2 (l r : Ptree) : npA [l, r] = np l ++ np r := by
  conv => lhs; unfold npA
  rw [show npA [r] = np r by (conv => lhs; unfold npA
                              rw [show npA [] = [] from rfl, List.append_nil])]
mutual
theorem np_ok : ∀ t, okT t → np t ≠ [] ∧ (∀ p ∈ np t, okT p ∧ hd p ≠ 1) ∧ (flL (np t)).length + (np t).length = (fl t).length + 1
  | .nil, h => by unfold okT at h; exact h.elim
  | .mk x a ks, h => by
    have h0 := okT_iff.1 h
    obtain ⟨h1, h2⟩ := h0
    have e : fl (Ptree.mk x a ks) = x :: flL ks := by conv => lhs; unfold fl
    rw [e, List.length_cons]
    unfold np
    by_cases hk : x.Kind = 1
    · rw [decide_eq_true hk, cond_true]
      obtain ⟨g1, g2, g3⟩ := npA_ok ks h2
      have := seq_two h1 hk
      exact ⟨g3 (by intro e; rw [e] at this; cases this), g1, by omega⟩
    · rw [decide_eq_false hk, cond_false]
      obtain ⟨g1, g2, g3⟩ := npL_ok ks h2
      have e2 : fl (Ptree.mk x 0 (npL ks)) = x :: flL (npL ks) := by conv => lhs; unfold fl
      refine ⟨by simp, fun p hp => ?_, ?_⟩
      · rw [List.mem_singleton] at hp
        subst hp
        exact ⟨okT_iff.2 ⟨by rw [g2]; exact h1, g1⟩, hk⟩
      · rw [flL1, e2]; simp only [List.length_cons, List.length_nil]; omega
theorem npA_ok : ∀ ks, (∀ t ∈ ks, okT t) → (∀ p ∈ npA ks, okT p ∧ hd p ≠ 1) ∧ (flL (npA ks)).length + (npA ks).length = (flL ks).length + ks.length ∧ (ks ≠ [] → npA ks ≠ [])
  | [], _ => by unfold npA flL; simp
  | t :: ks, h => by
    obtain ⟨a1, a2, a3⟩ := np_ok t (h t (by simp))
    obtain ⟨b1, b2, _⟩ := npA_ok ks (fun u hu => h u (List.mem_cons_of_mem _ hu))
    have e : npA (t :: ks) = np t ++ npA ks := by conv => lhs; unfold npA
    have e2 : flL (t :: ks) = fl t ++ flL ks := by conv => lhs; unfold flL
    rw [e, e2, flL_append]
    simp only [List.length_append, List.length_cons, List.mem_append]
    exact ⟨fun p hp => hp.elim (a2 p) (b1 p), by omega, fun _ => by simp [a1]⟩
theorem npL_ok : ∀ ks, (∀ t ∈ ks, okT t) → (∀ p ∈ npL ks, okT p) ∧ (npL ks).length = ks.length ∧ (flL (npL ks)).length = (flL ks).length
  | [], _ => by unfold npL flL; simp
  | t :: ks, h => by
    obtain ⟨a1, a2, a3⟩ := np_ok t (h t (by simp))
    obtain ⟨b1, b2, b3⟩ := npL_ok ks (fun u hu => h u (List.mem_cons_of_mem _ hu))
    obtain ⟨c1, c2⟩ := jn_ok (np t) (fun u hu => (a2 u hu).1) a1
    have e : npL (t :: ks) = jn (np t) :: npL ks := by conv => lhs; unfold npL
    have e2 : flL (t :: ks) = fl t ++ flL ks := by conv => lhs; unfold flL
    have e3 : flL (jn (np t) :: npL ks) = fl (jn (np t)) ++ flL (npL ks) := by conv => lhs; unfold flL
    rw [e, e2, e3]
    simp only [List.length_append, List.length_cons, List.mem_cons]
    exact ⟨fun p hp => hp.elim (fun e => e ▸ c1) (b1 p), by omega, by omega⟩
end
theorem nrm_ok {t : Ptree} (h : okT t) : okT (jn (np t)) ∧ (fl (jn (np t))).length = (fl t).length := by
  obtain ⟨a1, a2, a3⟩ := np_ok t h
  obtain ⟨c1, c2⟩ := jn_ok (np t) (fun u hu => (a2 u hu).1) a1
  exact ⟨c1, by omega⟩
mutual
theorem np_pts : ∀ t, np t = (pts t).map outOf
  | .nil => by unfold np pts; rfl
  | .mk x a ks => by
    unfold np pts
    by_cases hk : x.Kind = 1
    · rw [decide_eq_true hk, cond_true, cond_true]; exact npA_pts ks
    · rw [decide_eq_false hk, cond_false, cond_false]; rfl
theorem npA_pts : ∀ ks, npA ks = (ptsA ks).map outOf
  | [] => by unfold npA ptsA; rfl
  | t :: ks => by
    have e : npA (t :: ks) = np t ++ npA ks := by conv => lhs; unfold npA
    have e2 : ptsA (t :: ks) = pts t ++ ptsA ks := by conv => lhs; unfold ptsA
    rw [e, e2, List.map_append, np_pts t, npA_pts ks]
end
theorem kid_dp {x : Stmt} {a : Int} {ks : List Ptree} {t : Ptree} (h : t ∈ ks) : dp t + 1 ≤ dp (.mk x a ks) ∧ (fl t).length + 1 ≤ (fl (.mk x a ks)).length := by
  have e : dp (.mk x a ks) = 1 + dpL ks := by conv => lhs; unfold dp
  have e2 : fl (.mk x a ks) = x :: flL ks := by conv => lhs; unfold fl
  rw [e, e2, List.length_cons]
  have : ∀ ks : List Ptree, t ∈ ks → dp t ≤ dpL ks ∧ (fl t).length ≤ (flL ks).length := by
    intro ks
    induction ks with
    | nil => intro h; cases h
    | cons u ks ih =>
      intro h
      have e3 : dpL (u :: ks) = max (dp u) (dpL ks) := by conv => lhs; unfold dpL
      have e4 : flL (u :: ks) = fl u ++ flL ks := by conv => lhs; unfold flL
      rw [e3, e4, List.length_append]
      rcases List.mem_cons.1 h with rfl | h
      · omega
      · have := ih h; omega
  have := this ks h
  omega
mutual
theorem pts_mem : ∀ t, okT t → (pts t).length ≤ (fl t).length ∧ ∀ p ∈ pts t, okT p ∧ dp p ≤ dp t ∧ (fl p).length ≤ (fl t).length
  | .nil, h => by unfold okT at h; exact h.elim
  | .mk x a ks, h => by
    have h0 := okT_iff.1 h
    unfold pts
    by_cases hk : x.Kind = 1
    · rw [decide_eq_true hk, cond_true]
      obtain ⟨h1, h2⟩ := ptsA_mem ks h0.2
      have e2 : fl (.mk x a ks) = x :: flL ks := by conv => lhs; unfold fl
      refine ⟨by rw [e2, List.length_cons]; omega, fun p hp => ?_⟩
      obtain ⟨h3, u, hu, h4, h5⟩ := h2 p hp
      obtain ⟨h6, h7⟩ := kid_dp (x := x) (a := a) hu
      exact ⟨h3, by omega, by omega⟩
    · rw [decide_eq_false hk, cond_false]
      refine ⟨by unfold fl; simp, fun p hp => ?_⟩
      rw [List.mem_singleton] at hp
      subst hp
      exact ⟨h, Nat.le_refl _, Nat.le_refl _⟩
theorem ptsA_mem : ∀ ks, (∀ t ∈ ks, okT t) → (ptsA ks).length ≤ (flL ks).length ∧ ∀ p ∈ ptsA ks, okT p ∧ ∃ u ∈ ks, dp p ≤ dp u ∧ (fl p).length ≤ (fl u).length
  | [], _ => by unfold ptsA flL; simp
  | t :: ks, h => by
    have e : ptsA (t :: ks) = pts t ++ ptsA ks := by conv => lhs; unfold ptsA
    have e2 : flL (t :: ks) = fl t ++ flL ks := by conv => lhs; unfold flL
    obtain ⟨a1, a2⟩ := pts_mem t (h t (by simp))
    obtain ⟨b1, b2⟩ := ptsA_mem ks (fun u hu => h u (List.mem_cons_of_mem _ hu))
    rw [e, e2]
    simp only [List.length_append, List.mem_append]
    refine ⟨by omega, fun p hp => ?_⟩
    rcases hp with hp | hp
    · obtain ⟨c1, c2, c3⟩ := a2 p hp
      exact ⟨c1, t, by simp, c2, c3⟩
    · obtain ⟨c1, u, hu, c2, c3⟩ := b2 p hp
      exact ⟨c1, u, List.mem_cons_of_mem _ hu, c2, c3⟩
end
theorem impl_parts : ∀ (n : Nat) (t : Ptree), dp t ≤ n → okT t → (fl t).length ≤ 1000 → m_impl_tree_parts n t = some (pts t)
  | 0, .nil, _, h, _ => by unfold okT at h; exact h.elim
  | 0, .mk x a ks, hn, _, _ => by have e : dp (.mk x a ks) = 1 + dpL ks := by conv => lhs; unfold dp
                                  omega
  | n + 1, .nil, _, h, _ => by unfold okT at h; exact h.elim
  | n + 1, .mk x a ks, hn, h, hl => by
    have h0 := okT_iff.1 h
    show m_impl_tree_parts_F (m_impl_tree_parts n) (.mk x a ks) = _
    unfold m_impl_tree_parts_F
    show (bif (!decide (x.Kind = 1)) then some [Ptree.mk x a ks] else _) = _
    unfold pts
    by_cases hk : x.Kind = 1
    · have h2 := seq_two h0.1 hk
      match ks, h2, hn, h, hl, h0 with
      | [l, r], _, hn, h, hl, h0 =>
        have kl := kid_dp (x := x) (a := a) (ks := [l, r]) (t := l) (by simp)
        have kr := kid_dp (x := x) (a := a) (ks := [l, r]) (t := r) (by simp)
        have ol := h0.2 l (by simp)
        have or_ := h0.2 r (by simp)
        have pl := (pts_mem l ol).1
        have pr := (pts_mem r or_).1
        rw [decide_eq_true hk, Bool.not_true, cond_false, cond_true]
        show (m_impl_tree_parts n l).bind _ = _
        rw [impl_parts n l (by omega) ol (by omega), Option.bind_some]
        show (m_impl_tree_parts n r).bind _ = _
        rw [impl_parts n r (by omega) or_ (by omega), Option.bind_some, Xr (by omega), Option.bind_some]
        unfold ptsA ptsA ptsA
        rw [List.append_nil]
    · rw [decide_eq_false hk, Bool.not_false, cond_true, cond_false]
theorem impl_joined : ∀ (n : Nat) (ps : List Ptree), ps.length ≤ n → ps ≠ [] → ps.length ≤ 1000 → m_impl_joined n ps = some (jn ps)
  | n, [], _, h, _ => absurd rfl h
  | 0, p :: r, hn, _, _ => by simp at hn
  | n + 1, [p], _, _, _ => rfl
  | n + 1, p :: q :: r, hn, _, hl => by
    simp only [List.length_cons] at hn hl
    show m_impl_joined_F (m_impl_joined n) (p :: q :: r) = _
    unfold m_impl_joined_F
    rw [decide_eq_false (by simp only [List.length_cons]; omega), cond_false, show getI (p :: q :: r) (0 : Int) = some p from rfl, Option.bind_some,
      show sliceI (p :: q :: r) (1 : Int) ((p :: q :: r).length : Int) = some (((p :: q :: r).drop 1).take ((p :: q :: r).length - 1)) from sliceI_some (l := 1) (by simp) (Nat.le_refl _), Option.bind_some,
      show ((p :: q :: r).drop 1).take ((p :: q :: r).length - 1) = q :: r by simp, impl_joined n (q :: r) (by simp only [List.length_cons]; omega) (by simp) (by simp only [List.length_cons]; omega), Option.bind_some]
    rfl
theorem normal_kids {rec : Ptree → Option Ptree} : ∀ (ks : List Ptree) (k : Nat) (s : List Ptree), (∀ t ∈ ks, rec t = some (jn (np t))) → s.length + ks.length ≤ 1000000 →
    forL (XB rec) (fun s1 => s1) k ks s = some (s ++ npL ks)
  | [], k, s, _, _ => by unfold forL npL; rw [List.append_nil]
  | t :: ks, k, s, h, hl => by
    simp only [List.length_cons] at hl
    have e : npL (t :: ks) = jn (np t) :: npL ks := by conv => lhs; unfold npL
    have st : XB rec k t s = some (.next (s ++ [jn (np t)])) := by
      unfold XB
      rw [h t (by simp), Option.bind_some, Xr (by simp; omega), Option.bind_some]
    unfold forL
    rw [st, e]
    exact (normal_kids ks (k + 1) (s ++ [jn (np t)]) (fun u hu => h u (List.mem_cons_of_mem _ hu)) (by simp; omega)).trans (by simp)
theorem normal_parts {rec : Ptree → Option Ptree} : ∀ (ps : List Ptree) (k : Nat) (s : List Ptree), (∀ p ∈ ps, okT p ∧ (fl p).length ≤ 1000) → (∀ x a ks, Ptree.mk x a ks ∈ ps → ∀ t ∈ ks, rec t = some (jn (np t))) → s.length + ps.length ≤ 1000000 →
    forL (m_impl_tree_normal_F_L0 rec) (fun s0 => s0) k ps s = some (s ++ ps.map outOf)
  | [], k, s, _, _, _ => by unfold forL; simp
  | .nil :: ps, k, s, hk, h, hl => by have := (hk .nil (by simp)).1; unfold okT at this; exact this.elim
  | .mk x a ks :: ps, k, s, hk, h, hl => by
    simp only [List.length_cons] at hl
    have hks : ks.length ≤ 2 := ar_le (okT_iff.1 (hk _ (List.mem_cons_self ..)).1).1
    have st : m_impl_tree_normal_F_L0 rec k (.mk x a ks) s = some (.next (s ++ [.mk x 0 (npL ks)])) := by
      unfold m_impl_tree_normal_F_L0
      show (forL (XB rec) (fun s1 => s1) 0 ks []).bind (fun u1 => m_impl_tree_normal_F_A1 s ⟨x, a, ks⟩ u1) = _
      rw [normal_kids ks 0 [] (h x a ks (by simp)) (by simp; omega), Option.bind_some, List.nil_append]
      unfold m_impl_tree_normal_F_A1
      rw [Xr (by simp; omega), Option.bind_some]
      rfl
    unfold forL
    rw [st]
    have q := normal_parts ps (k + 1) (s ++ [.mk x 0 (npL ks)]) (fun p hp => hk p (List.mem_cons_of_mem _ hp)) (fun x a ks hm => h x a ks (List.mem_cons_of_mem _ hm)) (by simp; omega)
    rw [List.append_assoc] at q
    exact q
theorem impl_normal : ∀ (n : Nat) (t : Ptree), dp t ≤ n → okT t → (fl t).length ≤ 1000 → m_impl_tree_normal n t = some (jn (np t))
  | 0, .nil, _, h, _ => by unfold okT at h; exact h.elim
  | 0, .mk x a ks, hn, _, _ => by have e : dp (.mk x a ks) = 1 + dpL ks := by conv => lhs; unfold dp
                                  omega
  | n + 1, t, hn, h, hl => by
    obtain ⟨a1, a2⟩ := pts_mem t h
    obtain ⟨b1, b2, b3⟩ := np_ok t h
    have e := np_pts t
    have hd := dp_le t
    show m_impl_tree_normal_F (m_impl_tree_normal n) t = _
    unfold m_impl_tree_normal_F
    rw [impl_parts 1000 t (by omega) h hl, Option.bind_some, normal_parts (pts t) 0 [] (fun p hp => ⟨(a2 p hp).1, by have := (a2 p hp).2.2; omega⟩) (fun x a ks hm u hu => by
      obtain ⟨c1, c2, c3⟩ := a2 _ hm
      obtain ⟨d1, d2⟩ := kid_dp (x := x) (a := a) hu
      exact impl_normal n u (by omega) ((okT_iff.1 c1).2 u hu) (by omega)) (by simp; omega), Option.bind_some, List.nil_append, ← e]
    unfold m_impl_tree_normal_F_A0
    have hlen : (np t).length = (pts t).length := by rw [e, List.length_map]
    rw [impl_joined 1000 (np t) (by omega) b1 (by omega)]
    rfl
theorem body_kids {rec : Ptree → Option (List Stmt)} : ∀ (ks : List Ptree) (k : Nat) (s : List Stmt), (∀ t ∈ ks, rec t = some (fl t)) → s.length + (flL ks).length ≤ 1000000 →
    forL (m_impl_tree_body_F_L0 rec) (fun s0 => s0) k ks s = some (s ++ flL ks)
  | [], k, s, _, _ => by unfold forL flL; rw [List.append_nil]
  | t :: ks, k, s, h, hl => by
    have e : flL (t :: ks) = fl t ++ flL ks := by conv => lhs; unfold flL
    rw [e, List.length_append] at hl
    have st : m_impl_tree_body_F_L0 rec k t s = some (.next (s ++ fl t)) := by
      unfold m_impl_tree_body_F_L0
      rw [h t (by simp), Option.bind_some, Xr (by omega), Option.bind_some]
    unfold forL
    rw [st, e]
    exact (body_kids ks (k + 1) (s ++ fl t) (fun u hu => h u (List.mem_cons_of_mem _ hu)) (by rw [List.length_append]; omega)).trans (by simp)
theorem impl_body : ∀ (n : Nat) (t : Ptree), dp t ≤ n → okT t → (fl t).length ≤ 1000 → m_impl_tree_body n t = some (fl t)
  | 0, .nil, _, h, _ => by unfold okT at h; exact h.elim
  | 0, .mk x a ks, hn, _, _ => by have e : dp (.mk x a ks) = 1 + dpL ks := by conv => lhs; unfold dp
                                  omega
  | n + 1, .nil, _, h, _ => by unfold okT at h; exact h.elim
  | n + 1, .mk x a ks, hn, h, hl => by
    have h0 := okT_iff.1 h
    have e : fl (.mk x a ks) = x :: flL ks := by conv => lhs; unfold fl
    rw [e, List.length_cons] at hl
    rw [e]
    show m_impl_tree_body_F (m_impl_tree_body n) (.mk x a ks) = _
    unfold m_impl_tree_body_F
    show (m_impl_ownStmt x).bind (fun r10 => (forL (m_impl_tree_body_F_L0 (m_impl_tree_body n)) (fun s0 => s0) 0 ks [r10]).bind fun u0 => m_impl_tree_body_F_A0 u0) = _
    have hsm := ar_small h0.1
    rw [impl_ownStmt (by omega), Option.bind_some, body_kids ks 0 [x] (fun t ht => by
      obtain ⟨d1, d2⟩ := kid_dp (x := x) (a := a) ht
      rw [e, List.length_cons] at d2
      exact impl_body n t (by omega) (h0.2 t ht) (by omega)) (by simp; omega)]
    rfl
theorem fl_isB {t : Ptree} (h : okT t) (hl : (fl t).length ≤ 30) : isB (fl t) = true :=
  isB_iff.2 ⟨hl, by have := okT_go t [] h; rwa [List.append_nil] at this⟩
def ini : List Ptree → List Stmt
  | [] => []
  | [_] => []
  | p :: q :: r => seqS :: (fl p ++ ini (q :: r))
def las : List Ptree → List Stmt
  | [] => []
  | [p] => fl p
  | _ :: q :: r => las (q :: r)
theorem fl_seq (a b : Ptree) (k : Int) : fl (.mk seqS k [a, b]) = seqS :: (fl a ++ fl b) := by
  have e : fl (.mk seqS k [a, b]) = seqS :: flL [a, b] := by conv => lhs; unfold fl
  rw [e, flL2]
theorem jn_split : ∀ ps, ps ≠ [] → fl (jn ps) = ini ps ++ las ps
  | [], h => absurd rfl h
  | [p], _ => rfl
  | p :: q :: r, _ => by
    rw [jn_cons (by simp), fl_seq, jn_split (q :: r) (by simp)]
    show _ = seqS :: (fl p ++ ini (q :: r)) ++ las (q :: r)
    simp
theorem jn_append : ∀ ps qs, ps ≠ [] → qs ≠ [] → fl (jn (ps ++ qs)) = ini ps ++ [seqS] ++ las ps ++ fl (jn qs)
  | [], _, h, _ => absurd rfl h
  | [p], qs, _, hq => by
    show fl (jn (p :: qs)) = _
    rw [jn_cons hq, fl_seq]
    show _ = [] ++ [seqS] ++ fl p ++ _
    simp
  | p :: q :: r, qs, _, hq => by
    have := jn_append (q :: r) qs (by simp) hq
    show fl (jn (p :: (q :: r ++ qs))) = _
    rw [jn_cons (by simp), fl_seq, this]
    show _ = seqS :: (fl p ++ ini (q :: r)) ++ [seqS] ++ las (q :: r) ++ _
    simp
theorem fl_head {t : Ptree} (h : okT t) : ∃ x r, fl t = x :: r ∧ hd t = x.Kind := by
  cases t with
  | nil => unfold okT at h; exact h.elim
  | mk x a ks => exact ⟨x, flL ks, by conv => lhs; unfold fl, rfl⟩
theorem slice_mid {α : Type} (a b c : List α) : sliceI (a ++ b ++ c) (a.length : Int) ((a.length + b.length : Nat) : Int) = some b := by
  rw [sliceI_some (Nat.le_add_right _ _) (by simp), List.append_assoc, List.drop_left, Nat.add_sub_cancel_left, List.take_left]
theorem normal_loop : ∀ (ps : List Ptree) (acc : List Stmt), ps ≠ [] → (∀ p ∈ ps, okT p ∧ hd p ≠ 1) → (fl (jn ps)).length ≤ 30 → acc.length + (fl (jn ps)).length ≤ 1000 →
    iter m_spec_l03Normal_F_L0 (fl (jn ps), acc) = some (las ps, acc ++ ini ps)
  | [], _, h, _, _, _ => absurd rfl h
  | [p], acc, _, h, _, _ => by
    obtain ⟨h1, h2⟩ := h p (by simp)
    obtain ⟨x, r, e, e2⟩ := fl_head h1
    refine iter_out ?_
    show m_spec_l03Normal_F_L0 (fl p, acc) = some (.out (fl p, acc ++ []))
    rw [List.append_nil]
    unfold m_spec_l03Normal_F_L0
    simp only
    rw [e, decide_eq_true (by simp only [List.length_cons]; omega), cond_true, show getI (x :: r) (0 : Int) = some x from rfl, Option.bind_some, decide_eq_false (by rw [← e2]; exact h2), cond_false]
  | p :: q :: r, acc, _, h, hl, ha => by
    have hp := (h p (by simp)).1
    have hqr := jn_ok (q :: r) (fun t ht => (h t (List.mem_cons_of_mem _ ht)).1) (by simp)
    have hall := jn_ok (p :: q :: r) (fun t ht => (h t ht).1) (by simp)
    have hB := fl_isB hall.1 hl
    rw [jn_cons (by simp)] at hB hl ha ⊢
    rw [fl_seq] at hB hl ha ⊢
    simp only [List.length_cons, List.length_append] at hl ha
    have en := end_ok hB (k := 1) (t := p) (r := fl (jn (q :: r))) hp rfl
    have en' : m_spec_l03End (seqS :: (fl p ++ fl (jn (q :: r)))) (1 : Int) = some ((1 + (fl p).length : Nat) : Int) := en
    have s1 : sliceI (seqS :: (fl p ++ fl (jn (q :: r)))) (0 : Int) ((1 + (fl p).length : Nat) : Int) = some (seqS :: fl p) := by
      have := slice_mid [] (seqS :: fl p) (fl (jn (q :: r)))
      simpa [Nat.add_comm] using this
    have s2 : sliceI (seqS :: (fl p ++ fl (jn (q :: r)))) ((1 + (fl p).length : Nat) : Int) ((seqS :: (fl p ++ fl (jn (q :: r)))).length : Int) = some (fl (jn (q :: r))) := by
      have := slice_mid (seqS :: fl p) (fl (jn (q :: r))) []
      have e : (seqS :: (fl p ++ fl (jn (q :: r)))).length = (seqS :: fl p).length + (fl (jn (q :: r))).length := by simp; omega
      have e2 : 1 + (fl p).length = (seqS :: fl p).length := by simp; omega
      rw [e, e2]
      simpa using this
    have st : m_spec_l03Normal_F_L0 (seqS :: (fl p ++ fl (jn (q :: r))), acc) = some (.next (fl (jn (q :: r)), acc ++ (seqS :: fl p))) := by
      unfold m_spec_l03Normal_F_L0
      simp only
      rw [decide_eq_true (by simp only [List.length_cons]; omega), cond_true, show getI (seqS :: (fl p ++ fl (jn (q :: r)))) (0 : Int) = some seqS from rfl, Option.bind_some, decide_eq_true (show seqS.Kind = 1 from rfl), cond_true,
        en', Option.bind_some, s1, Option.bind_some, Xr (by simp; omega), Option.bind_some, s2, Option.bind_some]
    rw [iter_next st]
    refine (normal_loop (q :: r) (acc ++ (seqS :: fl p)) (by simp) (fun t ht => h t (List.mem_cons_of_mem _ ht)) (by omega) (by simp; omega)).trans ?_
    show some (las (q :: r), _) = some (las (q :: r), acc ++ (seqS :: (fl p ++ ini (q :: r))))
    simp
theorem spec_normal : ∀ (n : Nat) (t : Ptree), dp t ≤ n → okT t → (fl t).length ≤ 30 → m_spec_l03Normal n (fl t) = some (fl (jn (np t)))
  | 0, .nil, _, h, _ => by unfold okT at h; exact h.elim
  | 0, .mk x a ks, hn, _, _ => by have e : dp (.mk x a ks) = 1 + dpL ks := by conv => lhs; unfold dp
                                  omega
  | n + 1, .nil, _, h, _ => by unfold okT at h; exact h.elim
  | n + 1, .mk x a ks, hn, h, hl => by
    have h0 := okT_iff.1 h
    have hB := fl_isB h hl
    have e : fl (.mk x a ks) = x :: flL ks := by conv => lhs; unfold fl
    rw [e] at hB hl ⊢
    simp only [List.length_cons] at hl
    have hsm := ar_small h0.1
    show m_spec_l03Normal_F (m_spec_l03Normal n) (x :: flL ks) = _
    unfold m_spec_l03Normal_F
    rw [show getI (x :: flL ks) (0 : Int) = some x from rfl, Option.bind_some, spec_ownStmt (by omega), Option.bind_some, spec_below h0.1, Option.bind_some]
    have hkd := ar_kind h0.1
    match ks, h0, hB, hl, hn, hkd with
    | [], h0, hB, hl, hn, hkd =>
      simp only [List.length_nil] at hkd
      rw [decide_eq_true (by rfl), cond_true]
      have hk1 : x.Kind ≠ 1 := by omega
      rw [np_oth hk1]
      rfl
    | [l], h0, hB, hl, hn, hkd =>
      simp only [List.length_cons, List.length_nil] at hkd
      have hk8 : x.Kind = 8 := by omega
      have ol := h0.2 l (by simp)
      have kl := kid_dp (x := x) (a := a) (ks := [l]) (t := l) (by simp)
      rw [flL1] at hB hl ⊢
      have en : m_spec_l03End (x :: fl l) (1 : Int) = some ((1 + (fl l).length : Nat) : Int) := end_ok hB (k := 1) (t := l) (r := []) ol (by simp)
      have s1 : sliceI (x :: fl l) (1 : Int) ((x :: fl l).length : Int) = some (fl l) := by
        have := slice_mid [x] (fl l) []
        simpa [Nat.add_comm] using this
      rw [decide_eq_false (by simp), cond_false, en, Option.bind_some, decide_eq_true hk8, cond_true, s1, Option.bind_some, spec_normal n l (by omega) ol (by omega), Option.bind_some]
      have hn2 := (nrm_ok ol).2
      rw [Xr (by simp; omega), Option.bind_some]
      rw [np_oth (by omega), npL1]
      show _ = some (fl (.mk x 0 [jn (np l)]))
      rw [fl_mk, flL1]
      rfl
    | [l, r], h0, hB, hl, hn, hkd =>
      simp only [List.length_cons, List.length_nil] at hkd
      have ol := h0.2 l (by simp)
      have or_ := h0.2 r (by simp)
      have kl := kid_dp (x := x) (a := a) (ks := [l, r]) (t := l) (by simp)
      have kr := kid_dp (x := x) (a := a) (ks := [l, r]) (t := r) (by simp)
      rw [flL2] at hB hl ⊢
      rw [List.length_append] at hl
      have en : m_spec_l03End (x :: (fl l ++ fl r)) (1 : Int) = some ((1 + (fl l).length : Nat) : Int) := end_ok hB (k := 1) (t := l) (r := fl r) ol rfl
      have s1 : sliceI (x :: (fl l ++ fl r)) (1 : Int) ((1 + (fl l).length : Nat) : Int) = some (fl l) := by
        have := slice_mid [x] (fl l) (fl r)
        simpa using this
      have s2 : sliceI (x :: (fl l ++ fl r)) ((1 + (fl l).length : Nat) : Int) ((x :: (fl l ++ fl r)).length : Int) = some (fl r) := by
        have := slice_mid (x :: fl l) (fl r) []
        have e : (x :: (fl l ++ fl r)).length = (x :: fl l).length + (fl r).length := by simp; omega
        have e2 : 1 + (fl l).length = (x :: fl l).length := by simp; omega
        rw [e, e2]
        simpa using this
      rw [decide_eq_false (by simp), cond_false, en, Option.bind_some, decide_eq_false (by omega), cond_false, s1, Option.bind_some, spec_normal n l (by omega) ol (by omega), Option.bind_some, s2, Option.bind_some,
        spec_normal n r (by omega) or_ (by omega), Option.bind_some]
      have hn2 := (nrm_ok ol).2
      have hn3 := (nrm_ok or_).2
      by_cases hk : x.Kind = 7
      · rw [decide_eq_true hk, cond_true, Xr (by simp; omega), Option.bind_some, Xr (by simp; omega), Option.bind_some, np_oth (by omega), npL2]
        show _ = some (fl (.mk x 0 [jn (np l), jn (np r)]))
        rw [fl_mk, flL2]
        simp
      · have hk1 : x.Kind = 1 := by omega
        rw [decide_eq_false hk, cond_false, np_one hk1]
        obtain ⟨a1, a2, _⟩ := np_ok l ol
        obtain ⟨b1, b2, _⟩ := np_ok r or_
        have js := jn_split (np l) a1
        have jl := congrArg List.length js
        rw [List.length_append] at jl
        rw [normal_loop (np l) [] a1 a2 (by omega) (by simp; omega), Option.bind_some, List.nil_append]
        unfold m_spec_l03Normal_F_A0
        simp only
        have cs : ([(Stmt.mk (1 : Int) (0 : Int) (0 : Int) (Term.mk (0 : Int) ([] : List Int)) (Term.mk (0 : Int) ([] : List Int)) ([] : List Term))]) = [seqS] := rfl
        rw [cs, Xr (by simp; omega), Option.bind_some, Xr (by simp; omega), Option.bind_some, Xr (by simp; omega), Option.bind_some]
        rw [npA2, jn_append (np l) (np r) a1 b1]
end Go.Mod

namespace Go.Mod
open Go.AM
set_option linter.unusedVariables false
set_option linter.unusedSimpArgs false
def skS : Stmt := Stmt.mk 0 0 0 (Term.mk 0 []) (Term.mk 0 []) []
theorem ar_skip : arS skS = some 0 := rfl
def skT : Ptree := .mk skS 0 []
def fixd (t : Term) : Bool := decide (t.Coeffs = [])
def alone (t : Term) (v : Int) : Bool := decide (t.Const = 0) && decide (t.Coeffs = List.replicate v.toNat 0 ++ [1])
def red (x : Stmt) : List Ptree → Ptree
  | [] => if x.Kind = 6 ∧ fixd x.Sum = true ∧ ¬ x.Sum.Const < 0 then skT else if x.Kind = 2 ∧ alone x.Sum x.Var = true then skT else .mk x 0 []
  | [l] => if fixd x.Sum = true ∧ x.Sum.Const < 0 then skT else .mk x 0 [l]
  | [l, r] => if x.Kind = 1 then (if hd l = 0 then r else if hd r = 0 then l else .mk x 0 [l, r])
      else (if fixd x.Sum = true ∧ x.Sum.Const < 0 then r else if fixd x.Sum = true ∨ fl l = fl r then l else .mk x 0 [l, r])
  | ks => .mk x 0 ks
theorem red0 (x : Stmt) : red x [] = if x.Kind = 6 ∧ fixd x.Sum = true ∧ ¬ x.Sum.Const < 0 then skT else if x.Kind = 2 ∧ alone x.Sum x.Var = true then skT else .mk x 0 [] := rfl
theorem red1 (x : Stmt) (l : Ptree) : red x [l] = if fixd x.Sum = true ∧ x.Sum.Const < 0 then skT else .mk x 0 [l] := rfl
theorem red2 (x : Stmt) (l r : Ptree) : red x [l, r] = if x.Kind = 1 then (if hd l = 0 then r else if hd r = 0 then l else .mk x 0 [l, r])
      else (if fixd x.Sum = true ∧ x.Sum.Const < 0 then r else if fixd x.Sum = true ∨ fl l = fl r then l else .mk x 0 [l, r]) := rfl
mutual
def sm : Ptree → Ptree
  | .nil => .nil
  | .mk x a ks => red x (smL ks)
def smL : List Ptree → List Ptree
  | [] => []
  | k :: r => sm k :: smL r
end
theorem sm0 (x : Stmt) (a : Int) : sm (.mk x a []) = red x [] := by conv => lhs; unfold sm smL
theorem sm1 (x : Stmt) (a : Int) (l : Ptree) : sm (.mk x a [l]) = red x [sm l] := by conv => lhs; unfold sm smL smL
theorem sm2 (x : Stmt) (a : Int) (l r : Ptree) : sm (.mk x a [l, r]) = red x [sm l, sm r] := by conv => lhs; unfold sm smL smL smL
theorem tree_ind {P : Ptree → Prop} (h0 : ∀ x a, arS x = some 0 → P (.mk x a [])) (h1 : ∀ x a l, arS x = some 1 → okT l → P l → P (.mk x a [l]))
    (h2 : ∀ x a l r, arS x = some 2 → okT l → okT r → P l → P r → P (.mk x a [l, r])) : ∀ t, okT t → P t := by
  have : ∀ (n : Nat) (t : Ptree), dp t ≤ n → okT t → P t := by
    intro n
    induction n with
    | zero =>
      intro t hd ht
      cases t with
      | nil => unfold okT at ht; exact ht.elim
      | mk x a ks => have e : dp (.mk x a ks) = 1 + dpL ks := by conv => lhs; unfold dp
                     omega
    | succ n ih =>
      intro t hd ht
      cases t with
      | nil => unfold okT at ht; exact ht.elim
      | mk x a ks =>
        obtain ⟨ha, hk⟩ := okT_iff.1 ht
        have hl := ar_le ha
        match ks, ha, hk, hl, hd with
        | [], ha, hk, _, hd => exact h0 x a ha
        | [l], ha, hk, _, hd =>
          have kl := kid_dp (x := x) (a := a) (ks := [l]) (t := l) (by simp)
          exact h1 x a l ha (hk l (by simp)) (ih l (by omega) (hk l (by simp)))
        | [l, r], ha, hk, _, hd =>
          have kl := kid_dp (x := x) (a := a) (ks := [l, r]) (t := l) (by simp)
          have kr := kid_dp (x := x) (a := a) (ks := [l, r]) (t := r) (by simp)
          exact h2 x a l r ha (hk l (by simp)) (hk r (by simp)) (ih l (by omega) (hk l (by simp))) (ih r (by omega) (hk r (by simp)))
        | _ :: _ :: _ :: _, _, _, hl, _ => simp only [List.length_cons] at hl; omega
  exact fun t ht => this (dp t) t (Nat.le_refl _) ht
theorem ok0 {x : Stmt} {a : Int} (h : arS x = some 0) : okT (.mk x a []) := okT_iff.2 ⟨h, by simp⟩
theorem ok1 {x : Stmt} {a : Int} {l : Ptree} (h : arS x = some 1) (hl : okT l) : okT (.mk x a [l]) := okT_iff.2 ⟨h, by simp [hl]⟩
theorem ok2 {x : Stmt} {a : Int} {l r : Ptree} (h : arS x = some 2) (hl : okT l) (hr : okT r) : okT (.mk x a [l, r]) := okT_iff.2 ⟨h, by simp [hl, hr]⟩
theorem okSk : okT skT := ok0 ar_skip
theorem fl0 (x : Stmt) (a : Int) : fl (.mk x a []) = [x] := by rw [fl_mk]; unfold flL; rfl
theorem fl1' (x : Stmt) (a : Int) (l : Ptree) : fl (.mk x a [l]) = x :: fl l := by rw [fl_mk, flL1]
theorem fl2' (x : Stmt) (a : Int) (l r : Ptree) : fl (.mk x a [l, r]) = x :: (fl l ++ fl r) := by rw [fl_mk, flL2]
theorem sm_ok : ∀ t, okT t → okT (sm t) ∧ (fl (sm t)).length ≤ (fl t).length := by
  refine tree_ind (fun x a h => ?_) (fun x a l h hl il => ?_) (fun x a l r h hl hr il ir => ?_)
  · rw [sm0, fl0]; rw [red0]
    repeat' split
    · exact ⟨okSk, by unfold skT; rw [fl0]; exact Nat.le_refl _⟩
    · exact ⟨okSk, by unfold skT; rw [fl0]; exact Nat.le_refl _⟩
    · exact ⟨ok0 h, by rw [fl0]; exact Nat.le_refl _⟩
  · rw [sm1, fl1']; rw [red1]
    split
    · exact ⟨okSk, by unfold skT; rw [fl0]; simp⟩
    · exact ⟨ok1 h il.1, by rw [fl1']; simp only [List.length_cons]; omega⟩
  · rw [sm2, fl2']; rw [red2]
    have := il.2
    have := ir.2
    have hall : okT (.mk x 0 [sm l, sm r]) ∧ (fl (.mk x 0 [sm l, sm r])).length ≤ (x :: (fl l ++ fl r)).length :=
      ⟨ok2 h il.1 ir.1, by rw [fl2']; simp only [List.length_cons, List.length_append]; omega⟩
    have hL : okT (sm l) ∧ (fl (sm l)).length ≤ (x :: (fl l ++ fl r)).length := ⟨il.1, by simp only [List.length_cons, List.length_append]; omega⟩
    have hR : okT (sm r) ∧ (fl (sm r)).length ≤ (x :: (fl l ++ fl r)).length := ⟨ir.1, by simp only [List.length_cons, List.length_append]; omega⟩
    repeat' split
    all_goals first | exact hall | exact hL | exact hR
theorem sm_skip : sm skT = skT := by
  unfold skT; rw [sm0]; rfl
theorem sm_idem : ∀ t, okT t → sm (sm t) = sm t := by
  refine tree_ind (fun x a h => ?_) (fun x a l h hl il => ?_) (fun x a l r h hl hr il ir => ?_)
  · rw [sm0]; rw [red0]
    by_cases c1 : x.Kind = 6 ∧ fixd x.Sum = true ∧ ¬ x.Sum.Const < 0
    · rw [if_pos c1]; exact sm_skip
    · by_cases c2 : x.Kind = 2 ∧ alone x.Sum x.Var = true
      · rw [if_neg c1, if_pos c2]; exact sm_skip
      · rw [if_neg c1, if_neg c2, sm0]; rw [red0]; rw [if_neg c1, if_neg c2]
  · rw [sm1]; rw [red1]
    by_cases c1 : fixd x.Sum = true ∧ x.Sum.Const < 0
    · rw [if_pos c1]; exact sm_skip
    · rw [if_neg c1, sm1, il]; rw [red1]; rw [if_neg c1]
  · rw [sm2]; rw [red2]
    by_cases hk : x.Kind = 1
    · rw [if_pos hk]
      by_cases c1 : hd (sm l) = 0
      · rw [if_pos c1]; exact ir
      · by_cases c2 : hd (sm r) = 0
        · rw [if_neg c1, if_pos c2]; exact il
        · rw [if_neg c1, if_neg c2, sm2, il, ir]; rw [red2]; rw [if_pos hk, if_neg c1, if_neg c2]
    · rw [if_neg hk]
      by_cases c1 : fixd x.Sum = true ∧ x.Sum.Const < 0
      · rw [if_pos c1]; exact ir
      · by_cases c2 : fixd x.Sum = true ∨ fl (sm l) = fl (sm r)
        · rw [if_neg c1, if_pos c2]; exact il
        · rw [if_neg c1, if_neg c2, sm2, il, ir]; rw [red2]; rw [if_neg hk, if_neg c1, if_neg c2]
def ws (s : running) (k : Int) : running := running.mk s.state s.events s.fuel k s.out
theorem act_ws (x : Stmt) (s : running) (k : Int) : act x (ws s k) = ((act x s).1, ws (act x s).2 k) := by
  unfold act ws
  simp only [Bool.cond_eq_ite]
  repeat' split
  all_goals rfl
theorem act_skip {x : Stmt} (h : x.Kind = 0) (s : running) : act x s = (true, s) := by
  unfold act; rw [h]; rfl
theorem skip_run {t : Ptree} {u u' : running} {b : Bool} (h : Run t u b u') (ht : hd t = 0) (ho : b = true ∨ u'.out ≠ 1) : b = true ∧ u' = ws u u'.steps := by
  cases h with
  | seqT hk _ _ => have : hd _ = _ := ht; unfold hd at this; simp only at this; omega
  | seqF hk _ => have : hd _ = _ := ht; unfold hd at this; simp only at this; omega
  | stop hk _ => rcases ho with h | h; cases h; exact absurd rfl h
  | act _ _ _ _ =>
    have : hd _ = _ := ht
    unfold hd at this
    simp only at this
    rw [act_skip this]
    exact ⟨rfl, rfl⟩
  | ifT hk _ _ _ => have : hd _ = _ := ht; unfold hd at this; simp only at this; omega
  | ifF hk _ _ _ => have : hd _ = _ := ht; unfold hd at this; simp only at this; omega
  | whE hk _ _ => have : hd _ = _ := ht; unfold hd at this; simp only at this; omega
  | whF hk _ _ _ => have : hd _ = _ := ht; unfold hd at this; simp only at this; omega
  | whT hk _ _ _ _ => have : hd _ = _ := ht; unfold hd at this; simp only at this; omega
theorem skip_do (s : running) {k : Int} (h : k ≠ s.fuel) : Run skT (ws s k) true (ws s (k + 1)) :=
  Run.act (x := skS) (a := 0) (ks := []) (s := ws s k) (by decide) (by decide) (by decide) h
theorem ev_fix {t : Term} (h : fixd t = true) (vs : List Int) : evT t vs = t.Const := by
  unfold fixd at h
  unfold evT
  rw [of_decide_eq_true h]; rfl
theorem evL_unit {vs : List Int} : ∀ (k n : Nat), inInt (vs.getD (n + k) 0) = true → evL vs n (List.replicate k 0 ++ [1]) 0 = vs.getD (n + k) 0
  | 0, n, h => by
    show w64 (0 + w64 (1 * vs.getD n 0)) = _
    unfold inInt at h
    simp only [Bool.and_eq_true, decide_eq_true_eq] at h
    generalize vs.getD (n + 0) 0 = y at *
    have hy : w64 y = y := w64_eq ⟨by omega, by omega⟩
    rw [Int.one_mul, hy, Int.zero_add, hy]
  | k + 1, n, h => by
    have e : n + (k + 1) = n + 1 + k := by omega
    rw [e] at h ⊢
    have := evL_unit k (n + 1) h
    have z : w64 (0 + w64 (0 * vs.getD n 0)) = 0 := by rw [Int.zero_mul, Int.zero_add]; decide
    show evL vs (n + 1) (List.replicate k 0 ++ [1]) (w64 (0 + w64 (0 * vs.getD n 0))) = _
    rw [z]; exact this
theorem ev_alone {t : Term} {v : Int} {vs : List Int} (h : alone t v = true) (hv : inInt (vs.getD v.toNat 0) = true) : evT t vs = vs.getD v.toNat 0 := by
  unfold alone at h
  simp only [Bool.and_eq_true, decide_eq_true_eq] at h
  unfold evT
  rw [h.1, h.2, evL_unit v.toNat 0 (by rwa [Nat.zero_add]), Nat.zero_add]
theorem act_alone {x : Stmt} {s : running} (hk : x.Kind = 2) (h : alone x.Sum x.Var = true) (hv : x.Var.toNat < s.state.Vars.length) (ha : s.state.Vars.all inInt = true) : act x s = (true, s) := by
  have e0 : s.state.Vars.getD x.Var.toNat 0 = s.state.Vars[x.Var.toNat] := by rw [List.getD_eq_getElem?_getD, List.getElem?_eq_getElem hv]; rfl
  have hi : inInt (s.state.Vars.getD x.Var.toNat 0) = true := by rw [e0]; exact (List.all_eq_true.1 ha) _ (List.getElem_mem hv)
  have e := ev_alone h hi
  unfold act
  rw [e, hi, hk, e0, List.set_getElem_self]; rfl
theorem act_holds {x : Stmt} {s : running} (hk : x.Kind = 6) (h : fixd x.Sum = true) (hv : ¬ x.Sum.Const < 0) : act x s = (true, s) := by
  have e := ev_fix h s.state.Vars
  unfold act
  rw [e, hk, decide_eq_false hv]; rfl
def okV (s : running) : Prop := s.state.Vars.all inInt = true ∧ s.state.Cells.all inInt = true
theorem Run.sm {t : Ptree} {s s' : running} {b : Bool} (h : Run t s b s') : okT t → Vr s → okV s → (b = true ∨ s'.out ≠ 1) → ∀ k, k ≤ s.steps → ∃ k', k' ≤ s'.steps ∧ Run (Go.Mod.sm t) (ws s k) b (ws s' k') := by
  induction h with
  | @seqT x a l r s s1 s2 b hk h1 h2 ih1 ih2 =>
    intro ht v g ho k hk'
    obtain ⟨o1, o2⟩ := okL2 (by unfold okT at ht; exact ht.2)
    have v1 := (h1.keep v).1
    have g1 := h1.state g
    obtain ⟨k1, q1, r1⟩ := ih1 o1 v g (.inl rfl) k hk'
    have le1 := h1.le
    have le2 := h2.le
    rw [sm2]; rw [red2]; rw [if_pos hk]
    by_cases c1 : hd (Go.Mod.sm l) = 0
    · rw [if_pos c1]
      obtain ⟨_, e⟩ := skip_run r1 c1 (.inl rfl)
      have e2 : ws (ws s1 k1) k = ws (ws (ws s k) (ws s1 k1).steps) k := congrArg (fun z => ws z k) e
      replace e2 : ws s1 k = ws s k := e2
      obtain ⟨k2, q2, r2⟩ := ih2 o2 v1 g1 ho k (by omega)
      rw [e2] at r2
      exact ⟨k2, q2, r2⟩
    · rw [if_neg c1]
      obtain ⟨k2, q2, r2⟩ := ih2 o2 v1 g1 ho k1 q1
      by_cases c2 : hd (Go.Mod.sm r) = 0
      · rw [if_pos c2]
        obtain ⟨e1, e⟩ := skip_run r2 c2 ho
        have e2 : ws (ws s2 k2) k1 = ws (ws (ws s1 k1) (ws s2 k2).steps) k1 := congrArg (fun z => ws z k1) e
        replace e2 : ws s2 k1 = ws s1 k1 := e2
        refine ⟨k1, by omega, ?_⟩
        rw [e2, e1]; exact r1
      · rw [if_neg c2]
        exact ⟨k2, q2, .seqT hk r1 r2⟩
  | @seqF x a l r s s1 hk h1 ih =>
    intro ht v g ho k hk'
    obtain ⟨o1, o2⟩ := okL2 (by unfold okT at ht; exact ht.2)
    obtain ⟨k1, q1, r1⟩ := ih o1 v g ho k hk'
    rw [sm2]; rw [red2]; rw [if_pos hk]
    have c1 : hd (Go.Mod.sm l) ≠ 0 := fun c1 => by have := (skip_run r1 c1 ho).1; cases this
    rw [if_neg c1]
    by_cases c2 : hd (Go.Mod.sm r) = 0
    · rw [if_pos c2]; exact ⟨k1, q1, r1⟩
    · rw [if_neg c2]; exact ⟨k1, q1, .seqF hk r1⟩
  | stop _ _ => intro ht v g ho k hk'; rcases ho with h | h; cases h; exact absurd rfl h
  | @act x a ks s h1 h7 h8 hf =>
    intro ht v g ho k hk'
    obtain ⟨ha, _⟩ := okT_iff.1 ht
    have hkd := ar_kind ha
    have hks : ks = [] := List.eq_nil_of_length_eq_zero (by omega)
    subst hks
    have hv := ar_var ha
    have hs1 := v.s1
    have kf : k ≠ s.fuel := by omega
    rw [(act_keep x (tick s)).2.1]
    have hle : k + 1 ≤ (tick s).steps := by show k + 1 ≤ s.steps + 1; omega
    rw [sm0]; rw [red0]
    by_cases c1 : x.Kind = 6 ∧ fixd x.Sum = true ∧ ¬ x.Sum.Const < 0
    · rw [if_pos c1, act_holds c1.1 c1.2.1 c1.2.2]
      exact ⟨k + 1, hle, skip_do s kf⟩
    · by_cases c2 : x.Kind = 2 ∧ alone x.Sum x.Var = true
      · rw [if_neg c1, if_pos c2, act_alone (s := tick s) c2.1 c2.2 (by have := v.vs; show x.Var.toNat < s.state.Vars.length; omega) g.1]
        exact ⟨k + 1, hle, skip_do s kf⟩
      · rw [if_neg c1, if_neg c2]
        refine ⟨k + 1, hle, ?_⟩
        have := Run.act (a := 0) (ks := []) (s := ws s k) h1 h7 h8 kf
        rw [show tick (ws s k) = ws (tick s) (k + 1) from rfl, act_ws] at this
        exact this
  | @ifT x a l r s b s' hk hf hs h1 ih =>
    intro ht v g ho k hk'
    obtain ⟨o1, o2⟩ := okL2 (by unfold okT at ht; exact ht.2)
    have e0 : (tick s).steps = s.steps + 1 := rfl
    have hs1 := v.s1
    have kf : k ≠ s.fuel := by omega
    rw [sm2]; rw [red2]; rw [if_neg (by omega)]
    have c1 : ¬ (fixd x.Sum = true ∧ x.Sum.Const < 0) := fun c => by rw [ev_fix c.1] at hs; omega
    rw [if_neg c1]
    by_cases c2 : fixd x.Sum = true ∨ fl (Go.Mod.sm l) = fl (Go.Mod.sm r)
    · rw [if_pos c2]
      exact ih o1 (v.tick hf) g ho k (by omega)
    · rw [if_neg c2]
      obtain ⟨k1, q1, r1⟩ := ih o1 (v.tick hf) g ho (k + 1) (by omega)
      exact ⟨k1, q1, .ifT (s := ws s k) hk kf hs r1⟩
  | @ifF x a l r s b s' hk hf hs h1 ih =>
    intro ht v g ho k hk'
    obtain ⟨o1, o2⟩ := okL2 (by unfold okT at ht; exact ht.2)
    have e0 : (tick s).steps = s.steps + 1 := rfl
    have hs1 := v.s1
    have kf : k ≠ s.fuel := by omega
    rw [sm2]; rw [red2]; rw [if_neg (by omega)]
    by_cases c1 : fixd x.Sum = true ∧ x.Sum.Const < 0
    · rw [if_pos c1]
      exact ih o2 (v.tick hf) g ho k (by omega)
    · rw [if_neg c1]
      by_cases c2 : fixd x.Sum = true ∨ fl (Go.Mod.sm l) = fl (Go.Mod.sm r)
      · rw [if_pos c2]
        have c3 : fl (Go.Mod.sm l) = fl (Go.Mod.sm r) := by
          rcases c2 with c2 | c2
          · rw [ev_fix c2] at hs; exact absurd ⟨c2, by omega⟩ c1
          · exact c2
        obtain ⟨k1, q1, r1⟩ := ih o2 (v.tick hf) g ho k (by omega)
        exact ⟨k1, q1, r1.same _ (sm_ok r o2).1 (sm_ok l o1).1 c3.symm⟩
      · rw [if_neg c2]
        obtain ⟨k1, q1, r1⟩ := ih o2 (v.tick hf) g ho (k + 1) (by omega)
        exact ⟨k1, q1, .ifF (s := ws s k) hk kf hs r1⟩
  | @whE x a l s hk hf hs =>
    intro ht v g ho k hk'
    have e0 : (tick s).steps = s.steps + 1 := rfl
    have hs1 := v.s1
    have kf : k ≠ s.fuel := by omega
    rw [sm1]; rw [red1]
    by_cases c1 : fixd x.Sum = true ∧ x.Sum.Const < 0
    · rw [if_pos c1]; exact ⟨k + 1, by omega, skip_do s kf⟩
    · rw [if_neg c1]; exact ⟨k + 1, by omega, .whE (s := ws s k) hk kf hs⟩
  | @whF x a l s s' hk hf hs h1 ih =>
    intro ht v g ho k hk'
    have o1 := okL1 (by unfold okT at ht; exact ht.2)
    have e0 : (tick s).steps = s.steps + 1 := rfl
    have hs1 := v.s1
    have kf : k ≠ s.fuel := by omega
    have c1 : ¬ (fixd x.Sum = true ∧ x.Sum.Const < 0) := fun c => by rw [ev_fix c.1] at hs; omega
    rw [sm1]; rw [red1]; rw [if_neg c1]
    obtain ⟨k1, q1, r1⟩ := ih o1 (v.tick hf) g ho (k + 1) (by omega)
    exact ⟨k1, q1, .whF (s := ws s k) hk kf hs r1⟩
  | @whT x a l s s1 b s2 hk hf hs h1 h2 ih1 ih2 =>
    intro ht v g ho k hk'
    have o1 := okL1 (by unfold okT at ht; exact ht.2)
    have e0 : (tick s).steps = s.steps + 1 := rfl
    have hs1 := v.s1
    have kf : k ≠ s.fuel := by omega
    have c1 : ¬ (fixd x.Sum = true ∧ x.Sum.Const < 0) := fun c => by rw [ev_fix c.1] at hs; omega
    obtain ⟨k1, q1, r1⟩ := ih1 o1 (v.tick hf) g (.inl rfl) (k + 1) (by omega)
    obtain ⟨k2, q2, r2⟩ := ih2 ht (h1.keep (v.tick hf)).1 (h1.state (s := tick s) g) ho k1 q1
    rw [sm1] at r2 ⊢
    rw [red1] at r2 ⊢
    rw [if_neg c1] at r2 ⊢
    exact ⟨k2, q2, .whT (s := ws s k) hk kf hs r1 r2⟩
def RunL : List Ptree → running → Bool → running → Prop
  | [], s, b, s' => b = true ∧ s' = s
  | p :: r, s, b, s' => (b = false ∧ Run p s false s') ∨ ∃ s1, Run p s true s1 ∧ RunL r s1 b s'
theorem RunL.one {p : Ptree} {s s' : running} {b : Bool} : RunL [p] s b s' ↔ Run p s b s' := by
  constructor
  · rintro (⟨rfl, h⟩ | ⟨s1, h, rfl, rfl⟩)
    · exact h
    · exact h
  · intro h
    cases b with
    | false => exact .inl ⟨rfl, h⟩
    | true => exact .inr ⟨s', h, rfl, rfl⟩
theorem RunL.app : ∀ {a c : List Ptree} {s s1 s2 : running} {b : Bool}, RunL a s true s1 → RunL c s1 b s2 → RunL (a ++ c) s b s2
  | [], c, s, s1, s2, b, ⟨_, h1⟩, h2 => by rw [h1] at h2; exact h2
  | p :: a, c, s, s1, s2, b, h1, h2 => by
    rcases h1 with ⟨h, _⟩ | ⟨s3, h3, h4⟩
    · cases h
    · exact .inr ⟨s3, h3, RunL.app h4 h2⟩
theorem RunL.fail : ∀ {a c : List Ptree} {s s1 : running}, RunL a s false s1 → RunL (a ++ c) s false s1
  | [], c, s, s1, ⟨h, _⟩ => by cases h
  | p :: a, c, s, s1, h1 => by
    rcases h1 with h | ⟨s3, h3, h4⟩
    · exact .inl h
    · exact .inr ⟨s3, h3, RunL.fail h4⟩
theorem RunL.jn : ∀ {ps : List Ptree} {s s' : running} {b : Bool}, ps ≠ [] → RunL ps s b s' → Run (Go.Mod.jn ps) s b s'
  | [], s, s', b, h, _ => absurd rfl h
  | [p], s, s', b, _, h => RunL.one.1 h
  | p :: q :: r, s, s', b, _, h => by
    rw [jn_cons (by simp)]
    rcases h with ⟨rfl, h⟩ | ⟨s3, h3, h4⟩
    · exact .seqF rfl h
    · exact .seqT rfl h3 (RunL.jn (by simp) h4)
theorem Run.parts {t : Ptree} {s s' : running} {b : Bool} (h : Run t s b s') : okT t → RunL (np t) s b s' := by
  induction h with
  | @seqT x a l r s s1 s2 b hk h1 h2 ih1 ih2 =>
    intro ht
    obtain ⟨o1, o2⟩ := okL2 (by unfold okT at ht; exact ht.2)
    rw [np_one hk, npA2]; exact (ih1 o1).app (ih2 o2)
  | @seqF x a l r s s1 hk h1 ih =>
    intro ht
    obtain ⟨o1, o2⟩ := okL2 (by unfold okT at ht; exact ht.2)
    rw [np_one hk, npA2]; exact (ih o1).fail
  | stop hk hf => intro ht; rw [np_oth hk]; exact RunL.one.2 (.stop hk hf)
  | act h1 h7 h8 hf => intro ht; rw [np_oth h1]; exact RunL.one.2 (.act h1 h7 h8 hf)
  | @ifT x a l r s b s' hk hf hs h1 ih =>
    intro ht
    obtain ⟨o1, o2⟩ := okL2 (by unfold okT at ht; exact ht.2)
    rw [np_oth (by omega), npL2]; exact RunL.one.2 (.ifT hk hf hs ((ih o1).jn (np_ok l o1).1))
  | @ifF x a l r s b s' hk hf hs h1 ih =>
    intro ht
    obtain ⟨o1, o2⟩ := okL2 (by unfold okT at ht; exact ht.2)
    rw [np_oth (by omega), npL2]; exact RunL.one.2 (.ifF hk hf hs ((ih o2).jn (np_ok r o2).1))
  | whE hk hf hs => intro ht; rw [np_oth (by omega), npL1]; exact RunL.one.2 (.whE hk hf hs)
  | @whF x a l s s' hk hf hs h1 ih =>
    intro ht
    have o1 := okL1 (by unfold okT at ht; exact ht.2)
    rw [np_oth (by omega), npL1]; exact RunL.one.2 (.whF hk hf hs ((ih o1).jn (np_ok l o1).1))
  | @whT x a l s s1 b s2 hk hf hs h1 h2 ih1 ih2 =>
    intro ht
    have o1 := okL1 (by unfold okT at ht; exact ht.2)
    have r2 := ih2 ht
    rw [np_oth (by omega), npL1] at r2 ⊢
    exact RunL.one.2 (.whT hk hf hs ((ih1 o1).jn (np_ok l o1).1) (RunL.one.1 r2))
theorem np_jn : ∀ {ps : List Ptree}, ps ≠ [] → (∀ p ∈ ps, np p = [p]) → np (jn ps) = ps
  | [], h, _ => absurd rfl h
  | [p], _, h => h p (by simp)
  | p :: q :: r, _, h => by
    rw [jn_cons (by simp), np_one (show seqS.Kind = 1 from rfl), npA2, h p (by simp), np_jn (ps := q :: r) (by simp) (fun t ht => h t (List.mem_cons_of_mem _ ht))]; rfl
theorem np_fix : ∀ t, okT t → ∀ p ∈ np t, np p = [p] := by
  refine tree_ind (fun x a h => ?_) (fun x a l h hl il => ?_) (fun x a l r h hl hr il ir => ?_)
  · have hkd := ar_kind h
    rw [np_oth (by omega)]
    intro p hp
    rw [List.mem_singleton] at hp
    subst hp
    rw [np_oth (by omega)]; rfl
  · have hkd := ar_kind h
    rw [np_oth (by omega), npL1]
    intro p hp
    rw [List.mem_singleton] at hp
    subst hp
    rw [np_oth (by omega), npL1, np_jn (np_ok l hl).1 il]
  · by_cases hk : x.Kind = 1
    · rw [np_one hk, npA2]
      intro p hp
      rcases List.mem_append.1 hp with hp | hp
      · exact il p hp
      · exact ir p hp
    · rw [np_oth hk, npL2]
      intro p hp
      rw [List.mem_singleton] at hp
      subst hp
      rw [np_oth hk, npL2, np_jn (np_ok l hl).1 il, np_jn (np_ok r hr).1 ir]
theorem np_idem {t : Ptree} (h : okT t) : np (jn (np t)) = np t := np_jn (np_ok t h).1 (np_fix t h)
end Go.Mod

namespace Go.Mod
open Go.AM
set_option linter.unusedVariables false
set_option linter.unusedSimpArgs false
def allR {α : Type} (r : α → α → Bool) : List α → List α → Bool
  | [], [] => true
  | x :: xs, y :: ys => r x y && allR r xs ys
  | _, _ => false
theorem forL_cmp {α : Type} {L0 : Nat → α → Unit → Option (Ctl Unit (Unit ⊕ Bool))} (r : α → α → Bool) : ∀ (xs ys : List α) (k : Nat),
    (∀ n x y, xs[n]? = some x → ys[n]? = some y → L0 (k + n) x () = bif !r x y then some (.out (.inr false)) else some (.next ())) → xs.length = ys.length →
    forL L0 (fun _ => .inl ()) k xs () = some (bif allR r xs ys then .inl () else .inr false)
  | [], [], k, _, _ => rfl
  | [], _ :: _, _, _, h => by simp at h
  | _ :: _, [], _, _, h => by simp at h
  | x :: xs, y :: ys, k, h, hl => by
    have h0 := h 0 x y rfl rfl
    rw [Nat.add_zero] at h0
    unfold forL allR
    rw [h0]
    cases r x y with
    | true =>
      rw [Bool.not_true, cond_false, Bool.true_and]
      exact forL_cmp r xs ys (k + 1) (fun n a b ha hb => by rw [show k + 1 + n = k + (n + 1) by omega]; exact h (n + 1) a b (by simpa using ha) (by simpa using hb)) (by simpa using hl)
    | false => rw [Bool.not_false, cond_true, Bool.false_and]; rfl
theorem allR_eq {α : Type} [DecidableEq α] : ∀ (xs ys : List α), allR (fun x y => decide (x = y)) xs ys = decide (xs = ys)
  | [], [] => rfl
  | [], _ :: _ => rfl
  | _ :: _, [] => rfl
  | x :: xs, y :: ys => by
    unfold allR
    rw [allR_eq xs ys]
    by_cases h1 : x = y <;> by_cases h2 : xs = ys <;> simp [h1, h2]
theorem same_ints (xs ys : List Int) : m_slices_Equal_int64_int64 xs ys = some (decide (xs = ys)) := by
  unfold m_slices_Equal_int64_int64
  rw [dec_eqN]
  by_cases h : xs.length = ys.length
  · rw [decide_eq_true h, Bool.not_true, cond_false, forL_cmp (fun x y => decide (x = y)) xs ys 0 (fun n x y hx hy => by
      rw [Nat.zero_add]; unfold m_slices_Equal_int64_int64_L0; rw [XA hy]; rfl) h, allR_eq, Option.bind_some]
    cases decide (xs = ys) <;> rfl
  · rw [decide_eq_false h, decide_eq_false (fun e => h (by rw [e]))]; rfl
theorem same_term (x y : Term) : m_impl_Term_equal x y = some (decide (x = y)) := by
  unfold m_impl_Term_equal
  rw [same_ints]
  obtain ⟨a, b⟩ := x
  obtain ⟨c, d⟩ := y
  by_cases h1 : a = c <;> by_cases h2 : b = d <;> simp [h1, h2]
theorem same_termL (xs ys : List Term) : m_impl_sameTerms xs ys = some (decide (xs = ys)) := by
  unfold m_impl_sameTerms QT
  rw [dec_eqN]
  by_cases h : xs.length = ys.length
  · rw [decide_eq_true h, Bool.not_true, cond_false, forL_cmp (fun x y => decide (x = y)) xs ys 0 (fun n x y hx hy => by
      rw [Nat.zero_add]; unfold QQ; rw [XA hy, Option.bind_some, same_term]; rfl) h, allR_eq, Option.bind_some]
    cases decide (xs = ys) <;> rfl
  · rw [decide_eq_false h, decide_eq_false (fun e => h (by rw [e]))]; rfl
def sameR (a b : Ptree) : Bool := decide (fl a = fl b)
theorem allR_fl : ∀ (ks ls : List Ptree), (∀ t ∈ ks, okT t) → (∀ t ∈ ls, okT t) → ks.length = ls.length → allR sameR ks ls = decide (flL ks = flL ls)
  | [], [], _, _, _ => rfl
  | [], _ :: _, _, _, h => by simp at h
  | _ :: _, [], _, _, h => by simp at h
  | k :: ks, l :: ls, hk, hl, h => by
    unfold allR
    rw [allR_fl ks ls (fun t ht => hk t (by simp [ht])) (fun t ht => hl t (by simp [ht])) (by simpa using h)]
    show (decide (fl k = fl l) && decide (flL ks = flL ls)) = decide (fl k ++ flL ks = fl l ++ flL ls)
    by_cases e : fl k ++ flL ks = fl l ++ flL ls
    · have e1 := okT_go k (flL ks) (hk k (by simp))
      rw [e, okT_go l (flL ls) (hl l (by simp))] at e1
      have e2 : flL ls = flL ks := Option.some.inj e1
      rw [e2] at e
      have e3 := List.append_cancel_right e
      rw [decide_eq_true e3, decide_eq_true e2.symm, decide_eq_true (by rw [e3, e2])]; rfl
    · rw [decide_eq_false e]
      by_cases e1 : fl k = fl l
      · by_cases e2 : flL ks = flL ls
        · exact absurd (by rw [e1, e2]) e
        · rw [decide_eq_false e2, Bool.and_false]
      · rw [decide_eq_false e1, Bool.false_and]
theorem impl_sameTree : ∀ (n : Nat) (a b : Ptree), dp a ≤ n → okT a → okT b → m_impl_sameTree n a b = some (sameR a b)
  | 0, .nil, _, _, h, _ => by unfold okT at h; exact h.elim
  | 0, .mk x i ks, _, hn, _, _ => by have e : dp (.mk x i ks) = 1 + dpL ks := by conv => lhs; unfold dp
                                     omega
  | n + 1, .nil, _, _, h, _ => by unfold okT at h; exact h.elim
  | n + 1, .mk x i ks, .nil, _, _, h => by unfold okT at h; exact h.elim
  | n + 1, .mk x i ks, .mk y j ls, hn, ha, hb => by
    have a0 := okT_iff.1 ha
    have b0 := okT_iff.1 hb
    show m_impl_sameTree_F_J0 (m_impl_sameTree n) (.mk x i ks) (.mk y j ls) (x.Kind, x.Var, x.Event, x.Sum.Const, x.Sum.Coeffs, x.Index.Const, x.Index.Coeffs, x.Facts, y.Kind, y.Var, y.Event, y.Sum.Const, y.Sum.Coeffs, y.Index.Const, y.Index.Coeffs, y.Facts) = _
    unfold m_impl_sameTree_F_J0 sameR
    simp only
    rw [Term.eta, Term.eta, Term.eta, Term.eta, same_term, same_term, same_termL, fl_mk, fl_mk]
    simp only [Option.bind_some]
    have hxy := pi_Stmt x y
    by_cases h1 : x.Kind = y.Kind
    · by_cases h2 : x.Var = y.Var
      · by_cases h3 : x.Event = y.Event
        · by_cases h4 : x.Sum = y.Sum
          · by_cases h5 : x.Index = y.Index
            · by_cases h6 : x.Facts = y.Facts
              · have hx : x = y := hxy.1 ⟨h1, h2, h3, h4, h5, h6⟩
                rw [decide_eq_true h1, decide_eq_true h2, decide_eq_true h3, decide_eq_true h4, decide_eq_true h5, decide_eq_true h6]
                simp only [cond_true]
                subst hx
                have hlen : ks.length = ls.length := by have := a0.1.symm.trans b0.1; exact Option.some.inj this
                show (QE (m_impl_sameTree n) ks ls).bind (fun r => some r) = _
                unfold QE
                rw [dec_eqN, decide_eq_true hlen, Bool.not_true, cond_false, forL_cmp sameR ks ls 0 (fun m u v hu hv => by
                  have mu := List.mem_of_getElem? hu
                  have mv := List.mem_of_getElem? hv
                  have := (kid_dp (x := x) (a := i) mu).1
                  rw [Nat.zero_add]
                  unfold QJ
                  rw [XA hv, Option.bind_some, impl_sameTree n u v (by omega) (a0.2 u mu) (b0.2 v mv)]; rfl) hlen, allR_fl ks ls a0.2 b0.2 hlen, Option.bind_some]
                have hd : decide (x :: flL ks = x :: flL ls) = decide (flL ks = flL ls) := by simp
                rw [hd]
                cases decide (flL ks = flL ls) <;> rfl
              · rw [decide_eq_false h6, decide_eq_false (p := _ :: _ = _ :: _) (fun e => h6 (by rw [(List.cons.inj e).1])), decide_eq_true h1, decide_eq_true h2, decide_eq_true h3, decide_eq_true h4, decide_eq_true h5]; rfl
            · rw [decide_eq_false h5, decide_eq_false (p := _ :: _ = _ :: _) (fun e => h5 (by rw [(List.cons.inj e).1])), decide_eq_true h1, decide_eq_true h2, decide_eq_true h3, decide_eq_true h4]; rfl
          · rw [decide_eq_false h4, decide_eq_false (p := _ :: _ = _ :: _) (fun e => h4 (by rw [(List.cons.inj e).1])), decide_eq_true h1, decide_eq_true h2, decide_eq_true h3]; rfl
        · rw [decide_eq_false h3, decide_eq_false (p := _ :: _ = _ :: _) (fun e => h3 (by rw [(List.cons.inj e).1])), decide_eq_true h1, decide_eq_true h2]; rfl
      · rw [decide_eq_false h2, decide_eq_false (p := _ :: _ = _ :: _) (fun e => h2 (by rw [(List.cons.inj e).1])), decide_eq_true h1]; rfl
    · rw [decide_eq_false h1, decide_eq_false (p := _ :: _ = _ :: _) (fun e => h1 (by rw [(List.cons.inj e).1]))]; rfl
theorem gcdL_zero {xs : List Int} : gcdL xs = 0 ↔ ∀ x ∈ xs, x = 0 := by
  constructor
  · intro h x hx
    have := gcdL_dvd hx
    rw [h] at this
    have := Nat.eq_zero_of_zero_dvd this
    omega
  · intro h
    have := dvd_gcdL (k := 0) (xs := xs) (fun x hx => by rw [h x hx]; exact Nat.dvd_refl 0)
    exact Nat.eq_zero_of_zero_dvd this
theorem all_zero_rep {xs : List Int} : (∀ x ∈ xs, x = 0) ↔ xs = List.replicate xs.length 0 := ⟨fun h => List.eq_replicate_iff.2 ⟨rfl, h⟩, fun h x hx => by rw [h] at hx; exact List.eq_of_mem_replicate hx⟩
theorem alone_split {cs : List Int} {n : Nat} (h : cs.length = n + 1) : ∃ pre z, cs = pre ++ [z] ∧ pre.length = n ∧ cs[n]? = some z ∧ cs.take n = pre := by
  have hne : cs ≠ [] := fun e => by rw [e] at h; simp at h
  have e := List.dropLast_concat_getLast hne
  refine ⟨cs.dropLast, cs.getLast hne, e.symm, by simp [h], ?_, ?_⟩
  · rw [← List.getLast?_eq_some_getLast hne, List.getLast?_eq_getElem?, h]; rfl
  · rw [List.dropLast_eq_take, h]; rfl
theorem alone_iff {t : Term} {n : Nat} {pre : List Int} {z : Int} (h1 : t.Coeffs = pre ++ [z]) (h2 : pre.length = n) : alone t (n : Int) = (decide (t.Const = 0) && (decide (z = 1) && decide (∀ x ∈ pre, x = 0))) := by
  unfold alone
  rw [Int.toNat_natCast]
  congr 1
  rw [h1]
  by_cases hz : z = 1
  · by_cases hp : ∀ x ∈ pre, x = 0
    · rw [decide_eq_true hz, decide_eq_true hp, decide_eq_true (by rw [hz, all_zero_rep.1 hp, h2])]; rfl
    · rw [decide_eq_false hp, Bool.and_false, decide_eq_false]
      intro e
      have := (List.append_inj' e rfl).1
      exact hp (fun x hx => by rw [this] at hx; exact List.eq_of_mem_replicate hx)
  · rw [decide_eq_false hz, Bool.false_and, decide_eq_false]
    intro e
    have := (List.append_inj' e rfl).2
    exact hz (by simpa using this)
theorem alone_len {t : Term} {n : Nat} (h : t.Coeffs.length ≠ n + 1) : alone t (n : Int) = false := by
  unfold alone
  rw [Int.toNat_natCast, decide_eq_false (p := t.Coeffs = _) (fun e => h (by rw [e]; simp)), Bool.and_false]
theorem impl_alone {t : Term} {n : Nat} (ht : over t = true) (hn : n ≤ 3) : m_impl_Term_isVariable t (n : Int) = some (alone t (n : Int)) := by
  have hv : vT t = true := by simp [over] at ht; exact ht.1
  unfold m_impl_Term_isVariable
  rw [w64_succ (by omega), dec_eqN]
  by_cases hl : t.Coeffs.length = n + 1
  · obtain ⟨pre, z, e1, e2, e3, e4⟩ := alone_split hl
    rw [decide_eq_true hl, Bool.not_true, Bool.or_false, alone_iff e1 e2]
    cases decide (t.Const = 0) with
    | false => rfl
    | true =>
      rw [Bool.not_true, cond_false, XA e3, Option.bind_some, Bool.true_and]
      cases decide (z = 1) with
      | false => rfl
      | true =>
        have hs : sliceI t.Coeffs (0 : Int) (n : Int) = some pre := by
          have := sliceI_some (xs := t.Coeffs) (l := 0) (u := n) (by omega) (by omega)
          rw [show ((0 : Nat) : Int) = 0 from rfl] at this
          rw [this, List.drop_zero, Nat.sub_zero, e4]
        rw [Bool.not_true, cond_false, hs, Option.bind_some, impl_gcd (fun x hx => vT_coef hv x (by rw [e1]; simp [hx])), Option.bind_some, Bool.true_and]
        congr 1
        by_cases hz : ∀ x ∈ pre, x = 0
        · rw [decide_eq_true hz, decide_eq_true (by rw [gcdL_zero.2 hz]; rfl)]
        · rw [decide_eq_false hz, decide_eq_false (fun e => hz (gcdL_zero.1 (by omega)))]
  · rw [decide_eq_false hl, Bool.not_false, Bool.or_true, alone_len hl]; rfl
theorem spec_alone {t : Term} {n : Nat} (ht : over t = true) (hn : n ≤ 3) : m_spec_l03Alone t (n : Int) = some (alone t (n : Int)) := by
  unfold m_spec_l03Alone
  rw [w64_succ (by omega), dec_eqN]
  by_cases hl : t.Coeffs.length = n + 1
  · obtain ⟨pre, z, e1, e2, e3, e4⟩ := alone_split hl
    rw [decide_eq_true hl, Bool.not_true, Bool.or_false, alone_iff e1 e2]
    cases decide (t.Const = 0) with
    | false => rfl
    | true =>
      have h := iter_for (step := m_spec_l03Alone_L0 t (n : Int)) pre (fun k (_ : Unit) => (k : Int)) (fun _ x _ => bif decide (x = 0) then some (.next ()) else some (.out (.inr false))) (fun _ => .inl ())
        (fun k x r hx => by
          have hk := get_lt hx
          unfold m_spec_l03Alone_L0
          rw [decide_eq_true (show (k : Int) < (n : Int) by omega), cond_true, XA (x := x) (by rw [e1, List.getElem?_append_left hk]; exact hx), Option.bind_some, w64_succ (by omega)]
          cases decide (x = 0) <;> rfl)
        (fun r => by unfold m_spec_l03Alone_L0; rw [decide_eq_false (by omega)]; rfl) ()
      rw [forL_all (f := .inr false) (fun x => decide (x = 0)) pre 0 (fun _ _ _ => rfl)] at h
      replace h : iter (m_spec_l03Alone_L0 t (n : Int)) (0 : Int) = _ := h
      rw [Bool.not_true, cond_false, h, Option.bind_some, Bool.true_and]
      by_cases hz : ∀ x ∈ pre, x = 0
      · rw [decide_eq_true hz, Bool.and_true, List.all_eq_true.2 (fun x hx => decide_eq_true (hz x hx)), cond_true]
        unfold m_spec_l03Alone_A0
        simp only
        rw [XA e3]; rfl
      · rw [decide_eq_false hz, Bool.and_false]
        have : pre.all (fun x => decide (x = 0)) = false := by
          cases hq : pre.all (fun x => decide (x = 0)) with
          | false => rfl
          | true => exact absurd (fun x hx => of_decide_eq_true (List.all_eq_true.1 hq x hx)) hz
        rw [this]; rfl
  · rw [decide_eq_false hl, Bool.not_false, Bool.or_true, alone_len hl]; rfl
theorem un_hd {t : Ptree} (h : okT t) : ∃ o, XE t = some o ∧ o.Stmt.Kind = hd t := by
  cases t with
  | nil => unfold okT at h; exact h.elim
  | mk x a ks => exact ⟨_, rfl, rfl⟩
theorem smL_map : ∀ ks, smL ks = ks.map sm
  | [] => rfl
  | k :: r => by
    have : smL (k :: r) = sm k :: smL r := by conv => lhs; unfold smL
    rw [this, smL_map r]; rfl
theorem simp_kids {rec : Ptree → Option Ptree} : ∀ (ks : List Ptree) (k : Nat) (acc : List Ptree), (∀ t ∈ ks, rec t = some (sm t)) → acc.length + ks.length ≤ 1000 →
    forL (Xp rec) (fun s0 => s0) k ks acc = some (acc ++ smL ks)
  | [], k, acc, _, _ => by
    have : smL [] = [] := by unfold smL; rfl
    rw [this, List.append_nil]; rfl
  | t :: r, k, acc, h, hl => by
    have e : smL (t :: r) = sm t :: smL r := by conv => lhs; unfold smL
    simp only [List.length_cons] at hl
    unfold forL
    have st : Xp rec k t acc = some (.next (acc ++ [sm t])) := by
      unfold Xp
      rw [h t (by simp), Option.bind_some, Xr (by simp; omega)]; rfl
    rw [st]
    show forL _ _ (k + 1) r (acc ++ [sm t]) = _
    rw [simp_kids r (k + 1) (acc ++ [sm t]) (fun u hu => h u (by simp [hu])) (by simp; omega), e]
    simp
theorem fixd_len (t : Term) : decide ((t.Coeffs.length : Int) = 0) = fixd t := by
  unfold fixd
  rw [dec_len0]
  by_cases h : t.Coeffs = []
  · rw [decide_eq_true h, decide_eq_true (by rw [h]; rfl)]
  · rw [decide_eq_false h, decide_eq_false (fun e => h (List.eq_nil_of_length_eq_zero e))]
theorem dec_nneg (c : Int) : decide (0 ≤ c) = !decide (c < 0) := by
  by_cases h : c < 0
  · rw [decide_eq_true h, decide_eq_false (by omega)]; rfl
  · rw [decide_eq_false h, decide_eq_true (by omega)]; rfl
theorem ite_b {α : Type} (p : Prop) [Decidable p] (x y : α) : (if p then x else y) = bif decide p then x else y := by by_cases h : p <;> simp [h]
theorem kind_var {x : Stmt} {m : Nat} (h : arS x = some m) : ∃ n : Nat, x.Var = (n : Int) ∧ n ≤ 3 := by
  have := ar_var h
  exact ⟨x.Var.toNat, by omega, by omega⟩
theorem impl_simplified : ∀ (n : Nat) (t : Ptree), dp t ≤ n → (fl t).length ≤ 1000 → okT t → XH n t = some (sm t)
  | 0, .nil, _, _, h => by unfold okT at h; exact h.elim
  | 0, .mk x a ks, hn, _, _ => by have e : dp (.mk x a ks) = 1 + dpL ks := by conv => lhs; unfold dp
                                  omega
  | n + 1, .nil, _, _, h => by unfold okT at h; exact h.elim
  | n + 1, .mk x a ks, hn, hn2, h => by
    have h0 := okT_iff.1 h
    have hsub : ∀ t ∈ ks, (fl t).length ≤ 1000 := fun t ht => by have := (kid_dp (x := x) (a := a) ht).2; omega
    have hkd := ar_kind h0.1
    have hle := ar_le h0.1
    have hov := (ar_terms h0.1).1
    show (forL (Xp (XH n)) (fun s0 => s0) 0 ks []).bind (fun u0 => m_impl_tree_simplified_F_A0 (tree.mk x a ks) u0) = _
    rw [simp_kids ks 0 [] (fun t ht => impl_simplified n t (by have := (kid_dp (x := x) (a := a) ht).1; omega) (hsub t ht) (h0.2 t ht)) (by simp; omega), Option.bind_some, List.nil_append]
    unfold m_impl_tree_simplified_F_A0
    simp only
    rw [fixd_len, dec_nneg]
    match ks, h0, hkd, hn, hsub with
    | [], h0, hkd, hn, hsub =>
      simp only [List.length_nil] at hkd
      rw [show smL [] = [] by unfold smL; rfl, sm0, red0]
      rw [decide_eq_false (show ¬ x.Kind = 1 by omega), cond_false, decide_eq_false (show ¬ x.Kind = 7 by omega), cond_false, decide_eq_false (show ¬ x.Kind = 8 by omega), cond_false]
      by_cases h6 : x.Kind = 6
      · rw [decide_eq_true h6, cond_true]
        by_cases hf : fixd x.Sum = true
        · by_cases hc : x.Sum.Const < 0
          · rw [decide_eq_true hc, Bool.not_true, Bool.and_false, cond_false, if_neg (fun c => c.2.2 hc), if_neg (fun c => by have := c.1; omega)]; rfl
          · rw [decide_eq_false hc, hf, Bool.not_false, Bool.and_true, cond_true, if_pos ⟨h6, rfl, hc⟩]; rfl
        · rw [Bool.eq_false_iff.2 hf, Bool.false_and, cond_false, if_neg (fun c => by have := c.2.1; cases this), if_neg (fun c => by have := c.1; omega)]; rfl
      · rw [decide_eq_false h6, cond_false, if_neg (fun c => h6 c.1)]
        by_cases h2 : x.Kind = 2
        · obtain ⟨v, hv, hv3⟩ := kind_var h0.1
          rw [decide_eq_true h2, cond_true, hv, impl_alone hov hv3, Option.bind_some]
          cases ha : alone x.Sum (v : Int) with
          | true => rw [cond_true, if_pos ⟨h2, rfl⟩]; rfl
          | false => rw [cond_false, if_neg (fun c => by have := c.2; cases this)]; rfl
        · rw [decide_eq_false h2, cond_false, if_neg (fun c => h2 c.1)]; rfl
    | [l], h0, hkd, hn, hsub =>
      simp only [List.length_cons, List.length_nil] at hkd
      have h8 : x.Kind = 8 := by omega
      rw [show smL [l] = [sm l] by rw [smL_map]; rfl, sm1, red1]
      rw [decide_eq_false (show ¬ x.Kind = 1 by omega), cond_false, decide_eq_false (show ¬ x.Kind = 7 by omega), cond_false, decide_eq_true h8, cond_true, ite_b]
      have : decide (fixd x.Sum = true ∧ x.Sum.Const < 0) = (fixd x.Sum && decide (x.Sum.Const < 0)) := by cases fixd x.Sum <;> simp
      rw [this]
      cases fixd x.Sum && decide (x.Sum.Const < 0) <;> rfl
    | [l, r], h0, hkd, hn, hsub =>
      simp only [List.length_cons, List.length_nil] at hkd
      have ol := (sm_ok l (h0.2 l (by simp))).1
      have or_ := (sm_ok r (h0.2 r (by simp))).1
      have e0 : getI [sm l, sm r] (0 : Int) = some (sm l) := rfl
      have e1 : getI [sm l, sm r] (1 : Int) = some (sm r) := rfl
      rw [show smL [l, r] = [sm l, sm r] by rw [smL_map]; rfl, sm2, red2, e0, e1]
      by_cases h1 : x.Kind = 1
      · obtain ⟨o1, q1, q2⟩ := un_hd ol
        obtain ⟨o2, p1, p2⟩ := un_hd or_
        rw [decide_eq_true h1, cond_true, if_pos h1]
        simp only [Option.bind_some]
        rw [q1, p1]
        simp only [Option.bind_some]
        rw [q2, p2]
        by_cases c1 : hd (sm l) = 0
        · rw [decide_eq_true c1, cond_true, if_pos c1]
        · rw [decide_eq_false c1, cond_false, if_neg c1]
          by_cases c2 : hd (sm r) = 0
          · rw [decide_eq_true c2, cond_true, if_pos c2]
          · rw [decide_eq_false c2, cond_false, if_neg c2]; rfl
      · have h7 : x.Kind = 7 := by omega
        rw [decide_eq_false h1, cond_false, decide_eq_true h7, cond_true, if_neg h1]
        simp only [Option.bind_some]
        by_cases hf : fixd x.Sum = true
        · by_cases hc : x.Sum.Const < 0
          · rw [hf, decide_eq_true hc, Bool.and_true, cond_true, if_pos ⟨rfl, hc⟩]
          · rw [hf, decide_eq_false hc, Bool.and_false, cond_false, cond_true, if_neg (fun c => hc c.2), if_pos (.inl rfl)]; rfl
        · rw [Bool.eq_false_iff.2 hf, Bool.false_and, cond_false, cond_false, if_neg (fun c => by have := c.1; cases this)]
          have hdp : dp (sm l) ≤ 1000 := by
            have h1 := dp_le (sm l)
            have h2 := (sm_ok l (h0.2 l (by simp))).2
            have := hsub l (by simp)
            omega
          rw [impl_sameTree 1000 (sm l) (sm r) hdp ol or_, Option.bind_some]
          unfold m_impl_tree_simplified_F_J0 sameR
          by_cases he : fl (sm l) = fl (sm r)
          · rw [decide_eq_true he, cond_true, if_pos (.inr he), e0]; rfl
          · rw [decide_eq_false he, cond_false, if_neg (fun c => by rcases c with c | c; cases c; exact he c)]; rfl
end Go.Mod

namespace Go.Mod
open Go.AM
set_option linter.unusedVariables false
set_option linter.unusedSimpArgs false
theorem spec_same {xs ys : List Int} (hl : xs.length ≤ 1048576) : m_spec_l00Same xs ys = some (decide (xs = ys)) := by
  unfold m_spec_l00Same
  rw [dec_eqN]
  by_cases h : xs.length = ys.length
  · rw [decide_eq_true h, Bool.not_true, cond_false, iter_eq (xs := xs) (ys := ys) (eq := fun x y => some (decide (x = y)))
      (fun n x y hx hy => by unfold m_spec_l00Same_L0; rw [dec_lt (get_lt hx), cond_true, XA hx, XA hy]; rfl)
      (by unfold m_spec_l00Same_L0; rw [dec_self]; rfl) (by omega) h (fun x _ y => rfl), Option.bind_some]
    by_cases e : xs = ys
    · rw [if_pos e, decide_eq_true e]; rfl
    · rw [if_neg e, decide_eq_false e]; rfl
  · rw [decide_eq_false h, decide_eq_false (fun e => h (by rw [e]))]; rfl
theorem spec_sameT {x y : Term} (hl : cTerm x ≤ 1048576) : m_spec_l02Same x y = some (decide (x = y)) := by
  unfold m_spec_l02Same
  unfold cTerm at hl
  rw [spec_same hl]
  obtain ⟨a, b⟩ := x
  obtain ⟨c, d⟩ := y
  by_cases h1 : a = c <;> by_cases h2 : b = d <;> simp [h1, h2]
theorem spec_sameTs {x y : Stmt} (hl : pc_TermS x.Facts ≤ 1048576) (h : x.Facts.length = y.Facts.length) : iter (m_spec_l03Equal_L1 x y) 0 = some (if x.Facts = y.Facts then .inl () else .inr false) := by
  have hlen : x.Facts.length ≤ 1048576 := Nat.le_trans pc_TermS_len hl
  exact iter_eq (xs := x.Facts) (ys := y.Facts) (eq := m_spec_l02Same)
    (fun n a b ha hb => by unfold m_spec_l03Equal_L1; rw [dec_lt (get_lt ha), cond_true, XA ha, XA hb]; rfl)
    (by unfold m_spec_l03Equal_L1; rw [dec_self]; rfl) (by omega) h (fun a ha b => spec_sameT (Nat.le_trans (show cTerm a ≤ pc_TermS x.Facts from pc_TermS_mem ha) hl))
theorem spec_equal {p q : List Stmt} (hl : pc_StmtS p ≤ 1048576) : m_spec_l03Equal p q = some (decide (p = q)) := by
  have hlen : p.length ≤ 1048576 := Nat.le_trans pc_StmtS_len hl
  unfold m_spec_l03Equal
  rw [dec_eqN]
  by_cases h : p.length = q.length
  · rw [decide_eq_true h, Bool.not_true, cond_false, iter_eq (xs := p) (ys := q) (eq := fun x y => some (decide (x = y)))
      (fun n x y hx hy => by
        have hm := pc_StmtS_mem (List.mem_of_getElem? hx)
        have hm2 : pc_Stmt x ≤ 1048576 := by omega
        unfold pc_Stmt at hm2
        have hxy := pi_Stmt x y
        unfold m_spec_l03Equal_L0
        rw [dec_lt (get_lt hx), cond_true, XA hx, XA hy]
        simp only [Option.bind_some]
        rw [spec_sameT (show cTerm x.Sum ≤ 1048576 from by have : cTerm x.Sum = pc_Term x.Sum := rfl; omega), spec_sameT (show cTerm x.Index ≤ 1048576 from by have : cTerm x.Index = pc_Term x.Index := rfl; omega)]
        simp only [Option.bind_some]
        by_cases h1 : x.Kind = y.Kind
        · rw [decide_eq_true h1, Bool.not_true, cond_false]
          by_cases h2 : x.Var = y.Var
          · rw [decide_eq_true h2, Bool.not_true, cond_false]
            by_cases h3 : x.Event = y.Event
            · rw [decide_eq_true h3, Bool.not_true, cond_false]
              by_cases h4 : x.Sum = y.Sum
              · rw [decide_eq_true h4, Bool.not_true, cond_false]
                by_cases h5 : x.Index = y.Index
                · rw [decide_eq_true h5, Bool.not_true, cond_false, dec_eqN]
                  by_cases h6 : x.Facts.length = y.Facts.length
                  · rw [decide_eq_true h6, Bool.not_true, cond_false, spec_sameTs (by omega) h6, Option.bind_some]
                    by_cases h7 : x.Facts = y.Facts
                    · rw [if_pos h7, decide_eq_true (hxy.1 ⟨h1, h2, h3, h4, h5, h7⟩)]; rfl
                    · rw [if_neg h7, decide_eq_false (fun e => h7 (hxy.2 e).2.2.2.2.2)]; rfl
                  · rw [decide_eq_false h6, decide_eq_false (p := x = y) (fun e => h6 (by rw [e]))]; rfl
                · rw [decide_eq_false h5, decide_eq_false (p := x = y) (fun e => h5 (by rw [e]))]; rfl
              · rw [decide_eq_false h4, decide_eq_false (p := x = y) (fun e => h4 (by rw [e]))]; rfl
            · rw [decide_eq_false h3, decide_eq_false (p := x = y) (fun e => h3 (by rw [e]))]; rfl
          · rw [decide_eq_false h2, decide_eq_false (p := x = y) (fun e => h2 (by rw [e]))]; rfl
        · rw [decide_eq_false h1, decide_eq_false (p := x = y) (fun e => h1 (by rw [e]))]; rfl)
      (by unfold m_spec_l03Equal_L0; rw [dec_self]; rfl) (by omega) h (fun x _ y => rfl), Option.bind_some]
    by_cases e : p = q
    · rw [if_pos e, decide_eq_true e]; rfl
    · rw [if_neg e, decide_eq_false e]; rfl
  · rw [decide_eq_false h, decide_eq_false (fun e => h (by rw [e]))]; rfl
theorem fl_get {t : Ptree} (h : okT t) : ∃ x, getI (fl t) (0 : Int) = some x ∧ x.Kind = hd t := by
  obtain ⟨x, r, e, e2⟩ := fl_head h
  exact ⟨x, by rw [e]; rfl, e2.symm⟩
theorem J2_out {x : Stmt} {a b : List Stmt} {j1 j2 : Bool} (h : a.length + b.length ≤ 1000) : Xf x a b j1 j2 = some (bif j2 then b else bif j1 then a else x :: (a ++ b)) := by
  unfold Xf
  cases j2 with
  | true => rfl
  | false =>
    cases j1 with
    | true => rfl
    | false => rw [cond_false, cond_false, Xr (by simp; omega), Option.bind_some, Xr (by simp; omega)]; rfl
theorem sm_small {t : Ptree} (h : okT t) (hl : (fl t).length ≤ 30) : pc_StmtS (fl (sm t)) ≤ 1048576 ∧ (fl (sm t)).length ≤ 30 := by
  have h1 := sm_ok t h
  have h2 := isB_small (fl_isB h1.1 (by omega))
  exact ⟨by omega, by omega⟩
theorem spec_simple : ∀ (n : Nat) (t : Ptree), dp t ≤ n → okT t → (fl t).length ≤ 30 → m_spec_l03Simple n (fl t) = some (fl (sm t))
  | 0, .nil, _, h, _ => by unfold okT at h; exact h.elim
  | 0, .mk x a ks, hn, _, _ => by have e : dp (.mk x a ks) = 1 + dpL ks := by conv => lhs; unfold dp
                                  omega
  | n + 1, .nil, _, h, _ => by unfold okT at h; exact h.elim
  | n + 1, .mk x a ks, hn, h, hl => by
    have h0 := okT_iff.1 h
    have hB := fl_isB h hl
    have hsub : ∀ t ∈ ks, dp t ≤ n ∧ (fl t).length ≤ 30 := fun t ht => by have := kid_dp (x := x) (a := a) ht; omega
    have e : fl (.mk x a ks) = x :: flL ks := fl_mk x a ks
    rw [e] at hB hl ⊢
    simp only [List.length_cons] at hl
    have hsm := ar_small h0.1
    have hkd := ar_kind h0.1
    have hov := (ar_terms h0.1).1
    show m_spec_l03Simple_F (m_spec_l03Simple n) (x :: flL ks) = _
    unfold m_spec_l03Simple_F
    rw [show getI (x :: flL ks) (0 : Int) = some x from rfl, Option.bind_some, spec_ownStmt (by omega), Option.bind_some, fixd_len, dec_nneg]
    match ks, h0, hB, hl, hn, hkd, hsub with
    | [], h0, hB, hl, hn, hkd, hsub =>
      simp only [List.length_nil] at hkd
      rw [sm0, red0]
      have hx : ∀ b, [x] = fl (.mk x b []) := fun b => (fl0 x b).symm
      by_cases h2 : x.Kind = 2
      · obtain ⟨v, hv, hv3⟩ := kind_var h0.1
        rw [decide_eq_true h2, cond_true, hv, spec_alone hov hv3, Option.bind_some, if_neg (fun c => by have := c.1; omega)]
        cases ha : alone x.Sum (v : Int) with
        | true => rw [cond_true, if_pos ⟨h2, rfl⟩]; rfl
        | false => rw [cond_false, if_neg (fun c => by have := c.2; cases this), ← hx]
      · rw [decide_eq_false h2, cond_false]
        by_cases h6 : x.Kind = 6
        · rw [decide_eq_true h6, cond_true]
          by_cases hf : fixd x.Sum = true
          · by_cases hc : x.Sum.Const < 0
            · rw [decide_eq_true hc, Bool.not_true, Bool.and_false, cond_false, if_neg (fun c => c.2.2 hc), if_neg (fun c => h2 c.1), ← hx]
            · rw [decide_eq_false hc, hf, Bool.not_false, Bool.and_true, cond_true, if_pos ⟨h6, rfl, hc⟩]; rfl
          · rw [Bool.eq_false_iff.2 hf, Bool.false_and, cond_false, if_neg (fun c => by have := c.2.1; cases this), if_neg (fun c => h2 c.1), ← hx]
        · rw [decide_eq_false h6, cond_false, decide_eq_false (show ¬ x.Kind = 8 by omega), cond_false, decide_eq_false (show ¬ x.Kind = 1 by omega), cond_false, decide_eq_false (show ¬ x.Kind = 7 by omega), if_neg (fun c => h6 c.1), if_neg (fun c => h2 c.1), ← hx]
          rfl
    | [l], h0, hB, hl, hn, hkd, hsub =>
      simp only [List.length_cons, List.length_nil] at hkd
      have h8 : x.Kind = 8 := by omega
      have ol := h0.2 l (by simp)
      rw [sm1, red1, decide_eq_false (show ¬ x.Kind = 2 by omega), cond_false, decide_eq_false (show ¬ x.Kind = 6 by omega), cond_false, decide_eq_true h8, cond_true, Bool.not_not]
      have s1 : sliceI (x :: flL [l]) (1 : Int) ((x :: flL [l]).length : Int) = some (fl l) := by
        rw [flL1]
        have := slice_mid [x] (fl l) []
        simpa [Nat.add_comm] using this
      by_cases hf : fixd x.Sum = true ∧ x.Sum.Const < 0
      · rw [hf.1, decide_eq_true hf.2, Bool.and_true, cond_true, if_pos ⟨rfl, hf.2⟩]; rfl
      · have hfb : (fixd x.Sum && decide (x.Sum.Const < 0)) = false := by
          cases hq : fixd x.Sum && decide (x.Sum.Const < 0) with
          | false => rfl
          | true => simp only [Bool.and_eq_true, decide_eq_true_eq] at hq; exact absurd hq hf
        have hs := sm_small ol (hsub l (by simp)).2
        rw [hfb, cond_false, if_neg hf, s1, Option.bind_some, spec_simple n l (hsub l (by simp)).1 ol (hsub l (by simp)).2, Option.bind_some, Xr (by simp; omega), Option.bind_some, fl1']
        rfl
    | [l, r], h0, hB, hl, hn, hkd, hsub =>
      simp only [List.length_cons, List.length_nil] at hkd
      have ol := h0.2 l (by simp)
      have or_ := h0.2 r (by simp)
      rw [flL2] at hB hl ⊢
      rw [List.length_append] at hl
      have en : m_spec_l03End (x :: (fl l ++ fl r)) (1 : Int) = some ((1 + (fl l).length : Nat) : Int) := end_ok hB (k := 1) (t := l) (r := fl r) ol rfl
      have s1 : sliceI (x :: (fl l ++ fl r)) (1 : Int) ((1 + (fl l).length : Nat) : Int) = some (fl l) := by
        have := slice_mid [x] (fl l) (fl r)
        simpa using this
      have s2 : sliceI (x :: (fl l ++ fl r)) ((1 + (fl l).length : Nat) : Int) ((x :: (fl l ++ fl r)).length : Int) = some (fl r) := by
        have := slice_mid (x :: fl l) (fl r) []
        have e : (x :: (fl l ++ fl r)).length = (x :: fl l).length + (fl r).length := by simp; omega
        have e2 : 1 + (fl l).length = (x :: fl l).length := by simp; omega
        rw [e, e2]
        simpa using this
      have hs1 := sm_small ol (hsub l (by simp)).2
      have hs2 := sm_small or_ (hsub r (by simp)).2
      have o1 := (sm_ok l ol).1
      have o2 := (sm_ok r or_).1
      have i1 := spec_simple n l (hsub l (by simp)).1 ol (hsub l (by simp)).2
      have i2 := spec_simple n r (hsub r (by simp)).1 or_ (hsub r (by simp)).2
      have hJ2 := fun j1 j2 => J2_out (x := x) (a := fl (sm l)) (b := fl (sm r)) (j1 := j1) (j2 := j2) (by omega)
      have hmk : x :: (fl (sm l) ++ fl (sm r)) = fl (.mk x 0 [sm l, sm r]) := (fl2' x 0 _ _).symm
      rw [sm2, red2, decide_eq_false (show ¬ x.Kind = 2 by omega), cond_false, decide_eq_false (show ¬ x.Kind = 6 by omega), cond_false, decide_eq_false (show ¬ x.Kind = 8 by omega), cond_false]
      by_cases h1 : x.Kind = 1
      · rw [decide_eq_true h1, cond_true, if_pos h1]
        unfold m_spec_l03Simple_F_J0
        rw [cond_true, en, Option.bind_some, s1, Option.bind_some, i1, Option.bind_some, s2, Option.bind_some, i2, Option.bind_some, decide_eq_true h1, cond_true]
        obtain ⟨y1, g1, g2⟩ := fl_get o1
        obtain ⟨y2, q1, q2⟩ := fl_get o2
        rw [q1, Option.bind_some, q2]
        have hJ1 : ∀ j1, QS x (fl (sm l)) (fl (sm r)) j1 = Xf x (fl (sm l)) (fl (sm r)) j1 (decide (hd (sm l) = 0)) := by
          intro j1
          unfold QS
          rw [decide_eq_true h1, cond_true, g1, Option.bind_some, g2, decide_eq_false (show ¬ x.Kind = 7 by omega), cond_false]
          cases decide (hd (sm l) = 0) <;> rfl
        rw [decide_eq_false (show ¬ x.Kind = 7 by omega), cond_false, hJ1, hJ1, hJ2, hJ2]
        by_cases c1 : hd (sm l) = 0
        · rw [if_pos c1, decide_eq_true c1]
          cases decide (hd (sm r) = 0) <;> rfl
        · rw [if_neg c1, decide_eq_false c1]
          by_cases c2 : hd (sm r) = 0
          · rw [if_pos c2, decide_eq_true c2]; rfl
          · rw [if_neg c2, decide_eq_false c2, ← hmk]; rfl
      · have h7 : x.Kind = 7 := by omega
        rw [decide_eq_false h1, cond_false, decide_eq_true h7, if_neg h1]
        unfold m_spec_l03Simple_F_J0
        rw [cond_true, en, Option.bind_some, s1, Option.bind_some, i1, Option.bind_some, s2, Option.bind_some, i2, Option.bind_some, decide_eq_false h1, cond_false, decide_eq_true h7, cond_true]
        have hJ1 : ∀ j1, QS x (fl (sm l)) (fl (sm r)) j1 = Xf x (fl (sm l)) (fl (sm r)) j1 (fixd x.Sum && decide (x.Sum.Const < 0)) := by
          intro j1
          unfold QS
          rw [decide_eq_false h1, cond_false, decide_eq_true h7, cond_true, fixd_len, dec_nneg, Bool.not_not]
          cases fixd x.Sum <;> rfl
        rw [fixd_len, dec_nneg, spec_equal hs1.1]
        simp only [Option.bind_some]
        rw [hJ1, hJ1, hJ1, hJ2, hJ2, hJ2]
        by_cases hf : fixd x.Sum = true
        · by_cases hc : x.Sum.Const < 0
          · rw [hf, decide_eq_true hc, if_pos ⟨rfl, hc⟩]; rfl
          · rw [hf, decide_eq_false hc, if_neg (fun c => hc c.2), if_pos (.inl rfl)]; rfl
        · rw [Bool.eq_false_iff.2 hf, if_neg (fun c => by have := c.1; cases this)]
          by_cases he : fl (sm l) = fl (sm r)
          · rw [decide_eq_true he, if_pos (.inr he)]; rfl
          · rw [decide_eq_false he, if_neg (fun c => by rcases c with c | c; cases c; exact he c), ← hmk]; rfl
end Go.Mod

namespace Go.Mod
open Go.AM
set_option linter.unusedVariables false
set_option linter.unusedSimpArgs false
theorem loop_self {α : Type} {xs : List α} {step : Int → Option (Ctl Int (Unit ⊕ Bool))} (hl : xs.length ≤ 1000000)
    (h : ∀ (n : Nat) x, xs[n]? = some x → step (n : Int) = some (.next ((n + 1 : Nat) : Int))) (he : step (xs.length : Int) = some (.out (.inl ()))) : iter step (0 : Int) = some (.inl ()) := by
  have key : ∀ m n, n + m = xs.length → iter step (n : Int) = some (.inl ()) := by
    intro m
    induction m with
    | zero => intro n hn; obtain rfl : n = xs.length := by omega
              exact iter_out he
    | succ m ih =>
      intro n hn
      have hx : xs[n]? = some (xs[n]'(by omega)) := List.getElem?_eq_getElem _
      rw [iter_next (h n _ hx)]
      exact ih (n + 1) (by omega)
  exact key xs.length 0 (by omega)
theorem r8Term_ok {x : Term} (h : x.Coeffs.length ≤ 1000000) : m_laws_r8Term x x = some true := by
  unfold m_laws_r8Term
  rw [decide_eq_true rfl, cond_true, r8Same_ok h]; rfl
theorem r8Terms_ok {ts : List Term} (h : pc_TermS ts ≤ 1000000) : m_laws_r8Terms ts ts = some true := by
  have hlen : ts.length ≤ 1000000 := Nat.le_trans pc_TermS_len h
  unfold m_laws_r8Terms
  rw [decide_eq_true rfl, Bool.not_true, cond_false, loop_self (xs := ts) hlen (fun n x hx => by
    have hm := pc_TermS_mem (List.mem_of_getElem? hx)
    unfold m_laws_r8Terms_L0
    rw [dec_lt (get_lt hx), cond_true, XA hx, Option.bind_some, Option.bind_some, r8Term_ok (by unfold pc_Term pc_Int64S at hm; omega), Option.bind_some, w64_succ (by have := get_lt hx; omega)]; rfl)
    (by unfold m_laws_r8Terms_L0; rw [dec_self]; rfl)]
  rfl
theorem r8Bodies_ok {p : List Stmt} (h : pc_StmtS p ≤ 1000000) : m_laws_r8Bodies p p = some true := by
  have hlen : p.length ≤ 1000000 := Nat.le_trans pc_StmtS_len h
  unfold m_laws_r8Bodies
  rw [decide_eq_true rfl, Bool.not_true, cond_false, loop_self (xs := p) hlen (fun n x hx => by
    have hm := pc_StmtS_mem (List.mem_of_getElem? hx)
    unfold pc_Stmt pc_Term pc_Int64S at hm
    unfold m_laws_r8Bodies_L0
    rw [dec_lt (get_lt hx), cond_true, XA hx, Option.bind_some, Option.bind_some]
    simp only [decide_true, Bool.not_true, Bool.or_self, cond_false]
    rw [r8Term_ok (by omega), Option.bind_some, r8Term_ok (by omega), Option.bind_some, r8Terms_ok (by omega), Option.bind_some, w64_succ (by have := get_lt hx; omega)]; rfl)
    (by unfold m_laws_r8Bodies_L0; rw [dec_self]; rfl)]
  rfl
theorem simp_body {p : List Stmt} (hB : isB p = true) {t : Ptree} (ht : okT t) (hf : fl t = p) : m_impl_SimplifyBody p = some (fl (sm t), true) := by
  obtain ⟨t2, e, hw⟩ := impl_treeOf p
  obtain ⟨w1, w2⟩ := hw hB
  have ht2 := wfT_ok t2 0 w1
  have hl := isB_len hB
  have hd := dp_le t
  have hd2 := dp_le t2
  rw [w2] at hd2
  rw [hf] at hd
  have a1 := spec_simple 1000 t (by omega) ht (by rw [hf]; exact hl)
  have a2 := spec_simple 1000 t2 (by omega) ht2 (by rw [w2]; exact hl)
  rw [hf, ← w2, a2] at a1
  have e3 : fl (sm t2) = fl (sm t) := Option.some.inj a1
  obtain ⟨n1, n2⟩ := sm_ok t2 ht2
  have hd3 := dp_le (sm t2)
  rw [w2] at n2
  unfold m_impl_SimplifyBody
  rw [e, Option.bind_some, hB, Bool.not_true, cond_false]
  show (XH 1000 t2).bind _ = _
  rw [impl_simplified 1000 t2 (by omega) (by rw [w2]; omega) ht2, Option.bind_some, impl_body 1000 _ (by omega) n1 (by omega), e3]; rfl
theorem norm_body {p : List Stmt} (hB : isB p = true) {t : Ptree} (ht : okT t) (hf : fl t = p) : m_impl_NormalBody p = some (fl (jn (np t)), true) := by
  obtain ⟨t2, e, hw⟩ := impl_treeOf p
  obtain ⟨w1, w2⟩ := hw hB
  have ht2 := wfT_ok t2 0 w1
  have hl := isB_len hB
  have hd := dp_le t
  have hd2 := dp_le t2
  rw [w2] at hd2
  rw [hf] at hd
  have a1 := spec_normal 1000 t (by omega) ht (by rw [hf]; exact hl)
  have a2 := spec_normal 1000 t2 (by omega) ht2 (by rw [w2]; exact hl)
  rw [hf, ← w2, a2] at a1
  have e3 : fl (jn (np t2)) = fl (jn (np t)) := Option.some.inj a1
  obtain ⟨n1, n2⟩ := nrm_ok ht2
  have hd3 := dp_le (jn (np t2))
  rw [w2] at n2
  unfold m_impl_NormalBody
  rw [e, Option.bind_some, hB, Bool.not_true, cond_false]
  show (m_impl_tree_normal 1000 t2).bind _ = _
  rw [impl_normal 1000 t2 (by omega) ht2 (by rw [w2]; omega), Option.bind_some, impl_body 1000 _ (by omega) n1 (by omega), e3]; rfl
theorem prog_body {p : Program} (hp : okProg p = true) {b : List Stmt} (hb : isB b = true) : okProg (Program.mk p.Pre b p.Post) = true := by
  unfold okProg at hp ⊢
  simp only [Bool.and_eq_true] at hp ⊢
  exact ⟨⟨hb, hp.1.2⟩, hp.2⟩
theorem law_Simplified {a b : List Int} (ka : kLa_u8 a) (kb : kLa_u8 b) : m_laws_FnSimplified a b = some true := by
  unfold m_laws_FnSimplified
  rcases long_cases a b with h | ⟨h, la, lb⟩
  · rw [h]; rfl
  obtain ⟨p, e1, hp⟩ := r8Program_ok (bytes ka) (by omega)
  obtain ⟨s, e2, hs⟩ := r8State_ok (bytes kb) (by omega)
  rw [h, Option.bind_some, cond_false, e1, Option.bind_some, e2, Option.bind_some]
  clear h e1 e2
  have bp := okProg_body hp
  have lp := isB_len bp
  obtain ⟨t, bb, s', hf, ht, hr, _⟩ := started_ok hp hs (f := 300) (by omega) (by omega)
  have hl : (fl t).length ≤ 30 := by rw [hf]; exact lp
  obtain ⟨q1, q2, v, f', ok1⟩ := ran_ok hp hs (by omega) (by omega) hf ht hr
  obtain ⟨s1, s2⟩ := sm_ok t ht
  obtain ⟨n1, n2⟩ := nrm_ok ht
  have bs := fl_isB s1 (by omega)
  have bn := fl_isB n1 (by omega)
  rw [simp_body bp ht hf, Option.bind_some, norm_body bp ht hf, Option.bind_some]
  simp only
  rw [simp_body bs s1 rfl, Option.bind_some, norm_body bn n1 rfl, Option.bind_some, sm_idem t ht, np_idem ht]
  simp only [Bool.not_true, Bool.or_self, cond_false]
  rw [impl_isB, bs, Option.bind_some, Bool.not_true, cond_false, impl_isB, bn, Option.bind_some, Bool.not_true, Bool.false_or, decide_eq_false (show ¬ (p.Body.length : Int) < ((fl (sm t)).length : Int) by rw [← hf]; omega), cond_false,
    r8Bodies_ok (by have := isB_small bs; omega), Option.bind_some, Bool.not_true, cond_false, r8Bodies_ok (by have := isB_small bn; omega), Option.bind_some, Bool.not_true, cond_false, q1, Option.bind_some, q2, Option.bind_some]
  have p1 := prog_body hp bs
  have p2 := prog_body hp bn
  -- the normal program
  have rN : Run (jn (np t)) (start0 s 300) bb s' := (hr.parts ht).jn (np_ok t ht).1
  obtain ⟨z1, z2, _⟩ := ran_ok p2 hs (f := 300) (by omega) (by omega) (t := jn (np t)) rfl n1 rN
  have hev := v.ev
  have hs0 := v.s0
  have hs1 := v.s1
  rw [f'] at hs1
  have vs := start_vr hs (f := 300) (by omega) (by omega)
  have hst : okV (start0 s 300) := by
    unfold okSt at hs
    simp only [Bool.and_eq_true] at hs
    exact ⟨hs.1.1, hs.2.1⟩
  by_cases ho : s'.out = 1
  · obtain ⟨t3, b3, s3, hf3, ht3, hr3, _⟩ := started_ok p1 hs (f := 300) (by omega) (by omega)
    obtain ⟨x1, x2, _⟩ := ran_ok p1 hs (by omega) (by omega) hf3 ht3 hr3
    rw [x1, Option.bind_some, z1, Option.bind_some, x2, Option.bind_some, z2, Option.bind_some]
    simp only [Bool.not_true, Bool.or_self, Bool.false_or, decide_true, cond_false]
    rw [r8Same_ok (by omega), Option.bind_some, Bool.not_true, cond_false, r8States_ok ok1, Option.bind_some, Bool.not_true, Bool.false_or, cond_false, decide_eq_true ho, cond_true]
  · obtain ⟨k, hk, rS⟩ := hr.sm ht vs hst (.inr ho) 0 (Int.le_refl 0)
    obtain ⟨x1, x2, _⟩ := ran_ok p1 hs (f := 300) (by omega) (by omega) (t := sm t) rfl s1 (s' := ws s' k) rS
    rw [x1, Option.bind_some, z1, Option.bind_some, x2, Option.bind_some, z2, Option.bind_some]
    simp only [Bool.not_true, Bool.or_self, Bool.false_or, decide_true, cond_false]
    rw [r8Same_ok (by omega), Option.bind_some, Bool.not_true, cond_false, r8States_ok ok1, Option.bind_some, Bool.not_true, Bool.false_or, cond_false, decide_eq_false ho, cond_false,
      show (ws s' k).out = s'.out from rfl, decide_eq_true rfl, cond_true, show (ws s' k).events = s'.events from rfl, r8Same_ok (by omega), Option.bind_some, cond_true, show (ws s' k).state = s'.state from rfl, r8States_ok ok1, Option.bind_some, cond_true,
      show (ws s' k).steps = k from rfl, decide_eq_true hk]
end Go.Mod
