import Derived.Test.YtejcidjaedahhaaDoorGe
namespace Go.Mod
open Go.AM
set_option linter.unusedVariables false
set_option linter.unusedSimpArgs false
def cwn (δ : Nat → Nat → Option Nat) : Nat → List Nat → Nat
  | _, [] => 0
  | s, e :: w => match δ s e with
    | none => 0
    | some t => cwn δ t w + 1
theorem cwn_snoc {δ : Nat → Nat → Option Nat} {e a : Nat} : ∀ {v : List Nat} {s : Nat}, path δ s v = some a → cwn δ s (v ++ [e]) = v.length + if (δ a e).isSome then 1 else 0
  | [], s, h => by
    simp only [path, Option.some.injEq] at h
    subst h
    simp only [List.nil_append, cwn]
    cases δ s e <;> rfl
  | f :: v, s, h => by
    simp only [path] at h
    simp only [List.cons_append, cwn, List.length_cons]
    cases hd : δ s f with
    | none => rw [hd] at h; cases h
    | some t => rw [hd] at h; simp only at h ⊢; rw [cwn_snoc h]; omega
theorem cwn_bis {δ δ' : Nat → Nat → Option Nat} {R : Nat → Nat → Prop} (hR : ∀ s t e, e < 4 → R s t → Mt R (δ s e) (δ' t e)) : ∀ (w : List Nat) (s t : Nat), (∀ x ∈ w, x < 4) → R s t → cwn δ s w = cwn δ' t w
  | [], _, _, _, _ => rfl
  | e :: w, s, t, h4, h => by
    have := hR s t e (h4 e (by simp)) h
    simp only [cwn]
    cases h1 : δ s e <;> cases h2 : δ' t e <;> rw [h1, h2] at this <;> simp only [Mt] at *
    rw [cwn_bis hR w _ _ (fun x hx => h4 x (by simp [hx])) this]
theorem cwn_same {δ δ' : Nat → Nat → Option Nat} {l : Nat} (h : ∀ (u : List Nat) (f c d : Nat), u.length < l → (∀ x ∈ u ++ [f], x < 4) → path δ 0 u = some c → path δ' 0 u = some d → dfB true (δ c f).isSome (δ' d f).isSome = false) :
    ∀ (w u : List Nat) (s t : Nat), u.length + w.length ≤ l → (∀ x ∈ u, x < 4) → (∀ x ∈ w, x < 4) → path δ 0 u = some s → path δ' 0 u = some t → cwn δ s w = cwn δ' t w
  | [], _, _, _, _, _, _, _, _ => rfl
  | e :: w, u, s, t, hl, h4, g4, h1, h2 => by
    simp only [List.length_cons] at hl
    have h4' : ∀ x ∈ u ++ [e], x < 4 := fun x hx => by
      rcases List.mem_append.1 hx with hx | hx
      · exact h4 x hx
      · simp at hx; subst hx; exact g4 _ (by simp)
    have hd := h u e s t (by omega) h4' h1 h2
    simp only [cwn]
    cases d1 : δ s e <;> cases d2 : δ' t e <;> rw [d1, d2] at hd <;> simp [dfB] at hd ⊢
    rename_i x y
    exact cwn_same h w (u ++ [e]) x y (by simp; omega) h4' (fun z hz => g4 z (by simp [hz])) (by rw [path_snoc, h1]; exact d1) (by rw [path_snoc, h2]; exact d2)
theorem cwn_pair {δ δ' ε : Nat → Nat → Option Nat} {n m : Nat} (hc : Clo δ n) (hc' : Clo δ' m)
    (h : ∀ a b e, a < n → b < m → e < 4 → ε (a * m + b) e = match δ a e, δ' b e with | some x, some y => some (x * m + y) | _, _ => none) :
    ∀ (w : List Nat) (a b : Nat), (∀ x ∈ w, x < 4) → a < n → b < m → cwn ε (a * m + b) w = min (cwn δ a w) (cwn δ' b w)
  | [], _, _, _, _, _ => rfl
  | e :: w, a, b, h4, ha, hb => by
    have he := h4 e (by simp)
    have := h a b e ha hb he
    simp only [cwn]
    rw [this]
    cases h1 : δ a e with
    | none => simp
    | some x =>
      cases h2 : δ' b e with
      | none => simp
      | some y =>
        simp only
        rw [cwn_pair hc hc' h w x y (fun z hz => h4 z (by simp [hz])) (hc _ _ _ ha he h1) (hc' _ _ _ hb he h2)]
        omega
theorem run_loop {p : Policy} (hg : GOK p.Next) : ∀ (w : List Nat) (k s : Nat), (∀ x ∈ w, x < 4) → s < p.Next.length →
    ∃ u, forL (m_impl_Policy_run_L0 p) (fun s0 => (.inl s0)) k (w.map fun i : Nat => (i : Int)) (s : Int) = some u ∧ match u with | .inl _ => cwn (dl p.Next) s w = w.length | .inr r => r.1 = ((k + cwn (dl p.Next) s w : Nat) : Int)
  | [], k, s, _, _ => ⟨_, rfl, rfl⟩
  | e :: w, k, s, h4, hs => by
    obtain ⟨x, v, g1, g2, g3, g4, g5⟩ := cell_at hg hs (h4 e (by simp))
    have hstep : m_impl_Policy_run_L0 p k (e : Int) (s : Int) = bif decide (v < 0) then some (.out (.inr ((k : Int), (s : Int)))) else some (.next v) := by
      unfold m_impl_Policy_run_L0
      rw [getI_some g1, Option.bind_some, getI_some g2, Option.bind_some]
    simp only [List.map_cons]
    unfold forL
    rw [hstep]
    simp only [cwn]
    rw [g5]
    by_cases hv : v < 0
    · rw [decide_eq_true hv, if_pos hv]; exact ⟨_, rfl, by simp⟩
    · rw [decide_eq_false hv, if_neg hv, cond_false]
      obtain ⟨u, u1, u2⟩ := run_loop hg w (k + 1) v.toNat (fun z hz => h4 z (by simp [hz])) (by omega)
      rw [Int.toNat_of_nonneg (by omega)] at u1
      refine ⟨u, u1, ?_⟩
      cases u with
      | inl t => simp only at u2 ⊢; simp only [List.length_cons]; omega
      | inr r => simp only at u2 ⊢; rw [u2]; omega
theorem run_ok {p : Policy} (hv : vP p = true) {w : List Nat} (h4 : ∀ x ∈ w, x < 4) (hl : w.length ≤ 40) : ∃ st, m_impl_RunPolicy p (w.map fun i : Nat => (i : Int)) = some (((cwn (dl p.Next) 0 w : Nat) : Int), st, true) := by
  have hg := gok_of_vP hv
  unfold m_impl_RunPolicy
  rw [impl_vP, hv, Option.bind_some, decide_eq_false (by rw [List.length_map]; omega)]
  simp only [Bool.not_true, Bool.or_false, cond_false]
  rw [impl_all, show ((w.map fun i : Nat => (i : Int)).all fun x => decide (0 ≤ x) && decide (x ≤ 3)) = true from by
    rw [List.all_eq_true]
    intro x hx
    obtain ⟨y, hy, rfl⟩ := List.mem_map.1 hx
    have := h4 y hy
    rw [decide_eq_true (by omega), decide_eq_true (by omega)]; rfl, Option.bind_some]
  simp only [Bool.not_true, cond_false]
  obtain ⟨u, u1, u2⟩ := run_loop hg w 0 0 h4 (by have := hg.pos; omega)
  unfold m_impl_Policy_run
  rw [show (0 : Int) = ((0 : Nat) : Int) from rfl, u1, Option.bind_some]
  unfold m_impl_Policy_run_A0 m_impl_size
  cases u with
  | inl t => simp only at u2; simp only [Option.bind_some, List.length_map]; exact ⟨_, by rw [u2]⟩
  | inr r => simp only at u2; simp only [Option.bind_some]; exact ⟨_, by rw [u2, Nat.zero_add]⟩
section
variable {p q : Policy} (hp : vP p = true) (hq : vP q = true)
include hp hq in
theorem both_run : ∃ (g res r1 : List (List Int)), m_spec_l10Both p q = some ⟨g⟩ ∧ m_spec_l10Minimal ⟨g⟩ = some ⟨res⟩ ∧ m_impl_grown_2_int64_fBothPolicies_1 ((0 : Int), (0 : Int)) p.Next q.Next = some r1 ∧ m_impl_graph_minimal r1 = some res ∧
    (res.length ≤ 12 → vP ⟨res⟩ = true) ∧ ∀ w : List Nat, (∀ x ∈ w, x < 4) → cwn (dl res) 0 w = min (cwn (dl p.Next) 0 w) (cwn (dl q.Next) 0 w) := by
  obtain ⟨g, res, r1, Lf', e1, e2, e3, e4, e5, e6, e7⟩ := both_same hp hq
  obtain ⟨g', g1, g2, g3⟩ := both_ok hp hq
  rw [e1] at g1
  obtain rfl : g = g' := by cases g1; rfl
  have hg := both_gok hp hq g2 g3
  obtain ⟨f, Lf, res', k1, k2, k3, k4, k5⟩ := spec_minimal (p := ⟨g⟩) hg
  rw [e2] at k3
  obtain rfl : res = res' := by cases k3; rfl
  obtain ⟨⟨T, t1⟩, _, t2, t3⟩ := k4.rows (by simp) rfl
  have hL0 : Lf[0]? = some 0 := by rw [t1]; rfl
  have hLt : ∀ x ∈ Lf, x < g.length := k5.lt
  refine ⟨g, res, r1, e1, e2, e3, e4, fun h12 => ?_, fun w h4 => ?_⟩
  · unfold vP
    have h1 : 1 ≤ res.length := by have := get_lt hL0; omega
    simp only
    rw [decide_eq_true h1, decide_eq_true h12, Bool.and_self, Bool.true_and, List.all_eq_true]
    intro r hr
    obtain ⟨j, hj, rfl⟩ := List.getElem_of_mem hr
    obtain ⟨s, row, a1, a2, a3, a4⟩ := t3 j (by omega) (by omega)
    rw [List.getElem?_eq_getElem hj] at a2
    have a2 := Option.some.inj a2
    rw [a2]
    unfold rowOK
    rw [decide_eq_true a3, Bool.true_and, List.all_eq_true]
    intro v hv
    obtain ⟨e, he, rfl⟩ := List.getElem_of_mem hv
    obtain ⟨c, b1, b2⟩ := a4 e (by omega)
    rw [List.getElem?_eq_getElem he] at b1
    have b1 := Option.some.inj b1
    rw [b1]
    have hc : -1 ≤ c ∧ c ≤ (res.length : Int) - 1 := by
      unfold Cell at b2
      cases hd : dl g s e with
      | none => rw [hd] at b2; simp only at b2; omega
      | some x => rw [hd] at b2; obtain ⟨t, y, c1, c2, _⟩ := b2; have := get_lt c2; omega
    rw [decide_eq_true hc.1, decide_eq_true hc.2]; rfl
  · -- the least one does as the policy of all pairs does
    have hb : ∀ s t e, e < 4 → (∃ y, Lf[s]? = some y ∧ t < g.length ∧ Ra (dl g) y t) → Mt (fun s t => ∃ y, Lf[s]? = some y ∧ t < g.length ∧ Ra (dl g) y t) (dl res s e) (dl g t e) := by
      rintro s t e he ⟨y, y1, y2, y3⟩
      obtain ⟨s', row, a1, a2, a3, a4⟩ := t3 s (by omega) (get_lt y1)
      rw [y1] at a1
      obtain rfl := Option.some.inj a1
      obtain ⟨c, b1, b2⟩ := a4 e he
      have hd1 : dl res s e = if c < 0 then none else some c.toNat := by unfold dl; rw [a2, Option.bind_some, b1, Option.bind_some]
      have hst := y3.step he
      unfold Cell at b2
      cases hx : dl g y e with
      | none =>
        rw [hx] at b2 hst
        simp only at b2
        rw [hd1, if_pos (by omega)]
        cases ht : dl g t e with
        | none => trivial
        | some z => rw [ht] at hst; exact hst.elim
      | some x =>
        rw [hx] at b2 hst
        obtain ⟨u, z, c1, c2, c3⟩ := b2
        cases ht : dl g t e with
        | none => rw [ht] at hst; exact hst.elim
        | some x' =>
          rw [ht] at hst
          simp only [Mt] at hst
          have hxg : x < g.length := dl_clo hg _ _ _ (hLt _ (List.mem_of_getElem? y1)) he hx
          have hzg : z < g.length := hLt _ (List.mem_of_getElem? c2)
          have hzx : Ra (dl g) z x := (cf_iff k1 k2 hzg hxg).1 c3
          rw [hd1, if_neg (by omega), c1, Int.toNat_natCast]
          exact ⟨z, c2, dl_clo hg _ _ _ y2 he ht, fun r => (hzx r).trans (hst r)⟩
    have h0 := cwn_bis hb w 0 0 h4 ⟨0, hL0, by have := hg.pos; omega, fun r => Rr.refl r 0⟩
    rw [h0]
    have hgp := gok_of_vP hp
    have hgq := gok_of_vP hq
    have hpair := cwn_pair (δ := dl p.Next) (δ' := dl q.Next) (ε := dl g) (n := p.Next.length) (m := q.Next.length) (dl_clo hgp) (dl_clo hgq) (fun a b e ha hb he => by
      obtain ⟨x, v, p1, p2, p3, p4, p5⟩ := cell_at hgp ha he
      obtain ⟨y, u, q1, q2, q3, q4, q5⟩ := cell_at hgq hb he
      have d1 : (a * q.Next.length + b) / q.Next.length = a := by rw [Nat.mul_comm, Nat.mul_add_div (by omega), Nat.div_eq_of_lt hb, Nat.add_zero]
      have d2 : (a * q.Next.length + b) % q.Next.length = b := by rw [Nat.mul_comm, Nat.mul_add_mod, Nat.mod_eq_of_lt hb]
      obtain ⟨row, r1, r2, r3⟩ := g3 (a * q.Next.length + b) (code_lt ha hb)
      have r3 := r3 e x v y u he (by rw [d1]; exact p1) p2 (by rw [d2]; exact q1) q2
      have hd : dl g (a * q.Next.length + b) e = if bthE q v u < 0 then none else some (bthE q v u).toNat := by unfold dl; rw [r1, Option.bind_some, r3, Option.bind_some]
      rw [hd, p5, q5]
      by_cases hv : v < 0
      · have hbt : bthE q v u = -1 := by unfold bthE; rw [if_pos (.inl hv)]
        rw [hbt, if_pos (by omega), if_pos hv]
      · by_cases hu : u < 0
        · have hbt : bthE q v u = -1 := by unfold bthE; rw [if_pos (.inr hu)]
          rw [hbt, if_pos (by omega), if_neg hv, if_pos hu]
        · have hm : 0 ≤ v * (q.Next.length : Int) := Int.mul_nonneg (by omega) (by omega)
          have hco := code_of (m := q.Next.length) (show 0 ≤ v by omega) (show 0 ≤ u by omega)
          have hbt : bthE q v u = v * (q.Next.length : Int) + u := by unfold bthE; rw [if_neg (by omega)]
          rw [hbt, if_neg (by omega), if_neg hv, if_neg hu]
          simp only
          congr 1
          omega) w 0 0 h4 (by have := hgp.pos; omega) (by have := hgq.pos; omega)
    simpa using hpair
end
theorem strict_ok {p q : Policy} (hp : vP p = true) (hq : vP q = true) : (m_impl_IsStricter p q = some true ∧ ∀ (u : List Nat) (f c d : Nat), (∀ x ∈ u ++ [f], x < 4) → path (dl p.Next) 0 u = some c → path (dl q.Next) 0 u = some d → dfB false (dl p.Next c f).isSome (dl q.Next d f).isSome = false) ∨
    (m_impl_IsStricter p q = some false ∧ ∃ w, Found p q false w) := by
  have he : m_impl_IsStricter p q = (gApart m_impl_IsStricter_1 p q).bind fun r => some (!r.2) := by
    unfold m_impl_IsStricter
    rw [impl_vP, hp, Option.bind_some, Bool.not_true, cond_false, impl_vP, hq, Option.bind_some, Bool.not_true, cond_false, apart_strict]
  rcases apart_ok (gok_of_vP hp) (gok_of_vP hq) (vP_len hp).2 (vP_len hq).2 df_strict with ⟨e1, e2⟩ | ⟨w, e1, e2⟩
  · exact .inl ⟨by rw [he, e1]; rfl, e2⟩
  · exact .inr ⟨by rw [he, e1]; rfl, w, e2⟩
theorem strict_of {p q : Policy} (hp : vP p = true) (hq : vP q = true) (h : ∀ w : List Nat, (∀ x ∈ w, x < 4) → cwn (dl p.Next) 0 w ≤ cwn (dl q.Next) 0 w) : m_impl_IsStricter p q = some true := by
  rcases strict_ok hp hq with ⟨e, _⟩ | ⟨_, w, v, e, a, b, h1, h2, h3, h4, h5, _⟩
  · exact e
  · have := h (v ++ [e]) h2
    rw [cwn_snoc h3, cwn_snoc h4] at this
    cases x : (dl p.Next a e).isSome <;> cases y : (dl q.Next b e).isSome <;> rw [x, y] at h5 this <;> simp [dfB] at h5 this
    omega
end Go.Mod

namespace Go.Mod
open Go.AM
set_option linter.unusedVariables false
set_option linter.unusedSimpArgs false
def Src (s : l00Src) (k : Nat) : Prop := (∀ x ∈ s.code, 0 ≤ x ∧ x ≤ 255) ∧ s.code.length ≤ 1048576 ∧ 0 ≤ s.at_ ∧ s.at_ ≤ k
theorem Src.mono {s : l00Src} {k k' : Nat} (h : Src s k) (hk : k ≤ k') : Src s k' := ⟨h.1, h.2.1, h.2.2.1, by have := h.2.2.2; omega⟩
theorem and_rng (a : Int) : 0 ≤ andU 64 a 255 ∧ andU 64 a 255 ≤ 255 := by
  unfold andU
  have h : (BitVec.ofInt 64 a &&& BitVec.ofInt 64 255).toNat ≤ 255 := by
    rw [BitVec.toNat_and]
    have : (BitVec.ofInt 64 255).toNat = 255 := by decide
    rw [this]
    exact Nat.and_le_right
  generalize (BitVec.ofInt 64 a &&& BitVec.ofInt 64 255).toNat = q at h
  unfold wu
  omega
theorem next_ok {s : l00Src} {k : Nat} (h : Src s k) (hk : k ≤ 1000000000) : ∃ r s', m_spec_l00Src_next s = some (r, s') ∧ 0 ≤ r ∧ r ≤ 255 ∧ Src s' (k + 1) := by
  obtain ⟨h1, h2, h3, h4⟩ := h
  have hJ : ∀ j : Int, 0 ≤ j → j ≤ 255 → ∃ r s', m_spec_l00Src_next_J0 s j = some (r, s') ∧ 0 ≤ r ∧ r ≤ 255 ∧ Src s' (k + 1) := by
    intro j hj0 hj1
    unfold m_spec_l00Src_next_J0
    rw [w64_eq (n := s.at_ + 1) (by omega)]
    have hS : ∀ sd, Src (l00Src.mk s.code (s.at_ + 1) sd) (k + 1) := fun sd => ⟨h1, h2, by simp only; omega, by simp only; omega⟩
    by_cases hq : s.at_ + 1 ≤ (s.code.length : Int)
    · rw [decide_eq_true hq, cond_true]; exact ⟨_, _, rfl, hj0, hj1, hS _⟩
    · rw [decide_eq_false hq, cond_false]
      have := and_rng (Int.fdiv (wu 64 ((wu 64 ((wu 64 (s.seed * (6364136223846793005 : Int))) + (wu 64 j))) + (1442695040888963407 : Int))) (2 ^ 40))
      exact ⟨_, _, rfl, by rw [w64_eq (by omega)]; omega, by rw [w64_eq (by omega)]; omega, hS _⟩
  unfold m_spec_l00Src_next
  by_cases hq : s.at_ < (s.code.length : Int)
  · obtain ⟨n, hn⟩ := Int.eq_ofNat_of_zero_le h3
    have hlt : n < s.code.length := by omega
    have hx : s.code[n]? = some s.code[n] := by simp
    have hb := h1 _ (List.getElem_mem hlt)
    rw [decide_eq_true hq, cond_true, hn, getI_some hx, Option.bind_some, w64_eq (by omega)]
    exact hJ _ hb.1 hb.2
  · rw [decide_eq_false hq, cond_false]; exact hJ 0 (by omega) (by omega)
theorem pick_ok {s : l00Src} {k : Nat} {n : Int} (h : Src s k) (hk : k ≤ 100000000) (hn : n ≤ 200) : ∃ r s', m_spec_l00Src_pick s n = some (r, s') ∧ 0 ≤ r ∧ (r < n ∨ r = 0) ∧ Src s' (k + 1) := by
  unfold m_spec_l00Src_pick
  by_cases h1 : n ≤ 1
  · rw [decide_eq_true h1, cond_true]; exact ⟨_, _, rfl, by omega, .inr rfl, h.mono (by omega)⟩
  · rw [decide_eq_false h1, cond_false]
    obtain ⟨r, s', e1, e2, e3, e4⟩ := next_ok h (by omega)
    rw [e1, Option.bind_some, decide_eq_false (by omega), cond_false]
    simp only
    unfold remI
    rw [decide_eq_false (by omega), cond_false, Option.bind_some]
    exact ⟨_, _, rfl, Int.tmod_nonneg _ e2, .inl (Int.tmod_lt_of_pos _ (by omega)), e4⟩
theorem from_ok {code : List Int} (h1 : ∀ x ∈ code, 0 ≤ x ∧ x ≤ 255) (h2 : code.length ≤ 1048576) : m_spec_l00From code = some (l00Src.mk code 0 0) ∧ Src (l00Src.mk code 0 0) 0 :=
  ⟨rfl, h1, h2, Int.le_refl _, Int.le_refl _⟩
theorem src_mk (s : l00Src) : l00Src.mk s.code s.at_ s.seed = s := rfl
theorem oneD {s : l00Src} {k : Nat} {n : Int} (h : Src s k) (hk : k ≤ 100000000) (hn : n ≤ 200) : ∃ b s', m_spec_l00Src_one s n = some (b, s') ∧ Src s' (k + 1) := by
  obtain ⟨r, s', e, _, _, hs⟩ := pick_ok h hk hn
  unfold m_spec_l00Src_one
  rw [e, Option.bind_some]
  exact ⟨_, _, rfl, hs⟩
theorem amongD {s : l00Src} {k : Nat} {xs : List Int} (h : Src s k) (hk : k ≤ 100000000) (h0 : 0 < xs.length) (h1 : xs.length ≤ 200) : ∃ x s', m_spec_l00Src_among s xs = some (x, s') ∧ Src s' (k + 1) := by
  obtain ⟨r, s', e, r0, r1, hs⟩ := pick_ok (n := (xs.length : Int)) h hk (by omega)
  obtain ⟨n, rfl⟩ := Int.eq_ofNat_of_zero_le r0
  have hlt : n < xs.length := by omega
  unfold m_spec_l00Src_among
  rw [e, Option.bind_some]
  simp only
  rw [getI_some (List.getElem?_eq_getElem hlt), Option.bind_some]
  exact ⟨_, _, rfl, hs⟩
theorem row_loop {n : Nat} (hn : 1 ≤ n ∧ n ≤ 12) {j0 : (List Int) × Int × Int × Int} (hj : j0.2.2.2 = (n : Int)) {r17 : Int × l00Src} (h0 : 0 ≤ r17.1) (h5 : r17.1 ≤ 5) : ∀ (m k : Nat) (s : l00Src) (q : Nat) (l : List Int), k + m = 4 → l.length = k → (∀ v ∈ l, -1 ≤ v ∧ v ≤ (n : Int) - 1) → Src s q → q + 2 * m ≤ 100000 →
    ∃ (s' : l00Src) (l' : List Int), iter (m_spec_l10DrawOk_L1 j0 r17) (s.code, s.at_, s.seed, l, (k : Int)) = some (s'.code, s'.at_, s'.seed, l') ∧ l'.length = 4 ∧ (∀ v ∈ l', -1 ≤ v ∧ v ≤ (n : Int) - 1) ∧ Src s' (q + 2 * m)
  | 0, k, s, q, l, hk, hl, hv, hs, _ => by
    refine ⟨s, l, iter_out ?_, by omega, hv, hs⟩
    unfold m_spec_l10DrawOk_L1
    simp only
    rw [decide_eq_false (by omega)]; rfl
  | m + 1, k, s, q, l, hk, hl, hv, hs, hq => by
    obtain ⟨r, s1, e1, r0, r1, hs1⟩ := pick_ok (n := (n : Int)) hs (by omega) (by omega)
    have w2 : w64 ((2 : Int) + r17.1) = 2 + r17.1 := w64_eq (by omega)
    obtain ⟨b, s2, e2, hs2⟩ := oneD (n := 2 + r17.1) hs1 (by omega) (by omega)
    have nxt : ∀ v : Int, -1 ≤ v ∧ v ≤ (n : Int) - 1 → m_spec_l10DrawOk_L1 j0 r17 (s.code, s.at_, s.seed, l, (k : Int)) = some (.next (s2.code, s2.at_, s2.seed, l ++ [v], ((k + 1 : Nat) : Int))) →
        ∃ (s' : l00Src) (l' : List Int), iter (m_spec_l10DrawOk_L1 j0 r17) (s.code, s.at_, s.seed, l, (k : Int)) = some (s'.code, s'.at_, s'.seed, l') ∧ l'.length = 4 ∧ (∀ v ∈ l', -1 ≤ v ∧ v ≤ (n : Int) - 1) ∧ Src s' (q + 2 * (m + 1)) := by
      intro v hvr hst
      rw [iter_next hst]
      obtain ⟨s', l', g1, g2, g3, g4⟩ := row_loop hn hj h0 h5 m (k + 1) s2 (q + 2) (l ++ [v]) (by omega) (by simp [hl]) (fun y hy => by
        rcases List.mem_append.1 hy with hy | hy
        · exact hv y hy
        · rw [List.mem_singleton.1 hy]; exact hvr) (hs2.mono (by omega)) (by omega)
      exact ⟨s', l', g1, g2, g3, g4.mono (by omega)⟩
    have hst : m_spec_l10DrawOk_L1 j0 r17 (s.code, s.at_, s.seed, l, (k : Int)) = bif b then some (.next (s2.code, s2.at_, s2.seed, l ++ [-1], ((k + 1 : Nat) : Int))) else some (.next (s2.code, s2.at_, s2.seed, l ++ [r], ((k + 1 : Nat) : Int))) := by
      unfold m_spec_l10DrawOk_L1
      simp only
      rw [decide_eq_true (show (k : Int) < 4 by clear w2; omega), cond_true, src_mk, hj, e1, Option.bind_some]
      simp only
      rw [w2, e2, Option.bind_some]
      simp only
      rw [capI_some (by clear w2; simp; omega), capI_some (by clear w2; simp; omega), w64_succ (by clear w2; omega)]; rfl
    clear w2
    cases b with
    | true => exact nxt (-1) (by omega) hst
    | false => exact nxt r (by omega) hst
theorem rows_loop {n : Nat} (hn : 1 ≤ n ∧ n ≤ 12) {j0 : (List Int) × Int × Int × Int} (hj : j0.2.2.2 = (n : Int)) {r17 : Int × l00Src} (h0 : 0 ≤ r17.1) (h5 : r17.1 ≤ 5) : ∀ (m k : Nat) (s : l00Src) (q : Nat) (g : List (List Int)), k + m = n → g.length = k → (∀ r ∈ g, r.length = 4 ∧ ∀ v ∈ r, -1 ≤ v ∧ v ≤ (n : Int) - 1) → Src s q → q + 8 * m ≤ 50000 →
    ∃ (s' : l00Src) (g' : List (List Int)), iter (m_spec_l10DrawOk_L0 j0 r17) (s.code, s.at_, s.seed, g, (k : Int)) = some (g', s'.code, s'.at_, s'.seed) ∧ g'.length = n ∧ (∀ r ∈ g', r.length = 4 ∧ ∀ v ∈ r, -1 ≤ v ∧ v ≤ (n : Int) - 1) ∧ Src s' (q + 8 * m)
  | 0, k, s, q, g, hk, hl, hv, hs, _ => by
    refine ⟨s, g, iter_out ?_, by omega, hv, hs⟩
    unfold m_spec_l10DrawOk_L0
    simp only
    rw [hj, decide_eq_false (by omega)]; rfl
  | m + 1, k, s, q, g, hk, hl, hv, hs, hq => by
    obtain ⟨s1, l, e1, l4, lv, hs1⟩ := row_loop hn hj h0 h5 4 0 s q [] rfl rfl (by simp) hs (by omega)
    have hst : m_spec_l10DrawOk_L0 j0 r17 (s.code, s.at_, s.seed, g, (k : Int)) = some (.next (s1.code, s1.at_, s1.seed, g ++ [l], ((k + 1 : Nat) : Int))) := by
      unfold m_spec_l10DrawOk_L0
      simp only
      rw [hj, decide_eq_true (show (k : Int) < (n : Int) by omega), cond_true]
      have e1' : iter (m_spec_l10DrawOk_L1 j0 r17) (s.code, s.at_, s.seed, ([] : List Int), (0 : Int)) = _ := e1
      rw [e1', Option.bind_some]
      unfold m_spec_l10DrawOk_A1
      simp only
      rw [capI_some (by simp; omega), Option.bind_some, w64_succ (by omega)]
    rw [iter_next hst]
    obtain ⟨s', g', g1, g2, g3, g4⟩ := rows_loop hn hj h0 h5 m (k + 1) s1 (q + 8) (g ++ [l]) (by omega) (by simp [hl]) (fun r hr => by
      rcases List.mem_append.1 hr with hr | hr
      · exact hv r hr
      · rw [List.mem_singleton.1 hr]; exact ⟨l4, lv⟩) (hs1.mono (by omega)) (by omega)
    exact ⟨s', g', g1, g2, g3, g4.mono (by omega)⟩
theorem vP_of {n : Nat} {g : List (List Int)} (hn : 1 ≤ n ∧ n ≤ 12) (hl : g.length = n) (h : ∀ r ∈ g, r.length = 4 ∧ ∀ v ∈ r, -1 ≤ v ∧ v ≤ (n : Int) - 1) : vP ⟨g⟩ = true := by
  unfold vP
  simp only
  rw [hl, decide_eq_true hn.1, decide_eq_true hn.2, Bool.and_self, Bool.true_and, List.all_eq_true]
  intro r hr
  obtain ⟨h4, hv⟩ := h r hr
  unfold rowOK
  rw [decide_eq_true h4, Bool.true_and, List.all_eq_true]
  intro v hx
  rw [decide_eq_true (hv v hx).1, decide_eq_true (hv v hx).2]; rfl
theorem drawOk {s : l00Src} {k : Nat} (hs : Src s k) (hk : k ≤ 10000) : ∃ p s', m_spec_l10DrawOk s = some (p, s') ∧ vP p = true ∧ Src s' (k + 200) := by
  obtain ⟨r, s1, e1, r0, r1, hs1⟩ := pick_ok (n := 4) hs (by omega) (by omega)
  obtain ⟨b, s2, e2, hs2⟩ := oneD (n := 16) hs1 (by omega) (by omega)
  have key : ∀ n : Nat, 1 ≤ n ∧ n ≤ 12 → ∃ p s', m_spec_l10DrawOk_J0 (s2.code, s2.at_, s2.seed, (n : Int)) = some (p, s') ∧ vP p = true ∧ Src s' (k + 200) := by
    intro n hn
    obtain ⟨r3, s3, e3, a0, a1, hs3⟩ := pick_ok (n := 5) hs2 (by omega) (by omega)
    obtain ⟨s4, g, e4, g1, g2, hs4⟩ := rows_loop hn (j0 := (s2.code, s2.at_, s2.seed, (n : Int))) rfl (r17 := (r3, s3)) a0 (by simp only; omega) n 0 s3 (k + 3) [] (by omega) rfl (by simp) hs3 (by omega)
    refine ⟨⟨g⟩, s4, ?_, vP_of hn g1 g2, hs4.mono (by omega)⟩
    unfold m_spec_l10DrawOk_J0
    simp only
    rw [src_mk, e3, Option.bind_some]
    have e4' : iter (m_spec_l10DrawOk_L0 (s2.code, s2.at_, s2.seed, (n : Int)) (r3, s3)) (s3.code, s3.at_, s3.seed, ([] : List (List Int)), (0 : Int)) = _ := e4
    rw [e4', Option.bind_some]; rfl
  unfold m_spec_l10DrawOk
  rw [e1, Option.bind_some]
  simp only
  rw [e2, Option.bind_some]
  cases b with
  | true => exact key 12 (by omega)
  | false =>
    simp only [cond_false]
    rw [w64_eq (by omega)]
    obtain ⟨n, hn⟩ : ∃ n : Nat, 1 + r = (n : Int) := ⟨(1 + r).toNat, by omega⟩
    rw [hn]
    exact key n (by omega)
theorem pad_loop : ∀ (m : Nat) (l : List (List Int)), 13 ≤ l.length + m → l.length ≤ 13 → ∃ r, iter m_spec_l10Draw_L0 l = some r
  | 0, l, h, _ => ⟨l, iter_out (by unfold m_spec_l10Draw_L0; rw [decide_eq_false (by omega)]; rfl)⟩
  | m + 1, l, h, h2 => by
    by_cases hl : l.length ≤ 12
    · have hst : m_spec_l10Draw_L0 l = some (.next (l ++ [[0, 0, 0, 0]])) := by
        unfold m_spec_l10Draw_L0
        rw [decide_eq_true (by omega), cond_true, capI_some (by simp; omega), Option.bind_some]
      rw [iter_next hst]
      exact pad_loop m _ (by simp; omega) (by simp; omega)
    · exact ⟨l, iter_out (by unfold m_spec_l10Draw_L0; rw [decide_eq_false (by omega)]; rfl)⟩
theorem draw_ok {s : l00Src} {k : Nat} (hs : Src s k) (hk : k ≤ 10000) : ∃ p s', m_spec_l10Draw s = some (p, s') ∧ Src s' (k + 210) := by
  obtain ⟨p, s1, e1, hv, hs1⟩ := drawOk hs hk
  obtain ⟨b, s2, e2, hs2⟩ := oneD (n := 16) hs1 (by omega) (by omega)
  unfold m_spec_l10Draw
  rw [e1, Option.bind_some]
  simp only
  rw [e2, Option.bind_some]
  cases b with
  | false => exact ⟨_, _, rfl, hs2.mono (by omega)⟩
  | true =>
    obtain ⟨r, s3, e3, r0, r1, hs3⟩ := pick_ok (n := 4) hs2 (by omega) (by omega)
    have hl := vP_len hv
    have h0 : p.Next[0]? = some (p.Next[0]'(by omega)) := List.getElem?_eq_getElem _
    obtain ⟨h4, _⟩ := vP_row hv (List.mem_of_getElem? h0)
    generalize p.Next[0]'(by omega) = x at h0 h4
    have g0 : getI p.Next (0 : Int) = some x := getI_some (n := 0) h0
    simp only [Bool.not_true, cond_false]
    rw [e3, Option.bind_some]
    simp only
    by_cases c0 : r = 0
    · rw [decide_eq_true c0, cond_true]; exact ⟨_, _, rfl, hs3.mono (by omega)⟩
    · rw [decide_eq_false c0, cond_false]
      by_cases c1 : r = 1
      · rw [decide_eq_true c1, cond_true, g0, Option.bind_some, show sliceI x (1 : Int) (x.length : Int) = some _ from sliceI_some (l := 1) (u := x.length) (by omega) (by omega), Option.bind_some]
        exact ⟨_, _, rfl, hs3.mono (by omega)⟩
      · rw [decide_eq_false c1, cond_false]
        by_cases c2 : r = 2
        · obtain ⟨y, s4, e4, hs4⟩ := amongD (xs := [(-2 : Int), (p.Next.length : Int), (9223372036854775807 : Int)]) hs3 (by omega) (by simp) (by simp)
          rw [decide_eq_true c2, cond_true, g0, Option.bind_some, e4, Option.bind_some, show getI x (0 : Int) = some _ from getI_some (n := 0) (List.getElem?_eq_getElem (by omega)), Option.bind_some]
          exact ⟨_, _, rfl, hs4.mono (by omega)⟩
        · rw [decide_eq_false c2, cond_false]
          by_cases c3 : r = 3
          · obtain ⟨u, hu⟩ := pad_loop 13 p.Next (by omega) (by omega)
            rw [decide_eq_true c3, cond_true, hu, Option.bind_some]
            exact ⟨_, _, rfl, hs3.mono (by omega)⟩
          · rw [decide_eq_false c3, cond_false]; exact ⟨_, _, rfl, hs3.mono (by omega)⟩
theorem copy_loop {r10 : Policy × l00Src} (hv : vP r10.1 = true) : iter (m_spec_l10DrawTwo_L0 r10) (([] : List (List Int)), (0 : Int)) = some r10.1.Next := by
  have hl := vP_len hv
  obtain ⟨t, e1, e2⟩ := iter_inv (step := m_spec_l10DrawTwo_L0 r10) (fun s => ∃ k : Nat, s.2 = (k : Int) ∧ k ≤ r10.1.Next.length ∧ s.1 = r10.1.Next.take k) (fun s => r10.1.Next.length - s.2.toNat) (fun t => t = r10.1.Next)
    (fun s ⟨k, hk, hkl, hs⟩ => by
      unfold m_spec_l10DrawTwo_L0
      rw [hk]
      by_cases hlt : k < r10.1.Next.length
      · have hr : r10.1.Next[k]? = some r10.1.Next[k] := List.getElem?_eq_getElem hlt
        obtain ⟨h4, _⟩ := vP_row hv (List.mem_of_getElem? hr)
        rw [dec_lt hlt, cond_true, getI_some hr, Option.bind_some]
        unfold m_spec_l00Own
        rw [capI_some (by simp; omega), Option.bind_some, Option.bind_some, List.nil_append, capI_some (by rw [hs]; simp; omega), Option.bind_some, w64_succ (by omega)]
        refine .inl ⟨_, rfl, ⟨k + 1, rfl, by omega, ?_⟩, by show r10.1.Next.length - ((k + 1 : Nat) : Int).toNat < r10.1.Next.length - ((k : Nat) : Int).toNat; omega⟩
        show s.1 ++ [r10.1.Next[k]] = _
        rw [hs, List.take_add_one, hr]; rfl
      · have : k = r10.1.Next.length := by omega
        subst this
        rw [dec_self, cond_false]
        exact .inr ⟨_, rfl, by rw [hs, List.take_length]⟩)
    (s := (([] : List (List Int)), (0 : Int))) ⟨0, rfl, by omega, rfl⟩
  rw [e1, e2]
theorem two_ok {s : l00Src} (hs : Src s 0) : ∃ r, m_spec_l10DrawTwo s = some r := by
  obtain ⟨p, s1, e1, hs1⟩ := draw_ok hs (by omega)
  obtain ⟨b, s2, e2, hs2⟩ := oneD (n := 2) hs1 (by omega) (by omega)
  have again : ∃ r, m_spec_l10DrawTwo_J0 (p, s1) (s2.code, s2.at_, s2.seed, true) = some r := by
    obtain ⟨q, s3, e3, _⟩ := draw_ok hs2 (by omega)
    unfold m_spec_l10DrawTwo_J0
    simp only [cond_true]
    rw [src_mk, e3]
    exact ⟨_, rfl⟩
  unfold m_spec_l10DrawTwo
  rw [e1, Option.bind_some]
  simp only
  rw [e2, Option.bind_some]
  cases b with
  | true => exact again
  | false =>
    simp only [cond_false]
    rw [spec_vP0, Option.bind_some]
    cases hv : vP p with
    | false => exact again
    | true =>
      have hl := vP_len hv
      have last : ∀ (s4 : l00Src) (k : Nat) (g : List (List Int)), Src s4 k → k ≤ 1000 → vP ⟨g⟩ = true → ∃ r, m_spec_l10DrawTwo_J1 (p, s1) (s4.code, s4.at_, s4.seed, g) = some r := by
        intro s4 k g h4 hk hg
        obtain ⟨b, s5, e5, _⟩ := oneD (n := 3) h4 (by omega) (by omega)
        unfold m_spec_l10DrawTwo_J1
        simp only
        rw [src_mk, e5, Option.bind_some]
        simp only
        cases b with
        | false => exact ⟨_, rfl⟩
        | true =>
          obtain ⟨f, Lf, res, _, _, k3, _, _⟩ := spec_minimal (p := ⟨g⟩) (gok_of_vP hg)
          rw [cond_true, k3]
          exact ⟨_, rfl⟩
      unfold m_spec_l10DrawTwo_J0
      simp only [Bool.not_true, cond_false]
      rw [copy_loop (r10 := (p, s1)) hv, Option.bind_some]
      unfold m_spec_l10DrawTwo_A0
      simp only
      obtain ⟨b, s3, e3, hs3⟩ := oneD (n := 2) hs2 (by omega) (by omega)
      rw [src_mk, e3, Option.bind_some]
      simp only
      cases b with
      | false => exact last s3 _ _ hs3 (by omega) hv
      | true =>
        obtain ⟨i, s4, e4, i0, i1, hs4⟩ := pick_ok (n := (p.Next.length : Int)) hs3 (by omega) (by omega)
        obtain ⟨j, s5, e5, j0, j1, hs5⟩ := pick_ok (n := 4) hs4 (by omega) (by omega)
        obtain ⟨v, s6, e6, v0, v1, hs6⟩ := pick_ok (n := (p.Next.length : Int) + 1) hs5 (by omega) (by omega)
        obtain ⟨i, rfl⟩ := Int.eq_ofNat_of_zero_le i0
        obtain ⟨j, rfl⟩ := Int.eq_ofNat_of_zero_le j0
        have hi : i < p.Next.length := by omega
        obtain ⟨h4, hr⟩ := vP_row hv (List.getElem_mem hi)
        have hj : j < p.Next[i].length := by omega
        rw [cond_true, e4, Option.bind_some]
        simp only
        rw [e5, Option.bind_some]
        simp only
        rw [getI_some (List.getElem?_eq_getElem hi), Option.bind_some, w64_eq (n := (p.Next.length : Int) + 1) (by omega), e6, Option.bind_some]
        simp only
        rw [getI_some (List.getElem?_eq_getElem hj), Option.bind_some, w64_eq (n := v - 1) (by omega)]
        refine last s6 _ _ hs6 (by omega) (vP_of hl (by rw [List.length_set]) (fun r hr' => ?_))
        rcases List.mem_or_eq_of_mem_set hr' with h | rfl
        · obtain ⟨a, b⟩ := vP_row hv h
          exact ⟨a, b⟩
        · refine ⟨by rw [List.length_set]; exact h4, fun y hy => ?_⟩
          rcases List.mem_or_eq_of_mem_set hy with h | rfl
          · exact hr y h
          · omega
theorem policies_ok {code : List Int} (h1 : ∀ x ∈ code, 0 ≤ x ∧ x ≤ 255) (h2 : code.length ≤ 1048576) : ∃ p q, m_spec_B10Policies code = some (p, q) ∧ vP p = true ∧ vP q = true := by
  obtain ⟨e0, hs⟩ := from_ok h1 h2
  obtain ⟨⟨p, q, s⟩, e1⟩ := two_ok hs
  have hj : ∀ g, vP ⟨g⟩ = true → ∃ a b, m_spec_B10Policies_J0 (p, q, s) g = some (a, b) ∧ vP a = true ∧ vP b = true := by
    intro g hg
    unfold m_spec_B10Policies_J0
    simp only
    rw [spec_vP0, Option.bind_some]
    cases hv : vP q with
    | false => exact ⟨_, _, rfl, hg, by decide⟩
    | true => exact ⟨_, _, rfl, hg, hv⟩
  unfold m_spec_B10Policies
  rw [e0, Option.bind_some, e1, Option.bind_some]
  simp only
  rw [spec_vP0, Option.bind_some]
  cases hv : vP p with
  | false => exact hj _ (by decide)
  | true => exact hj _ hv
theorem word_loop : ∀ (n : Nat) (s : l00Src) (k : Nat) (w : List Nat), w.length + n ≤ 8 → (∀ x ∈ w, x < 4) → Src s k → k + n ≤ 1000 →
    ∃ w' : List Nat, iter m_spec_B10Word_L0 (s.code, s.at_, s.seed, w.map (fun i : Nat => (i : Int)), (n : Int)) = some (w'.map fun i : Nat => (i : Int)) ∧ w'.length ≤ 8 ∧ ∀ x ∈ w', x < 4
  | 0, s, k, w, hl, h4, _, _ => ⟨w, iter_out (by unfold m_spec_B10Word_L0; rfl), by omega, h4⟩
  | n + 1, s, k, w, hl, h4, hs, hk => by
    obtain ⟨r, s1, e1, r0, r1, hs1⟩ := pick_ok (n := 4) hs (by omega) (by omega)
    obtain ⟨r, rfl⟩ := Int.eq_ofNat_of_zero_le r0
    have hst : m_spec_B10Word_L0 (s.code, s.at_, s.seed, w.map (fun i : Nat => (i : Int)), ((n + 1 : Nat) : Int)) = some (.next (s1.code, s1.at_, s1.seed, (w ++ [r]).map (fun i : Nat => (i : Int)), (n : Int))) := by
      unfold m_spec_B10Word_L0
      simp only
      rw [decide_eq_true (by omega), cond_true, src_mk, e1, Option.bind_some]
      simp only
      rw [capI_some (by simp; omega), Option.bind_some, w64_eq (by omega), show ((n + 1 : Nat) : Int) - 1 = (n : Int) by omega, List.map_append]; rfl
    rw [iter_next hst]
    exact word_loop n s1 (k + 1) (w ++ [r]) (by simp; omega) (fun x hx => by
      rcases List.mem_append.1 hx with hx | hx
      · exact h4 x hx
      · rw [List.mem_singleton.1 hx]; omega) hs1 (by omega)
theorem word_ok {code : List Int} (h1 : ∀ x ∈ code, 0 ≤ x ∧ x ≤ 255) (h2 : code.length ≤ 1048576) : ∃ w : List Nat, m_spec_B10Word code = some (w.map fun i : Nat => (i : Int)) ∧ w.length ≤ 8 ∧ ∀ x ∈ w, x < 4 := by
  obtain ⟨e0, hs⟩ := from_ok h1 h2
  obtain ⟨r, s1, e1, r0, r1, hs1⟩ := pick_ok (n := 9) hs (by omega) (by omega)
  obtain ⟨n, rfl⟩ := Int.eq_ofNat_of_zero_le r0
  obtain ⟨w, e2, w1, w2⟩ := word_loop n s1 1 [] (by simp; omega) (by simp) hs1 (by omega)
  refine ⟨w, ?_, w1, w2⟩
  unfold m_spec_B10Word
  rw [e0, Option.bind_some, e1, Option.bind_some]
  have e2' : iter m_spec_B10Word_L0 (s1.code, s1.at_, s1.seed, ([] : List Int), (n : Int)) = _ := e2
  simp only
  rw [e2', Option.bind_some]; rfl
theorem both_part {p q : Policy} (hp : vP p = true) (hq : vP q = true) {w : List Nat} (hl : w.length ≤ 8) (h4 : ∀ x ∈ w, x < 4) {w0 : List Int} (hw : w0 = w.map fun i : Nat => (i : Int)) {r49 r56 : Int × Int × Bool}
    (e1 : r49.1 = ((cwn (dl p.Next) 0 w : Nat) : Int)) (e2 : r56.1 = ((cwn (dl q.Next) 0 w : Nat) : Int)) : ∃ r63, m_impl_BothPolicies p q = some r63 ∧ m_laws_FnDifference_J0 (p, q) w0 r49 r56 r63 () = some true := by
  subst hw
  obtain ⟨g, res, r1, g1, g2, g3, g4, g5, g6⟩ := both_run hp hq
  have hb : m_impl_BothPolicies p q = bif decide ((12 : Int) < (res.length : Int)) then some (⟨[]⟩, false) else some (⟨res⟩, true) := by
    unfold m_impl_BothPolicies
    rw [impl_vP, hp, Option.bind_some, Bool.not_true, cond_false, impl_vP, hq, Option.bind_some, Bool.not_true, cond_false, g3, Option.bind_some, g4, Option.bind_some]
  have hsp : m_spec_BothPolicies p q = bif decide ((12 : Int) < (res.length : Int)) then some (⟨[]⟩, false) else some (⟨res⟩, true) := by
    unfold m_spec_BothPolicies
    rw [spec_vP0, hp, Option.bind_some, Bool.not_true, cond_false, spec_vP0, hq, Option.bind_some, Bool.not_true, cond_false, g1, Option.bind_some, g2, Option.bind_some]
  rw [hb]
  by_cases h12 : (12 : Int) < (res.length : Int)
  · rw [decide_eq_true h12, cond_true] at hsp ⊢
    refine ⟨_, rfl, ?_⟩
    unfold m_laws_FnDifference_J0
    simp only [cond_false]
    rw [hsp]; rfl
  · rw [decide_eq_false h12, cond_false]
    refine ⟨_, rfl, ?_⟩
    have hv := g5 (by omega)
    obtain ⟨st, hr⟩ := run_ok hv h4 (by omega)
    have s1 := strict_of hv hp (fun u hu => by show cwn (dl res) 0 u ≤ _; rw [g6 u hu]; omega)
    have s2 := strict_of hv hq (fun u hu => by show cwn (dl res) 0 u ≤ _; rw [g6 u hu]; omega)
    have hmin : cwn (dl (Policy.mk res).Next) 0 w = min (cwn (dl p.Next) 0 w) (cwn (dl q.Next) 0 w) := g6 w h4
    unfold m_laws_FnDifference_J0
    simp only [cond_true]
    rw [hr, Option.bind_some, e1, e2, hmin]
    have fin : ∀ j : Int, j = ((min (cwn (dl p.Next) 0 w) (cwn (dl q.Next) 0 w) : Nat) : Int) → m_laws_FnDifference_J1 (p, q) (⟨res⟩, true) (((min (cwn (dl p.Next) 0 w) (cwn (dl q.Next) 0 w) : Nat) : Int), st, true) j = some true := by
      rintro j rfl
      unfold m_laws_FnDifference_J1
      simp only [decide_true, Bool.and_self, cond_true]
      rw [s1, Option.bind_some, cond_true, s2, Option.bind_some]
    by_cases hlt : ((cwn (dl q.Next) 0 w : Nat) : Int) < ((cwn (dl p.Next) 0 w : Nat) : Int)
    · rw [decide_eq_true hlt, cond_true]; exact fin _ (by omega)
    · rw [decide_eq_false hlt, cond_false]; exact fin _ (by omega)
theorem law_Difference {p0 p1 : List Int} (k0 : kLa_u8 p0) (k1 : kLa_u8 p1) : m_laws_FnDifference p0 p1 = some true := by
  unfold m_laws_FnDifference m_laws_b10Long
  rw [Option.bind_some]
  by_cases hlong : p0.length ≤ 1048576 ∧ p1.length ≤ 1048576
  case neg =>
    have : (decide ((1048576 : Int) < (p0.length : Int)) || decide ((1048576 : Int) < (p1.length : Int))) = true := by
      rw [Bool.or_eq_true, decide_eq_true_eq, decide_eq_true_eq]; omega
    rw [this]; rfl
  rw [decide_eq_false (by omega), decide_eq_false (by omega)]
  simp only [Bool.or_false, cond_false]
  obtain ⟨p, q, e1, hp, hq⟩ := policies_ok (fun x hx => k0.2 x hx) hlong.1
  obtain ⟨w, e2, hl, h4⟩ := word_ok (fun x hx => k1.2 x hx) hlong.2
  obtain ⟨st1, n1⟩ := run_ok hp h4 (by omega)
  obtain ⟨st2, n2⟩ := run_ok hq h4 (by omega)
  obtain ⟨r63, b1, b2⟩ := both_part hp hq hl h4 (r49 := (((cwn (dl p.Next) 0 w : Nat) : Int), st1, true)) (r56 := (((cwn (dl q.Next) 0 w : Nat) : Int), st2, true)) rfl rfl rfl
  have hd : m_impl_DifferenceOf p q = (gApart m_impl_DifferenceOf_1 p q).bind fun r => bif ((!r.2) || (decide ((40 : Int) < (r.1.length : Int)))) then some (([] : List Int), false) else some (r.1, true) := by
    unfold m_impl_DifferenceOf
    rw [impl_vP, hp, Option.bind_some, Bool.not_true, cond_false, impl_vP, hq, Option.bind_some, Bool.not_true, cond_false, apart_diff]
  rw [e1, Option.bind_some, e2, Option.bind_some]
  simp only
  have none_case : m_impl_DifferenceOf p q = some ([], false) → (cwn (dl p.Next) 0 w = cwn (dl q.Next) 0 w) → ((m_impl_DifferenceOf p q).bind fun (r43 : (List Int) × Bool) =>
    (m_impl_RunPolicy p (w.map fun i : Nat => (i : Int))).bind fun (r49 : Int × Int × Bool) =>
    (m_impl_RunPolicy q (w.map fun i : Nat => (i : Int))).bind fun (r56 : Int × Int × Bool) =>
    (m_impl_BothPolicies p q).bind fun (r63 : Policy × Bool) =>
    bif ((!r49.2.2) || (!r56.2.2)) then
      some false
    else
      bif r43.2 then
        (m_impl_RunPolicy p r43.1).bind fun (r76 : Int × Int × Bool) =>
        (m_impl_RunPolicy q r43.1).bind fun (r83 : Int × Int × Bool) =>
        bif (((!r76.2.2) || (!r83.2.2)) || ((decide (r76.1 = (r43.1.length : Int))) == (decide (r83.1 = (r43.1.length : Int))))) then
          some false
        else
          (m_impl_IsStricter p q).bind fun (r107 : Bool) =>
          bif r107 then
            (m_impl_IsStricter q p).bind fun (r111 : Bool) =>
            bif r111 then
              some false
            else
              m_laws_FnDifference_J0 (p, q) (w.map fun i : Nat => (i : Int)) r49 r56 r63 ()
          else
            m_laws_FnDifference_J0 (p, q) (w.map fun i : Nat => (i : Int)) r49 r56 r63 ()
      else
        bif (!decide (r49.1 = r56.1)) then
          some false
        else
          m_laws_FnDifference_J0 (p, q) (w.map fun i : Nat => (i : Int)) r49 r56 r63 ()) = some true := by
    intro hn hc
    rw [hn, Option.bind_some, n1, Option.bind_some, n2, Option.bind_some, b1, Option.bind_some]
    simp only [Bool.not_true, Bool.or_false, cond_false]
    rw [decide_eq_true (by rw [hc])]
    exact b2
  rcases apart_ok (gok_of_vP hp) (gok_of_vP hq) (vP_len hp).2 (vP_len hq).2 df_diff with ⟨a1, a2⟩ | ⟨d, a1, v, e, a, b, d1, d2, d3, d4, d5, d6⟩
  · refine none_case (by rw [hd, a1]; rfl) ?_
    exact cwn_same (l := w.length) (fun u f c d _ => a2 u f c d) w [] 0 0 (by simp) (by simp) h4 rfl rfl
  · have dl1 : d.length = v.length + 1 := by rw [d1]; simp
    by_cases h40 : d.length ≤ 40
    · have hd2 : m_impl_DifferenceOf p q = some (d, true) := by
        rw [hd, a1, Option.bind_some]
        simp only [Bool.not_true, Bool.false_or]
        rw [decide_eq_false (by omega)]; rfl
      obtain ⟨t1, m1⟩ := run_ok hp d2 (by rw [List.length_append]; simp; omega)
      obtain ⟨t2, m2⟩ := run_ok hq d2 (by rw [List.length_append]; simp; omega)
      rw [← d1] at m1 m2
      rw [cwn_snoc d3] at m1
      rw [cwn_snoc d4] at m2
      rw [hd2, Option.bind_some, n1, Option.bind_some, n2, Option.bind_some, b1, Option.bind_some]
      simp only [Bool.not_true, Bool.or_false, cond_false, cond_true]
      rw [m1, Option.bind_some, m2, Option.bind_some]
      simp only [Bool.not_true, Bool.or_false, Bool.false_or, dl1]
      have hx : ∀ c : Bool, decide (((v.length + (if c = true then 1 else 0) : Nat) : Int) = ((v.length + 1 : Nat) : Int)) = c := by
        intro c
        cases c with
        | true => rw [if_pos rfl, decide_eq_true rfl]
        | false => rw [if_neg (by decide), decide_eq_false (by omega)]
      rw [hx, hx]
      have hne : ((dl p.Next a e).isSome == (dl q.Next b e).isSome) = false := by
        unfold dfB at d5
        simpa using d5
      rw [hne, cond_false]
      rcases strict_ok hp hq with ⟨s1, s2⟩ | ⟨s1, _⟩
      · rcases strict_ok hq hp with ⟨t1, t2⟩ | ⟨t1, _⟩
        · have z1 := s2 v e a b d2 d3 d4
          have z2 := t2 v e b a d2 d4 d3
          exfalso
          revert hne z1 z2
          unfold dfB
          cases (dl p.Next a e).isSome <;> cases (dl q.Next b e).isSome <;> simp
        · rw [s1, Option.bind_some, cond_true, t1, Option.bind_some, cond_false]; exact b2
      · rw [s1, Option.bind_some, cond_false]; exact b2
    · refine none_case ?_ ?_
      · rw [hd, a1, Option.bind_some]
        simp only [Bool.not_true, Bool.false_or]
        rw [decide_eq_true (by omega)]; rfl
      · exact cwn_same (l := v.length) (fun u f c d hu h4' g1 g2 => d6 u f c d hu h4' g1 g2) w [] 0 0 (by simp; omega) (by simp) h4 rfl rfl
end Go.Mod
