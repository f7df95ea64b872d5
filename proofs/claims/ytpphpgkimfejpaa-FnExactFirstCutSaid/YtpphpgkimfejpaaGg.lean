import Derived.Test.YtpphpgkimfejpaaGf
/- The law of eliminated symbols. Plain Lean. -/
namespace Go.Mod
open Go.AM
set_option linter.unusedVariables false
set_option linter.unusedSimpArgs false

theorem facts_len {s0 : List Int × Int × Int × List Term × Int} {r : Term × Bool} {j : List Int × Int × Int × Bool} {s' : List Int × Int × Int × List Term × Int}
    (h : m_spec_B10Facts_J0 s0 r j = some (.next s')) : s'.2.2.2.1.length = s0.2.2.2.1.length + 1 := by
  unfold m_spec_B10Facts_J0 at h
  cases hb : j.2.2.2 with
  | true =>
    rw [hb, cond_true] at h
    obtain ⟨a, _, h⟩ := Option.bind_eq_some_iff.1 h
    obtain ⟨b, _, h⟩ := Option.bind_eq_some_iff.1 h
    obtain ⟨c, _, h⟩ := Option.bind_eq_some_iff.1 h
    obtain ⟨d, _, h⟩ := Option.bind_eq_some_iff.1 h
    obtain ⟨e, _, h⟩ := Option.bind_eq_some_iff.1 h
    cases h; simp
  | false =>
    rw [hb, cond_false] at h
    obtain ⟨e, _, h⟩ := Option.bind_eq_some_iff.1 h
    cases h; simp
theorem facts_pos {code : List Int} (h1 : ∀ x ∈ code, 0 ≤ x ∧ x ≤ 255) (h2 : code.length ≤ 1048576) : ∃ ts, m_spec_B10Facts code = some ts ∧ ts.length ≤ 5 ∧ (∀ t ∈ ts, Fact t 40) ∧ 1 ≤ ts.length := by
  unfold m_spec_B10Facts
  obtain ⟨e0, hS0⟩ := from_ok h1 h2
  rw [e0, Option.bind_some]
  obtain ⟨r, s1, e1, g1, g2, hS1⟩ := pick_ok (n := 5) hS0 (by omega) (by omega)
  rw [e1, Option.bind_some]
  simp only
  rw [w64_eq (n := 1 + r) (by omega)]
  obtain ⟨u, eu, hu⟩ := iter_inv (step := m_spec_B10Facts_L0) (fun s => FSt s ∧ 1 ≤ (s.2.2.2.1.length : Int) + s.2.2.2.2) (fun s => s.2.2.2.2.toNat) (fun ts => ts.length ≤ 5 ∧ (∀ t ∈ ts, Fact t 40) ∧ 1 ≤ ts.length)
    (fun ⟨c, a, sd, out, n⟩ hI0 => by
      obtain ⟨hI, hP⟩ := hI0
      simp only at hP
      have hI' := hI
      obtain ⟨i1, i2, i3, i4⟩ := hI'
      simp only at i1 i2 i3 i4
      unfold m_spec_B10Facts_L0
      simp only
      by_cases hn : 0 < n
      · left
        obtain ⟨r, s', e, r1, r2, hS⟩ := pick_ok (n := 4) i1 (by omega) (by omega)
        obtain ⟨c2, a2, sd2, xs, e2, hS2, hx1, hx2⟩ := facts_inner hS (by omega) (n := r) (by omega)
        rw [decide_eq_true hn, cond_true, e, Option.bind_some]
        simp only
        rw [e2, Option.bind_some]
        unfold m_spec_B10Facts_A1
        simp only
        obtain ⟨q, s3, e3, q1, q2, hS3⟩ := pick_ok (n := 9) hS2 (by omega) (by omega)
        rw [e3, Option.bind_some]
        simp only
        rw [w64_eq (n := q - 3) (by omega), spec_make (by omega), Option.bind_some]
        have hf := make_fact (c := q - 3) (xs := xs) (by omega) hx2
        by_cases h0 : 0 < out.length
        · rw [decide_eq_true (show (0 : Int) < (out.length : Int) by omega), cond_true]
          obtain ⟨z, s4, e4, z1, z2, hS4⟩ := pick_ok (n := 3) hS3 (by omega) (by omega)
          unfold m_spec_l00Src_one
          rw [e4, Option.bind_some, Option.bind_some]
          simp only
          obtain ⟨s', j1, j2, j3⟩ := facts_J (b := decide (z = 0)) (r38 := chk (Term.mk (q - 3) (trim xs))) hI hn hf (c' := s4.code) (a' := s4.at_) (sd' := s4.seed) (hS4.mono (by omega)) (fun _ => h0)
          have j4 := facts_len j1; simp only at j4; exact ⟨s', j1, ⟨j2, by rw [j3, j4]; omega⟩, by rw [j3]; omega⟩
        · rw [decide_eq_false (show ¬ (0 : Int) < (out.length : Int) by omega), cond_false]
          obtain ⟨s', j1, j2, j3⟩ := facts_J (b := false) (r38 := chk (Term.mk (q - 3) (trim xs))) hI hn hf (c' := s3.code) (a' := s3.at_) (sd' := s3.seed) (hS3.mono (by omega)) (fun h => by cases h)
          have j4 := facts_len j1; simp only at j4; exact ⟨s', j1, ⟨j2, by rw [j3, j4]; omega⟩, by rw [j3]; omega⟩
      · right
        rw [decide_eq_false hn, cond_false]
        exact ⟨_, rfl, by omega, fun t ht => (i4 t ht).mono (by omega), by omega⟩)
    (s := (s1.code, s1.at_, s1.seed, [], 1 + r)) ⟨⟨hS1.mono (by simp), by simp only; omega, by simp; omega, by simp⟩, by simp; omega⟩
  rw [eu, Option.bind_some]
  exact ⟨_, rfl, hu⟩

/-! ### The symbols of facts -/
def hasSym (ts : List Term) (k : Nat) : Bool := ts.any fun t => !decide (coef t.Coeffs k = 0)
theorem sym_index {k : Nat} (hk : k < 10) : ∀ (ts : List Term) (m : Nat), (∀ t ∈ ts, vT t = true) → ∃ u, forL (m_slices_IndexFunc_impl_Term_impl_Term_fsymbolsOf_1_L0 (k : Int)) (fun s0 => (.inl ())) m ts () = some u ∧
    (hasSym ts k = true → ∃ n : Nat, u = .inr (n : Int)) ∧ (hasSym ts k = false → u = .inl ()) := by
  intro ts
  induction ts with
  | nil => intro m _; exact ⟨.inl (), rfl, ⟨fun h => by simp [hasSym] at h, fun _ => rfl⟩⟩
  | cons t r ih =>
    intro m h
    have ht := vT_len (h t (by simp))
    have hs : m_slices_IndexFunc_impl_Term_impl_Term_fsymbolsOf_1_L0 (k : Int) m t () = bif !decide (coef t.Coeffs k = 0) then some (.out (.inr (m : Int))) else some (.next ()) := by
      unfold m_slices_IndexFunc_impl_Term_impl_Term_fsymbolsOf_1_L0 m_impl_symbolsOf_1
      rw [impl_coeff ht, Option.bind_some, Option.bind_some]
    obtain ⟨u, hu, h1, h2⟩ := ih (m + 1) (fun x hx => h x (by simp [hx]))
    have e : hasSym (t :: r) k = (!decide (coef t.Coeffs k = 0) || hasSym r k) := by unfold hasSym; rw [List.any_cons]
    unfold forL
    rw [hs, e]
    cases hc : !decide (coef t.Coeffs k = 0) with
    | true => exact ⟨.inr (m : Int), rfl, fun _ => ⟨m, rfl⟩, fun h => by cases h⟩
    | false => exact ⟨u, hu, fun h => h1 h, fun h => h2 h⟩
theorem sym_has {ts : List Term} {k : Nat} (hk : k < 10) (h : ∀ t ∈ ts, vT t = true) : m_slices_ContainsFunc_impl_Term_impl_Term_fsymbolsOf_1 ts (k : Int) = some (hasSym ts k) := by
  unfold m_slices_ContainsFunc_impl_Term_impl_Term_fsymbolsOf_1 m_slices_IndexFunc_impl_Term_impl_Term_fsymbolsOf_1
  obtain ⟨u, hu, h1, h2⟩ := sym_index hk ts 0 h
  rw [hu, Option.bind_some]
  unfold m_slices_IndexFunc_impl_Term_impl_Term_fsymbolsOf_1_A0
  cases hs : hasSym ts k with
  | true => obtain ⟨n, rfl⟩ := h1 hs; simp only [Option.bind_some]; rw [decide_eq_true (by omega)]
  | false => rw [h2 hs]; rfl
def symsL (ts : List Term) : List Int := ((List.range 10).filter (hasSym ts)).map fun (k : Nat) => (k : Int)
theorem impl_syms {ts : List Term} (h : ∀ t ∈ ts, vT t = true) : m_impl_symbolsOf ts = some (symsL ts) := by
  unfold m_impl_symbolsOf
  have h1 := iter_cnt (step := m_impl_symbolsOf_L0 ts) (fun j => (((List.range j).filter (hasSym ts)).map (fun (k : Nat) => (k : Int)), (j : Int))) 10 (t := symsL ts) (fun j hj => by
    have hl := List.length_filter_le (hasSym ts) (List.range j)
    rw [List.length_range] at hl
    unfold m_impl_symbolsOf_L0
    simp only
    rw [decide_eq_true (by omega), cond_true, sym_has hj h, Option.bind_some, w64_succ (by omega), List.range_succ, List.filter_append]
    cases hs : hasSym ts j with
    | true => rw [cond_true, capI_some (by simp; omega), Option.bind_some]; simp [hs]
    | false => simp [hs])
    (by unfold m_impl_symbolsOf_L0; rfl)
  rw [show iter (m_impl_symbolsOf_L0 ts) ([], 0) = _ from h1]; rfl
theorem has_ok {xs : List Int} {k : Int} (hl : xs.length ≤ 1000) (hm : k ∈ xs) : m_laws_b10Has xs k = some true := by
  have key : ∀ (q j : Nat), j + q = xs.length → k ∈ xs.drop j → iter (m_laws_b10Has_L0 xs k) (j : Int) = some (.inr true) := by
    intro q
    induction q with
    | zero => intro j hj h; rw [show j = xs.length by omega, List.drop_length] at h; cases h
    | succ q ih =>
      intro j hj h
      have hjl : j < xs.length := by omega
      have hs : m_laws_b10Has_L0 xs k (j : Int) = bif decide (xs[j] = k) then some (.out (.inr true)) else some (.next ((j + 1 : Nat) : Int)) := by
        unfold m_laws_b10Has_L0
        rw [dec_lt hjl, cond_true, getI_some (List.getElem?_eq_getElem hjl), Option.bind_some, w64_succ (by omega)]
      rw [List.drop_eq_getElem_cons hjl] at h
      by_cases he : xs[j] = k
      · rw [decide_eq_true he, cond_true] at hs; exact iter_out hs
      · rw [decide_eq_false he, cond_false] at hs
        rw [iter_next hs]
        rcases List.mem_cons.1 h with h | h
        · exact absurd h.symm he
        · exact ih (j + 1) (by omega) h
  unfold m_laws_b10Has
  rw [show iter (m_laws_b10Has_L0 xs k) 0 = _ from key xs.length 0 (by omega) (by simpa using hm)]; rfl
theorem zero_loop {ts : List Term} {k : Nat} {b : Bool} (hl : ts.length ≤ 1000) (hz : ∀ t ∈ ts, coef t.Coeffs k = 0) : iter (m_laws_FnEliminated_L0 (k : Int) (ts, b)) 0 = some (.inl ()) := by
  have h1 := iter_cnt (step := m_laws_FnEliminated_L0 (k : Int) (ts, b)) (fun j => (j : Int)) ts.length (t := .inl ()) (fun j hj => by
    have hx : ts[j]? = some ts[j] := List.getElem?_eq_getElem hj
    unfold m_laws_FnEliminated_L0
    rw [dec_lt hj, cond_true, getI_some hx, Option.bind_some, w64_succ (by omega)]
    by_cases h : k < ts[j].Coeffs.length
    · have h0 := hz _ (List.getElem_mem hj)
      rw [coef_get (List.getElem?_eq_getElem h)] at h0
      rw [decide_eq_true (by omega), cond_true, getI_some (List.getElem?_eq_getElem h), Option.bind_some, decide_eq_true h0]; rfl
    · rw [decide_eq_false (by omega), cond_false])
    (by unfold m_laws_FnEliminated_L0; rw [dec_self]; rfl)
  exact h1
theorem law_Eliminated {a b : List Int} (ka : kLa_u8 a) (kb : kLa_u8 b) : m_laws_FnEliminated a b = some true := by
  unfold m_laws_FnEliminated
  by_cases hl : a.length ≤ 1048576 ∧ b.length ≤ 1048576
  · rw [long_no hl.1 hl.2, Option.bind_some, cond_false]
    obtain ⟨ts, et, hlen, hts, hpos⟩ := facts_pos ka.2 hl.1
    obtain ⟨v, ev, hv⟩ := values_ok kb.2 hl.2
    obtain ⟨r, er, hr0, hr1⟩ := at_ok (i := 0) (n := 4) kb.2 (by omega) (by omega)
    replace er : m_laws_b10At b 0 4 = some r := er
    have hvt : ∀ t ∈ ts, vT t = true := fun t ht => (hts t ht).v
    rw [et, Option.bind_some, ev, Option.bind_some, er, Option.bind_some, impl_elimS, Option.bind_some]
    cases h : (fElim ts r).2 with
    | false =>
      rw [Bool.not_false, cond_true, spec_elim (facts_small hvt (by omega)), Option.bind_some, h]; rfl
    | true =>
      obtain ⟨g1, g2, j, add, hj, rfl, hs, e⟩ := fElim_some h
      have h0 := rows0_ok g1 g2
      have hz := stage_zero (fun _ => True) (fun x hx => ⟨h0.1 x hx, trivial⟩) g2 (fun _ _ _ _ _ _ => trivial) hj hs
      obtain ⟨c1, c2, c3⟩ := stage_inv (Comb ts) (fun x hx => ⟨h0.1 x hx, rows0_comb ts x hx⟩) h0.2 g2 (fun p q hp hq two _ => mx_comb two hp hq) hs
      rw [Bool.not_true, cond_false, e]
      have hlt : (terms (keep j (rows0 ts) ++ add)).length ≤ 60 := by unfold terms; rw [List.length_map]; exact c2
      have hvl : ∀ t ∈ terms (keep j (rows0 ts) ++ add), vT t = true := fun t ht => by obtain ⟨x, hx, rfl⟩ := List.mem_map.1 ht; exact (c1 x hx).1.v
      rw [zero_loop (by omega) (fun t ht => by obtain ⟨x, hx, rfl⟩ := List.mem_map.1 ht; exact hz x hx), Option.bind_some]
      unfold m_laws_FnEliminated_A0 m_impl_SymbolsOf m_impl_ValidFacts
      simp only
      rw [show (14 : Int) = ((14 : Nat) : Int) from rfl, impl_terms, Option.bind_some, Option.bind_some, decide_eq_true g2, List.all_eq_true.2 g1]
      simp only [Bool.and_self, Bool.not_true, cond_false]
      rw [impl_syms g1, Option.bind_some, Option.bind_some]
      simp only [cond_true]
      have hfin : ((m_laws_b10Hold ts v).bind fun r84 => bif !r84 then some true else (m_laws_b10Hold (terms (keep j (rows0 ts) ++ add)) v).bind fun r89 => some r89) = some true := by
        rw [hold_ok hvt (by omega) hv, Option.bind_some]
        cases hh : allHold ts v with
        | false => rfl
        | true =>
          rw [Bool.not_true, cond_false, hold_ok hvl (by omega) hv, Option.bind_some]
          congr 1
          unfold allHold
          refine List.all_eq_true.2 (fun t ht => ?_)
          obtain ⟨x, hx, rfl⟩ := List.mem_map.1 ht
          have := comb_hold (c1 x hx).2 (c1 x hx).1 hh
          rw [decide_eq_false (by omega)]; rfl
      by_cases hn : 0 < (terms (keep j (rows0 ts) ++ add)).length
      · rw [decide_eq_true (by omega), cond_true]
        exact hfin
      · rw [decide_eq_false (by omega), cond_false]
        have hsym : hasSym ts j = true := by
          have hk0 : keep j (rows0 ts) = [] := by
            unfold terms at hn
            rw [List.length_map, List.length_append] at hn
            exact List.eq_nil_of_length_eq_zero (by omega)
          have hm0 : row0 ts 0 ∈ rows0 ts := List.mem_map.2 ⟨0, List.mem_range.2 (by omega), rfl⟩
          unfold hasSym
          refine List.any_eq_true.2 ⟨ts[0], List.getElem_mem (by omega), ?_⟩
          by_cases hc : coef ts[0].Coeffs j = 0
          · exfalso
            have : row0 ts 0 ∈ keep j (rows0 ts) := List.mem_filter.2 ⟨hm0, by
              unfold row0; simp only
              rw [tAt_get (List.getElem?_eq_getElem (show 0 < ts.length by omega))]
              exact decide_eq_true hc⟩
            rw [hk0] at this; cases this
          · rw [decide_eq_false hc]; rfl
        have hlk : (symsL ts).length ≤ 10 := by unfold symsL; rw [List.length_map]; have := List.length_filter_le (hasSym ts) (List.range 10); simpa using this
        rw [has_ok (xs := symsL ts) (by omega) (List.mem_map.2 ⟨j, List.mem_filter.2 ⟨List.mem_range.2 hj, hsym⟩, rfl⟩), Option.bind_some, cond_true]
        exact hfin
  · rw [long_yes hl]; rfl
end Go.Mod

/- The law of first cuts. Plain Lean. -/
namespace Go.Mod
open Go.AM
set_option linter.unusedVariables false
set_option linter.unusedSimpArgs false

theorem rem_far {x : Int} {d : Nat} (hd : 0 < d) : remI x (d : Int) = some (x.tmod d) := by unfold remI; rw [decide_eq_false (by omega)]; rfl
theorem spec_tightP {t : Term} (h1 : vT t = true) : m_spec_l02Tight t = some (fTight t) := by
  have hl : t.Coeffs.length ≤ 1048576 := by have := vT_len h1; omega
  unfold m_spec_l02Tight fTight
  rw [spec_gcd (vT_coef h1) hl, Option.bind_some, h1]
  by_cases h2 : 2 ≤ gcdL t.Coeffs
  · have hv := tight_valid h1 h2
    rw [decide_eq_false (by omega), cond_false, spec_quos h2 (vT_coef h1) hl, decide_eq_true h2]
    simp only [Option.bind_some, Bool.true_and, cond_true]
    unfold m_spec_l02Tight_A0 m_spec_l02Tight_J0
    have hr := (tdiv_rng h2 (vT_const h1)).2
    have hm : ∀ c, m_spec_l02Make c (quos t.Coeffs (gcdL t.Coeffs)) = some (chk (Term.mk c (quos t.Coeffs (gcdL t.Coeffs)))) := by
      intro c
      rw [spec_make (by unfold quos; simp; have := vT_len h1; omega), trim_id (vT_last hv)]
    rw [quo_nat h2 (vT_const h1), Option.bind_some, rem_far (by omega), Option.bind_some, hm, hm, w64_eq (by omega)]
    have e : ∀ c, c = flo t.Const (gcdL t.Coeffs) → (chk (Term.mk c (quos t.Coeffs (gcdL t.Coeffs)))) = (Term.mk (flo t.Const (gcdL t.Coeffs)) (quos t.Coeffs (gcdL t.Coeffs)), true) := by
      rintro c rfl
      unfold chk; rw [hv]; rfl
    by_cases h3 : t.Const.tmod (gcdL t.Coeffs) < 0
    · rw [decide_eq_true h3, cond_true, e _ (by unfold flo; rw [if_pos h3])]; rfl
    · rw [decide_eq_false h3, cond_false, e _ (by unfold flo; rw [if_neg h3])]; rfl
  · rw [decide_eq_true (show ((gcdL t.Coeffs : Nat) : Int) < 2 by omega), decide_eq_false h2]; rfl
theorem impl_tightP {t : Term} (h1 : vT t = true) : m_impl_Term_tightened t = some (fTight t) := by
  have hl := vT_len h1
  unfold m_impl_Term_tightened fTight
  rw [impl_gcd (vT_coef h1), Option.bind_some, h1]
  by_cases h2 : 2 ≤ gcdL t.Coeffs
  · have hr := (tdiv_rng h2 (vT_const h1)).2
    rw [decide_eq_false (by omega), cond_false, impl_own (by omega), decide_eq_true h2]
    simp only [Option.bind_some, Bool.true_and, cond_true]
    unfold m_impl_divFloor
    rw [quo_nat h2 (vT_const h1), Option.bind_some, rem_far (by omega), Option.bind_some, w64_eq (by omega)]
    have e : (bif decide (t.Const.tmod (gcdL t.Coeffs) < 0) then some (t.Const.tdiv (gcdL t.Coeffs) - 1) else some (t.Const.tdiv (gcdL t.Coeffs))) = some (flo t.Const (gcdL t.Coeffs)) := by
      unfold flo
      by_cases h3 : t.Const.tmod (gcdL t.Coeffs) < 0
      · rw [decide_eq_true h3, if_pos h3]; rfl
      · rw [decide_eq_false h3, if_neg h3]; rfl
    rw [e, Option.bind_some, impl_quos h2 (vT_coef h1) (by omega)]; rfl
  · rw [decide_eq_true (show ((gcdL t.Coeffs : Nat) : Int) ≤ 1 by omega), decide_eq_false h2]; rfl
theorem spec_sameI {xs ys : List Int} (hl : xs.length ≤ 1048576) : m_spec_l00Same xs ys = some (decide (xs = ys)) := by
  unfold m_spec_l00Same
  by_cases h : xs.length = ys.length
  · rw [decide_eq_true (by omega), Bool.not_true, cond_false, iter_eq (xs := xs) (ys := ys) (eq := fun x y => some (decide (x = y)))
      (fun n x y hx hy => by unfold m_spec_l00Same_L0; rw [dec_lt (get_lt hx), cond_true, getI_some hx, getI_some hy]; rfl)
      (by unfold m_spec_l00Same_L0; rw [dec_self]; rfl) (by omega) h (fun _ _ _ => rfl)]
    by_cases e : xs = ys
    · rw [if_pos e, decide_eq_true e]; rfl
    · rw [if_neg e, decide_eq_false e]; rfl
  · rw [decide_eq_false (by omega), decide_eq_false (fun e => h (by rw [e]))]; rfl
theorem spec_sameT {x y : Term} (hl : x.Coeffs.length ≤ 1048576) : m_spec_l02Same x y = some (decide (x = y)) := by
  unfold m_spec_l02Same
  rw [spec_sameI hl]
  obtain ⟨a, as⟩ := x
  obtain ⟨b, bs⟩ := y
  by_cases h1 : a = b <;> by_cases h2 : as = bs <;> simp [h1, h2]
theorem impl_sameT (x y : Term) : m_impl_Term_equal x y = some (decide (x = y)) := by
  unfold m_impl_Term_equal
  rw [slices_eq]
  obtain ⟨a, as⟩ := x
  obtain ⟨b, bs⟩ := y
  by_cases h1 : a = b <;> by_cases h2 : as = bs <;> simp [h1, h2]
def hasB (ts : List Term) (t : Term) : Bool := ts.any fun x => decide (x = t)
theorem has_index (t : Term) : ∀ (ts : List Term) (m : Nat), ∃ u, forL (m_slices_IndexFunc_impl_Term_impl_Term_fequal_L0 t.Const t.Coeffs) (fun s0 => (.inl ())) m ts () = some u ∧
    (hasB ts t = true → ∃ n : Nat, u = .inr (n : Int)) ∧ (hasB ts t = false → u = .inl ()) := by
  intro ts
  induction ts with
  | nil => intro m; exact ⟨.inl (), rfl, ⟨fun h => by simp [hasB] at h, fun _ => rfl⟩⟩
  | cons x r ih =>
    intro m
    have hs : m_slices_IndexFunc_impl_Term_impl_Term_fequal_L0 t.Const t.Coeffs m x () = bif decide (x = t) then some (.out (.inr (m : Int))) else some (.next ()) := by
      unfold m_slices_IndexFunc_impl_Term_impl_Term_fequal_L0
      rw [impl_sameT, Option.bind_some]
      by_cases h : x = t
      · rw [decide_eq_true h, decide_eq_true (show Term.mk t.Const t.Coeffs = x from h.symm)]
      · rw [decide_eq_false h, decide_eq_false (show ¬ Term.mk t.Const t.Coeffs = x from fun e => h e.symm)]
    obtain ⟨u, hu, h1, h2⟩ := ih (m + 1)
    have e : hasB (x :: r) t = (decide (x = t) || hasB r t) := by unfold hasB; rw [List.any_cons]
    unfold forL
    rw [hs, e]
    cases hc : decide (x = t) with
    | true => exact ⟨.inr (m : Int), rfl, fun _ => ⟨m, rfl⟩, fun h => by cases h⟩
    | false => exact ⟨u, hu, fun h => h1 h, fun h => h2 h⟩
theorem impl_has (ts : List Term) (t : Term) : m_impl_hasTerm ts t = some (hasB ts t) := by
  unfold m_impl_hasTerm m_slices_ContainsFunc_impl_Term_impl_Term_fequal m_slices_IndexFunc_impl_Term_impl_Term_fequal
  obtain ⟨u, hu, h1, h2⟩ := has_index t ts 0
  rw [hu, Option.bind_some]
  unfold m_slices_IndexFunc_impl_Term_impl_Term_fequal_A0
  cases hs : hasB ts t with
  | true => obtain ⟨n, rfl⟩ := h1 hs; simp only [Option.bind_some]; rw [decide_eq_true (by omega)]
  | false => rw [h2 hs]; rfl
theorem spec_has {ts : List Term} {t : Term} (h : ∀ x ∈ ts, vT x = true) (hl : ts.length ≤ 1000) : m_spec_l06Known ts t = some (hasB ts t) := by
  have key : ∀ (q j : Nat), j + q = ts.length → iter (m_spec_l06Known_L0 ts t) (j : Int) = some (bif hasB (ts.drop j) t then .inr true else .inl ()) := by
    intro q
    induction q with
    | zero =>
      intro j hj
      obtain rfl : j = ts.length := by omega
      rw [List.drop_length]
      exact iter_out (by unfold m_spec_l06Known_L0; rw [dec_self]; rfl)
    | succ q ih =>
      intro j hj
      have hjl : j < ts.length := by omega
      have hx := h _ (List.getElem_mem hjl)
      have hs : m_spec_l06Known_L0 ts t (j : Int) = bif decide (ts[j] = t) then some (.out (.inr true)) else some (.next ((j + 1 : Nat) : Int)) := by
        unfold m_spec_l06Known_L0
        rw [dec_lt hjl, cond_true, getI_some (List.getElem?_eq_getElem hjl), Option.bind_some, spec_sameT (by have := vT_len hx; omega), Option.bind_some, w64_succ (by omega)]
      rw [List.drop_eq_getElem_cons hjl]
      have e : hasB (ts[j] :: ts.drop (j + 1)) t = (decide (ts[j] = t) || hasB (ts.drop (j + 1)) t) := by unfold hasB; rw [List.any_cons]
      rw [e]
      cases hc : decide (ts[j] = t) with
      | true => rw [hc] at hs; rw [iter_out hs]; rfl
      | false => rw [hc] at hs; rw [iter_next hs]; exact ih (j + 1) (by omega)
  unfold m_spec_l06Known
  have := key ts.length 0 (by omega)
  rw [List.drop_zero] at this
  rw [show iter (m_spec_l06Known_L0 ts t) 0 = _ from this]
  cases hasB ts t <;> rfl
def fCut (ts : List Term) (t : Term) : Term × Bool :=
  bif decide (gcdL t.Coeffs < 2) || decide (t.Const.tmod (gcdL t.Coeffs) = 0) then (Term.mk 0 [], false)
  else ((fTight t).1, (fTight t).2 && !hasB ts (fTight t).1)
theorem impl_cuts {ts : List Term} {t : Term} (h : vT t = true) : m_impl_cuts t ts = some (fCut ts t) := by
  unfold m_impl_cuts fCut
  rw [impl_gcd (vT_coef h), Option.bind_some]
  by_cases h2 : gcdL t.Coeffs < 2
  · rw [decide_eq_true (show ((gcdL t.Coeffs : Nat) : Int) ≤ 1 by omega), decide_eq_true h2]; rfl
  · rw [decide_eq_false (show ¬ ((gcdL t.Coeffs : Nat) : Int) ≤ 1 by omega), decide_eq_false h2, cond_false, rem_far (by omega), Option.bind_some, Bool.false_or]
    cases decide (t.Const.tmod (gcdL t.Coeffs) = 0) with
    | true => rfl
    | false =>
      rw [cond_false, cond_false, impl_tightP h, Option.bind_some, impl_has]
      cases (fTight t).2 <;> rfl
theorem spec_cuts {ts : List Term} {t : Term} (h : vT t = true) (hts : ∀ x ∈ ts, vT x = true) (hl : ts.length ≤ 14) : m_spec_l06Sharper ts t = some (fCut ts t) := by
  unfold m_spec_l06Sharper fCut
  rw [spec_gcd (vT_coef h) (by have := vT_len h; omega), Option.bind_some]
  by_cases h2 : gcdL t.Coeffs < 2
  · rw [decide_eq_true (show ((gcdL t.Coeffs : Nat) : Int) < 2 by omega), decide_eq_true h2]; rfl
  · rw [decide_eq_false (show ¬ ((gcdL t.Coeffs : Nat) : Int) < 2 by omega), decide_eq_false h2, cond_false, rem_far (by omega), Option.bind_some, Bool.false_or]
    cases decide (t.Const.tmod (gcdL t.Coeffs) = 0) with
    | true => rfl
    | false =>
      rw [cond_false, cond_false, spec_tightP h, Option.bind_some, spec_has hts (by omega)]
      cases (fTight t).2 <;> rfl

/-! ### The first cut -/
theorem elim_news {n : Nat} (hn : n ≤ 14) : ∀ (ks : List Nat) (rows news : List combination) (r : List combination × List combination), Rws n rows → elimF ks rows news = some r → r.2.length ≤ news.length + 60 * ks.length := by
  intro ks
  induction ks with
  | nil => intro rows news r _ h; cases h; simp
  | cons k ks ih =>
    intro rows news r hr h
    unfold elimF at h
    cases hs : stage k rows with
    | none => rw [hs] at h; cases h
    | some a =>
      rw [hs] at h
      obtain ⟨g1, g2⟩ := hr.next hn hs
      have := ih _ _ r g1 h
      simp at this ⊢; omega
def isCut (ts : List Term) (x : combination) : Bool := (fCut ts x.term).2
def fFirst (ts : List Term) : Term × List Int × Bool :=
  bif okFacts ts then (match elimF (List.range 10) (rows0 ts) [] with
    | some r => (match r.2.find? (isCut ts) with | some x => ((fCut ts x.term).1, x.by_, true) | none => (Term.mk 0 [], [], false))
    | none => (Term.mk 0 [], [], false)) else (Term.mk 0 [], [], false)
theorem impl_findC {ts : List Term} {rows : List combination} (h : ∀ x ∈ rows, vT x.term = true) : ∀ m, forL (m_impl_firstCut_L0 ts) (fun s0 => (.inl ())) m rows () =
    some (match rows.find? (isCut ts) with | some x => .inr ((fCut ts x.term).1.Const, (fCut ts x.term).1.Coeffs, x.term.Const, x.term.Coeffs, x.by_, true) | none => .inl ()) := by
  induction rows with
  | nil => intro m; rfl
  | cons x r ih =>
    intro m
    unfold forL
    rw [List.find?_cons]
    have hs : m_impl_firstCut_L0 ts m x () = bif isCut ts x then some (.out (.inr ((fCut ts x.term).1.Const, (fCut ts x.term).1.Coeffs, x.term.Const, x.term.Coeffs, x.by_, true))) else some (.next ()) := by
      unfold m_impl_firstCut_L0 isCut
      rw [impl_cuts (h x (by simp)), Option.bind_some]
    rw [hs]
    cases isCut ts x with
    | true => rfl
    | false => exact ih (fun y hy => h y (by simp [hy])) (m + 1)
theorem spec_findC {ts : List Term} {rows : List combination} {fr : List l06Row} {b : Bool} (hts : ∀ x ∈ ts, vT x = true) (hl : ts.length ≤ 14) (h : ∀ x ∈ rows, vT x.term = true) (hr : rows.length ≤ 1000) :
    iter (m_spec_l06Cut_L0 ts (fr, rows.map rowOf, b)) 0 = some (match rows.find? (isCut ts) with | some x => .inr ((fCut ts x.term).1.Const, (fCut ts x.term).1.Coeffs, x.by_, ((gcdL x.term.Coeffs : Nat) : Int), true) | none => .inl ()) := by
  have key : ∀ (q j : Nat), j + q = rows.length → iter (m_spec_l06Cut_L0 ts (fr, rows.map rowOf, b)) (j : Int) = some (match (rows.drop j).find? (isCut ts) with | some x => .inr ((fCut ts x.term).1.Const, (fCut ts x.term).1.Coeffs, x.by_, ((gcdL x.term.Coeffs : Nat) : Int), true) | none => .inl ()) := by
    intro q
    induction q with
    | zero =>
      intro j hj
      obtain rfl : j = rows.length := by omega
      rw [List.drop_length]
      exact iter_out (by unfold m_spec_l06Cut_L0; simp only; rw [List.length_map, dec_self]; rfl)
    | succ q ih =>
      intro j hj
      have hjl : j < rows.length := by omega
      have hx : rows[j]? = some rows[j] := List.getElem?_eq_getElem hjl
      have hv := h _ (List.getElem_mem hjl)
      have hs : m_spec_l06Cut_L0 ts (fr, rows.map rowOf, b) (j : Int) = bif isCut ts rows[j] then some (.out (.inr ((fCut ts rows[j].term).1.Const, (fCut ts rows[j].term).1.Coeffs, rows[j].by_, ((gcdL rows[j].term.Coeffs : Nat) : Int), true))) else some (.next ((j + 1 : Nat) : Int)) := by
        unfold m_spec_l06Cut_L0 isCut
        simp only
        rw [List.length_map, dec_lt hjl, cond_true, row_at hx, Option.bind_some, row_term hv, Option.bind_some, spec_cuts hv hts hl, Option.bind_some, spec_gcd (vT_coef hv) (by have := vT_len hv; omega), Option.bind_some, w64_succ (by omega)]; rfl
      rw [List.drop_eq_getElem_cons hjl, List.find?_cons]
      cases hn : isCut ts rows[j] with
      | true => rw [hn] at hs; rw [iter_out hs]
      | false => rw [hn] at hs; rw [iter_next hs]; exact ih (j + 1) (by omega)
  have := key rows.length 0 (by omega)
  rw [List.drop_zero] at this
  exact this
theorem impl_first {ts : List Term} : m_impl_FirstCut ts = some (fFirst ts) := by
  unfold m_impl_FirstCut m_impl_ValidFacts fFirst
  rw [show (14 : Int) = ((14 : Nat) : Int) from rfl, impl_terms, Option.bind_some, Option.bind_some]
  rw [show (decide (ts.length ≤ 14) && ts.all vT) = okFacts ts from Bool.and_comm _ _]
  cases h1 : okFacts ts with
  | false => rfl
  | true =>
    obtain ⟨g1, g2⟩ := okFacts_iff.1 h1
    unfold m_impl_firstCut
    rw [Bool.not_true, cond_false, impl_symbols, Option.bind_some, impl_eliminated g1 g2 range10 (by simp), Option.bind_some, cond_true]
    cases he : elimF (List.range 10) (rows0 ts) [] with
    | none => rfl
    | some r =>
      obtain ⟨e1, e2, e3⟩ := elim_comb g1 g2 range10 he
      simp only [Bool.not_true, cond_false]
      rw [impl_findC (fun x hx => (e3 x hx).1.v), Option.bind_some]
      cases hf : r.2.find? (isCut ts) with
      | none => rfl
      | some x =>
        have hx := (e3 x (List.mem_of_find?_eq_some hf)).1
        unfold m_impl_firstCut_A0
        simp only [Option.bind_some, Bool.not_true, cond_false]
        rw [impl_copy (by rw [hx.len]; omega), Option.bind_some]
theorem spec_first {ts : List Term} (hl : cTermS ts ≤ 1048576) : m_spec_FirstCut ts = some (fFirst ts) := by
  unfold m_spec_FirstCut fFirst
  rw [show (14 : Int) = ((14 : Nat) : Int) from rfl, spec_all hl, Option.bind_some]
  change (bif !okFacts ts then _ else _) = _
  cases h1 : okFacts ts with
  | false => rfl
  | true =>
    obtain ⟨g1, g2⟩ := okFacts_iff.1 h1
    unfold m_spec_l06Cut
    rw [Bool.not_true, cond_false, spec_every g1 g2, Option.bind_some, cond_true]
    cases he : elimF (List.range 10) (rows0 ts) [] with
    | none => rfl
    | some r =>
      obtain ⟨e1, e2, e3⟩ := elim_comb g1 g2 range10 he
      have hn := elim_news g2 _ _ _ _ (rows0_ok g1 g2) he
      simp only [Bool.not_true, cond_false]
      rw [spec_findC g1 g2 (fun x hx => (e3 x hx).1.v) (by simp at hn; omega), Option.bind_some]
      cases hf : r.2.find? (isCut ts) with
      | none => rfl
      | some x =>
        have hx := (e3 x (List.mem_of_find?_eq_some hf)).1
        unfold m_spec_l06Cut_A0
        simp only [Option.bind_some, Bool.not_true, cond_false]
        rw [spec_own (by rw [hx.len]; omega), Option.bind_some]
theorem fCut_small (ts : List Term) (t : Term) : cTerm (fCut ts t).1 ≤ 1048576 := by
  unfold fCut
  cases decide (gcdL t.Coeffs < 2) || decide (t.Const.tmod (gcdL t.Coeffs) = 0) with
  | true => exact Nat.zero_le _
  | false => exact fTight_small t
theorem fFirst_small (ts : List Term) : cTerm (fFirst ts).1 ≤ 1048576 ∧ (fFirst ts).2.1.length ≤ 1048576 := by
  unfold fFirst
  cases h1 : okFacts ts with
  | false => exact ⟨Nat.zero_le _, Nat.zero_le _⟩
  | true =>
    obtain ⟨g1, g2⟩ := okFacts_iff.1 h1
    rw [cond_true]
    cases he : elimF (List.range 10) (rows0 ts) [] with
    | none => exact ⟨Nat.zero_le _, Nat.zero_le _⟩
    | some r =>
      obtain ⟨e1, e2, e3⟩ := elim_comb g1 g2 range10 he
      simp only
      cases hf : r.2.find? (isCut ts) with
      | none => exact ⟨Nat.zero_le _, Nat.zero_le _⟩
      | some x =>
        have hx := (e3 x (List.mem_of_find?_eq_some hf)).1
        exact ⟨fCut_small ts _, by simp only; rw [hx.len]; omega⟩
theorem law_FirstCut {ts : List Term} (kt : kLa_Term ts) : m_laws_FnExactFirstCut ts = some true := by
  unfold m_laws_FnExactFirstCut
  rw [show (1048576 : Int) = ((1048576 : Nat) : Int) from rfl, sz_TermS kt _ (Nat.le_refl _), Option.bind_some]
  by_cases h1 : cTermS ts ≤ 1048576
  · obtain ⟨s1, s2⟩ := fFirst_small ts
    obtain ⟨r1, a1, _⟩ := mkh_TermS (ts := ts) (k := 1) (by omega)
    obtain ⟨r3, a3, b3⟩ := mkh_Term (t := (fFirst ts).1) (k := 1) (by omega)
    obtain ⟨r4, a4, b4⟩ := mk_ints' (xs := (fFirst ts).2.1) (k := 1 + cTerm (fFirst ts).1) (by omega)
    replace a1 : m_laws_markTermS ts 1 = _ := a1
    replace a3 : m_laws_markTerm (fFirst ts).1 1 = _ := a3
    replace b3 : m_laws_heldTerm (Term.mk (fFirst ts).1.Const r3) 1 = _ := b3
    simp only [szOut_ok h1, dec_neg, cond_false, Option.bind_some, to_TermS h1, spec_first h1, impl_first, eq_Term s1, eq_ints (show (fFirst ts).2.1.length ≤ 9223372036854775807 by omega), eq_TermS h1, decide_true, bool_beq, Bool.not_true, Bool.or_false, a1, a3, b3, a4, b4]
  · rw [szOut_no h1]; rfl
end Go.Mod
