import Derived.Test.YtpphpgkimfejpaaGf
/- The law of eliminated symbols. Plain Lean. -/
namespace Go.Mod
open Go.AM
set_option linter.unusedVariables false
set_option linter.unusedSimpArgs false

theorem facts_len {s0 : List Int × Int × Int × List Term × Int} {r : Term × Bool} {j : List Int × Int × Int × Bool} {s' : List Int × Int × Int × List Term × Int}
    (h : m_spec_B10Facts_J0 s0 r j = some (.next s')) : s'.2.2.2.1.length = s0.2.2.2.1.length + 1 := by
  unfold m_spec_B10Facts_J0 at h
  cases hb : j.2.2.2 with
  | true =>
    rw [hb, cond_true] at h
    obtain ⟨a, _, h⟩ := Option.bind_eq_some_iff.1 h
    obtain ⟨b, _, h⟩ := Option.bind_eq_some_iff.1 h
    obtain ⟨c, _, h⟩ := Option.bind_eq_some_iff.1 h
    obtain ⟨d, _, h⟩ := Option.bind_eq_some_iff.1 h
    obtain ⟨e, _, h⟩ := Option.bind_eq_some_iff.1 h
    cases h; simp
  | false =>
    rw [hb, cond_false] at h
    obtain ⟨e, _, h⟩ := Option.bind_eq_some_iff.1 h
    cases h; simp
theorem facts_pos {code : List Int} (h1 : ∀ x ∈ code, 0 ≤ x ∧ x ≤ 255) (h2 : code.length ≤ 1048576) : ∃ ts, m_spec_B10Facts code = some ts ∧ ts.length ≤ 5 ∧ (∀ t ∈ ts, Fact t 40) ∧ 1 ≤ ts.length := by
  unfold m_spec_B10Facts
  obtain ⟨e0, hS0⟩ := from_ok h1 h2
  rw [e0, Option.bind_some]
  obtain ⟨r, s1, e1, g1, g2, hS1⟩ := pick_ok (n := 5) hS0 (by omega) (by omega)
  rw [e1, Option.bind_some]
  simp only
  rw [w64_eq (n := 1 + r) (by omega)]
  obtain ⟨u, eu, hu⟩ := iter_inv (step := m_spec_B10Facts_L0) (fun s => FSt s ∧ 1 ≤ (s.2.2.2.1.length : Int) + s.2.2.2.2) (fun s => s.2.2.2.2.toNat) (fun ts => ts.length ≤ 5 ∧ (∀ t ∈ ts, Fact t 40) ∧ 1 ≤ ts.length)
    (fun ⟨c, a, sd, out, n⟩ hI0 => by
      obtain ⟨hI, hP⟩ := hI0
      simp only at hP
      have hI' := hI
      obtain ⟨i1, i2, i3, i4⟩ := hI'
      simp only at i1 i2 i3 i4
      unfold m_spec_B10Facts_L0
      simp only
      by_cases hn : 0 < n
      · left
        obtain ⟨r, s', e, r1, r2, hS⟩ := pick_ok (n := 4) i1 (by omega) (by omega)
        obtain ⟨c2, a2, sd2, xs, e2, hS2, hx1, hx2⟩ := facts_inner hS (by omega) (n := r) (by omega)
        rw [decide_eq_true hn, cond_true, e, Option.bind_some]
        simp only
        rw [e2, Option.bind_some]
        unfold m_spec_B10Facts_A1
        simp only
        obtain ⟨q, s3, e3, q1, q2, hS3⟩ := pick_ok (n := 9) hS2 (by omega) (by omega)
        rw [e3, Option.bind_some]
        simp only
        rw [w64_eq (n := q - 3) (by omega), spec_make (by omega), Option.bind_some]
        have hf := make_fact (c := q - 3) (xs := xs) (by omega) hx2
        by_cases h0 : 0 < out.length
        · rw [decide_eq_true (show (0 : Int) < (out.length : Int) by omega), cond_true]
          obtain ⟨z, s4, e4, z1, z2, hS4⟩ := pick_ok (n := 3) hS3 (by omega) (by omega)
          unfold m_spec_l00Src_one
          rw [e4, Option.bind_some, Option.bind_some]
          simp only
          obtain ⟨s', j1, j2, j3⟩ := facts_J (b := decide (z = 0)) (r38 := chk (Term.mk (q - 3) (trim xs))) hI hn hf (c' := s4.code) (a' := s4.at_) (sd' := s4.seed) (hS4.mono (by omega)) (fun _ => h0)
          have j4 := facts_len j1; simp only at j4; exact ⟨s', j1, ⟨j2, by rw [j3, j4]; omega⟩, by rw [j3]; omega⟩
        · rw [decide_eq_false (show ¬ (0 : Int) < (out.length : Int) by omega), cond_false]
          obtain ⟨s', j1, j2, j3⟩ := facts_J (b := false) (r38 := chk (Term.mk (q - 3) (trim xs))) hI hn hf (c' := s3.code) (a' := s3.at_) (sd' := s3.seed) (hS3.mono (by omega)) (fun h => by cases h)
          have j4 := facts_len j1; simp only at j4; exact ⟨s', j1, ⟨j2, by rw [j3, j4]; omega⟩, by rw [j3]; omega⟩
      · right
        rw [decide_eq_false hn, cond_false]
        exact ⟨_, rfl, by omega, fun t ht => (i4 t ht).mono (by omega), by omega⟩)
    (s := (s1.code, s1.at_, s1.seed, [], 1 + r)) ⟨⟨hS1.mono (by simp), by simp only; omega, by simp; omega, by simp⟩, by simp; omega⟩
  rw [eu, Option.bind_some]
  exact ⟨_, rfl, hu⟩

/-! ### The symbols of facts -/
def hasSym (ts : List Term) (k : Nat) : Bool := ts.any fun t => !decide (coef t.Coeffs k = 0)
theorem sym_index {k : Nat} (hk : k < 10) : ∀ (ts : List Term) (m : Nat), (∀ t ∈ ts, vT t = true) → ∃ u, forL (m_slices_IndexFunc_impl_Term_impl_Term_fsymbolsOf_1_L0 (k : Int)) (fun s0 => (.inl ())) m ts () = some u ∧
    (hasSym ts k = true → ∃ n : Nat, u = .inr (n : Int)) ∧ (hasSym ts k = false → u = .inl ()) := by
  intro ts
  induction ts with
  | nil => intro m _; exact ⟨.inl (), rfl, ⟨fun h => by simp [hasSym] at h, fun _ => rfl⟩⟩
  | cons t r ih =>
    intro m h
    have ht := vT_len (h t (by simp))
    have hs : m_slices_IndexFunc_impl_Term_impl_Term_fsymbolsOf_1_L0 (k : Int) m t () = bif !decide (coef t.Coeffs k = 0) then some (.out (.inr (m : Int))) else some (.next ()) := by
      unfold m_slices_IndexFunc_impl_Term_impl_Term_fsymbolsOf_1_L0 m_impl_symbolsOf_1
      rw [impl_coeff ht, Option.bind_some, Option.bind_some]
    obtain ⟨u, hu, h1, h2⟩ := ih (m + 1) (fun x hx => h x (by simp [hx]))
    have e : hasSym (t :: r) k = (!decide (coef t.Coeffs k = 0) || hasSym r k) := by unfold hasSym; rw [List.any_cons]
    unfold forL
    rw [hs, e]
    cases hc : !decide (coef t.Coeffs k = 0) with
    | true => exact ⟨.inr (m : Int), rfl, fun _ => ⟨m, rfl⟩, fun h => by cases h⟩
    | false => exact ⟨u, hu, fun h => h1 h, fun h => h2 h⟩
theorem sym_has {ts : List Term} {k : Nat} (hk : k < 10) (h : ∀ t ∈ ts, vT t = true) : m_slices_ContainsFunc_impl_Term_impl_Term_fsymbolsOf_1 ts (k : Int) = some (hasSym ts k) := by
  unfold m_slices_ContainsFunc_impl_Term_impl_Term_fsymbolsOf_1 m_slices_IndexFunc_impl_Term_impl_Term_fsymbolsOf_1
  obtain ⟨u, hu, h1, h2⟩ := sym_index hk ts 0 h
  rw [hu, Option.bind_some]
  unfold m_slices_IndexFunc_impl_Term_impl_Term_fsymbolsOf_1_A0
  cases hs : hasSym ts k with
  | true => obtain ⟨n, rfl⟩ := h1 hs; simp only [Option.bind_some]; rw [decide_eq_true (by omega)]
  | false => rw [h2 hs]; rfl
def symsL (ts : List Term) : List Int := ((List.range 10).filter (hasSym ts)).map fun (k : Nat) => (k : Int)
theorem impl_syms {ts : List Term} (h : ∀ t ∈ ts, vT t = true) : m_impl_symbolsOf ts = some (symsL ts) := by
  unfold m_impl_symbolsOf
  have h1 := iter_cnt (step := m_impl_symbolsOf_L0 ts) (fun j => (((List.range j).filter (hasSym ts)).map (fun (k : Nat) => (k : Int)), (j : Int))) 10 (t := symsL ts) (fun j hj => by
    have hl := List.length_filter_le (hasSym ts) (List.range j)
    rw [List.length_range] at hl
    unfold m_impl_symbolsOf_L0
    simp only
    rw [decide_eq_true (by omega), cond_true, sym_has hj h, Option.bind_some, w64_succ (by omega), List.range_succ, List.filter_append]
    cases hs : hasSym ts j with
    | true => rw [cond_true, capI_some (by simp; omega), Option.bind_some]; simp [hs]
    | false => simp [hs])
    (by unfold m_impl_symbolsOf_L0; rfl)
  rw [show iter (m_impl_symbolsOf_L0 ts) ([], 0) = _ from h1]; rfl
theorem has_ok {xs : List Int} {k : Int} (hl : xs.length ≤ 1000) (hm : k ∈ xs) : m_laws_b10Has xs k = some true := by
  have key : ∀ (q j : Nat), j + q = xs.length → k ∈ xs.drop j → iter (m_laws_b10Has_L0 xs k) (j : Int) = some (.inr true) := by
    intro q
    induction q with
    | zero => intro j hj h; rw [show j = xs.length by omega, List.drop_length] at h; cases h
    | succ q ih =>
      intro j hj h
      have hjl : j < xs.length := by omega
      have hs : m_laws_b10Has_L0 xs k (j : Int) = bif decide (xs[j] = k) then some (.out (.inr true)) else some (.next ((j + 1 : Nat) : Int)) := by
        unfold m_laws_b10Has_L0
        rw [dec_lt hjl, cond_true, getI_some (List.getElem?_eq_getElem hjl), Option.bind_some, w64_succ (by omega)]
      rw [List.drop_eq_getElem_cons hjl] at h
      by_cases he : xs[j] = k
      · rw [decide_eq_true he, cond_true] at hs; exact iter_out hs
      · rw [decide_eq_false he, cond_false] at hs
        rw [iter_next hs]
        rcases List.mem_cons.1 h with h | h
        · exact absurd h.symm he
        · exact ih (j + 1) (by omega) h
  unfold m_laws_b10Has
  rw [show iter (m_laws_b10Has_L0 xs k) 0 = _ from key xs.length 0 (by omega) (by simpa using hm)]; rfl
theorem zero_loop {ts : List Term} {k : Nat} {b : Bool} (hl : ts.length ≤ 1000) (hz : ∀ t ∈ ts, coef t.Coeffs k = 0) : iter (m_laws_FnEliminated_L0 (k : Int) (ts, b)) 0 = some (.inl ()) := by
  have h1 := iter_cnt (step := m_laws_FnEliminated_L0 (k : Int) (ts, b)) (fun j => (j : Int)) ts.length (t := .inl ()) (fun j hj => by
    have hx : ts[j]? = some ts[j] := List.getElem?_eq_getElem hj
    unfold m_laws_FnEliminated_L0
    rw [dec_lt hj, cond_true, getI_some hx, Option.bind_some, w64_succ (by omega)]
    by_cases h : k < ts[j].Coeffs.length
    · have h0 := hz _ (List.getElem_mem hj)
      rw [coef_get (List.getElem?_eq_getElem h)] at h0
      rw [decide_eq_true (by omega), cond_true, getI_some (List.getElem?_eq_getElem h), Option.bind_some, decide_eq_true h0]; rfl
    · rw [decide_eq_false (by omega), cond_false])
    (by unfold m_laws_FnEliminated_L0; rw [dec_self]; rfl)
  exact h1
theorem law_Eliminated {a b : List Int} (ka : kLa_u8 a) (kb : kLa_u8 b) : m_laws_FnEliminated a b = some true := by
  unfold m_laws_FnEliminated
  by_cases hl : a.length ≤ 1048576 ∧ b.length ≤ 1048576
  · rw [long_no hl.1 hl.2, Option.bind_some, cond_false]
    obtain ⟨ts, et, hlen, hts, hpos⟩ := facts_pos ka.2 hl.1
    obtain ⟨v, ev, hv⟩ := values_ok kb.2 hl.2
    obtain ⟨r, er, hr0, hr1⟩ := at_ok (i := 0) (n := 4) kb.2 (by omega) (by omega)
    replace er : m_laws_b10At b 0 4 = some r := er
    have hvt : ∀ t ∈ ts, vT t = true := fun t ht => (hts t ht).v
    rw [et, Option.bind_some, ev, Option.bind_some, er, Option.bind_some, impl_elimS, Option.bind_some]
    cases h : (fElim ts r).2 with
    | false =>
      rw [Bool.not_false, cond_true, spec_elim (facts_small hvt (by omega)), Option.bind_some, h]; rfl
    | true =>
      obtain ⟨g1, g2, j, add, hj, rfl, hs, e⟩ := fElim_some h
      have h0 := rows0_ok g1 g2
      have hz := stage_zero (fun _ => True) (fun x hx => ⟨h0.1 x hx, trivial⟩) g2 (fun _ _ _ _ _ _ => trivial) hj hs
      obtain ⟨c1, c2, c3⟩ := stage_inv (Comb ts) (fun x hx => ⟨h0.1 x hx, rows0_comb ts x hx⟩) h0.2 g2 (fun p q hp hq two _ => mx_comb two hp hq) hs
      rw [Bool.not_true, cond_false, e]
      have hlt : (terms (keep j (rows0 ts) ++ add)).length ≤ 60 := by unfold terms; rw [List.length_map]; exact c2
      have hvl : ∀ t ∈ terms (keep j (rows0 ts) ++ add), vT t = true := fun t ht => by obtain ⟨x, hx, rfl⟩ := List.mem_map.1 ht; exact (c1 x hx).1.v
      rw [zero_loop (by omega) (fun t ht => by obtain ⟨x, hx, rfl⟩ := List.mem_map.1 ht; exact hz x hx), Option.bind_some]
      unfold m_laws_FnEliminated_A0 m_impl_SymbolsOf m_impl_ValidFacts
      simp only
      rw [show (14 : Int) = ((14 : Nat) : Int) from rfl, impl_terms, Option.bind_some, Option.bind_some, decide_eq_true g2, List.all_eq_true.2 g1]
      simp only [Bool.and_self, Bool.not_true, cond_false]
      rw [impl_syms g1, Option.bind_some, Option.bind_some]
      simp only [cond_true]
      have hfin : ((m_laws_b10Hold ts v).bind fun r84 => bif !r84 then some true else (m_laws_b10Hold (terms (keep j (rows0 ts) ++ add)) v).bind fun r89 => some r89) = some true := by
        rw [hold_ok hvt (by omega) hv, Option.bind_some]
        cases hh : allHold ts v with
        | false => rfl
        | true =>
          rw [Bool.not_true, cond_false, hold_ok hvl (by omega) hv, Option.bind_some]
          congr 1
          unfold allHold
          refine List.all_eq_true.2 (fun t ht => ?_)
          obtain ⟨x, hx, rfl⟩ := List.mem_map.1 ht
          have := comb_hold (c1 x hx).2 (c1 x hx).1 hh
          rw [decide_eq_false (by omega)]; rfl
      by_cases hn : 0 < (terms (keep j (rows0 ts) ++ add)).length
      · rw [decide_eq_true (by omega), cond_true]
        exact hfin
      · rw [decide_eq_false (by omega), cond_false]
        have hsym : hasSym ts j = true := by
          have hk0 : keep j (rows0 ts) = [] := by
            unfold terms at hn
            rw [List.length_map, List.length_append] at hn
            exact List.eq_nil_of_length_eq_zero (by omega)
          have hm0 : row0 ts 0 ∈ rows0 ts := List.mem_map.2 ⟨0, List.mem_range.2 (by omega), rfl⟩
          unfold hasSym
          refine List.any_eq_true.2 ⟨ts[0], List.getElem_mem (by omega), ?_⟩
          by_cases hc : coef ts[0].Coeffs j = 0
          · exfalso
            have : row0 ts 0 ∈ keep j (rows0 ts) := List.mem_filter.2 ⟨hm0, by
              unfold row0; simp only
              rw [tAt_get (List.getElem?_eq_getElem (show 0 < ts.length by omega))]
              exact decide_eq_true hc⟩
            rw [hk0] at this; cases this
          · rw [decide_eq_false hc]; rfl
        have hlk : (symsL ts).length ≤ 10 := by unfold symsL; rw [List.length_map]; have := List.length_filter_le (hasSym ts) (List.range 10); simpa using this
        rw [has_ok (xs := symsL ts) (by omega) (List.mem_map.2 ⟨j, List.mem_filter.2 ⟨List.mem_range.2 hj, hsym⟩, rfl⟩), Option.bind_some, cond_true]
        exact hfin
  · rw [long_yes hl]; rfl
end Go.Mod
