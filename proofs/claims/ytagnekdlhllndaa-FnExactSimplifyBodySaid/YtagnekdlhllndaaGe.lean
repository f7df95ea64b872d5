import Derived.Test.YtagnekdlhllndaaGd
namespace Go.Mod
open Go.AM
set_option linter.unusedVariables false
set_option linter.unusedSimpArgs false
def allR {α : Type} (r : α → α → Bool) : List α → List α → Bool
  | [], [] => true
  | x :: xs, y :: ys => r x y && allR r xs ys
  | _, _ => false
theorem forL_cmp {α : Type} {L0 : Nat → α → Unit → Option (Ctl Unit (Unit ⊕ Bool))} (r : α → α → Bool) : ∀ (xs ys : List α) (k : Nat),
    (∀ n x y, xs[n]? = some x → ys[n]? = some y → L0 (k + n) x () = bif !r x y then some (.out (.inr false)) else some (.next ())) → xs.length = ys.length →
    forL L0 (fun _ => .inl ()) k xs () = some (bif allR r xs ys then .inl () else .inr false)
  | [], [], k, _, _ => rfl
  | [], _ :: _, _, _, h => by simp at h
  | _ :: _, [], _, _, h => by simp at h
  | x :: xs, y :: ys, k, h, hl => by
    have h0 := h 0 x y rfl rfl
    rw [Nat.add_zero] at h0
    unfold forL allR
    rw [h0]
    cases r x y with
    | true =>
      rw [Bool.not_true, cond_false, Bool.true_and]
      exact forL_cmp r xs ys (k + 1) (fun n a b ha hb => by rw [show k + 1 + n = k + (n + 1) by omega]; exact h (n + 1) a b (by simpa using ha) (by simpa using hb)) (by simpa using hl)
    | false => rw [Bool.not_false, cond_true, Bool.false_and]; rfl
theorem allR_eq {α : Type} [DecidableEq α] : ∀ (xs ys : List α), allR (fun x y => decide (x = y)) xs ys = decide (xs = ys)
  | [], [] => rfl
  | [], _ :: _ => rfl
  | _ :: _, [] => rfl
  | x :: xs, y :: ys => by
    unfold allR
    rw [allR_eq xs ys]
    by_cases h1 : x = y <;> by_cases h2 : xs = ys <;> simp [h1, h2]
theorem same_ints (xs ys : List Int) : m_slices_Equal_int64_int64 xs ys = some (decide (xs = ys)) := by
  unfold m_slices_Equal_int64_int64
  rw [dec_eqN]
  by_cases h : xs.length = ys.length
  · rw [decide_eq_true h, Bool.not_true, cond_false, forL_cmp (fun x y => decide (x = y)) xs ys 0 (fun n x y hx hy => by
      rw [Nat.zero_add]; unfold m_slices_Equal_int64_int64_L0; rw [getI_some hy]; rfl) h, allR_eq, Option.bind_some]
    cases decide (xs = ys) <;> rfl
  · rw [decide_eq_false h, decide_eq_false (fun e => h (by rw [e]))]; rfl
theorem same_term (x y : Term) : m_impl_Term_equal x y = some (decide (x = y)) := by
  unfold m_impl_Term_equal
  rw [same_ints]
  obtain ⟨a, b⟩ := x
  obtain ⟨c, d⟩ := y
  by_cases h1 : a = c <;> by_cases h2 : b = d <;> simp [h1, h2]
theorem same_termL (xs ys : List Term) : m_impl_sameTerms xs ys = some (decide (xs = ys)) := by
  unfold m_impl_sameTerms m_slices_EqualFunc_impl_Term_impl_Term_impl_Term_impl_Term_fequal
  rw [dec_eqN]
  by_cases h : xs.length = ys.length
  · rw [decide_eq_true h, Bool.not_true, cond_false, forL_cmp (fun x y => decide (x = y)) xs ys 0 (fun n x y hx hy => by
      rw [Nat.zero_add]; unfold m_slices_EqualFunc_impl_Term_impl_Term_impl_Term_impl_Term_fequal_L0; rw [getI_some hy, Option.bind_some, same_term]; rfl) h, allR_eq, Option.bind_some]
    cases decide (xs = ys) <;> rfl
  · rw [decide_eq_false h, decide_eq_false (fun e => h (by rw [e]))]; rfl
def sameR (a b : Ptree) : Bool := decide (fl a = fl b)
theorem allR_fl : ∀ (ks ls : List Ptree), (∀ t ∈ ks, okT t) → (∀ t ∈ ls, okT t) → ks.length = ls.length → allR sameR ks ls = decide (flL ks = flL ls)
  | [], [], _, _, _ => rfl
  | [], _ :: _, _, _, h => by simp at h
  | _ :: _, [], _, _, h => by simp at h
  | k :: ks, l :: ls, hk, hl, h => by
    unfold allR
    rw [allR_fl ks ls (fun t ht => hk t (by simp [ht])) (fun t ht => hl t (by simp [ht])) (by simpa using h)]
    show (decide (fl k = fl l) && decide (flL ks = flL ls)) = decide (fl k ++ flL ks = fl l ++ flL ls)
    by_cases e : fl k ++ flL ks = fl l ++ flL ls
    · have e1 := okT_go k (flL ks) (hk k (by simp))
      rw [e, okT_go l (flL ls) (hl l (by simp))] at e1
      have e2 : flL ls = flL ks := Option.some.inj e1
      rw [e2] at e
      have e3 := List.append_cancel_right e
      rw [decide_eq_true e3, decide_eq_true e2.symm, decide_eq_true (by rw [e3, e2])]; rfl
    · rw [decide_eq_false e]
      by_cases e1 : fl k = fl l
      · by_cases e2 : flL ks = flL ls
        · exact absurd (by rw [e1, e2]) e
        · rw [decide_eq_false e2, Bool.and_false]
      · rw [decide_eq_false e1, Bool.false_and]
theorem impl_sameTree : ∀ (n : Nat) (a b : Ptree), dp a ≤ n → okT a → okT b → m_impl_sameTree n a b = some (sameR a b)
  | 0, .nil, _, _, h, _ => by unfold okT at h; exact h.elim
  | 0, .mk x i ks, _, hn, _, _ => by have e : dp (.mk x i ks) = 1 + dpL ks := by conv => lhs; unfold dp
                                     omega
  | n + 1, .nil, _, _, h, _ => by unfold okT at h; exact h.elim
  | n + 1, .mk x i ks, .nil, _, _, h => by unfold okT at h; exact h.elim
  | n + 1, .mk x i ks, .mk y j ls, hn, ha, hb => by
    have a0 := okT_iff.1 ha
    have b0 := okT_iff.1 hb
    show m_impl_sameTree_F_J0 (m_impl_sameTree n) (.mk x i ks) (.mk y j ls) (x.Kind, x.Var, x.Event, x.Sum.Const, x.Sum.Coeffs, x.Index.Const, x.Index.Coeffs, x.Facts, y.Kind, y.Var, y.Event, y.Sum.Const, y.Sum.Coeffs, y.Index.Const, y.Index.Coeffs, y.Facts) = _
    unfold m_impl_sameTree_F_J0 sameR
    simp only
    rw [Term.eta, Term.eta, Term.eta, Term.eta, same_term, same_term, same_termL, fl_mk, fl_mk]
    simp only [Option.bind_some]
    have hxy := pi_Stmt x y
    by_cases h1 : x.Kind = y.Kind
    · by_cases h2 : x.Var = y.Var
      · by_cases h3 : x.Event = y.Event
        · by_cases h4 : x.Sum = y.Sum
          · by_cases h5 : x.Index = y.Index
            · by_cases h6 : x.Facts = y.Facts
              · have hx : x = y := hxy.1 ⟨h1, h2, h3, h4, h5, h6⟩
                rw [decide_eq_true h1, decide_eq_true h2, decide_eq_true h3, decide_eq_true h4, decide_eq_true h5, decide_eq_true h6]
                simp only [cond_true]
                subst hx
                have hlen : ks.length = ls.length := by have := a0.1.symm.trans b0.1; exact Option.some.inj this
                show (m_slices_EqualFunc_impl_tree_impl_tree_impl_tree_impl_tree_fsameTree_r (m_impl_sameTree n) ks ls).bind (fun r => some r) = _
                unfold m_slices_EqualFunc_impl_tree_impl_tree_impl_tree_impl_tree_fsameTree_r
                rw [dec_eqN, decide_eq_true hlen, Bool.not_true, cond_false, forL_cmp sameR ks ls 0 (fun m u v hu hv => by
                  have mu := List.mem_of_getElem? hu
                  have mv := List.mem_of_getElem? hv
                  have := (kid_dp (x := x) (a := i) mu).1
                  rw [Nat.zero_add]
                  unfold m_slices_EqualFunc_impl_tree_impl_tree_impl_tree_impl_tree_fsameTree_r_L0
                  rw [getI_some hv, Option.bind_some, impl_sameTree n u v (by omega) (a0.2 u mu) (b0.2 v mv)]; rfl) hlen, allR_fl ks ls a0.2 b0.2 hlen, Option.bind_some]
                have hd : decide (x :: flL ks = x :: flL ls) = decide (flL ks = flL ls) := by simp
                rw [hd]
                cases decide (flL ks = flL ls) <;> rfl
              · rw [decide_eq_false h6, decide_eq_false (p := _ :: _ = _ :: _) (fun e => h6 (by rw [(List.cons.inj e).1])), decide_eq_true h1, decide_eq_true h2, decide_eq_true h3, decide_eq_true h4, decide_eq_true h5]; rfl
            · rw [decide_eq_false h5, decide_eq_false (p := _ :: _ = _ :: _) (fun e => h5 (by rw [(List.cons.inj e).1])), decide_eq_true h1, decide_eq_true h2, decide_eq_true h3, decide_eq_true h4]; rfl
          · rw [decide_eq_false h4, decide_eq_false (p := _ :: _ = _ :: _) (fun e => h4 (by rw [(List.cons.inj e).1])), decide_eq_true h1, decide_eq_true h2, decide_eq_true h3]; rfl
        · rw [decide_eq_false h3, decide_eq_false (p := _ :: _ = _ :: _) (fun e => h3 (by rw [(List.cons.inj e).1])), decide_eq_true h1, decide_eq_true h2]; rfl
      · rw [decide_eq_false h2, decide_eq_false (p := _ :: _ = _ :: _) (fun e => h2 (by rw [(List.cons.inj e).1])), decide_eq_true h1]; rfl
    · rw [decide_eq_false h1, decide_eq_false (p := _ :: _ = _ :: _) (fun e => h1 (by rw [(List.cons.inj e).1]))]; rfl
theorem gcdL_zero {xs : List Int} : gcdL xs = 0 ↔ ∀ x ∈ xs, x = 0 := by
  constructor
  · intro h x hx
    have := gcdL_dvd hx
    rw [h] at this
    have := Nat.eq_zero_of_zero_dvd this
    omega
  · intro h
    have := dvd_gcdL (k := 0) (xs := xs) (fun x hx => by rw [h x hx]; exact Nat.dvd_refl 0)
    exact Nat.eq_zero_of_zero_dvd this
theorem all_zero_rep {xs : List Int} : (∀ x ∈ xs, x = 0) ↔ xs = List.replicate xs.length 0 := ⟨fun h => List.eq_replicate_iff.2 ⟨rfl, h⟩, fun h x hx => by rw [h] at hx; exact List.eq_of_mem_replicate hx⟩
theorem alone_split {cs : List Int} {n : Nat} (h : cs.length = n + 1) : ∃ pre z, cs = pre ++ [z] ∧ pre.length = n ∧ cs[n]? = some z ∧ cs.take n = pre := by
  have hne : cs ≠ [] := fun e => by rw [e] at h; simp at h
  have e := List.dropLast_concat_getLast hne
  refine ⟨cs.dropLast, cs.getLast hne, e.symm, by simp [h], ?_, ?_⟩
  · rw [← List.getLast?_eq_some_getLast hne, List.getLast?_eq_getElem?, h]; rfl
  · rw [List.dropLast_eq_take, h]; rfl
theorem alone_iff {t : Term} {n : Nat} {pre : List Int} {z : Int} (h1 : t.Coeffs = pre ++ [z]) (h2 : pre.length = n) : alone t (n : Int) = (decide (t.Const = 0) && (decide (z = 1) && decide (∀ x ∈ pre, x = 0))) := by
  unfold alone
  rw [Int.toNat_natCast]
  congr 1
  rw [h1]
  by_cases hz : z = 1
  · by_cases hp : ∀ x ∈ pre, x = 0
    · rw [decide_eq_true hz, decide_eq_true hp, decide_eq_true (by rw [hz, all_zero_rep.1 hp, h2])]; rfl
    · rw [decide_eq_false hp, Bool.and_false, decide_eq_false]
      intro e
      have := (List.append_inj' e rfl).1
      exact hp (fun x hx => by rw [this] at hx; exact List.eq_of_mem_replicate hx)
  · rw [decide_eq_false hz, Bool.false_and, decide_eq_false]
    intro e
    have := (List.append_inj' e rfl).2
    exact hz (by simpa using this)
theorem alone_len {t : Term} {n : Nat} (h : t.Coeffs.length ≠ n + 1) : alone t (n : Int) = false := by
  unfold alone
  rw [Int.toNat_natCast, decide_eq_false (p := t.Coeffs = _) (fun e => h (by rw [e]; simp)), Bool.and_false]
theorem impl_alone {t : Term} {n : Nat} (ht : over t = true) (hn : n ≤ 3) : m_impl_Term_isVariable t (n : Int) = some (alone t (n : Int)) := by
  have hv : vT t = true := by simp [over] at ht; exact ht.1
  unfold m_impl_Term_isVariable
  rw [w64_succ (by omega), dec_eqN]
  by_cases hl : t.Coeffs.length = n + 1
  · obtain ⟨pre, z, e1, e2, e3, e4⟩ := alone_split hl
    rw [decide_eq_true hl, Bool.not_true, Bool.or_false, alone_iff e1 e2]
    cases decide (t.Const = 0) with
    | false => rfl
    | true =>
      rw [Bool.not_true, cond_false, getI_some e3, Option.bind_some, Bool.true_and]
      cases decide (z = 1) with
      | false => rfl
      | true =>
        have hs : sliceI t.Coeffs (0 : Int) (n : Int) = some pre := by
          have := sliceI_some (xs := t.Coeffs) (l := 0) (u := n) (by omega) (by omega)
          rw [show ((0 : Nat) : Int) = 0 from rfl] at this
          rw [this, List.drop_zero, Nat.sub_zero, e4]
        rw [Bool.not_true, cond_false, hs, Option.bind_some, impl_gcd (fun x hx => vT_coef hv x (by rw [e1]; simp [hx])), Option.bind_some, Bool.true_and]
        congr 1
        by_cases hz : ∀ x ∈ pre, x = 0
        · rw [decide_eq_true hz, decide_eq_true (by rw [gcdL_zero.2 hz]; rfl)]
        · rw [decide_eq_false hz, decide_eq_false (fun e => hz (gcdL_zero.1 (by omega)))]
  · rw [decide_eq_false hl, Bool.not_false, Bool.or_true, alone_len hl]; rfl
theorem spec_alone {t : Term} {n : Nat} (ht : over t = true) (hn : n ≤ 3) : m_spec_l03Alone t (n : Int) = some (alone t (n : Int)) := by
  unfold m_spec_l03Alone
  rw [w64_succ (by omega), dec_eqN]
  by_cases hl : t.Coeffs.length = n + 1
  · obtain ⟨pre, z, e1, e2, e3, e4⟩ := alone_split hl
    rw [decide_eq_true hl, Bool.not_true, Bool.or_false, alone_iff e1 e2]
    cases decide (t.Const = 0) with
    | false => rfl
    | true =>
      have h := iter_for (step := m_spec_l03Alone_L0 t (n : Int)) pre (fun k (_ : Unit) => (k : Int)) (fun _ x _ => bif decide (x = 0) then some (.next ()) else some (.out (.inr false))) (fun _ => .inl ())
        (fun k x r hx => by
          have hk := get_lt hx
          unfold m_spec_l03Alone_L0
          rw [decide_eq_true (show (k : Int) < (n : Int) by omega), cond_true, getI_some (x := x) (by rw [e1, List.getElem?_append_left hk]; exact hx), Option.bind_some, w64_succ (by omega)]
          cases decide (x = 0) <;> rfl)
        (fun r => by unfold m_spec_l03Alone_L0; rw [decide_eq_false (by omega)]; rfl) ()
      rw [forL_all (f := .inr false) (fun x => decide (x = 0)) pre 0 (fun _ _ _ => rfl)] at h
      replace h : iter (m_spec_l03Alone_L0 t (n : Int)) (0 : Int) = _ := h
      rw [Bool.not_true, cond_false, h, Option.bind_some, Bool.true_and]
      by_cases hz : ∀ x ∈ pre, x = 0
      · rw [decide_eq_true hz, Bool.and_true, List.all_eq_true.2 (fun x hx => decide_eq_true (hz x hx)), cond_true]
        unfold m_spec_l03Alone_A0
        simp only
        rw [getI_some e3]; rfl
      · rw [decide_eq_false hz, Bool.and_false]
        have : pre.all (fun x => decide (x = 0)) = false := by
          cases hq : pre.all (fun x => decide (x = 0)) with
          | false => rfl
          | true => exact absurd (fun x hx => of_decide_eq_true (List.all_eq_true.1 hq x hx)) hz
        rw [this]; rfl
  · rw [decide_eq_false hl, Bool.not_false, Bool.or_true, alone_len hl]; rfl
theorem un_hd {t : Ptree} (h : okT t) : ∃ o, un_tree t = some o ∧ o.Stmt.Kind = hd t := by
  cases t with
  | nil => unfold okT at h; exact h.elim
  | mk x a ks => exact ⟨_, rfl, rfl⟩
theorem smL_map : ∀ ks, smL ks = ks.map sm
  | [] => rfl
  | k :: r => by
    have : smL (k :: r) = sm k :: smL r := by conv => lhs; unfold smL
    rw [this, smL_map r]; rfl
theorem simp_kids {rec : Ptree → Option Ptree} : ∀ (ks : List Ptree) (k : Nat) (acc : List Ptree), (∀ t ∈ ks, rec t = some (sm t)) → acc.length + ks.length ≤ 1000 →
    forL (m_impl_tree_simplified_F_L0 rec) (fun s0 => s0) k ks acc = some (acc ++ smL ks)
  | [], k, acc, _, _ => by
    have : smL [] = [] := by unfold smL; rfl
    rw [this, List.append_nil]; rfl
  | t :: r, k, acc, h, hl => by
    have e : smL (t :: r) = sm t :: smL r := by conv => lhs; unfold smL
    simp only [List.length_cons] at hl
    unfold forL
    have st : m_impl_tree_simplified_F_L0 rec k t acc = some (.next (acc ++ [sm t])) := by
      unfold m_impl_tree_simplified_F_L0
      rw [h t (by simp), Option.bind_some, capI_some (by simp; omega)]; rfl
    rw [st]
    show forL _ _ (k + 1) r (acc ++ [sm t]) = _
    rw [simp_kids r (k + 1) (acc ++ [sm t]) (fun u hu => h u (by simp [hu])) (by simp; omega), e]
    simp
theorem fixd_len (t : Term) : decide ((t.Coeffs.length : Int) = 0) = fixd t := by
  unfold fixd
  rw [dec_len0]
  by_cases h : t.Coeffs = []
  · rw [decide_eq_true h, decide_eq_true (by rw [h]; rfl)]
  · rw [decide_eq_false h, decide_eq_false (fun e => h (List.eq_nil_of_length_eq_zero e))]
theorem dec_nneg (c : Int) : decide (0 ≤ c) = !decide (c < 0) := by
  by_cases h : c < 0
  · rw [decide_eq_true h, decide_eq_false (by omega)]; rfl
  · rw [decide_eq_false h, decide_eq_true (by omega)]; rfl
theorem ite_b {α : Type} (p : Prop) [Decidable p] (x y : α) : (if p then x else y) = bif decide p then x else y := by by_cases h : p <;> simp [h]
theorem kind_var {x : Stmt} {m : Nat} (h : arS x = some m) : ∃ n : Nat, x.Var = (n : Int) ∧ n ≤ 3 := by
  have := ar_var h
  exact ⟨x.Var.toNat, by omega, by omega⟩
theorem impl_simplified : ∀ (n : Nat) (t : Ptree), dp t ≤ n → (fl t).length ≤ 1000 → okT t → m_impl_tree_simplified n t = some (sm t)
  | 0, .nil, _, _, h => by unfold okT at h; exact h.elim
  | 0, .mk x a ks, hn, _, _ => by have e : dp (.mk x a ks) = 1 + dpL ks := by conv => lhs; unfold dp
                                  omega
  | n + 1, .nil, _, _, h => by unfold okT at h; exact h.elim
  | n + 1, .mk x a ks, hn, hn2, h => by
    have h0 := okT_iff.1 h
    have hsub : ∀ t ∈ ks, (fl t).length ≤ 1000 := fun t ht => by have := (kid_dp (x := x) (a := a) ht).2; omega
    have hkd := ar_kind h0.1
    have hle := ar_le h0.1
    have hov := (ar_terms h0.1).1
    show (forL (m_impl_tree_simplified_F_L0 (m_impl_tree_simplified n)) (fun s0 => s0) 0 ks []).bind (fun u0 => m_impl_tree_simplified_F_A0 (tree.mk x a ks) u0) = _
    rw [simp_kids ks 0 [] (fun t ht => impl_simplified n t (by have := (kid_dp (x := x) (a := a) ht).1; omega) (hsub t ht) (h0.2 t ht)) (by simp; omega), Option.bind_some, List.nil_append]
    unfold m_impl_tree_simplified_F_A0
    simp only
    rw [fixd_len, dec_nneg]
    match ks, h0, hkd, hn, hsub with
    | [], h0, hkd, hn, hsub =>
      simp only [List.length_nil] at hkd
      rw [show smL [] = [] by unfold smL; rfl, sm0, red0]
      rw [decide_eq_false (show ¬ x.Kind = 1 by omega), cond_false, decide_eq_false (show ¬ x.Kind = 7 by omega), cond_false, decide_eq_false (show ¬ x.Kind = 8 by omega), cond_false]
      by_cases h6 : x.Kind = 6
      · rw [decide_eq_true h6, cond_true]
        by_cases hf : fixd x.Sum = true
        · by_cases hc : x.Sum.Const < 0
          · rw [decide_eq_true hc, Bool.not_true, Bool.and_false, cond_false, if_neg (fun c => c.2.2 hc), if_neg (fun c => by have := c.1; omega)]; rfl
          · rw [decide_eq_false hc, hf, Bool.not_false, Bool.and_true, cond_true, if_pos ⟨h6, rfl, hc⟩]; rfl
        · rw [Bool.eq_false_iff.2 hf, Bool.false_and, cond_false, if_neg (fun c => by have := c.2.1; cases this), if_neg (fun c => by have := c.1; omega)]; rfl
      · rw [decide_eq_false h6, cond_false, if_neg (fun c => h6 c.1)]
        by_cases h2 : x.Kind = 2
        · obtain ⟨v, hv, hv3⟩ := kind_var h0.1
          rw [decide_eq_true h2, cond_true, hv, impl_alone hov hv3, Option.bind_some]
          cases ha : alone x.Sum (v : Int) with
          | true => rw [cond_true, if_pos ⟨h2, rfl⟩]; rfl
          | false => rw [cond_false, if_neg (fun c => by have := c.2; cases this)]; rfl
        · rw [decide_eq_false h2, cond_false, if_neg (fun c => h2 c.1)]; rfl
    | [l], h0, hkd, hn, hsub =>
      simp only [List.length_cons, List.length_nil] at hkd
      have h8 : x.Kind = 8 := by omega
      rw [show smL [l] = [sm l] by rw [smL_map]; rfl, sm1, red1]
      rw [decide_eq_false (show ¬ x.Kind = 1 by omega), cond_false, decide_eq_false (show ¬ x.Kind = 7 by omega), cond_false, decide_eq_true h8, cond_true, ite_b]
      have : decide (fixd x.Sum = true ∧ x.Sum.Const < 0) = (fixd x.Sum && decide (x.Sum.Const < 0)) := by cases fixd x.Sum <;> simp
      rw [this]
      cases fixd x.Sum && decide (x.Sum.Const < 0) <;> rfl
    | [l, r], h0, hkd, hn, hsub =>
      simp only [List.length_cons, List.length_nil] at hkd
      have ol := (sm_ok l (h0.2 l (by simp))).1
      have or_ := (sm_ok r (h0.2 r (by simp))).1
      have e0 : getI [sm l, sm r] (0 : Int) = some (sm l) := rfl
      have e1 : getI [sm l, sm r] (1 : Int) = some (sm r) := rfl
      rw [show smL [l, r] = [sm l, sm r] by rw [smL_map]; rfl, sm2, red2, e0, e1]
      by_cases h1 : x.Kind = 1
      · obtain ⟨o1, q1, q2⟩ := un_hd ol
        obtain ⟨o2, p1, p2⟩ := un_hd or_
        rw [decide_eq_true h1, cond_true, if_pos h1]
        simp only [Option.bind_some]
        rw [q1, p1]
        simp only [Option.bind_some]
        rw [q2, p2]
        by_cases c1 : hd (sm l) = 0
        · rw [decide_eq_true c1, cond_true, if_pos c1]
        · rw [decide_eq_false c1, cond_false, if_neg c1]
          by_cases c2 : hd (sm r) = 0
          · rw [decide_eq_true c2, cond_true, if_pos c2]
          · rw [decide_eq_false c2, cond_false, if_neg c2]; rfl
      · have h7 : x.Kind = 7 := by omega
        rw [decide_eq_false h1, cond_false, decide_eq_true h7, cond_true, if_neg h1]
        simp only [Option.bind_some]
        by_cases hf : fixd x.Sum = true
        · by_cases hc : x.Sum.Const < 0
          · rw [hf, decide_eq_true hc, Bool.and_true, cond_true, if_pos ⟨rfl, hc⟩]
          · rw [hf, decide_eq_false hc, Bool.and_false, cond_false, cond_true, if_neg (fun c => hc c.2), if_pos (.inl rfl)]; rfl
        · rw [Bool.eq_false_iff.2 hf, Bool.false_and, cond_false, cond_false, if_neg (fun c => by have := c.1; cases this)]
          have hdp : dp (sm l) ≤ 1000 := by
            have h1 := dp_le (sm l)
            have h2 := (sm_ok l (h0.2 l (by simp))).2
            have := hsub l (by simp)
            omega
          rw [impl_sameTree 1000 (sm l) (sm r) hdp ol or_, Option.bind_some]
          unfold m_impl_tree_simplified_F_J0 sameR
          by_cases he : fl (sm l) = fl (sm r)
          · rw [decide_eq_true he, cond_true, if_pos (.inr he), e0]; rfl
          · rw [decide_eq_false he, cond_false, if_neg (fun c => by rcases c with c | c; cases c; exact he c)]; rfl
end Go.Mod

namespace Go.Mod
open Go.AM
set_option linter.unusedVariables false
set_option linter.unusedSimpArgs false
theorem spec_same {xs ys : List Int} (hl : xs.length ≤ 1048576) : m_spec_l00Same xs ys = some (decide (xs = ys)) := by
  unfold m_spec_l00Same
  rw [dec_eqN]
  by_cases h : xs.length = ys.length
  · rw [decide_eq_true h, Bool.not_true, cond_false, iter_eq (xs := xs) (ys := ys) (eq := fun x y => some (decide (x = y)))
      (fun n x y hx hy => by unfold m_spec_l00Same_L0; rw [dec_lt (get_lt hx), cond_true, getI_some hx, getI_some hy]; rfl)
      (by unfold m_spec_l00Same_L0; rw [dec_self]; rfl) (by omega) h (fun x _ y => rfl), Option.bind_some]
    by_cases e : xs = ys
    · rw [if_pos e, decide_eq_true e]; rfl
    · rw [if_neg e, decide_eq_false e]; rfl
  · rw [decide_eq_false h, decide_eq_false (fun e => h (by rw [e]))]; rfl
theorem spec_sameT {x y : Term} (hl : cTerm x ≤ 1048576) : m_spec_l02Same x y = some (decide (x = y)) := by
  unfold m_spec_l02Same
  unfold cTerm at hl
  rw [spec_same hl]
  obtain ⟨a, b⟩ := x
  obtain ⟨c, d⟩ := y
  by_cases h1 : a = c <;> by_cases h2 : b = d <;> simp [h1, h2]
theorem spec_sameTs {x y : Stmt} (hl : pc_TermS x.Facts ≤ 1048576) (h : x.Facts.length = y.Facts.length) : iter (m_spec_l03Equal_L1 x y) 0 = some (if x.Facts = y.Facts then .inl () else .inr false) := by
  have hlen : x.Facts.length ≤ 1048576 := Nat.le_trans pc_TermS_len hl
  exact iter_eq (xs := x.Facts) (ys := y.Facts) (eq := m_spec_l02Same)
    (fun n a b ha hb => by unfold m_spec_l03Equal_L1; rw [dec_lt (get_lt ha), cond_true, getI_some ha, getI_some hb]; rfl)
    (by unfold m_spec_l03Equal_L1; rw [dec_self]; rfl) (by omega) h (fun a ha b => spec_sameT (Nat.le_trans (show cTerm a ≤ pc_TermS x.Facts from pc_TermS_mem ha) hl))
theorem spec_equal {p q : List Stmt} (hl : pc_StmtS p ≤ 1048576) : m_spec_l03Equal p q = some (decide (p = q)) := by
  have hlen : p.length ≤ 1048576 := Nat.le_trans pc_StmtS_len hl
  unfold m_spec_l03Equal
  rw [dec_eqN]
  by_cases h : p.length = q.length
  · rw [decide_eq_true h, Bool.not_true, cond_false, iter_eq (xs := p) (ys := q) (eq := fun x y => some (decide (x = y)))
      (fun n x y hx hy => by
        have hm := pc_StmtS_mem (List.mem_of_getElem? hx)
        have hm2 : pc_Stmt x ≤ 1048576 := by omega
        unfold pc_Stmt at hm2
        have hxy := pi_Stmt x y
        unfold m_spec_l03Equal_L0
        rw [dec_lt (get_lt hx), cond_true, getI_some hx, getI_some hy]
        simp only [Option.bind_some]
        rw [spec_sameT (show cTerm x.Sum ≤ 1048576 from by have : cTerm x.Sum = pc_Term x.Sum := rfl; omega), spec_sameT (show cTerm x.Index ≤ 1048576 from by have : cTerm x.Index = pc_Term x.Index := rfl; omega)]
        simp only [Option.bind_some]
        by_cases h1 : x.Kind = y.Kind
        · rw [decide_eq_true h1, Bool.not_true, cond_false]
          by_cases h2 : x.Var = y.Var
          · rw [decide_eq_true h2, Bool.not_true, cond_false]
            by_cases h3 : x.Event = y.Event
            · rw [decide_eq_true h3, Bool.not_true, cond_false]
              by_cases h4 : x.Sum = y.Sum
              · rw [decide_eq_true h4, Bool.not_true, cond_false]
                by_cases h5 : x.Index = y.Index
                · rw [decide_eq_true h5, Bool.not_true, cond_false, dec_eqN]
                  by_cases h6 : x.Facts.length = y.Facts.length
                  · rw [decide_eq_true h6, Bool.not_true, cond_false, spec_sameTs (by omega) h6, Option.bind_some]
                    by_cases h7 : x.Facts = y.Facts
                    · rw [if_pos h7, decide_eq_true (hxy.1 ⟨h1, h2, h3, h4, h5, h7⟩)]; rfl
                    · rw [if_neg h7, decide_eq_false (fun e => h7 (hxy.2 e).2.2.2.2.2)]; rfl
                  · rw [decide_eq_false h6, decide_eq_false (p := x = y) (fun e => h6 (by rw [e]))]; rfl
                · rw [decide_eq_false h5, decide_eq_false (p := x = y) (fun e => h5 (by rw [e]))]; rfl
              · rw [decide_eq_false h4, decide_eq_false (p := x = y) (fun e => h4 (by rw [e]))]; rfl
            · rw [decide_eq_false h3, decide_eq_false (p := x = y) (fun e => h3 (by rw [e]))]; rfl
          · rw [decide_eq_false h2, decide_eq_false (p := x = y) (fun e => h2 (by rw [e]))]; rfl
        · rw [decide_eq_false h1, decide_eq_false (p := x = y) (fun e => h1 (by rw [e]))]; rfl)
      (by unfold m_spec_l03Equal_L0; rw [dec_self]; rfl) (by omega) h (fun x _ y => rfl), Option.bind_some]
    by_cases e : p = q
    · rw [if_pos e, decide_eq_true e]; rfl
    · rw [if_neg e, decide_eq_false e]; rfl
  · rw [decide_eq_false h, decide_eq_false (fun e => h (by rw [e]))]; rfl
theorem fl_get {t : Ptree} (h : okT t) : ∃ x, getI (fl t) (0 : Int) = some x ∧ x.Kind = hd t := by
  obtain ⟨x, r, e, e2⟩ := fl_head h
  exact ⟨x, by rw [e]; rfl, e2.symm⟩
theorem J2_out {x : Stmt} {a b : List Stmt} {j1 j2 : Bool} (h : a.length + b.length ≤ 1000) : m_spec_l03Simple_F_J2 x a b j1 j2 = some (bif j2 then b else bif j1 then a else x :: (a ++ b)) := by
  unfold m_spec_l03Simple_F_J2
  cases j2 with
  | true => rfl
  | false =>
    cases j1 with
    | true => rfl
    | false => rw [cond_false, cond_false, capI_some (by simp; omega), Option.bind_some, capI_some (by simp; omega)]; rfl
theorem sm_small {t : Ptree} (h : okT t) (hl : (fl t).length ≤ 30) : pc_StmtS (fl (sm t)) ≤ 1048576 ∧ (fl (sm t)).length ≤ 30 := by
  have h1 := sm_ok t h
  have h2 := isB_small (fl_isB h1.1 (by omega))
  exact ⟨by omega, by omega⟩
theorem spec_simple : ∀ (n : Nat) (t : Ptree), dp t ≤ n → okT t → (fl t).length ≤ 30 → m_spec_l03Simple n (fl t) = some (fl (sm t))
  | 0, .nil, _, h, _ => by unfold okT at h; exact h.elim
  | 0, .mk x a ks, hn, _, _ => by have e : dp (.mk x a ks) = 1 + dpL ks := by conv => lhs; unfold dp
                                  omega
  | n + 1, .nil, _, h, _ => by unfold okT at h; exact h.elim
  | n + 1, .mk x a ks, hn, h, hl => by
    have h0 := okT_iff.1 h
    have hB := fl_isB h hl
    have hsub : ∀ t ∈ ks, dp t ≤ n ∧ (fl t).length ≤ 30 := fun t ht => by have := kid_dp (x := x) (a := a) ht; omega
    have e : fl (.mk x a ks) = x :: flL ks := fl_mk x a ks
    rw [e] at hB hl ⊢
    simp only [List.length_cons] at hl
    have hsm := ar_small h0.1
    have hkd := ar_kind h0.1
    have hov := (ar_terms h0.1).1
    show m_spec_l03Simple_F (m_spec_l03Simple n) (x :: flL ks) = _
    unfold m_spec_l03Simple_F
    rw [show getI (x :: flL ks) (0 : Int) = some x from rfl, Option.bind_some, spec_ownStmt (by omega), Option.bind_some, fixd_len, dec_nneg]
    match ks, h0, hB, hl, hn, hkd, hsub with
    | [], h0, hB, hl, hn, hkd, hsub =>
      simp only [List.length_nil] at hkd
      rw [sm0, red0]
      have hx : ∀ b, [x] = fl (.mk x b []) := fun b => (fl0 x b).symm
      by_cases h2 : x.Kind = 2
      · obtain ⟨v, hv, hv3⟩ := kind_var h0.1
        rw [decide_eq_true h2, cond_true, hv, spec_alone hov hv3, Option.bind_some, if_neg (fun c => by have := c.1; omega)]
        cases ha : alone x.Sum (v : Int) with
        | true => rw [cond_true, if_pos ⟨h2, rfl⟩]; rfl
        | false => rw [cond_false, if_neg (fun c => by have := c.2; cases this), ← hx]
      · rw [decide_eq_false h2, cond_false]
        by_cases h6 : x.Kind = 6
        · rw [decide_eq_true h6, cond_true]
          by_cases hf : fixd x.Sum = true
          · by_cases hc : x.Sum.Const < 0
            · rw [decide_eq_true hc, Bool.not_true, Bool.and_false, cond_false, if_neg (fun c => c.2.2 hc), if_neg (fun c => h2 c.1), ← hx]
            · rw [decide_eq_false hc, hf, Bool.not_false, Bool.and_true, cond_true, if_pos ⟨h6, rfl, hc⟩]; rfl
          · rw [Bool.eq_false_iff.2 hf, Bool.false_and, cond_false, if_neg (fun c => by have := c.2.1; cases this), if_neg (fun c => h2 c.1), ← hx]
        · rw [decide_eq_false h6, cond_false, decide_eq_false (show ¬ x.Kind = 8 by omega), cond_false, decide_eq_false (show ¬ x.Kind = 1 by omega), cond_false, decide_eq_false (show ¬ x.Kind = 7 by omega), if_neg (fun c => h6 c.1), if_neg (fun c => h2 c.1), ← hx]
          rfl
    | [l], h0, hB, hl, hn, hkd, hsub =>
      simp only [List.length_cons, List.length_nil] at hkd
      have h8 : x.Kind = 8 := by omega
      have ol := h0.2 l (by simp)
      rw [sm1, red1, decide_eq_false (show ¬ x.Kind = 2 by omega), cond_false, decide_eq_false (show ¬ x.Kind = 6 by omega), cond_false, decide_eq_true h8, cond_true, Bool.not_not]
      have s1 : sliceI (x :: flL [l]) (1 : Int) ((x :: flL [l]).length : Int) = some (fl l) := by
        rw [flL1]
        have := slice_mid [x] (fl l) []
        simpa [Nat.add_comm] using this
      by_cases hf : fixd x.Sum = true ∧ x.Sum.Const < 0
      · rw [hf.1, decide_eq_true hf.2, Bool.and_true, cond_true, if_pos ⟨rfl, hf.2⟩]; rfl
      · have hfb : (fixd x.Sum && decide (x.Sum.Const < 0)) = false := by
          cases hq : fixd x.Sum && decide (x.Sum.Const < 0) with
          | false => rfl
          | true => simp only [Bool.and_eq_true, decide_eq_true_eq] at hq; exact absurd hq hf
        have hs := sm_small ol (hsub l (by simp)).2
        rw [hfb, cond_false, if_neg hf, s1, Option.bind_some, spec_simple n l (hsub l (by simp)).1 ol (hsub l (by simp)).2, Option.bind_some, capI_some (by simp; omega), Option.bind_some, fl1']
        rfl
    | [l, r], h0, hB, hl, hn, hkd, hsub =>
      simp only [List.length_cons, List.length_nil] at hkd
      have ol := h0.2 l (by simp)
      have or_ := h0.2 r (by simp)
      rw [flL2] at hB hl ⊢
      rw [List.length_append] at hl
      have en : m_spec_l03End (x :: (fl l ++ fl r)) (1 : Int) = some ((1 + (fl l).length : Nat) : Int) := end_ok hB (k := 1) (t := l) (r := fl r) ol rfl
      have s1 : sliceI (x :: (fl l ++ fl r)) (1 : Int) ((1 + (fl l).length : Nat) : Int) = some (fl l) := by
        have := slice_mid [x] (fl l) (fl r)
        simpa using this
      have s2 : sliceI (x :: (fl l ++ fl r)) ((1 + (fl l).length : Nat) : Int) ((x :: (fl l ++ fl r)).length : Int) = some (fl r) := by
        have := slice_mid (x :: fl l) (fl r) []
        have e : (x :: (fl l ++ fl r)).length = (x :: fl l).length + (fl r).length := by simp; omega
        have e2 : 1 + (fl l).length = (x :: fl l).length := by simp; omega
        rw [e, e2]
        simpa using this
      have hs1 := sm_small ol (hsub l (by simp)).2
      have hs2 := sm_small or_ (hsub r (by simp)).2
      have o1 := (sm_ok l ol).1
      have o2 := (sm_ok r or_).1
      have i1 := spec_simple n l (hsub l (by simp)).1 ol (hsub l (by simp)).2
      have i2 := spec_simple n r (hsub r (by simp)).1 or_ (hsub r (by simp)).2
      have hJ2 := fun j1 j2 => J2_out (x := x) (a := fl (sm l)) (b := fl (sm r)) (j1 := j1) (j2 := j2) (by omega)
      have hmk : x :: (fl (sm l) ++ fl (sm r)) = fl (.mk x 0 [sm l, sm r]) := (fl2' x 0 _ _).symm
      rw [sm2, red2, decide_eq_false (show ¬ x.Kind = 2 by omega), cond_false, decide_eq_false (show ¬ x.Kind = 6 by omega), cond_false, decide_eq_false (show ¬ x.Kind = 8 by omega), cond_false]
      by_cases h1 : x.Kind = 1
      · rw [decide_eq_true h1, cond_true, if_pos h1]
        unfold m_spec_l03Simple_F_J0
        rw [cond_true, en, Option.bind_some, s1, Option.bind_some, i1, Option.bind_some, s2, Option.bind_some, i2, Option.bind_some, decide_eq_true h1, cond_true]
        obtain ⟨y1, g1, g2⟩ := fl_get o1
        obtain ⟨y2, q1, q2⟩ := fl_get o2
        rw [q1, Option.bind_some, q2]
        have hJ1 : ∀ j1, m_spec_l03Simple_F_J1 x (fl (sm l)) (fl (sm r)) j1 = m_spec_l03Simple_F_J2 x (fl (sm l)) (fl (sm r)) j1 (decide (hd (sm l) = 0)) := by
          intro j1
          unfold m_spec_l03Simple_F_J1
          rw [decide_eq_true h1, cond_true, g1, Option.bind_some, g2, decide_eq_false (show ¬ x.Kind = 7 by omega), cond_false]
          cases decide (hd (sm l) = 0) <;> rfl
        rw [decide_eq_false (show ¬ x.Kind = 7 by omega), cond_false, hJ1, hJ1, hJ2, hJ2]
        by_cases c1 : hd (sm l) = 0
        · rw [if_pos c1, decide_eq_true c1]
          cases decide (hd (sm r) = 0) <;> rfl
        · rw [if_neg c1, decide_eq_false c1]
          by_cases c2 : hd (sm r) = 0
          · rw [if_pos c2, decide_eq_true c2]; rfl
          · rw [if_neg c2, decide_eq_false c2, ← hmk]; rfl
      · have h7 : x.Kind = 7 := by omega
        rw [decide_eq_false h1, cond_false, decide_eq_true h7, if_neg h1]
        unfold m_spec_l03Simple_F_J0
        rw [cond_true, en, Option.bind_some, s1, Option.bind_some, i1, Option.bind_some, s2, Option.bind_some, i2, Option.bind_some, decide_eq_false h1, cond_false, decide_eq_true h7, cond_true]
        have hJ1 : ∀ j1, m_spec_l03Simple_F_J1 x (fl (sm l)) (fl (sm r)) j1 = m_spec_l03Simple_F_J2 x (fl (sm l)) (fl (sm r)) j1 (fixd x.Sum && decide (x.Sum.Const < 0)) := by
          intro j1
          unfold m_spec_l03Simple_F_J1
          rw [decide_eq_false h1, cond_false, decide_eq_true h7, cond_true, fixd_len, dec_nneg, Bool.not_not]
          cases fixd x.Sum <;> rfl
        rw [fixd_len, dec_nneg, spec_equal hs1.1]
        simp only [Option.bind_some]
        rw [hJ1, hJ1, hJ1, hJ2, hJ2, hJ2]
        by_cases hf : fixd x.Sum = true
        · by_cases hc : x.Sum.Const < 0
          · rw [hf, decide_eq_true hc, if_pos ⟨rfl, hc⟩]; rfl
          · rw [hf, decide_eq_false hc, if_neg (fun c => hc c.2), if_pos (.inl rfl)]; rfl
        · rw [Bool.eq_false_iff.2 hf, if_neg (fun c => by have := c.1; cases this)]
          by_cases he : fl (sm l) = fl (sm r)
          · rw [decide_eq_true he, if_pos (.inr he)]; rfl
          · rw [decide_eq_false he, if_neg (fun c => by rcases c with c | c; cases c; exact he c), ← hmk]; rfl
theorem same_SimplifyBody (p0 : List Stmt) (k0 : kLa_Stmt p0) (h0 : pc_StmtS p0 ≤ 1048576) :
    ∃ r, m_spec_SimplifyBody p0 = some r ∧ m_impl_SimplifyBody p0 = some r ∧ pc_StmtS r.1 ≤ 1048576 := by
  obtain ⟨t, e, hw⟩ := impl_treeOf p0
  unfold m_spec_SimplifyBody m_impl_SimplifyBody
  rw [spec_isB h0, e, Option.bind_some, Option.bind_some]
  cases hB : isB p0 with
  | false => exact ⟨_, rfl, rfl, by decide⟩
  | true =>
    obtain ⟨w1, w2⟩ := hw hB
    have ht := wfT_ok t 0 w1
    have hl := isB_len hB
    rw [← w2] at hl
    have hd := dp_le t
    obtain ⟨n1, n2⟩ := sm_ok t ht
    have hd2 := dp_le (sm t)
    have hs := sm_small ht hl
    refine ⟨(fl (sm t), true), ?_, ?_, hs.1⟩
    · rw [Bool.not_true, cond_false, ← w2, spec_simple 1000 t (by omega) ht hl]; rfl
    · rw [Bool.not_true, cond_false]
      show (m_impl_tree_simplified 1000 t).bind _ = _
      rw [impl_simplified 1000 t (by omega) (by omega) ht, Option.bind_some, impl_body 1000 _ (by omega) n1 (by omega)]; rfl
end Go.Mod

namespace Go.Mod
open Go.AM
set_option linter.unusedVariables false
set_option linter.unusedSimpArgs false
theorem law_SimplifyBody {p0 : List Stmt} (k0 : kLa_Stmt p0) : m_laws_FnExactSimplifyBody p0 = some true := by
  unfold m_laws_FnExactSimplifyBody
  rw [show (1048576 : Int) = ((1048576 : Nat) : Int) from rfl]
  rw [pz_StmtS k0 _ (by omega), Option.bind_some]
  by_cases h0 : pc_StmtS p0 ≤ 1048576
  · rw [szOut_ok h0, dec_neg, cond_false]
    obtain ⟨⟨r0_, r1_⟩, e1, e2, b0⟩ := same_SimplifyBody p0 k0 (show pc_StmtS p0 ≤ 1048576 by omega)
    have q0 := pq_StmtS_le p0
    have qr0 := pq_StmtS_le r0_
    try simp only at b0 qr0
    obtain ⟨am0_0, m0, -⟩ := pm_StmtS (show pc_StmtS p0 ≤ 1048576 by omega) (k := 1) (by omega)
    replace m0 : m_laws_markStmtS p0 1 = _ := m0
    obtain ⟨rm0_0, mr0, gr0⟩ := pm_StmtS (show pc_StmtS r0_ ≤ 1048576 by omega) (k := 1) (by omega)
    replace mr0 : m_laws_markStmtS r0_ 1 = _ := mr0
    replace gr0 : m_laws_heldStmtS _ 1 = _ := gr0
    simp only [Option.bind_some, cond_false, cond_true, dec_neg, e1, e2, decide_true, bool_beq, Bool.not_true, Bool.or_false, Bool.false_eq_true, pt_StmtS (show pc_StmtS p0 ≤ 1048576 by omega), pe_StmtS (show pc_StmtS p0 ≤ 1048576 by omega), m0, pe_StmtS (show pc_StmtS r0_ ≤ 1048576 by omega), mr0, gr0]
  · rw [szOut_no h0]; rfl
end Go.Mod
