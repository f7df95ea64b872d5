import Derived.Test.YtmbbpabjdalfaaaGd
namespace Go.Mod
open Go.AM
set_option linter.unusedVariables false
set_option linter.unusedSimpArgs false
theorem Acc.valid {c : List Term} {q : List Node} {d : List (List Term)} (h : Acc c q d) : ∀ x ∈ q, (ar x).isSome = true := by
  induction h with
  | leaf _ _ ha _ => intro x hx; rw [List.mem_singleton.1 hx, ha]; rfl
  | split _ _ ha _ _ _ _ _ i1 i2 =>
    intro x hx
    rcases List.mem_cons.1 hx with rfl | hx
    · rw [ha]; rfl
    · rcases List.mem_append.1 hx with hx | hx
      · exact i1 x hx
      · exact i2 x hx
  | tight _ _ ha _ _ _ _ _ i1 =>
    intro x hx
    rcases List.mem_cons.1 hx with rfl | hx
    · rw [ha]; rfl
    · exact i1 x hx
theorem Acc.fact {c : List Term} {q : List Node} {d : List (List Term)} (h : Acc c q d) : ∀ x ∈ q, x.Kind = 3 → 0 ≤ x.Fact ∧ x.Fact ≤ 19 := by
  intro x hx hk
  obtain ⟨a, ha⟩ := Option.isSome_iff_exists.1 (h.valid x hx)
  rcases ar_cases ha with ⟨h1, _⟩ | ⟨h1, _⟩ | ⟨_, _, h2, h3⟩
  · omega
  · omega
  · exact ⟨h2, h3⟩
theorem Acc.psmall {c : List Term} {q : List Node} {d : List (List Term)} (h : Acc c q d) (hl : q.length ≤ 1000) : pc_NodeS q ≤ 1048576 := by
  have := nodes_small h.valid; omega
theorem get_mid {α : Type} (l : List α) (a b : α) : (l ++ [a, b])[l.length]? = some a ∧ (l ++ [a, b])[l.length + 1]? = some b ∧ ∀ i, i < l.length → (l ++ [a, b])[i]? = l[i]? := by
  refine ⟨?_, ?_, fun i hi => List.getElem?_append_left hi⟩
  · rw [List.getElem?_append_right (Nat.le_refl _), Nat.sub_self]; rfl
  · rw [List.getElem?_append_right (by omega), show l.length + 1 - l.length = 1 by omega]; rfl
def swapF (n : Nat) (i : Int) : Int := if i = (n : Int) then (n : Int) + 1 else if i = (n : Int) + 1 then (n : Int) else i
def shiftF (n : Nat) (k : Int) (i : Int) : Int := if i < (n : Int) then i else i + k
theorem rel_swap (l : List Term) (a b : Term) : Rel (swapF l.length) 0 (l ++ [a, b]) (l ++ [b, a]) where
  len := by simp
  at_ := fun i hi => by
    rw [List.length_append] at hi
    simp only [List.length_cons, List.length_nil] at hi
    obtain ⟨a1, a2, a3⟩ := get_mid l a b
    obtain ⟨b1, b2, b3⟩ := get_mid l b a
    right
    unfold swapF
    by_cases e1 : i = l.length
    · subst e1; exact ⟨l.length + 1, by rw [if_pos rfl]; omega, by simp, b2.trans a1.symm⟩
    · by_cases e2 : i = l.length + 1
      · subst e2; exact ⟨l.length, by rw [if_neg (by omega), if_pos (by omega)], by simp, b1.trans a2.symm⟩
      · exact ⟨i, by rw [if_neg (by omega), if_neg (by omega)], by simp; omega, (b3 i (by omega)).trans (a3 i (by omega)).symm⟩
  inj := fun i i' _ _ _ he => by
    unfold swapF at he
    repeat' split at he
    all_goals omega
  far := fun i hi => by
    rw [List.length_append] at hi
    simp only [List.length_cons, List.length_nil] at hi
    unfold swapF
    rw [if_neg (by omega), if_neg (by omega)]; omega
theorem rel_shift (l m : List Term) (a : Term) : Rel (shiftF l.length (m.length : Int)) (m.length : Int) (l ++ [a]) (l ++ (m ++ [a])) where
  len := by simp; omega
  at_ := fun i hi => by
    rw [List.length_append, List.length_singleton] at hi
    right
    unfold shiftF
    by_cases e1 : i < l.length
    · exact ⟨i, by rw [if_pos (by omega)], by simp; omega, by rw [List.getElem?_append_left e1, List.getElem?_append_left e1]⟩
    · obtain rfl : i = l.length := by omega
      refine ⟨l.length + m.length, by rw [if_neg (by omega)]; simp, by simp, ?_⟩
      rw [List.getElem?_append_right (by omega), List.getElem?_append_right (by omega), List.getElem?_append_right (Nat.le_refl _), Nat.add_sub_cancel_left, Nat.sub_self, Nat.sub_self]
  inj := fun i i' _ _ _ he => by
    unfold shiftF at he
    repeat' split at he
    all_goals omega
  far := fun i hi => by
    rw [List.length_append, List.length_singleton] at hi
    unfold shiftF
    rw [if_neg (by omega)]
theorem w64_s {x k : Int} (h0 : 0 ≤ x) (h1 : x ≤ 1000) (h2 : 0 ≤ k) (h3 : k ≤ 1000) : w64 (x + k) = x + k := w64_eq ⟨by omega, by omega⟩
theorem swap_moved (n : Nat) (hn : n ≤ 100) (p : List Node) : m_impl_movedNodes_fJoinProofs_1_JoinProofs_2 p (n : Int) = gMoved m_impl_JoinProofs_1 (fun i => m_impl_JoinProofs_2 i (n : Int)) p := rfl
theorem swap_s (n : Nat) (hn : n ≤ 100) (i : Int) : m_impl_JoinProofs_2 i (n : Int) = some (swapF n i) := by
  unfold m_impl_JoinProofs_2 swapF
  have w := w64_s (x := (n : Int)) (k := 1) (by omega) (by omega) (by omega) (by omega)
  rw [w]
  clear w
  by_cases e1 : i = (n : Int)
  · rw [decide_eq_true e1, if_pos e1]; rfl
  · rw [decide_eq_false e1, if_neg e1, cond_false]
    by_cases e2 : i = (n : Int) + 1
    · rw [decide_eq_true e2, if_pos e2]; rfl
    · rw [decide_eq_false e2, if_neg e2]; rfl
theorem ins_moved (n : Nat) (p : List Node) : m_impl_movedNodes_fJoinProofs_3_JoinProofs_4 p (n : Int) = gMoved m_impl_JoinProofs_3 (fun i => m_impl_JoinProofs_4 i (n : Int)) p := rfl
theorem ins_s (n : Nat) (i : Int) (h0 : 0 ≤ i) (h1 : i ≤ 1000) : m_impl_JoinProofs_4 i (n : Int) = some (shiftF n 1 i) := by
  unfold m_impl_JoinProofs_4 shiftF
  have w := w64_s (x := i) (k := 1) h0 h1 (by omega) (by omega)
  rw [w]
  clear w
  by_cases e1 : i < (n : Int)
  · rw [decide_eq_true e1, if_pos e1]; rfl
  · rw [decide_eq_false e1, if_neg e1]; rfl
theorem used_pos {f : Int → Int} (hf : ∀ i : Int, 0 ≤ i → 0 ≤ f i) {c : List Term} {q : List Node} {d : List (List Term)} (h : Acc c q d) : ∀ x ∈ q, Used f x := fun x hx =>
  ⟨fun hk => hf _ (h.fact x hx hk).1, fun _ i hi => absurd hi (by have := hf (i : Int) (by omega); omega)⟩
theorem swapF_pos (n : Nat) (i : Int) (h : 0 ≤ i) : 0 ≤ swapF n i := by
  unfold swapF
  repeat' split
  all_goals omega
theorem shiftF_pos (n : Nat) (k : Int) (hk : 0 ≤ k) (i : Int) (h : 0 ≤ i) : 0 ≤ shiftF n k i := by unfold shiftF; split <;> omega
theorem set_last (n : Nat) : (List.replicate (n + 1) (0 : Int)).set n 1 = List.replicate n 0 ++ [1] := by
  rw [List.replicate_succ', List.set_append_right _ _ (by simp), List.length_replicate, Nat.sub_self]; rfl
def addG (g : Term) (r : Int) : Term := mkT (g.Const + r) (fun i => coef g.Coeffs i)
theorem law_Lemmas {a b : List Int} (ka : kLa_u8 a) (kb : kLa_u8 b) : m_laws_FnLemmas a b = some true := by
  unfold m_laws_FnLemmas
  rcases long_cases a b with h | ⟨h, la, lb⟩
  · rw [h]; rfl
  obtain ⟨s, p, d, e1, hd⟩ := r8Proved_ok (bytes ka) (by omega)
  rw [h, Option.bind_some, cond_false, e1, Option.bind_some]
  clear h e1
  have h5 := hd.len
  have hf3 := hd.facts
  have hgc := hd.gc
  have hfv : ∀ t ∈ s.Facts, vT t = true := fun t ht => (hd.fdt t ht).v
  rw [capI_some (by simp; omega), Option.bind_some, capI_some (by simp; omega), Option.bind_some]
  unfold m_laws_FnLemmas_J0
  simp only
  obtain ⟨r, er, r0, r1⟩ := r8At_ok (bytes kb) (by omega) (j := 0) (by omega) (n := 9) (by omega)
  have er' : m_laws_r8At b (0 : Int) (9 : Int) = some r := er
  rw [er', Option.bind_some, impl_add, Option.bind_some]
  have gv : vT (addG s.Goal r) = true := mkT_valid (by omega) (fun i _ => by have := hd.gf i; omega)
  have gco : ∀ i, i < 10 → coef (addG s.Goal r).Coeffs i = coef s.Goal.Coeffs i := fun i hi => by unfold addG; rw [mkT_coef, if_pos hi]
  have gov : vT (opp (addG s.Goal r)) = true := mkT_valid (f := fun i => -coef (addG s.Goal r).Coeffs i) (by show -1000000 ≤ -(s.Goal.Const + r) - 1 ∧ -(s.Goal.Const + r) - 1 ≤ 1000000; omega) (fun i hi => by rw [gco i hi]; have := hd.gf i; omega)
  have goo : vT (opp s.Goal) = true := mkT_valid (f := fun i => -coef s.Goal.Coeffs i) (by omega) (fun i hi => by have := hd.gf i; omega)
  have hadd : fAdd s.Goal (Term.mk r []) = (addG s.Goal r, true) := by
    unfold fAdd
    rw [hd.gv, vT_one r (inR_iff.2 (by omega)), Bool.and_self, cond_true]
    have e : Term.mk (s.Goal.Const + (Term.mk r []).Const) (trim (tab fun i => coef s.Goal.Coeffs i + coef (Term.mk r []).Coeffs i)) = addG s.Goal r := mkT_eq rfl (fun i _ => by simp only; rw [coef_nil]; omega)
    rw [e, chk_1 gv]
  rw [hadd]
  simp only
  unfold m_laws_FnLemmas_J1
  simp only [Bool.not_true, cond_false]
  obtain ⟨G, hG⟩ : ∃ G, G = addG s.Goal r := ⟨_, rfl⟩
  rw [show Term.mk (addG s.Goal r).Const (addG s.Goal r).Coeffs = G from hG.symm, List.nil_append]
  rw [← hG] at gv gov gco
  have gcc : G.Const = s.Goal.Const + r := by rw [hG]; rfl
  clear hadd hG
  -- the proof by means of the lemma
  have v3 : ∀ t ∈ s.Facts ++ [s.Goal], vT t = true := fun t ht => by
    rcases List.mem_append.1 ht with ht | ht
    · exact hfv t ht
    · rw [List.mem_singleton.1 ht]; exact hd.gv
  obtain ⟨S3, hS3⟩ : ∃ S, S = Sequent.mk (s.Facts ++ [s.Goal]) G := ⟨_, rfl⟩
  have c3 : fCtx S3 = ((s.Facts ++ [s.Goal]) ++ [opp G], true) := by rw [hS3]; exact ctx_of v3 (by simp; omega) gv gov
  have sm3 : cSeq S3 ≤ 1048576 := by rw [hS3]; exact seq_small v3 (by simp; omega) gv
  have cl3 : closesB (fCtx S3).1 ((List.replicate s.Facts.length 0 ++ [1]) ++ [1]) = true := by
    rw [c3]
    refine closes_iff.2 ⟨by simp, fun i hi => ?_, ?_⟩
    · rw [lin_app (by simp), lin_app (by simp), lin_rep]
      rw [show coef (opp G).Coeffs i = -coef G.Coeffs i by rw [show opp G = mkT (-G.Const - 1) (fun i => -coef G.Coeffs i) from rfl, mkT_coef, if_pos hi], gco i hi]; omega
    · rw [lin_app (by simp), lin_app (by simp), lin_rep]
      show 0 + 1 * s.Goal.Const + 1 * (-G.Const - 1) < 0
      omega
  have ok3 : okMs ((List.replicate s.Facts.length 0 ++ [1]) ++ [1]) = true := by
    unfold okMs
    rw [List.all_append, List.all_append, List.all_eq_true.2 (fun x hx => by rw [List.eq_of_mem_replicate hx]; rfl), decide_eq_true (by simp; omega)]; rfl
  obtain ⟨e0, hs0⟩ := from_ok (bytes kb) (show b.length ≤ 1048576 by omega)
  obtain ⟨p3, s4, d3, g1, g2, g3⟩ := grow_ok (s := S3) (by rw [c3]) sm3 ok3 cl3 (by simp; omega) hs0 (by omega)
  have hgrown : m_spec_R8Grown b S3 = some p3 := by
    have w : w64 ((((s.Facts.length + 1 : Nat)) : Int) - 1) = (s.Facts.length : Int) := by rw [w64_eq (by omega)]; omega
    have e3 : S3.Facts.length = s.Facts.length + 1 := by rw [hS3]; simp
    unfold m_spec_R8Grown
    rw [e0, Option.bind_some, makeI_some (by omega), Option.bind_some, List.length_replicate, e3, w]
    clear w
    rw [getI_some (x := 0) (by rw [List.getElem?_replicate, if_pos (by omega)]), Option.bind_some, Int.toNat_natCast, set_last, capI_some (by simp; omega), Option.bind_some, g1]; rfl
  rw [← hS3, hgrown, Option.bind_some]
  have told3 := g2.told (by rw [c3]) (by omega) sm3
  have told := hd.acc.told hd.ctx (by omega) hd.small
  -- the joined proof
  obtain ⟨S4, hS4⟩ : ∃ S, S = Sequent.mk s.Facts G := ⟨_, rfl⟩
  have c4 : fCtx S4 = (s.Facts ++ [opp G], true) := by rw [hS4]; exact ctx_of hfv (by simp only; omega) gv gov
  have sm4 : cSeq S4 ≤ 1048576 := by rw [hS4]; exact seq_small hfv (by simp only; omega) gv
  have gd4 : GoodC (s.Facts ++ [opp G]) := by have := ctx_goodC (s := S4) (by rw [c4]); rw [c4] at this; exact this
  have l4 : (s.Facts ++ [opp G]).length < 20 := by simp; omega
  have a3 : Acc (s.Facts ++ [s.Goal, opp G]) p3 d3 := by rw [c3] at g2; simpa using g2
  have c0 : (fCtx s).1 = s.Facts ++ [opp s.Goal] := (ctx_lin hd.ctx).2.1
  have a2 : Acc (s.Facts ++ [opp s.Goal]) p d := by have := hd.acc; rw [c0] at this; exact this
  have rl3 := rel_swap s.Facts s.Goal (opp G)
  have rl2 := rel_shift s.Facts [opp G] (opp s.Goal)
  obtain ⟨d3', b3⟩ := a3.move (s.Facts ++ [opp G, s.Goal]) rl3 (by have := gd4.add hd.gv l4; simpa using this) (by simp; omega) (used_pos (swapF_pos _) a3)
  obtain ⟨d2', b2⟩ := a2.move (s.Facts ++ ([opp G] ++ [opp s.Goal])) rl2 (by have := gd4.add goo l4; simpa using this) (by simp; omega) (used_pos (shiftF_pos _ _ (by simp)) a2)
  have hm3 : m_impl_movedNodes_fJoinProofs_1_JoinProofs_2 p3 (s.Facts.length : Int) = some (p3.map (mvN (swapF s.Facts.length) 0)) := by
    rw [swap_moved _ (by omega)]
    exact moved_ok (fun i _ _ => swap_s _ (by omega) i) (fun i _ _ => by show some i = some (i + 0); rw [Int.add_zero]) (by omega) (by omega) (a3.psmall (by omega)) (a3.mvOK _ rl3 (by simp; omega))
  have hm2 : m_impl_movedNodes_fJoinProofs_3_JoinProofs_4 p (s.Facts.length : Int) = some (p.map (mvN (shiftF s.Facts.length 1) 1)) := by
    rw [ins_moved]
    exact moved_ok (fun i h0 h1 => ins_s _ i h0 h1) (fun i h0 h1 => by show some (w64 (i + 1)) = some (i + 1); rw [w64_s h0 h1 (by omega) (by omega)]) (by omega) (by omega) (a2.psmall (by omega)) (a2.mvOK _ rl2 (by simp; omega))
  have joined : Acc (fCtx S4).1 (Node.mk 2 0 s.Goal [] :: (p3.map (mvN (swapF s.Facts.length) 0) ++ p.map (mvN (shiftF s.Facts.length 1) 1))) ((s.Facts ++ [opp G]) :: (d3' ++ d2')) := by
    rw [c4]
    refine Acc.split (x := Node.mk 2 0 s.Goal []) gd4 rfl (ar_split hd.gv) l4 hd.gv goo ?_ ?_
    · simpa using b3
    · simpa using b2
  have told4 := joined.told (by rw [c4]) (by simp; omega) sm4
  have hv4 : m_impl_ValidSequent S4 = some true := by
    rw [hS4]
    unfold m_impl_ValidSequent
    rw [show (13 : Int) = ((13 : Nat) : Int) from rfl, impl_terms, Option.bind_some, decide_eq_true (show s.Facts.length ≤ 13 by omega), List.all_eq_true.2 hfv, Bool.and_self, cond_true, impl_valid, gv]; rfl
  have hj : m_impl_JoinProofs S4 s.Goal p p3 = some (Node.mk 2 0 s.Goal [] :: (p3.map (mvN (swapF s.Facts.length) 0) ++ p.map (mvN (shiftF s.Facts.length 1) 1)), true) := by
    have e4 : S4.Facts = s.Facts := by rw [hS4]
    have e4g : S4.Goal = G := by rw [hS4]
    unfold m_impl_JoinProofs
    rw [hv4, Option.bind_some, Bool.not_true, cond_false, e4, show m_impl_CheckProof (Sequent.mk s.Facts s.Goal) p = some true from told.check, Option.bind_some, Bool.not_true, cond_false, impl_with_ok (by omega), Option.bind_some, e4g, ← hS3, told3.check, Option.bind_some,
      Bool.not_true, cond_false, hm3, Option.bind_some, hm2, Option.bind_some, impl_own (by have := vT_len hd.gv; omega), Option.bind_some, capI_some (by simp; omega), Option.bind_some, capI_some (by simp; omega), Option.bind_some]
    unfold m_impl_accepted
    rw [show ([Node.mk 2 0 s.Goal []] ++ p3.map (mvN (swapF s.Facts.length) 0)) ++ p.map (mvN (shiftF s.Facts.length 1) 1) = Node.mk 2 0 s.Goal [] :: (p3.map (mvN (swapF s.Facts.length) 0) ++ p.map (mvN (shiftF s.Facts.length 1) 1)) by simp, told4.check]; rfl
  rw [← hS4, hj, Option.bind_some, told.check, Option.bind_some, Bool.not_true, cond_false, told3.check, Option.bind_some]
  simp only [Bool.not_true, Bool.or_self, cond_false]
  rw [told4.check, Option.bind_some, Bool.true_and]
  have w1 : w64 ((p.length : Int) + (p3.length : Int)) = ((p.length + p3.length : Nat) : Int) := by rw [w64_eq (by omega)]; omega
  have w2 : w64 (((p.length + p3.length : Nat) : Int) + 1) = ((p.length + p3.length + 1 : Nat) : Int) := w64_succ (by clear w1; omega)
  rw [w1, w2]
  clear w1 w2
  rw [decide_eq_true (by simp; omega)]
end Go.Mod
