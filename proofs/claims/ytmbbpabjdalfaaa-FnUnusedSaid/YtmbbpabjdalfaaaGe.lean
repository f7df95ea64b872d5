import Derived.Test.YtmbbpabjdalfaaaGd
namespace Go.Mod
open Go.AM
set_option linter.unusedVariables false
set_option linter.unusedSimpArgs false
def usedN (x : Node) (i : Nat) : Bool := (decide (x.Kind = 3) && decide (x.Fact = (i : Int))) || !decide (coef x.Multipliers i = 0)
def usedB (p : List Node) (i : Nat) : Bool := p.any fun x => usedN x i
def rngB (b : Nat → Bool) (m : Nat) : List Bool := (List.range m).map b
theorem rngB_len (b : Nat → Bool) (m : Nat) : (rngB b m).length = m := by simp [rngB]
theorem rngB_get {b : Nat → Bool} {m i : Nat} (h : i < m) : (rngB b m)[i]? = some (b i) := by simp [rngB, h]
theorem rngB_set {b : Nat → Bool} {m i : Nat} {v : Bool} : (rngB b m).set i v = rngB (fun j => if j = i then v else b j) m := by
  unfold rngB
  apply List.ext_getElem?
  intro j
  rw [List.getElem?_set]
  simp only [List.getElem?_map, List.length_map, List.length_range]
  by_cases hj : j < m
  · rw [List.getElem?_range hj]
    by_cases e : i = j
    · subst e; simp [hj]
    · rw [if_neg e]; simp [show ¬ j = i from fun h => e h.symm]
  · have hn : (List.range m)[j]? = none := List.getElem?_eq_none_iff.2 (by simp; omega)
    rw [hn]
    by_cases e : i = j
    · subst e; simp [hj]
    · rw [if_neg e]; rfl
theorem rngB_congr {b c : Nat → Bool} {m : Nat} (h : ∀ i, i < m → b i = c i) : rngB b m = rngB c m := List.map_congr_left (fun i hi => h i (by simpa using hi))
theorem used_inner (m : Nat) : ∀ (ms : List Int) (n : Nat) (b : Nat → Bool), n + ms.length ≤ 1000 →
    forL (m_impl_used_L1 (m : Int)) (fun s1 => s1) n ms (rngB b m) = some (rngB (fun i => b i || (decide (n ≤ i) && !decide (coef ms (i - n) = 0))) m) := by
  intro ms
  induction ms with
  | nil =>
    intro n b _
    show some (rngB b m) = some (rngB _ m)
    congr 1
    exact rngB_congr (fun i _ => by rw [show coef [] (i - n) = 0 from rfl]; simp)
  | cons x r ih =>
    intro n b hn
    have st : m_impl_used_L1 (m : Int) n x (rngB b m) = some (.next (rngB (fun i => b i || (decide (i = n) && !decide (x = 0))) m)) := by
      by_cases h0 : x = 0
      · have e : rngB (fun i => b i || (decide (i = n) && !decide (x = 0))) m = rngB b m := rngB_congr (fun i _ => by rw [decide_eq_true h0]; simp)
        rw [e]
        unfold m_impl_used_L1
        rw [decide_eq_true h0, Bool.not_true, Bool.false_and, cond_false]
      · by_cases hm : n < m
        · have e : rngB (fun i => b i || (decide (i = n) && !decide (x = 0))) m = rngB (fun j => if j = n then true else b j) m := rngB_congr (fun i _ => by
            rw [decide_eq_false h0]
            by_cases e : i = n
            · subst e; simp
            · simp [e])
          rw [e]
          unfold m_impl_used_L1
          rw [decide_eq_false h0, Bool.not_false, Bool.true_and, decide_eq_true (show (n : Int) < (m : Int) by omega), cond_true, getI_some (rngB_get hm), Option.bind_some, Int.toNat_natCast, rngB_set]
        · have e : rngB (fun i => b i || (decide (i = n) && !decide (x = 0))) m = rngB b m := rngB_congr (fun i hi => by
            have : ¬ i = n := by omega
            simp [this])
          rw [e]
          unfold m_impl_used_L1
          rw [decide_eq_false (show ¬ (n : Int) < (m : Int) by omega), Bool.and_false, cond_false]
    unfold forL
    rw [st]
    simp only
    rw [ih (n + 1) _ (by simp only [List.length_cons] at hn; omega)]
    congr 1
    refine rngB_congr (fun i _ => ?_)
    rw [Bool.or_assoc]
    congr 1
    by_cases e : i = n
    · subst e
      rw [decide_eq_true rfl, decide_eq_false (show ¬ i + 1 ≤ i by omega), decide_eq_true (Nat.le_refl i), Nat.sub_self, show coef (x :: r) 0 = x from rfl]; simp
    · rw [decide_eq_false e, Bool.false_and, Bool.false_or]
      by_cases h : n ≤ i
      · rw [decide_eq_true h, decide_eq_true (show n + 1 ≤ i by omega), show i - n = (i - (n + 1)) + 1 by omega]; rfl
      · rw [decide_eq_false h, decide_eq_false (show ¬ n + 1 ≤ i by omega)]; rfl
theorem impl_used {p : List Node} {m : Nat} (hm : m ≤ 1000) (h : ∀ x ∈ p, x.Multipliers.length ≤ 1000 ∧ (x.Kind = 3 → 0 ≤ x.Fact)) : m_impl_used p (m : Int) = some (rngB (usedB p) m) := by
  unfold m_impl_used
  rw [makeI_some (by omega), Option.bind_some]
  obtain ⟨t, h1, h2⟩ := forL_inv (step := m_impl_used_L0 (m : Int)) (fin := fun s0 => s0) (xs := p) (fun n s => s = rngB (usedB (p.take n)) m) (fun t => t = rngB (usedB p) m)
    (fun n x s hx hs => by
      subst hs
      obtain ⟨hl, hk⟩ := h x (List.mem_of_getElem? hx)
      have nxt : ∀ b : Nat → Bool, (∀ i, i < m → b i = (usedB (p.take n) i || (decide (x.Kind = 3) && decide (x.Fact = (i : Int))))) → m_impl_used_J0 (m : Int) x (rngB b m) = some (.next (rngB (usedB (p.take (n + 1))) m)) := by
        intro b hb
        unfold m_impl_used_J0
        rw [used_inner m x.Multipliers 0 b (by omega), Option.bind_some]
        unfold m_impl_used_A1
        rw [rngB_congr (c := usedB (p.take (n + 1))) (fun i hi => by
          rw [hb i hi, List.take_add_one, hx]
          unfold usedB usedN
          rw [List.any_append, Bool.or_assoc]
          congr 1
          simp)]
      refine .inl ⟨_, ?_, rfl⟩
      unfold m_impl_used_L0
      by_cases h3 : x.Kind = 3
      · have hf := hk h3
        obtain ⟨f, hf2⟩ := Int.eq_ofNat_of_zero_le hf
        by_cases hlt : f < m
        · rw [decide_eq_true h3, hf2, decide_eq_true (show (f : Int) < (m : Int) by omega), Bool.and_self, cond_true, getI_some (rngB_get hlt), Option.bind_some, Int.toNat_natCast, rngB_set]
          refine nxt _ (fun i _ => ?_)
          rw [decide_eq_true h3, hf2]
          by_cases e : i = f
          · subst e; simp
          · rw [if_neg e, decide_eq_false (show ¬ (f : Int) = (i : Int) by omega)]; simp
        · rw [decide_eq_true h3, hf2, decide_eq_false (show ¬ (f : Int) < (m : Int) by omega), Bool.and_false, cond_false]
          refine nxt _ (fun i hi => ?_)
          rw [decide_eq_true h3, hf2, decide_eq_false (show ¬ (f : Int) = (i : Int) by omega)]; simp
      · rw [decide_eq_false h3, Bool.false_and, cond_false]
        exact nxt _ (fun i _ => by rw [decide_eq_false h3]; simp))
    (fun s hs => by rw [hs, List.take_length])
    (s := List.replicate m false) (by
      unfold rngB usedB
      simp only [List.take_zero, List.any_nil]
      rw [List.map_const', List.length_range])
  rw [h1, h2]; rfl
def cnt (b : Nat → Bool) : Nat → Nat
  | 0 => 0
  | n + 1 => cnt b n + (if b n = true then 1 else 0)
def ix (b : Nat → Bool) : Nat → List Int
  | 0 => []
  | n + 1 => if b n = true then ix b n ++ [(n : Int)] else ix b n
theorem ix_len (b : Nat → Bool) : ∀ n, (ix b n).length = cnt b n := by
  intro n
  induction n with
  | zero => rfl
  | succ n ih => unfold ix cnt; split <;> simp [ih]
theorem cnt_le (b : Nat → Bool) : ∀ n, cnt b n ≤ n := by
  intro n
  induction n with
  | zero => exact Nat.le_refl _
  | succ n ih => unfold cnt; split <;> omega
theorem cnt_mono (b : Nat → Bool) {i : Nat} : ∀ {n : Nat}, i ≤ n → cnt b i ≤ cnt b n := by
  intro n
  induction n with
  | zero => intro h; obtain rfl : i = 0 := by omega
            exact Nat.le_refl _
  | succ n ih =>
    intro h
    by_cases e : i = n + 1
    · subst e; exact Nat.le_refl _
    · have := ih (by omega)
      show cnt b i ≤ cnt b n + (if b n = true then 1 else 0)
      split <;> omega
theorem cnt_lt (b : Nat → Bool) {i n : Nat} (h : i < n) (hb : b i = true) : cnt b i < cnt b n := by
  have := cnt_mono b (show i + 1 ≤ n by omega)
  have e : cnt b (i + 1) = cnt b i + (if b i = true then 1 else 0) := rfl
  rw [if_pos hb] at e
  omega
theorem cnt_onto (b : Nat → Bool) {j : Nat} : ∀ {n : Nat}, j < cnt b n → ∃ i, i < n ∧ b i = true ∧ cnt b i = j := by
  intro n
  induction n with
  | zero => intro h; exact absurd h (by unfold cnt; omega)
  | succ n ih =>
    intro h
    by_cases e : j < cnt b n
    · obtain ⟨i, h1, h2, h3⟩ := ih e; exact ⟨i, by omega, h2, h3⟩
    · unfold cnt at h
      split at h
      · rename_i hb; exact ⟨n, by omega, hb, by omega⟩
      · omega
theorem cnt_congr {b c : Nat → Bool} : ∀ n, (∀ i, i < n → b i = c i) → cnt b n = cnt c n := by
  intro n
  induction n with
  | zero => intro _; rfl
  | succ n ih => intro h; unfold cnt; rw [ih (fun i hi => h i (by omega)), h n (by omega)]
theorem cnt_all {b : Nat → Bool} : ∀ n, (∀ i, i < n → b i = true) → cnt b n = n := by
  intro n
  induction n with
  | zero => intro _; rfl
  | succ n ih => intro h; unfold cnt; rw [ih (fun i hi => h i (by omega)), if_pos (h n (by omega))]
theorem ix_mem (b : Nat → Bool) (i : Nat) : ∀ n, ((i : Int) ∈ ix b n) ↔ (i < n ∧ b i = true) := by
  intro n
  induction n with
  | zero => simp [ix]
  | succ n ih =>
    unfold ix
    split
    · rename_i hb
      rw [List.mem_append, ih, List.mem_singleton]
      constructor
      · rintro (⟨h1, h2⟩ | h)
        · exact ⟨by omega, h2⟩
        · obtain rfl : i = n := by omega
          exact ⟨by omega, hb⟩
      · rintro ⟨h1, h2⟩
        by_cases e : i = n
        · right; rw [e]
        · left; exact ⟨by omega, h2⟩
    · rename_i hb
      rw [ih]
      constructor
      · rintro ⟨h1, h2⟩; exact ⟨by omega, h2⟩
      · rintro ⟨h1, h2⟩
        have : i ≠ n := fun e => hb (e ▸ h2)
        exact ⟨by omega, h2⟩
theorem usedFacts_ok {s : Sequent} {p : List Node} (hc : m_impl_CheckProof s p = some true) (hl : s.Facts.length ≤ 100) (h : ∀ x ∈ p, x.Multipliers.length ≤ 1000 ∧ (x.Kind = 3 → 0 ≤ x.Fact)) : m_impl_UsedFacts s p = some (ix (usedB p) (s.Facts.length + 1), true) := by
  unfold m_impl_UsedFacts
  rw [hc, Option.bind_some, Bool.not_true, cond_false, w64_succ (by omega), impl_used (by omega) h, Option.bind_some]
  obtain ⟨t, h1, h2⟩ := forL_inv (step := m_impl_UsedFacts_L0) (fin := fun s0 => s0) (xs := rngB (usedB p) (s.Facts.length + 1)) (fun n s => s = ix (usedB p) n) (fun t => t = ix (usedB p) (s.Facts.length + 1))
    (fun n x st hx hs => by
      subst hs
      have hlt := get_lt hx
      rw [rngB_len] at hlt
      rw [rngB_get hlt] at hx
      have hx' := Option.some.inj hx
      have := ix_len (usedB p) n
      have := cnt_le (usedB p) n
      refine .inl ⟨ix (usedB p) (n + 1), ?_, rfl⟩
      rw [show ix (usedB p) (n + 1) = if usedB p n = true then ix (usedB p) n ++ [(n : Int)] else ix (usedB p) n from rfl]
      unfold m_impl_UsedFacts_L0
      rw [hx']
      cases x with
      | true => rw [cond_true, capI_some (by simp; omega), Option.bind_some, if_pos rfl]
      | false => rw [cond_false, if_neg (by simp)])
    (fun s hs => by rw [hs, rngB_len]) (s := []) rfl
  rw [h1, h2]; rfl
theorem has_ok (l : List Int) (hl : l.length ≤ 1000) (v : Int) : m_laws_r8Has l v = some (decide (v ∈ l)) := by
  have g := iter_for (step := m_laws_r8Has_L0 l v) l (fun n (_ : Unit) => (n : Int)) (fun _ x _ => bif !decide (x = v) then some (.next ()) else some (.out (.inr true))) (fun _ => .inl ())
    (fun n x r hx => by
      have hn := get_lt hx
      unfold m_laws_r8Has_L0
      rw [dec_lt hn, cond_true, getI_some hx, Option.bind_some, w64_succ (by omega)]
      cases decide (x = v) <;> rfl)
    (fun r => by unfold m_laws_r8Has_L0; rw [dec_self]; rfl) ()
  unfold m_laws_r8Has
  have g' : iter (m_laws_r8Has_L0 l v) (0 : Int) = _ := g
  rw [g', forL_all (f := .inr true) (fun x => !decide (x = v)) l 0 (fun _ _ _ => rfl), Option.bind_some]
  cases ha : l.all (fun x => !decide (x = v)) with
  | true =>
    rw [decide_eq_false (fun h => by have := List.all_eq_true.1 ha v h; simp at this)]; rfl
  | false =>
    have : v ∈ l := by
      have h1 := ha
      rw [List.all_eq_false] at h1
      obtain ⟨x, hx, h2⟩ := h1
      simp at h2
      exact h2 ▸ hx
    rw [decide_eq_true this]; rfl
def Inj (f : Int → Int) : Prop := ∀ i i' : Nat, 0 ≤ f (i : Int) → f (i : Int) = f (i' : Int) → i = i'
theorem mvGo_at {f : Int → Int} (hi : Inj f) {i j : Nat} (hf : f (i : Int) = (j : Int)) : ∀ (ms : List Int) (n : Nat) (acc : List Int), (∀ q : Nat, n ≤ q → q < n + ms.length → f (q : Int) < (acc.length : Int)) →
    coef (mvGo f n ms acc) j = if n ≤ i ∧ i < n + ms.length then coef ms (i - n) else coef acc j := by
  intro ms
  induction ms with
  | nil => intro n acc _; rw [if_neg (by simp only [List.length_nil]; omega)]; rfl
  | cons x r ih =>
    intro n acc hb
    have hn := hb n (Nat.le_refl _) (by simp)
    unfold mvGo
    rw [ih (n + 1) _ (fun q h1 h2 => by
      have := hb q (by omega) (by simp only [List.length_cons]; omega)
      split
      · rw [List.length_set]; exact this
      · exact this)]
    simp only [List.length_cons]
    by_cases e : i = n
    · subst e
      rw [if_neg (by omega), if_pos (by omega), hf, if_pos (by omega), Int.toNat_natCast, Nat.sub_self, coef_set (by omega), if_pos rfl]; rfl
    · by_cases h2 : n + 1 ≤ i ∧ i < n + 1 + r.length
      · rw [if_pos h2, if_pos (by omega), show i - n = (i - (n + 1)) + 1 by omega]; rfl
      · rw [if_neg h2, if_neg (show ¬ (n ≤ i ∧ i < n + (r.length + 1)) by omega)]
        by_cases h0 : 0 ≤ f (n : Int)
        · rw [if_pos h0]
          obtain ⟨j2, hj2⟩ := Int.eq_ofNat_of_zero_le h0
          rw [hj2] at hn ⊢
          rw [Int.toNat_natCast, coef_set (by omega), if_neg (fun e2 => e (hi i n (by omega) (by omega)))]
        · rw [if_neg h0]
theorem mvGo_none {f : Int → Int} {j : Nat} (hf : ∀ i : Nat, f (i : Int) ≠ (j : Int)) : ∀ (ms : List Int) (n : Nat) (acc : List Int), (∀ q : Nat, n ≤ q → q < n + ms.length → f (q : Int) < (acc.length : Int)) → coef (mvGo f n ms acc) j = coef acc j := by
  intro ms
  induction ms with
  | nil => intro n acc _; rfl
  | cons x r ih =>
    intro n acc hb
    have hn := hb n (Nat.le_refl _) (by simp)
    unfold mvGo
    rw [ih (n + 1) _ (fun q h1 h2 => by
      have := hb q (by omega) (by simp only [List.length_cons]; omega)
      split
      · rw [List.length_set]; exact this
      · exact this)]
    by_cases h0 : 0 ≤ f (n : Int)
    · rw [if_pos h0]
      obtain ⟨j2, hj2⟩ := Int.eq_ofNat_of_zero_le h0
      rw [hj2] at hn ⊢
      rw [Int.toNat_natCast, coef_set (by omega), if_neg (fun e2 => hf n (by omega))]
    · rw [if_neg h0]
def Nd (x : Node) : Prop := (ar x).isSome = true
theorem Nd.cases {x : Node} (h : Nd x) : (x.Kind = 1 ∧ x.Multipliers.length ≤ 20) ∨ (x.Kind = 2 ∧ x.Multipliers = []) ∨ (x.Kind = 3 ∧ x.Multipliers = [] ∧ 0 ≤ x.Fact) := by
  obtain ⟨a, ha⟩ := Option.isSome_iff_exists.1 h
  have hs := ar_small ha
  rcases ar_cases ha with ⟨h1, _⟩ | ⟨h1, _, _⟩ | ⟨h1, _, h2, _⟩
  · exact .inl ⟨h1, hs.2⟩
  · refine .inr (.inl ⟨h1, ?_⟩)
    unfold ar at ha
    rw [decide_eq_false (show ¬ x.Kind = 1 by omega), cond_false, decide_eq_true h1, cond_true] at ha
    revert ha
    cases hm : decide (x.Multipliers.length = 0) with
    | true => intro _; exact List.eq_nil_of_length_eq_zero (of_decide_eq_true hm)
    | false => rw [Bool.and_false, Bool.false_and]; intro ha; cases ha
  · refine .inr (.inr ⟨h1, ?_, h2⟩)
    unfold ar at ha
    rw [decide_eq_false (show ¬ x.Kind = 1 by omega), cond_false, decide_eq_false (show ¬ x.Kind = 2 by omega), cond_false, decide_eq_true h1, cond_true] at ha
    revert ha
    cases hm : decide (x.Multipliers.length = 0) with
    | true => intro _; exact List.eq_nil_of_length_eq_zero (of_decide_eq_true hm)
    | false => rw [Bool.and_false]; intro ha; cases ha
theorem usedN_move {f : Int → Int} {dl : Int} (hi : Inj f) {x : Node} (hn : Nd x) (hm : mvOK f dl x) {i j : Nat} (hf : f (i : Int) = (j : Int)) : usedN (mvN f dl x) j = usedN x i := by
  unfold usedN mvN
  rcases hn.cases with ⟨hk, _⟩ | ⟨hk, hms⟩ | ⟨hk, hms, h0⟩
  · obtain ⟨_, l2, l3⟩ := hm.2 hk
    rw [if_neg (by omega), if_pos hk]
    simp only
    rw [decide_eq_false (show ¬ x.Kind = 3 by omega), Bool.false_and, Bool.false_and, Bool.false_or, Bool.false_or, mvGo_at hi hf _ 0 _ (fun q _ hq => by
      have := l3 q (by omega)
      rw [List.length_replicate]; omega), Nat.sub_zero]
    by_cases h : i < x.Multipliers.length
    · rw [if_pos ⟨Nat.zero_le _, by omega⟩]
    · rw [if_neg (by omega), coef_rep, coef_no (by omega)]
  · rw [if_neg (by omega), if_neg (by omega), hms, decide_eq_false (show ¬ x.Kind = 3 by omega)]; rfl
  · rw [if_pos hk]
    simp only
    rw [hms, show coef [] j = 0 from rfl, show coef [] i = 0 from rfl]
    obtain ⟨q, hq⟩ := Int.eq_ofNat_of_zero_le h0
    rw [hq]
    by_cases e : q = i
    · subst e; rw [hf]; simp
    · rw [decide_eq_false (show ¬ f (q : Int) = (j : Int) from fun h => e (hi q i (by omega) (by omega))), decide_eq_false (show ¬ (q : Int) = (i : Int) by omega)]
theorem usedN_none {f : Int → Int} {dl : Int} {x : Node} (hn : Nd x) (hm : mvOK f dl x) {j : Nat} (hf : ∀ i : Nat, f (i : Int) ≠ (j : Int)) : usedN (mvN f dl x) j = false := by
  unfold usedN mvN
  rcases hn.cases with ⟨hk, _⟩ | ⟨hk, hms⟩ | ⟨hk, hms, h0⟩
  · obtain ⟨_, l2, l3⟩ := hm.2 hk
    rw [if_neg (by omega), if_pos hk]
    simp only
    rw [decide_eq_false (show ¬ x.Kind = 3 by omega), Bool.false_and, Bool.false_or, mvGo_none hf _ 0 _ (fun q _ hq => by
      have := l3 q (by omega)
      rw [List.length_replicate]; omega), coef_rep]; rfl
  · rw [if_neg (by omega), if_neg (by omega), hms, decide_eq_false (show ¬ x.Kind = 3 by omega)]; rfl
  · rw [if_pos hk]
    simp only
    rw [hms, show coef [] j = 0 from rfl]
    obtain ⟨q, hq⟩ := Int.eq_ofNat_of_zero_le h0
    rw [hq, decide_eq_false (hf q)]; simp
theorem any_map_congr {α : Type} {f : α → α} {P Q : α → Bool} : ∀ (l : List α), (∀ x ∈ l, P (f x) = Q x) → (l.map f).any P = l.any Q
  | [], _ => rfl
  | x :: r, h => by rw [List.map_cons, List.any_cons, List.any_cons, h x (by simp), any_map_congr r (fun y hy => h y (List.mem_cons_of_mem _ hy))]
theorem usedB_move {f : Int → Int} {dl : Int} (hi : Inj f) {p : List Node} (hn : ∀ x ∈ p, Nd x) (hm : ∀ x ∈ p, mvOK f dl x) {i j : Nat} (hf : f (i : Int) = (j : Int)) : usedB (p.map (mvN f dl)) j = usedB p i :=
  any_map_congr p (fun x hx => usedN_move hi (hn x hx) (hm x hx) hf)
theorem usedB_none {f : Int → Int} {dl : Int} {p : List Node} (hn : ∀ x ∈ p, Nd x) (hm : ∀ x ∈ p, mvOK f dl x) {j : Nat} (hf : ∀ i : Nat, f (i : Int) ≠ (j : Int)) : usedB (p.map (mvN f dl)) j = false := by
  unfold usedB
  rw [any_map_congr (Q := fun _ => false) p (fun x hx => usedN_none (hn x hx) (hm x hx) hf)]
  simp
def keepT (b : Nat → Bool) (ts : List Term) : Nat → List Term
  | 0 => []
  | n + 1 => if b n = true then keepT b ts n ++ [tAt ts n] else keepT b ts n
theorem keepT_len (b : Nat → Bool) (ts : List Term) : ∀ n, (keepT b ts n).length = cnt b n := by
  intro n
  induction n with
  | zero => rfl
  | succ n ih => unfold keepT cnt; split <;> simp [ih]
theorem keepT_get (b : Nat → Bool) (ts : List Term) {i : Nat} (hb : b i = true) : ∀ n, i < n → (keepT b ts n)[cnt b i]? = some (tAt ts i) := by
  intro n
  induction n with
  | zero => intro h; omega
  | succ n ih =>
    intro h
    unfold keepT
    by_cases e : i = n
    · subst e
      rw [if_pos hb, List.getElem?_append_right (by rw [keepT_len]; exact Nat.le_refl _), keepT_len, Nat.sub_self]; rfl
    · have h2 := ih (by omega)
      split
      · rw [List.getElem?_append_left (get_lt h2)]; exact h2
      · exact h2
theorem keepT_mem (b : Nat → Bool) (ts : List Term) : ∀ n, n ≤ ts.length → ∀ t ∈ keepT b ts n, t ∈ ts := by
  intro n
  induction n with
  | zero => intro _ t h; cases h
  | succ n ih =>
    intro hn t h
    unfold keepT at h
    split at h
    · rcases List.mem_append.1 h with h | h
      · exact ih (by omega) t h
      · rw [List.mem_singleton.1 h]
        unfold tAt
        rw [List.getElem?_eq_getElem (show n < ts.length by omega)]
        exact List.getElem_mem _
    · exact ih (by omega) t h
def plc (b : Nat → Bool) (i : Nat) : Int := if b i = true then (cnt b i : Int) else -1
def plcs (b : Nat → Bool) (n : Nat) : List Int := (List.range n).map (plc b)
theorem plcs_get {b : Nat → Bool} {n i : Nat} (h : i < n) : (plcs b n)[i]? = some (plc b i) := by simp [plcs, h]
def dropF (b : Nat → Bool) (n : Nat) (i : Int) : Int := if i < (n : Int) then plc b i.toNat else i - ((n : Int) - (cnt b n : Int))
theorem dropF_inj (b : Nat → Bool) (n : Nat) : Inj (dropF b n) := fun i i' h0 he => by
  unfold dropF at h0 he
  have hc := cnt_le b n
  simp only [Int.toNat_natCast] at h0 he
  unfold plc at h0 he
  by_cases h1 : i < n
  · rw [if_pos (by omega)] at h0 he
    by_cases hb : b i = true
    · rw [if_pos hb] at he
      have l1 := cnt_lt b h1 hb
      by_cases h2 : i' < n
      · rw [if_pos (by omega)] at he
        by_cases hb' : b i' = true
        · rw [if_pos hb'] at he
          by_cases g1 : i < i'
          · have := cnt_lt b g1 hb; omega
          · by_cases g2 : i' < i
            · have := cnt_lt b g2 hb'; omega
            · omega
        · rw [if_neg hb'] at he; omega
      · rw [if_neg (by omega)] at he; omega
    · rw [if_neg hb] at h0; omega
  · rw [if_neg (by omega)] at h0 he
    by_cases h2 : i' < n
    · rw [if_pos (by omega)] at he
      by_cases hb' : b i' = true
      · rw [if_pos hb'] at he
        have := cnt_lt b h2 hb'; omega
      · rw [if_neg hb'] at he; omega
    · rw [if_neg (by omega)] at he; omega
theorem rel_drop (b : Nat → Bool) (ts : List Term) (a : Term) : Rel (dropF b ts.length) ((cnt b ts.length : Int) - (ts.length : Int)) (ts ++ [a]) (keepT b ts ts.length ++ [a]) where
  len := by rw [List.length_append, List.length_append, keepT_len]; simp; omega
  at_ := fun i hi => by
    rw [List.length_append, List.length_singleton] at hi
    unfold dropF
    by_cases e : i < ts.length
    · rw [if_pos (by omega), Int.toNat_natCast]
      unfold plc
      by_cases hb : b i = true
      · right
        have hg := keepT_get b ts hb ts.length e
        have hl := get_lt hg
        refine ⟨cnt b i, by rw [if_pos hb], by rw [List.length_append]; omega, ?_⟩
        rw [List.getElem?_append_left hl, hg, List.getElem?_append_left e]
        unfold tAt
        rw [List.getElem?_eq_getElem e]; rfl
      · left; rw [if_neg hb]; omega
    · obtain rfl : i = ts.length := by omega
      right
      refine ⟨cnt b ts.length, by rw [if_neg (by omega)]; omega, by rw [List.length_append, keepT_len]; simp, ?_⟩
      rw [List.getElem?_append_right (by rw [keepT_len]; exact Nat.le_refl _), List.getElem?_append_right (Nat.le_refl _), keepT_len, Nat.sub_self, Nat.sub_self]
  inj := fun i i' _ _ h0 he => dropF_inj b ts.length i i' h0 he
  far := fun i hi => by
    rw [List.length_append, List.length_singleton] at hi
    unfold dropF
    rw [if_neg (by omega)]; omega
theorem shiftF_inj (n : Nat) (k : Nat) : Inj (shiftF n (k : Int)) := fun i i' _ he => by
  unfold shiftF at he
  repeat' split at he
  all_goals omega
end Go.Mod

namespace Go.Mod
open Go.AM
set_option linter.unusedVariables false
set_option linter.unusedSimpArgs false
theorem nd_cond {p : List Node} (h : ∀ x ∈ p, Nd x) : ∀ x ∈ p, x.Multipliers.length ≤ 1000 ∧ (x.Kind = 3 → 0 ≤ x.Fact) := fun x hx => by
  rcases (h x hx).cases with ⟨h1, h2⟩ | ⟨h1, h2⟩ | ⟨h1, h2, h3⟩
  · exact ⟨by omega, fun h => by omega⟩
  · exact ⟨by rw [h2]; simp, fun h => by omega⟩
  · exact ⟨by rw [h2]; simp, fun _ => h3⟩
theorem drop_moved (p : List Node) (v1 v3 : Int) (v2 : List Int) : m_impl_movedNodes_fDropUnused_1_DropUnused_2 p v1 v2 v3 = gMoved (fun i => m_impl_DropUnused_1 i v1) (fun i => m_impl_DropUnused_2 i v2 v3) p := rfl
theorem lift_moved (p : List Node) (v1 v2 v3 : Int) : m_impl_movedNodes_fLiftProof_1_LiftProof_2 p v1 v2 v3 = gMoved (fun i => m_impl_LiftProof_1 i v1) (fun i => m_impl_LiftProof_2 i v2 v3) p := rfl
theorem w64_d {x k : Int} (h0 : 0 ≤ x) (h1 : x ≤ 1000) (h2 : 0 ≤ k) (h3 : k ≤ 1000) : w64 (x - k) = x - k := w64_eq ⟨by omega, by omega⟩
theorem drop_s {b : Nat → Bool} {n : Nat} (hn : n ≤ 100) (i : Int) (h0 : 0 ≤ i) (h1 : i ≤ 1000) : m_impl_DropUnused_2 i (plcs b n) ((n : Int) - (cnt b n : Int)) = some (dropF b n i) := by
  have hc := cnt_le b n
  have w := w64_d (x := i) (k := (n : Int) - (cnt b n : Int)) h0 h1 (by omega) (by omega)
  unfold m_impl_DropUnused_2 dropF
  rw [w]
  clear w
  obtain ⟨q, rfl⟩ := Int.eq_ofNat_of_zero_le h0
  by_cases h : q < n
  · rw [decide_eq_true (show (q : Int) < ((plcs b n).length : Int) by simp [plcs]; omega), if_pos (by omega), cond_true, getI_some (plcs_get h), Int.toNat_natCast]; rfl
  · rw [decide_eq_false (show ¬ (q : Int) < ((plcs b n).length : Int) by simp [plcs]; omega), if_neg (by omega)]; rfl
theorem dropUnused_ok {s : Sequent} {p : List Node} {d : List (List Term)} (hd : Drawn s p d) (hc : m_impl_CheckProof s p = some true) :
    m_impl_DropUnused s p = some (Sequent.mk (keepT (usedB p) s.Facts s.Facts.length) s.Goal, p.map (mvN (dropF (usedB p) s.Facts.length) ((cnt (usedB p) s.Facts.length : Int) - (s.Facts.length : Int))), true) := by
  have hN : ∀ x ∈ p, Nd x := hd.acc.valid
  have h5 := hd.len
  have hf3 := hd.facts
  have hcl := cnt_le (usedB p) s.Facts.length
  have c0 : (fCtx s).1 = s.Facts ++ [opp s.Goal] := (ctx_lin hd.ctx).2.1
  have a2 : Acc (s.Facts ++ [opp s.Goal]) p d := by have := hd.acc; rw [c0] at this; exact this
  have hr := rel_drop (usedB p) s.Facts (opp s.Goal)
  unfold m_impl_DropUnused
  rw [hc, Option.bind_some, Bool.not_true, cond_false, impl_own (by have := vT_len hd.gv; omega), Option.bind_some, impl_used (by omega) (nd_cond hN), Option.bind_some]
  obtain ⟨t, h1, h2⟩ := forL_inv (step := m_impl_DropUnused_L0 s) (fin := fun s0 => (s0.1, s0.2)) (xs := rngB (usedB p) s.Facts.length) (fun n st => st = (keepT (usedB p) s.Facts n, plcs (usedB p) n)) (fun t => t = (keepT (usedB p) s.Facts s.Facts.length, plcs (usedB p) s.Facts.length))
    (fun n x st hx hs => by
      subst hs
      have hlt := get_lt hx
      rw [rngB_len] at hlt
      rw [rngB_get hlt] at hx
      have hx' := Option.some.inj hx
      have l1 := keepT_len (usedB p) s.Facts n
      have l2 := cnt_le (usedB p) n
      have l3 : (plcs (usedB p) n).length = n := by simp [plcs]
      have e2 : plcs (usedB p) (n + 1) = plcs (usedB p) n ++ [plc (usedB p) n] := range_snoc _ n
      have ht : s.Facts[n]? = some s.Facts[n] := List.getElem?_eq_getElem hlt
      have hta : tAt s.Facts n = s.Facts[n] := by unfold tAt; rw [ht]; rfl
      have hv := (hd.fdt _ (List.getElem_mem hlt)).v
      refine .inl ⟨(keepT (usedB p) s.Facts (n + 1), plcs (usedB p) (n + 1)), ?_, rfl⟩
      rw [e2, show keepT (usedB p) s.Facts (n + 1) = if usedB p n = true then keepT (usedB p) s.Facts n ++ [tAt s.Facts n] else keepT (usedB p) s.Facts n from rfl]
      unfold m_impl_DropUnused_L0 plc
      simp only
      rw [hx']
      cases x with
      | true =>
        rw [cond_true, if_pos rfl, if_pos rfl, getI_some ht, Option.bind_some, impl_own (by have := vT_len hv; omega), Option.bind_some, capI_some (by simp; omega), Option.bind_some, capI_some (by simp; omega), Option.bind_some, hta, l1]
      | false =>
        rw [cond_false, if_neg (by simp), if_neg (by simp), capI_some (by simp; omega), Option.bind_some])
    (fun s hs => by rw [hs, rngB_len]) (s := (([] : List Term), ([] : List Int))) rfl
  rw [h1, h2, Option.bind_some]
  unfold m_impl_DropUnused_A0
  simp only
  rw [keepT_len]
  have w := w64_d (x := (s.Facts.length : Int)) (k := (cnt (usedB p) s.Facts.length : Int)) (by omega) (by omega) (by omega) (by omega)
  rw [w]
  clear w
  rw [drop_moved, moved_ok (f := dropF (usedB p) s.Facts.length) (dl := (cnt (usedB p) s.Facts.length : Int) - (s.Facts.length : Int)) (fun i h0 h1 => drop_s (by omega) i h0 h1) (fun i h0 h1 => by
    show some (w64 (i - ((s.Facts.length : Int) - (cnt (usedB p) s.Facts.length : Int)))) = _
    have w := w64_d (x := i) (k := (s.Facts.length : Int) - (cnt (usedB p) s.Facts.length : Int)) h0 h1 (by omega) (by omega)
    rw [w]
    clear w
    congr 1; omega) (by omega) (by omega) (a2.psmall (by omega)) (a2.mvOK _ hr (by rw [List.length_append, keepT_len]; simp; omega))]; rfl
theorem r8Term_ok {code : List Int} (hc : ∀ x ∈ code, 0 ≤ x ∧ x ≤ 255) (hl : code.length ≤ 1048576) : ∃ t, m_spec_R8Term code = some t ∧ DT t := by
  obtain ⟨e0, hs0⟩ := from_ok hc hl
  obtain ⟨t, s1, e1, ht, _⟩ := drawTerm_ok hs0 (by omega)
  exact ⟨t, by unfold m_spec_R8Term; rw [e0, Option.bind_some, e1]; rfl, ht⟩
theorem law_Unused {a b : List Int} (ka : kLa_u8 a) (kb : kLa_u8 b) : m_laws_FnUnused a b = some true := by
  unfold m_laws_FnUnused
  rcases long_cases a b with h | ⟨h, la, lb⟩
  · rw [h]; rfl
  obtain ⟨s, p, d, e1, hd⟩ := r8Proved_ok (bytes ka) (by omega)
  obtain ⟨t1, e2, ht1⟩ := r8Term_ok (bytes kb) (by omega)
  obtain ⟨t2, e3, ht2⟩ := r8Term_ok (bytes ka) (by omega)
  rw [h, Option.bind_some, cond_false, e1, Option.bind_some]
  clear h e1
  simp only
  have hN : ∀ x ∈ p, Nd x := hd.acc.valid
  have h5 := hd.len
  have hf3 := hd.facts
  have hgc := hd.gc
  have hfv : ∀ t ∈ s.Facts, vT t = true := fun t ht => (hd.fdt t ht).v
  have goo : vT (opp s.Goal) = true := mkT_valid (f := fun i => -coef s.Goal.Coeffs i) (by omega) (fun i hi => by have := hd.gf i; omega)
  have told := hd.acc.told hd.ctx (by omega) hd.small
  have hcl := cnt_le (usedB p) s.Facts.length
  have c0 : (fCtx s).1 = s.Facts ++ [opp s.Goal] := (ctx_lin hd.ctx).2.1
  have a2 : Acc (s.Facts ++ [opp s.Goal]) p d := by have := hd.acc; rw [c0] at this; exact this
  have hr := rel_drop (usedB p) s.Facts (opp s.Goal)
  -- without what is not used
  obtain ⟨S1, hS1⟩ : ∃ S, S = Sequent.mk (keepT (usedB p) s.Facts s.Facts.length) s.Goal := ⟨_, rfl⟩
  obtain ⟨p1, hp1⟩ : ∃ q, q = p.map (mvN (dropF (usedB p) s.Facts.length) ((cnt (usedB p) s.Facts.length : Int) - (s.Facts.length : Int))) := ⟨_, rfl⟩
  have f1 : S1.Facts.length = cnt (usedB p) s.Facts.length := by rw [hS1]; exact keepT_len _ _ _
  have l1 : p1.length = p.length := by rw [hp1, List.length_map]
  have v1 : ∀ t ∈ keepT (usedB p) s.Facts s.Facts.length, vT t = true := fun t ht => hfv t (keepT_mem _ _ _ (Nat.le_refl _) t ht)
  have cx1 : fCtx S1 = (keepT (usedB p) s.Facts s.Facts.length ++ [opp s.Goal], true) := by rw [hS1]; exact ctx_of v1 (by simp only; rw [keepT_len]; omega) hd.gv goo
  have sm1 : cSeq S1 ≤ 1048576 := by rw [hS1]; exact seq_small v1 (by simp only; rw [keepT_len]; omega) hd.gv
  have mv1 := a2.mvOK _ hr (by rw [List.length_append, keepT_len]; simp; omega)
  have us1 : ∀ x ∈ p, Used (dropF (usedB p) s.Facts.length) x := fun x hx => by
    have ub : ∀ i, usedN x i = true → usedB p i = true := fun i hi => List.any_eq_true.2 ⟨x, hx, hi⟩
    refine ⟨fun hk => ?_, fun hk i hi => ?_⟩
    · obtain ⟨q, hq⟩ := Int.eq_ofNat_of_zero_le (hd.acc.fact x hx hk).1
      have hu := ub q (by unfold usedN; rw [decide_eq_true hk, decide_eq_true hq]; rfl)
      rw [hq]
      unfold dropF
      by_cases hlt : q < s.Facts.length
      · rw [if_pos (by omega), Int.toNat_natCast]; unfold plc; rw [if_pos hu]; omega
      · rw [if_neg (by omega)]; omega
    · by_cases e : coef x.Multipliers i = 0
      · exact e
      · exfalso
        have hu := ub i (by unfold usedN; rw [decide_eq_false e]; simp)
        unfold dropF at hi
        by_cases hlt : i < s.Facts.length
        · rw [if_pos (by omega), Int.toNat_natCast] at hi; unfold plc at hi; rw [if_pos hu] at hi; omega
        · rw [if_neg (by omega)] at hi; omega
  obtain ⟨d1, ac1⟩ := a2.move _ hr (by have := ctx_goodC (s := S1) (by rw [cx1]); rw [cx1] at this; exact this) (by rw [List.length_append, keepT_len]; simp; omega) us1
  rw [← hp1] at ac1
  have told1 := Acc.told (s := S1) (by rw [cx1]) (by rw [cx1]; exact ac1) (by omega) sm1
  have hN1 : ∀ x ∈ p1, Nd x := ac1.valid
  -- with more facts
  obtain ⟨S2, hS2⟩ : ∃ S, S = Sequent.mk (s.Facts ++ [t1, t2]) s.Goal := ⟨_, rfl⟩
  obtain ⟨p2, hp2⟩ : ∃ q, q = p.map (mvN (shiftF s.Facts.length 2) 2) := ⟨_, rfl⟩
  have f2 : S2.Facts.length = s.Facts.length + 2 := by rw [hS2]; simp
  have l2 : p2.length = p.length := by rw [hp2, List.length_map]
  have v2 : ∀ t ∈ s.Facts ++ [t1, t2], vT t = true := fun t ht => by
    rcases List.mem_append.1 ht with ht | ht
    · exact hfv t ht
    · simp only [List.mem_cons, List.not_mem_nil, or_false] at ht
      rcases ht with rfl | rfl
      · exact ht1.v
      · exact ht2.v
  have cx2 : fCtx S2 = ((s.Facts ++ [t1, t2]) ++ [opp s.Goal], true) := by rw [hS2]; exact ctx_of v2 (by simp; omega) hd.gv goo
  have sm2 : cSeq S2 ≤ 1048576 := by rw [hS2]; exact seq_small v2 (by simp; omega) hd.gv
  have hr2 := rel_shift s.Facts [t1, t2] (opp s.Goal)
  have mv2 := a2.mvOK _ hr2 (by simp; omega)
  have gd2 : GoodC (s.Facts ++ ([t1, t2] ++ [opp s.Goal])) := by have := ctx_goodC (s := S2) (by rw [cx2]); rw [cx2] at this; simpa using this
  obtain ⟨d2, ac2⟩ := a2.move _ hr2 gd2 (by simp; omega) (used_pos (shiftF_pos _ _ (by simp)) a2)
  rw [show (([t1, t2] : List Term).length : Int) = 2 from rfl, ← hp2] at ac2
  rw [show (([t1, t2] : List Term).length : Int) = 2 from rfl] at mv2
  have told2 := Acc.told (s := S2) (by rw [cx2]) (by rw [cx2]; simpa using ac2) (by omega) sm2
  have hN2 : ∀ x ∈ p2, Nd x := ac2.valid
  have hlift : m_impl_LiftProof s p [t1, t2] = some (S2, p2, true) := by
    unfold m_impl_LiftProof
    rw [told.check, Option.bind_some]
    simp only [Bool.not_true, Bool.false_or]
    rw [show decide ((14 : Int) < (([t1, t2] : List Term).length : Int)) = false from rfl, cond_false, impl_ownTerms (good_small ⟨hfv, by omega⟩), Option.bind_some, impl_ownTerms (good_small ⟨fun t ht => v2 t (List.mem_append_right _ ht), by simp⟩), Option.bind_some,
      capI_some (by simp; omega), Option.bind_some, impl_own (by have := vT_len hd.gv; omega), Option.bind_some]
    unfold m_impl_LiftProof_J0
    simp only
    rw [lift_moved, moved_ok (f := shiftF s.Facts.length 2) (dl := 2) (fun i h0 h1 => by
      show m_impl_LiftProof_2 i (s.Facts.length : Int) 2 = _
      unfold m_impl_LiftProof_2 shiftF
      have w := w64_s (x := i) (k := 2) h0 h1 (by omega) (by omega)
      rw [w]
      clear w
      by_cases e : i < (s.Facts.length : Int)
      · rw [decide_eq_true e, if_pos e]; rfl
      · rw [decide_eq_false e, if_neg e]; rfl) (fun i h0 h1 => by
      show some (w64 (i + 2)) = some (i + 2)
      rw [w64_s h0 h1 (by omega) (by omega)]) (by omega) (by omega) (a2.psmall (by omega)) mv2, Option.bind_some, ← hp2]
    unfold m_impl_accepted
    rw [show Sequent.mk (s.Facts ++ [t1, t2]) (Term.mk s.Goal.Const s.Goal.Coeffs) = S2 from hS2.symm, told2.check]; rfl
  -- the uses
  have hU := usedFacts_ok told.check (by omega) (nd_cond hN)
  have hU1 := usedFacts_ok told1.check (by omega) (nd_cond hN1)
  have hU2 := usedFacts_ok told2.check (by omega) (nd_cond hN2)
  rw [hU, Option.bind_some, dropUnused_ok hd told.check, ← hS1, ← hp1, Option.bind_some]
  simp only
  rw [hU1, Option.bind_some, e2, Option.bind_some, e3, Option.bind_some, hlift, Option.bind_some]
  simp only
  rw [hU2, Option.bind_some]
  simp only [Bool.not_true, Bool.or_self, cond_false]
  rw [told1.check, Option.bind_some, Bool.not_true, cond_false, told2.check, Option.bind_some]
  have w := w64_s (x := (s.Facts.length : Int)) (k := 2) (by omega) (by omega) (by omega) (by omega)
  rw [w, f2, l1, l2, decide_eq_true (show ((s.Facts.length + 2 : Nat) : Int) = (s.Facts.length : Int) + 2 by omega), decide_eq_true (p := (p.length : Int) = (p.length : Int)) rfl]
  clear w
  simp only [Bool.not_true, Bool.or_self, cond_false]
  -- how many
  have hcount : iter (m_laws_FnUnused_L0 (s, p) (ix (usedB p) (s.Facts.length + 1), true)) ((0 : Int), (0 : Int)) = some ((cnt (usedB p) s.Facts.length : Nat) : Int) := by
    have key : ∀ (m k : Nat), k + m = s.Facts.length → iter (m_laws_FnUnused_L0 (s, p) (ix (usedB p) (s.Facts.length + 1), true)) ((cnt (usedB p) k : Int), (k : Int)) = some ((cnt (usedB p) s.Facts.length : Nat) : Int) := by
      intro m
      induction m with
      | zero =>
        intro k hk
        obtain rfl : k = s.Facts.length := by omega
        refine iter_out ?_
        unfold m_laws_FnUnused_L0
        simp only
        rw [dec_self]; rfl
      | succ m ih =>
        intro k hk
        have hlen := ix_len (usedB p) (s.Facts.length + 1)
        have hle := cnt_le (usedB p) (s.Facts.length + 1)
        have hck := cnt_le (usedB p) k
        have w1 : w64 ((cnt (usedB p) k : Int) + 1) = ((cnt (usedB p) k + 1 : Nat) : Int) := w64_succ (by omega)
        have w2 : w64 ((k : Int) + 1) = ((k + 1 : Nat) : Int) := w64_succ (by clear w1; omega)
        have st : m_laws_FnUnused_L0 (s, p) (ix (usedB p) (s.Facts.length + 1), true) ((cnt (usedB p) k : Int), (k : Int)) = some (.next (((cnt (usedB p) (k + 1) : Nat) : Int), ((k + 1 : Nat) : Int))) := by
          unfold m_laws_FnUnused_L0
          simp only
          rw [w1, w2]
          clear w1 w2
          rw [dec_lt (show k < s.Facts.length by omega), cond_true, has_ok _ (by omega), Option.bind_some, show cnt (usedB p) (k + 1) = cnt (usedB p) k + (if usedB p k = true then 1 else 0) from rfl]
          cases hb : usedB p k with
          | true => rw [decide_eq_true ((ix_mem _ _ _).2 ⟨by omega, hb⟩)]; rfl
          | false => rw [decide_eq_false (fun h => by have := ((ix_mem _ _ _).1 h).2; rw [hb] at this; cases this)]; rfl
        clear w1 w2
        rw [iter_next st]
        exact ih (k + 1) (by omega)
    exact key s.Facts.length 0 (by omega)
  rw [hcount, Option.bind_some]
  unfold m_laws_FnUnused_A0
  simp only
  have hi1 := dropF_inj (usedB p) s.Facts.length
  have low : ∀ j, j < cnt (usedB p) s.Facts.length → usedB p1 j = true := fun j hj => by
    obtain ⟨i, g1, g2, g3⟩ := cnt_onto (usedB p) hj
    rw [hp1, usedB_move hi1 hN mv1 (i := i) (by unfold dropF; rw [if_pos (by omega), Int.toNat_natCast]; unfold plc; rw [if_pos g2, g3])]
    exact g2
  have top1 : usedB p1 (cnt (usedB p) s.Facts.length) = usedB p s.Facts.length := by
    rw [hp1, usedB_move hi1 hN mv1 (i := s.Facts.length) (by unfold dropF; rw [if_neg (by omega)]; omega)]
  have k1 : cnt (usedB p1) (cnt (usedB p) s.Facts.length + 1) = cnt (usedB p) (s.Facts.length + 1) := by
    rw [show cnt (usedB p1) (cnt (usedB p) s.Facts.length + 1) = cnt (usedB p1) (cnt (usedB p) s.Facts.length) + (if usedB p1 (cnt (usedB p) s.Facts.length) = true then 1 else 0) from rfl, cnt_all _ low, top1]; rfl
  have hi2 : Inj (shiftF s.Facts.length 2) := shiftF_inj s.Facts.length 2
  have b2 : ∀ i, i < s.Facts.length → usedB p2 i = usedB p i := fun i hi => by
    rw [hp2, usedB_move hi2 hN mv2 (i := i) (by unfold shiftF; rw [if_pos (by omega)])]
  have b3 : usedB p2 s.Facts.length = false := by
    rw [hp2]
    refine usedB_none hN mv2 (fun i h => ?_)
    unfold shiftF at h
    split at h <;> omega
  have b4 : usedB p2 (s.Facts.length + 1) = false := by
    rw [hp2]
    refine usedB_none hN mv2 (fun i h => ?_)
    unfold shiftF at h
    split at h <;> omega
  have b5 : usedB p2 (s.Facts.length + 2) = usedB p s.Facts.length := by
    rw [hp2, usedB_move hi2 hN mv2 (i := s.Facts.length) (by unfold shiftF; rw [if_neg (by omega)]; rfl)]
  have k2 : cnt (usedB p2) (s.Facts.length + 2 + 1) = cnt (usedB p) (s.Facts.length + 1) := by
    rw [show cnt (usedB p2) (s.Facts.length + 2 + 1) = cnt (usedB p2) s.Facts.length + (if usedB p2 s.Facts.length = true then 1 else 0) + (if usedB p2 (s.Facts.length + 1) = true then 1 else 0) + (if usedB p2 (s.Facts.length + 2) = true then 1 else 0) from rfl, b3, b4, b5, cnt_congr _ b2]; rfl
  rw [ix_len, ix_len, ix_len, f1, k1, k2, decide_eq_true rfl, decide_eq_true rfl]
  simp only [Bool.not_true, Bool.or_self, cond_false]
  -- all that are left are used
  have hall : ∀ (m k : Nat), k + m = cnt (usedB p) s.Facts.length → iter (m_laws_FnUnused_L1 (ix (usedB p1) (cnt (usedB p) s.Facts.length + 1), true) (cnt (usedB p) s.Facts.length : Int)) (k : Int) = some (.inl ()) := by
    intro m
    induction m with
    | zero =>
      intro k hk
      refine iter_out ?_
      unfold m_laws_FnUnused_L1
      rw [decide_eq_false (by omega)]; rfl
    | succ m ih =>
      intro k hk
      have hlen := ix_len (usedB p1) (cnt (usedB p) s.Facts.length + 1)
      have hle := cnt_le (usedB p1) (cnt (usedB p) s.Facts.length + 1)
      have w2 : w64 ((k : Int) + 1) = ((k + 1 : Nat) : Int) := w64_succ (by omega)
      have st : m_laws_FnUnused_L1 (ix (usedB p1) (cnt (usedB p) s.Facts.length + 1), true) (cnt (usedB p) s.Facts.length : Int) (k : Int) = some (.next ((k + 1 : Nat) : Int)) := by
        unfold m_laws_FnUnused_L1
        simp only
        rw [w2]
        clear w2
        rw [dec_lt (show k < cnt (usedB p) s.Facts.length by omega), cond_true, has_ok _ (by omega), Option.bind_some, decide_eq_true ((ix_mem _ _ _).2 ⟨by omega, low k (by omega)⟩)]; rfl
      clear w2
      rw [iter_next st]
      exact ih (k + 1) (by omega)
  have h0 : iter (m_laws_FnUnused_L1 (ix (usedB p1) (cnt (usedB p) s.Facts.length + 1), true) (cnt (usedB p) s.Facts.length : Int)) (0 : Int) = _ := hall (cnt (usedB p) s.Facts.length) 0 (Nat.zero_add _)
  rw [h0]; rfl
end Go.Mod
