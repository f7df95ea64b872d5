/- Calls that touch or make objects. -/
import Derived.Test.YtlijhkhbdfgapaaAmK
namespace Go.AM
open Go

def injB : List (Nat × Nat) → Bool
  | [] => true
  | (_, j) :: r => r.all (fun p => !Nat.beq p.2 j) && injB r

theorem lk_mem {α : Type} : ∀ {l : List (Nat × α)} {i : Nat} {x : α}, lk l i = some x → (i, x) ∈ l := by
  intro l
  induction l with
  | nil => intro i x h; cases h
  | cons p l ih =>
    obtain ⟨k, y⟩ := p
    intro i x h
    rw [lk_cons] at h
    split at h
    · cases h; rename_i hk; subst hk; simp
    · exact List.mem_cons_of_mem _ (ih h)

theorem injB_inj : ∀ {ρ : List (Nat × Nat)}, injB ρ = true → ∀ {i i' j : Nat}, lk ρ i = some j → lk ρ i' = some j → i = i' := by
  intro ρ
  induction ρ with
  | nil => intro _ i i' j h; cases h
  | cons p r ih =>
    obtain ⟨k, j0⟩ := p
    intro h i i' j hi hi'
    simp only [injB, Bool.and_eq_true] at h
    rw [lk_cons] at hi hi'
    have hno : ∀ m, lk r m ≠ some j0 := by
      intro m hm
      have := (List.all_eq_true.1 h.1) _ (lk_mem hm)
      simp [Nat.beq_refl] at this
    by_cases h1 : k = i
    · rw [if_pos h1] at hi
      cases hi
      by_cases h2 : k = i'
      · exact h1.symm.trans h2
      · rw [if_neg h2] at hi'; exact absurd hi' (hno _)
    · rw [if_neg h1] at hi
      by_cases h2 : k = i'
      · rw [if_pos h2] at hi'; cases hi'; exact absurd hi (hno _)
      · rw [if_neg h2] at hi'; exact ih h.2 hi hi'

/-- One object is another, renamed. -/
def objRen (ρ : List (Nat × Nat)) : AO → AO → Prop
  | .box cs, .box cs' => cs.length = cs'.length ∧ ∀ (n : Nat) x y, cs[n]? = some x → cs'[n]? = some y → Ren (fun i j => lk ρ i = some j) x y
  | .arr k sz E es, .arr k' sz' E' es' => k = k' ∧ sz = sz' ∧ E = E' ∧ es = es'
  | _, _ => False

theorem renH_spec {ρ : List (Nat × Nat)} (hi : injB ρ = true) : ∀ {L M : Heap}, renH ρ L = some M →
    (∀ i o, lk L i = some o → ∃ j o', lk ρ i = some j ∧ lk M j = some o' ∧ objRen ρ o o') ∧
    (∀ j o', lk M j = some o' → ∃ i o, lk ρ i = some j ∧ lk L i = some o ∧ objRen ρ o o') := by
  intro L
  induction L with
  | nil => intro M h; cases h; exact ⟨fun i o ho => (by cases ho), fun j o ho => (by cases ho)⟩
  | cons p L ih =>
    obtain ⟨k, o0⟩ := p
    intro M h
    have key : ∀ j0 o1 M', lk ρ k = some j0 → objRen ρ o0 o1 → renH ρ L = some M' → M = (j0, o1) :: M' →
        (∀ i o, lk ((k, o0) :: L) i = some o → ∃ j o', lk ρ i = some j ∧ lk M j = some o' ∧ objRen ρ o o') ∧
        (∀ j o', lk M j = some o' → ∃ i o, lk ρ i = some j ∧ lk ((k, o0) :: L) i = some o ∧ objRen ρ o o') := by
      intro j0 o1 M' hj0 ho1 hM' hMe
      subst hMe
      obtain ⟨a1, a2⟩ := ih hM'
      refine ⟨fun i o ho => ?_, fun j o' ho => ?_⟩
      · rw [lk_cons] at ho
        split at ho
        · cases ho; rename_i hk; subst hk
          exact ⟨j0, o1, hj0, by rw [lk_cons, if_pos rfl], ho1⟩
        · rename_i hk
          obtain ⟨j, o', b1, b2, b3⟩ := a1 i o ho
          refine ⟨j, o', b1, ?_, b3⟩
          have : j0 ≠ j := fun e => hk (injB_inj hi hj0 (e ▸ b1))
          rw [lk_cons, if_neg this]; exact b2
      · rw [lk_cons] at ho
        split at ho
        · cases ho; rename_i hk; subst hk
          exact ⟨k, o0, hj0, by rw [lk_cons, if_pos rfl], ho1⟩
        · rename_i hk
          obtain ⟨i, o, b1, b2, b3⟩ := a2 j o' ho
          refine ⟨i, o, b1, ?_, b3⟩
          have : k ≠ i := fun e => hk (by subst e; rw [hj0] at b1; cases b1; rfl)
          rw [lk_cons, if_neg this]; exact b2
    cases o0 with
    | box cs =>
      unfold renH at h
      cases hj : lk ρ k with
      | none => simp [hj] at h
      | some j0 =>
        simp only [hj] at h
        cases hc : renL ρ cs with
        | none => simp [hc] at h
        | some cs' =>
          simp only [hc] at h
          cases hr : renH ρ L with
          | none => simp [hr] at h
          | some M' =>
            simp only [hr, Option.some.injEq] at h
            exact key j0 (.box cs') M' hj (renL_spec cs cs' hc) hr h.symm
    | arr kd sz E es =>
      unfold renH at h
      cases hj : lk ρ k with
      | none => simp [hj] at h
      | some j0 =>
        simp only [hj] at h
        cases hr : renH ρ L with
        | none => simp [hr] at h
        | some M' =>
          simp only [hr, Option.some.injEq] at h
          exact key j0 (.arr kd sz E es) M' hj ⟨rfl, rfl, rfl, rfl⟩ hr h.symm

def putAll : Heap → Heap → Option Heap
  | h, [] => some h
  | h, (i, o) :: r => match sput h i o with
    | some h' => putAll h' r
    | none => none

/-- No name twice. -/
def keysB : Heap → Bool
  | [] => true
  | (i, _) :: r => r.all (fun p => !Nat.beq p.1 i) && keysB r

theorem putAll_lk : ∀ {M h h' : Heap}, keysB M = true → putAll h M = some h' → ∀ j, lk h' j = match lk M j with
    | some o => some o
    | none => lk h j := by
  intro M
  induction M with
  | nil => intro h h' _ e j; cases e; rfl
  | cons p M ih =>
    obtain ⟨k, o⟩ := p
    intro h h' hk e j
    unfold putAll at e
    cases hs : sput h k o with
    | none => simp [hs] at e
    | some h1 =>
      simp only [hs] at e
      simp only [keysB, Bool.and_eq_true] at hk
      rw [ih hk.2 e j, lk_cons, lk_sput hs]
      by_cases hkj : k = j
      · subst hkj
        have : lk M k = none := by
          cases hl : lk M k with
          | none => rfl
          | some o1 =>
            have := (List.all_eq_true.1 hk.1) _ (lk_mem hl)
            simp [Nat.beq_refl] at this
        rw [if_pos rfl, if_pos rfl, this]
      · rw [if_neg hkj, if_neg hkj]

def SubH : Heap → Heap → Prop
  | [], _ => True
  | (j, o) :: r, h => lk h j = some o ∧ SubH r h

theorem SubH_lk : ∀ {M h : Heap}, SubH M h → ∀ j o, lk M j = some o → lk h j = some o := by
  intro M
  induction M with
  | nil => intro h _ j o ho; cases ho
  | cons p M ih =>
    obtain ⟨k, o0⟩ := p
    intro h hs j o ho
    rw [lk_cons] at ho
    split at ho
    · cases ho; rename_i hk; subst hk; exact hs.1
    · exact ih hs.2 j o ho

def killSL : List Nat → Slots → Option Slots
  | [], s => some s
  | k :: r, s => match killS k s with
    | some s' => killSL r s'
    | none => none

def killHL : List Nat → Heap → Option Heap
  | [], h => some h
  | k :: r, h => match killH k h with
    | some h' => killHL r h'
    | none => none

mutual
theorem men_ren {K : Nat → Bool} : ∀ (x : AV), (∀ k, K k = true → men k x = false) → Ren (fun i j => i = j ∧ K i = false) x x
  | .ow i, h => .ow ⟨rfl, by
      cases hk : K i with
      | false => rfl
      | true => have := h i hk; simp [men] at this⟩
  | .ptr i k o, h => .ptr ⟨rfl, by
      cases hk : K i with
      | false => rfl
      | true => have := h i hk; simp [men] at this⟩
  | .mp i, h => .mp ⟨rfl, by
      cases hk : K i with
      | false => rfl
      | true => have := h i hk; simp [men] at this⟩
  | .sub i _, h => .sub ⟨rfl, by
      cases hk : K i with
      | false => rfl
      | true => have := h i hk; simp [men] at this⟩
  | .agg xs, h => .agg rfl (fun n x y hx hy => by
      rw [hx] at hy; cases hy
      exact menL_ren xs (fun k hk => by simpa [men] using h k hk) n x hx)
  | .tup xs, h => .tup rfl (fun n x y hx hy => by
      rw [hx] at hy; cases hy
      exact menL_ren xs (fun k hk => by simpa [men] using h k hk) n x hx)
  | .fn f xs us, h => .fn rfl rfl (fun n x y hx hy => by
      rw [hx] at hy; cases hy
      exact menL_ren xs (fun k hk => by have := h k hk; simp [men] at this; exact this.1) n x hx) (fun n x y hx hy => by
      rw [hx] at hy; cases hy
      exact menL_ren us (fun k hk => by have := h k hk; simp [men] at this; exact this.2) n x hx)
  | .int _ _, _ => .tree rfl
  | .bool _, _ => .tree rfl
  | .str _, _ => .tree rfl
  | .snil, _ => .tree rfl
  | .sl _ _, _ => .tree rfl
  | .cp _, _ => .tree rfl
  | .nilp, _ => .tree rfl
  | .nilf, _ => .tree rfl
  | .junk, _ => .tree rfl
theorem menL_ren {K : Nat → Bool} : ∀ (xs : List AV), (∀ k, K k = true → menL k xs = false) → ∀ (n : Nat) x, xs[n]? = some x → Ren (fun i j => i = j ∧ K i = false) x x
  | [], _, n, x, hx => by simp at hx
  | y :: r, h, n, x, hx => by
    cases n with
    | zero =>
      simp at hx; subst hx
      exact men_ren y (fun k hk => by have := h k hk; simp [menL] at this; exact this.1)
    | succ n =>
      simp at hx
      exact menL_ren r (fun k hk => by have := h k hk; simp [menL] at this; exact this.2) n x hx
end

theorem killSL_spec : ∀ {ks : List Nat} {s s' : Slots}, killSL ks s = some s' →
    ∀ i x', lk s' i = some x' → (∀ k ∈ ks, men k x' = false) ∧ ∃ x, lk s i = some x ∧ isWeak x' x := by
  intro ks
  induction ks with
  | nil => intro s s' h i x hx; cases h; exact ⟨fun k hk => by simp at hk, x, hx, .inl rfl⟩
  | cons k ks ih =>
    intro s s' h i x hx
    unfold killSL at h
    cases hs : killS k s with
    | none => simp [hs] at h
    | some s1 =>
      simp only [hs] at h
      obtain ⟨a1, y, hy, hxy⟩ := ih h i x hx
      obtain ⟨b1, z, hz, hyz⟩ := killS_spec hs i y hy
      refine ⟨fun m hm => ?_, z, hz, ?_⟩
      · rcases List.mem_cons.1 hm with rfl | hm
        · rcases hxy with rfl | rfl
          · exact b1
          · rfl
        · exact a1 m hm
      · rcases hxy with rfl | rfl
        · exact hyz
        · exact .inr rfl

theorem objWeak.trans {a b c : AO} (h : objWeak a b) (k : objWeak b c) : objWeak a c := by
  cases a <;> cases b <;> cases c <;> try (first | exact h.elim | exact k.elim)
  · refine ⟨h.1.trans k.1, fun i x hx => ?_⟩
    obtain ⟨y, hy, hxy⟩ := h.2 i x hx
    obtain ⟨z, hz, hyz⟩ := k.2 i y hy
    refine ⟨z, hz, ?_⟩
    rcases hxy with rfl | rfl
    · exact hyz
    · exact .inr rfl
  · obtain ⟨rfl, rfl, rfl, rfl⟩ := h
    exact k

theorem killHL_spec : ∀ {ks : List Nat} {h h' : Heap}, killHL ks h = some h' →
    (∀ i, lk h' i = none ↔ lk h i = none) ∧ ∀ i o', lk h' i = some o' → (∀ cs, o' = .box cs → ∀ x ∈ cs, ∀ k ∈ ks, men k x = false) ∧ ∃ o, lk h i = some o ∧ objWeak o' o := by
  intro ks
  induction ks with
  | nil =>
    intro h h' e
    cases e
    refine ⟨fun i => Iff.rfl, fun i o ho => ⟨fun cs _ x _ k hk => by simp at hk, o, ho, ?_⟩⟩
    cases o with
    | box cs => exact ⟨rfl, fun i x hx => ⟨x, hx, .inl rfl⟩⟩
    | arr _ _ _ _ => exact ⟨rfl, rfl, rfl, rfl⟩
  | cons k ks ih =>
    intro h h' e
    unfold killHL at e
    cases hs : killH k h with
    | none => simp [hs] at e
    | some h1 =>
      simp only [hs] at e
      obtain ⟨a1, a2⟩ := ih e
      obtain ⟨b1, b2⟩ := killH_spec hs
      refine ⟨fun i => (a1 i).trans (b1 i), fun i o ho => ?_⟩
      obtain ⟨c1, o1, ho1, hw1⟩ := a2 i o ho
      obtain ⟨d1, o2, ho2, hw2⟩ := b2 i o1 ho1
      refine ⟨fun cs he x hx m hm => ?_, o2, ho2, hw1.trans hw2⟩
      rcases List.mem_cons.1 hm with rfl | hm
      · subst he
        obtain ⟨n, hn⟩ := List.getElem?_of_mem hx
        cases o1 with
        | arr _ _ _ _ => exact hw1.elim
        | box cs1 =>
          obtain ⟨y, hy, hxy⟩ := hw1.2 n x hn
          rcases hxy with rfl | rfl
          · exact d1 cs1 rfl x (List.mem_of_getElem? hy)
          · rfl
      · exact c1 cs he x hx m hm

section
variable {P : Program} {F : Fr} {N : Nat}

theorem lk_append {α : Type} : ∀ {l r : List (Nat × α)} {i : Nat} {x : α}, lk l i = some x → lk (l ++ r) i = some x := by
  intro l
  induction l with
  | nil => intro r i x h; cases h
  | cons p l ih =>
    obtain ⟨k, y⟩ := p
    intro r i x h
    rw [List.cons_append, lk_cons]
    rw [lk_cons] at h
    split at h
    · rename_i hk; rw [if_pos hk]; exact h
    · rename_i hk; rw [if_neg hk]; exact ih h

theorem RelP.call0 {s s1 : Slots} {h h1 h' : Heap} {φ : Nat → Loc} {a : Act} {w : World} {f : FuncId} {L L' Lc Lc' : Heap} {r r' : AV} {ρ ρn : List (Nat × Nat)} {ks : List Nat} {vs : Array Value}
    (hr : RelP F N ⟨s, h⟩ φ a w) (hc : ∀ φc, HeapOK (Stab F w φ h) w φc L → (∀ {x z : AV} {v : Value}, Ren (fun i j => lk ρ i = some j) x z → RepV (Stab F w φ h) w φ h z v → RepV (Stab F w φ h) w φc L x v) →
      Calls P f vs w fun e w' => ∃ v φ', e = .returned v ∧ Ret ⟨w, Stab F w φ h, φc, L⟩ w' φ' L' r v) (hinj : injB (ρ ++ ρn) = true)
    (hL : renH ρ L = some Lc) (hdom : ρ.all (fun p => (lk L p.1).isSome) = true) (hsub : SubH Lc h)
    (hL' : renH (ρ ++ ρn) L' = some Lc') (hdom' : (ρ ++ ρn).all (fun p => (lk L' p.1).isSome) = true) (hkeys : keysB Lc' = true)
    (hfresh : ρn.all (fun p => (lk h p.2).isNone) = true) (hr' : renO (ρ ++ ρn) r = some r')
    (hks : Lc.all (fun p => p.2.fixed || ks.contains p.1) = true)
    (hs1 : killSL ks s = some s1) (hh1 : killHL ks h = some h1) (hh' : putAll h1 Lc' = some h') :
    Calls P f vs w fun e w' => ∃ v φ', e = .returned v ∧ RelP F N ⟨s1, h'⟩ φ' a w' ∧ RepV (Stab F w' φ' h') w' φ' h' r' v ∧ (L = [] → Ext w w') := by
  have hinj0 : injB ρ = true := by
    have : ∀ (l m : List (Nat × Nat)), injB (l ++ m) = true → injB l = true := by
      intro l
      induction l with
      | nil => intro _ _; rfl
      | cons p l ih =>
        obtain ⟨k, j⟩ := p
        intro m hm
        simp only [List.cons_append, injB, Bool.and_eq_true] at hm ⊢
        exact ⟨by rw [List.all_append] at hm; simp only [Bool.and_eq_true] at hm; exact hm.1.1, ih m hm.2⟩
    exact this ρ ρn hinj
  have hspec := renH_spec hinj0 hL
  have hspec' := renH_spec hinj hL'
  have hsubl := SubH_lk hsub
  have hput := putAll_lk hkeys hh'
  obtain ⟨hkn, hkH⟩ := killHL_spec hh1
  have hkS := killSL_spec hs1
  have hρn : ∀ {i j}, lk (ρ ++ ρn) i = some j → lk ρ i = some j ∨ lk h j = none := by
    intro i j e
    have hm := lk_mem e
    rcases List.mem_append.1 hm with hm | hm
    · -- the name is one of the first list's
      cases hl : lk ρ i with
      | some j' =>
        have := lk_append (r := ρn) hl
        rw [e] at this
        cases this
        exact .inl rfl
      | none =>
        exfalso
        have : ∀ (l : List (Nat × Nat)), (i, j) ∈ l → lk l i ≠ none := by
          intro l
          induction l with
          | nil => intro hm; simp at hm
          | cons p l ih =>
            obtain ⟨k, y⟩ := p
            intro hm
            rw [lk_cons]
            split
            · simp
            · rename_i hk
              rcases List.mem_cons.1 hm with hm | hm
              · cases hm; exact absurd rfl hk
              · exact ih hm
        exact this ρ hm hl
    · right
      have := (List.all_eq_true.1 hfresh) _ hm
      simpa using this
  -- the caller's state with the arrays forgotten
  have hrk : RelP F N ⟨s1, h1⟩ φ a w := hr.weaken (fun i x hx => (hkS i x hx).2) hkn (fun i o ho => (hkH i o ho).2)
  let φc : Nat → Loc := fun i => match lk ρ i with
    | some j => φ j
    | none => mkLoc 0 0 false
  have hφc : ∀ {i j}, lk ρ i = some j → φc i = φ j := fun {i j} e => by simp only [φc, e]
  have hLj : ∀ {i o}, lk L i = some o → ∃ j o', lk ρ i = some j ∧ lk h j = some o' ∧ objRen ρ o o' := fun {i o} e => by
    obtain ⟨j, o', b1, b2, b3⟩ := hspec.1 i o e
    exact ⟨j, o', b1, hsubl _ _ b2, b3⟩
  -- back to the callee's names
  have hbk : ∀ j i, lk ρ i = some j → (∀ o, lk h j = some o → φc i = φ j) ∧ objAlike h L j i := by
    intro j i e
    refine ⟨fun _ _ => hφc e, ?_⟩
    obtain ⟨o, ho⟩ := Option.isSome_iff_exists.1 ((List.all_eq_true.1 hdom) _ (lk_mem e))
    obtain ⟨j', o', b1, b2, b3⟩ := hLj ho
    rw [e] at b1
    cases b1
    refine ⟨fun k sz E es ho' => ?_, fun cs ho' => ?_⟩
    · rw [b2] at ho'; cases ho'
      cases o with
      | box _ => exact b3.elim
      | arr _ _ _ _ => obtain ⟨rfl, rfl, rfl, rfl⟩ := b3; exact ⟨_, _, rfl, ho⟩
    · rw [b2] at ho'; cases ho'
      cases o with
      | box cs0 => exact ⟨cs0, ho⟩
      | arr _ _ _ _ => exact b3.elim
  have hback : ∀ {x y v}, Ren (fun i j => lk ρ i = some j) x y → RepV (Stab F w φ h) w φ h y v → RepV (Stab F w φ h) w φc L x v := fun hxy hv =>
    hv.ren (ρ := fun j i => lk ρ i = some j) (fun _ hb => hb) (fun _ _ => rfl) hbk (hxy.symm (fun _ _ e => e))
  have hHc : HeapOK (Stab F w φ h) w φc L := by
    refine ⟨fun i o ho => ?_, fun i i' o o' b ho ho' hm hm' => ?_, fun b hb => hb.1, fun i o b ho hm hst => ?_, fun i o b ho hm => ?_⟩
    · obtain ⟨j, o', b1, b2, b3⟩ := hLj ho
      have hok := hr.heap.obj j o' b2
      cases o with
      | box cs =>
        cases o' with
        | arr _ _ _ _ => exact b3.elim
        | box cs' =>
          obtain ⟨hm, C, E, hC, hsz, hrep⟩ := hok
          refine ⟨by rw [hφc b1]; exact hm, C, E, by rw [hφc b1]; exact hC, by rw [hsz]; exact b3.1.symm, fun n x v hx hv => ?_⟩
          obtain ⟨y, hy⟩ : ∃ y, cs'[n]? = some y := ⟨cs'[n]'(by rw [← b3.1]; exact (List.getElem?_eq_some_iff.1 hx).1), by simp⟩
          exact hback (b3.2 n x y hx hy) (hrep n y v hy hv)
      | arr kd sz E es =>
        cases o' with
        | box _ => exact b3.elim
        | arr _ _ _ _ =>
          obtain ⟨rfl, rfl, rfl, rfl⟩ := b3
          obtain ⟨h0, hl, hone, hob⟩ := hok
          refine ⟨h0, hl, hone, ?_⟩
          rw [hφc b1]
          exact hob
    · obtain ⟨j, p, b1, b2, _⟩ := hLj ho
      obtain ⟨j', p', c1, c2, _⟩ := hLj ho'
      rw [hφc b1] at hm
      rw [hφc c1] at hm'
      have := hr.heap.injO j j' p p' b b2 c2 hm hm'
      subst this
      exact injB_inj hinj0 b1 c1
    · obtain ⟨j, p, b1, b2, _⟩ := hLj ho
      rw [hφc b1] at hm
      exact hst.2.2 j p b2 hm
    · obtain ⟨j, p, b1, b2, _⟩ := hLj ho
      rw [hφc b1] at hm
      exact hr.heap.ltO j p b b2 hm
  refine (hc φc hHc (fun h1 h2 => hback h1 h2)).mono ?_
  rintro e w' ⟨v, φ', rfl, hret⟩
  -- the new places
  generalize hRe : ρ ++ ρn = R at hinj hL' hdom' hr' hρn hspec'
  have hR0 : ∀ {i j}, lk ρ i = some j → lk R i = some j := fun {i j} e => by rw [← hRe]; exact lk_append e
  have hRL' : ∀ {i j}, lk R i = some j → ∃ o o', lk L' i = some o ∧ lk Lc' j = some o' ∧ objRen R o o' := by
    intro i j e
    obtain ⟨o, ho⟩ := Option.isSome_iff_exists.1 ((List.all_eq_true.1 hdom') _ (lk_mem e))
    obtain ⟨j', o', b1, b2, b3⟩ := hspec'.1 i o ho
    rw [e] at b1
    cases b1
    exact ⟨o, o', ho, b2, b3⟩
  have hplace : ∃ φ'' : Nat → Loc, (∀ i j, lk R i = some j → φ'' j = φ' i) ∧ ∀ j, (∀ i, lk R i ≠ some j) → φ'' j = φ j := by
    classical
    refine ⟨fun j => if h : ∃ i, lk R i = some j then φ' (Classical.choose h) else φ j, fun i j e => ?_, fun j hj => ?_⟩
    · have hex : ∃ i, lk R i = some j := ⟨i, e⟩
      show (if h : ∃ i, lk R i = some j then φ' (Classical.choose h) else φ j) = φ' i
      rw [dif_pos hex, injB_inj hinj (Classical.choose_spec hex) e]
    · show (if h : ∃ i, lk R i = some j then φ' (Classical.choose h) else φ j) = φ j
      rw [dif_neg (fun ⟨i, e⟩ => hj i e)]
  obtain ⟨φ'', hφ1, hφ2⟩ := hplace
  -- an object of the new heap: one of the callee's, or an old one
  have hobj : ∀ {j o}, lk h' j = some o → (∃ i o0, lk R i = some j ∧ lk L' i = some o0 ∧ objRen R o0 o) ∨ (φ'' j = φ j ∧ lk h1 j = some o ∧ ∀ i, lk R i ≠ some j) := by
    intro j o e
    rw [hput] at e
    cases hl : lk Lc' j with
    | none =>
      rw [hl] at e
      have hno : ∀ i, lk R i ≠ some j := fun i e' => by
        obtain ⟨_, o', _, b2, _⟩ := hRL' e'
        rw [hl] at b2; cases b2
      exact .inr ⟨hφ2 j hno, e, hno⟩
    | some o1 =>
      rw [hl] at e
      cases e
      exact .inl (hspec'.2 j o hl)
  have hRh' : ∀ {i j}, lk R i = some j → ∃ o o', lk L' i = some o ∧ lk h' j = some o' ∧ objRen R o o' := by
    intro i j e
    obtain ⟨o, o', b1, b2, b3⟩ := hRL' e
    exact ⟨o, o', b1, by rw [hput, b2], b3⟩
  have hnotR : ∀ {j o}, lk h1 j = some o → (∀ i, lk R i ≠ some j) → lk h' j = some o := by
    intro j o e hno
    rw [hput]
    cases hl : lk Lc' j with
    | none => exact e
    | some o1 =>
      obtain ⟨i, _, b1, _⟩ := hspec'.2 j o1 hl
      exact absurd b1 (hno i)
  -- where the callee's objects lie
  have hmine : ∀ {i o b}, lk L' i = some o → (φ' i).owns b → w.heap.size ≤ b ∨ ∃ i0 j p, (lk R i0 = some j ∧ i0 = i) ∧ lk h j = some p ∧ (φ j).owns b := by
    intro i o b ho hm
    rcases hret.mine i o b ho hm with h1 | ⟨o0, b1, b2⟩
    · exact .inl h1
    · right
      obtain ⟨j', p, c1, c2, _⟩ := hLj b1
      have hφe : φc i = φ j' := hφc c1
      exact ⟨i, j', p, ⟨hR0 c1, rfl⟩, c2, by rw [← hφe]; exact b2⟩
  have hh1h : ∀ {j o}, lk h1 j = some o → ∃ o', lk h j = some o' ∧ objWeak o o' := fun {j o} e => (hkH j o e).2
  have hsame : ∀ b, b < w.heap.size → (∀ i j p, lk R i = some j → lk h j = some p → ¬ (φ j).owns b) → w'.heap[b]? = w.heap[b]? := by
    intro b hb hno
    refine hret.frame b hb ?_
    rintro ⟨i, o, b1, b2⟩
    obtain ⟨j, p, c1, c2, _⟩ := hLj b1
    have hφe : φc i = φ j := hφc c1
    exact hno i j p (hR0 c1) c2 (by rw [← hφe]; exact b2)
  have hStab : ∀ b, Stab F w φ h1 b → Stab F w' φ'' h' b ∧ w'.heap[b]? = w.heap[b]? := by
    intro b hb
    have hbh : ∀ j p, lk h j = some p → ¬ (φ j).owns b := by
      intro j p hp hm
      cases hl : lk h1 j with
      | none => rw [(hkn j).1 hl] at hp; cases hp
      | some o => exact hb.2.2 j o hl hm
    refine ⟨⟨Nat.lt_of_lt_of_le hb.1 hret.grow, hb.2.1, fun j o ho hm => ?_⟩, hsame b hb.1 (fun i j p _ hp => hbh j p hp)⟩
    rcases hobj ho with ⟨i, o0, e, ho0, _⟩ | ⟨e1, e2, _⟩
    · rw [hφ1 i j e] at hm
      rcases hmine ho0 hm with h1 | ⟨i0, j0, p, c0, c1, c2⟩
      · have := hb.1; omega
      · exact hbh j0 p c1 c2
    · rw [e1] at hm
      exact hb.2.2 j o e2 hm
  have hStabC : ∀ b, Stab ⟨w, Stab F w φ h, φc, L⟩ w' φ' L' b → Stab F w' φ'' h' b := by
    intro b hb
    refine ⟨hb.1, ?_, fun j o ho hm => ?_⟩
    · rcases hb.2.1 with h1 | h1
      · exact h1.2.1
      · exact .inr (Nat.le_trans hr.grow h1)
    · rcases hobj ho with ⟨i, o0, e, ho0, _⟩ | ⟨e1, e2, _⟩
      · rw [hφ1 i j e] at hm
        exact hb.2.2 i o0 ho0 hm
      · rw [e1] at hm
        obtain ⟨o', ho', _⟩ := hh1h e2
        rcases hb.2.1 with h1 | h1
        · exact h1.2.2 j o' ho' hm
        · have hlt := hr.heap.ltO j o' b ho' hm
          have h1' : w.heap.size ≤ b := h1
          omega
  -- values of the callee's, under the caller's names
  have hfw : ∀ {x y v}, Ren (fun i j => lk R i = some j) x y → RepV (Stab ⟨w, Stab F w φ h, φc, L⟩ w' φ' L') w' φ' L' x v → RepV (Stab F w' φ'' h') w' φ'' h' y v := fun hxy hv =>
    hv.ren (ρ := fun i j => lk R i = some j) hStabC (fun _ _ => rfl) (fun i j e => by
      obtain ⟨o, o', b1, b2, b3⟩ := hRh' e
      refine ⟨fun _ _ => hφ1 i j e, fun k sz E es ho => ?_, fun cs ho => ?_⟩
      · rw [b1] at ho; cases ho
        cases o' with
        | box _ => exact b3.elim
        | arr _ _ _ _ => obtain ⟨rfl, rfl, rfl, rfl⟩ := b3; exact ⟨_, _, rfl, b2⟩
      · rw [b1] at ho; cases ho
        cases o' with
        | box cs' => exact ⟨cs', b2⟩
        | arr _ _ _ _ => exact b3.elim) hxy
  -- values of the caller's that name none of the arrays that were handed over
  have harr : ∀ {k}, ks.contains k = false → ∀ i, lk R i = some k → (∃ p, lk h k = some p) → φ'' k = φ k ∧
      ((∃ cs, lk h k = some (.box cs) ∧ ∃ cs', lk h' k = some (.box cs')) ∨ (∃ kd sz E es, lk h k = some (.arr kd sz E es) ∧ ∃ k' es', es'.length = es.length ∧ lk h' k = some (.arr k' sz E es'))) := by
    intro k hk i e ⟨p, hp⟩
    rcases hρn e with e0 | hn
    · obtain ⟨o, ho⟩ := Option.isSome_iff_exists.1 ((List.all_eq_true.1 hdom) _ (lk_mem e0))
      obtain ⟨j', o', b1, b2, b3⟩ := hspec.1 i o ho
      rw [e0] at b1
      cases b1
      have hbx := (List.all_eq_true.1 hks) _ (lk_mem b2)
      simp only [hk, Bool.or_false] at hbx
      obtain ⟨o2, o2', d1, d2, d3⟩ := hRh' e
      obtain ⟨o3, d4, d5⟩ := hret.keep i _ ho
      rw [d1] at d4
      cases d4
      cases o' with
      | box cs =>
        cases o with
        | arr _ _ _ _ => exact b3.elim
        | box cs0 =>
          have hfx : φ' i = φc i := hret.fix i _ ho (by simp [AO.isBox])
          refine ⟨by rw [hφ1 i k e, hfx, hφc e0], .inl ⟨cs, hsubl _ _ b2, ?_⟩⟩
          cases o2 with
          | arr _ _ _ _ => exact d5.elim
          | box _ =>
            cases o2' with
            | arr _ _ _ _ => exact d3.elim
            | box cs' => exact ⟨cs', d2⟩
      | arr kd sz E es =>
        cases o with
        | box _ => exact b3.elim
        | arr kd0 sz0 E0 es0 =>
          obtain ⟨rfl, rfl, rfl, rfl⟩ := b3
          have hp' : kd0.p = true := hbx
          have hfx : φ' i = φc i := hret.fix i _ ho (by simp [AO.isBox, hp'])
          refine ⟨by rw [hφ1 i k e, hfx, hφc e0], .inr ⟨kd0, sz0, E0, es0, hsubl _ _ b2, ?_⟩⟩
          cases o2 with
          | box _ => exact d5.elim
          | arr k2 sz2 E2 es2 =>
            obtain ⟨q1, q2⟩ := d5
            obtain ⟨rfl, rfl, q3⟩ := q2 hp'
            cases o2' with
            | box _ => exact d3.elim
            | arr _ _ _ _ => obtain ⟨rfl, rfl, rfl, rfl⟩ := d3; exact ⟨_, _, q3, d2⟩
    · rw [hn] at hp; cases hp
  have hkeepV : ∀ {x v}, (∀ k ∈ ks, men k x = false) → RepV (Stab F w φ h1) w φ h1 x v → RepV (Stab F w' φ'' h') w' φ'' h' x v := by
    intro x v hm hv
    refine hv.ren (ρ := fun i j => (i = j ∧ ks.contains i = false)) (fun b hb => (hStab b hb).1) (fun b hb => (hStab b hb).2) ?_ (men_ren (K := fun k => ks.contains k) x (fun k hk => hm k (by simpa using hk)))
    rintro i j ⟨rfl, hk⟩
    by_cases hex : ∃ i0, lk R i0 = some i
    · obtain ⟨i0, e⟩ := hex
      refine ⟨fun o ho => ?_, fun kd sz E es ho => ?_, fun cs ho => ?_⟩
      · obtain ⟨o', ho', _⟩ := hh1h ho
        exact (harr hk i0 e ⟨_, ho'⟩).1
      · obtain ⟨o', ho', hw⟩ := hh1h ho
        rcases (harr hk i0 e ⟨_, ho'⟩).2 with ⟨cs, h3, _⟩ | ⟨k1, sz1, E1, es1, h3, k2, es2, h4, h5⟩
        · rw [ho'] at h3
          cases h3
          exact hw.elim
        · rw [ho'] at h3
          cases h3
          obtain ⟨rfl, rfl, rfl, rfl⟩ := hw
          exact ⟨_, _, h4, h5⟩
      · obtain ⟨o', ho', hw⟩ := hh1h ho
        rcases (harr hk i0 e ⟨_, ho'⟩).2 with ⟨cs, h3, h4⟩ | ⟨k1, sz1, E1, es1, h3, k2, es2, h4, h5⟩
        · exact h4
        · rw [ho'] at h3; cases h3; exact hw.elim
    · have hno : ∀ i0, lk R i0 ≠ some i := fun i0 e => hex ⟨i0, e⟩
      exact ⟨fun _ _ => hφ2 i hno, fun kd sz E es ho => ⟨kd, es, rfl, hnotR ho hno⟩, fun cs ho => ⟨cs, hnotR ho hno⟩⟩
  refine ⟨v, φ'', rfl, ⟨hrk.size, hrk.defers, hrk.sys.trans hret.sys, Nat.le_trans hrk.grow hret.grow, ⟨fun j o ho => ?_, ?_, fun b hb => hb.1, fun j o b ho hm hst => hst.2.2 j o ho hm, fun j o b ho hm => ?_⟩,
    fun i x hx => ?_, fun j o b ho hm => ?_, fun j o hj hne => ?_, fun j o hj => ?_, fun b hb1 hb2 => ?_⟩, hfw (renO_spec r r' hr') hret.val, fun hL0 => ⟨hret.grow, fun b hb => hret.frame b hb (fun ⟨id, o, ho, _⟩ => by subst hL0; cases ho)⟩⟩
  · -- objects
    rcases hobj ho with ⟨i, o0, e, ho0, hro⟩ | ⟨e1, e2, hno⟩
    · have hok := hret.heap.obj i o0 ho0
      cases o0 with
      | box cs0 =>
        cases o with
        | arr _ _ _ _ => exact hro.elim
        | box cs =>
          obtain ⟨hm, C, E, hC, hsz, hrep⟩ := hok
          refine ⟨by rw [hφ1 i j e]; exact hm, C, E, by rw [hφ1 i j e]; exact hC, by rw [hsz]; exact hro.1, fun n y v hy hv => ?_⟩
          obtain ⟨x, hx⟩ : ∃ x, cs0[n]? = some x := ⟨cs0[n]'(by rw [hro.1]; exact (List.getElem?_eq_some_iff.1 hy).1), by simp⟩
          exact hfw (hro.2 n x y hx hy) (hrep n x v hx hv)
      | arr kd sz E es =>
        cases o with
        | box _ => exact hro.elim
        | arr _ _ _ _ =>
          obtain ⟨rfl, rfl, rfl, rfl⟩ := hro
          obtain ⟨h0, hl, hone, hob⟩ := hok
          refine ⟨h0, hl, hone, ?_⟩
          rw [hφ1 i j e]
          rcases hob with hob | ⟨hm, C, hC, g1, g2, g3, g4⟩
          · exact .inl hob
          · exact .inr ⟨hm, C, hC, g1, g2, g3, g4.mono hStabC (fun _ _ => rfl) (fun _ _ _ => rfl) rfl⟩
    · have hok := hrk.heap.obj j o e2
      have hblkO : ∀ b, (φ j).owns b → w'.heap[b]? = w.heap[b]? := by
        intro b hm
        obtain ⟨o', ho', _⟩ := hh1h e2
        refine hsame _ (hr.heap.ltO j o' b ho' hm) (fun i j' p e hp hm' => ?_)
        have := hr.heap.injO j' j p o' b hp ho' hm' hm
        subst this
        exact hno i e
      have hblk : (φ j).mat = true → w'.heap[(φ j).blk]? = w.heap[(φ j).blk]? := fun hm => hblkO _ (.inl ⟨hm, rfl⟩)
      cases o with
      | box cs =>
        obtain ⟨hm, C, E, hC, hsz, hrep⟩ := hok
        refine ⟨by rw [e1]; exact hm, C, E, by rw [e1, hblk hm]; exact hC, hsz, fun n x v hx hv => hkeepV (fun k hk => (hkH j _ e2).1 cs rfl x (List.mem_of_getElem? hx) k hk) (hrep n x v hx hv)⟩
      | arr kd sz E es =>
        obtain ⟨h0, hl, hone, hob⟩ := hok
        refine ⟨h0, hl, hone, ?_⟩
        rw [e1]
        rcases hob with hob | ⟨hm, C, hC, g1, g2, g3, g4⟩
        · exact .inl hob
        · exact .inr ⟨hm, C, by rw [hblk hm]; exact hC, g1, g2, g3, g4.mono (fun b hb => (hStab b hb).1) (fun b hb => (hStab b hb).2) (fun b hb _ => hblkO b (.inr hb)) rfl⟩
  · -- no two at one place
    intro j1 j2 o1 o2 b ho1 ho2 hm1 hm2
    rcases hobj ho1 with ⟨i1, p1, e1, hp1, _⟩ | ⟨e1, e1', hno1⟩
    · rcases hobj ho2 with ⟨i2, p2, e2, hp2, _⟩ | ⟨e2, e2', hno2⟩
      · rw [hφ1 i1 j1 e1] at hm1
        rw [hφ1 i2 j2 e2] at hm2
        have := hret.heap.injO i1 i2 p1 p2 b hp1 hp2 hm1 hm2
        subst this
        rw [e1] at e2
        cases e2
        rfl
      · rw [hφ1 i1 j1 e1] at hm1
        rw [e2] at hm2
        obtain ⟨o', ho', _⟩ := hh1h e2'
        rcases hmine hp1 hm1 with h1 | ⟨i0, j0, p, c0, c1, c2⟩
        · have := hr.heap.ltO j2 o' b ho' hm2; omega
        · have := hr.heap.injO j0 j2 p o' b c1 ho' c2 hm2
          subst this
          exact absurd c0.1 (hno2 i0)
    · rw [e1] at hm1
      obtain ⟨o', ho', _⟩ := hh1h e1'
      rcases hobj ho2 with ⟨i2, p2, e2, hp2, _⟩ | ⟨e2, e2', hno2⟩
      · rw [hφ1 i2 j2 e2] at hm2
        rcases hmine hp2 hm2 with h1 | ⟨i0, j0, p, c0, c1, c2⟩
        · have := hr.heap.ltO j1 o' b ho' hm1; omega
        · have := hr.heap.injO j1 j0 o' p b ho' c1 hm1 c2
          subst this
          exact absurd c0.1 (hno1 i0)
      · rw [e2] at hm2
        obtain ⟨o'', ho'', _⟩ := hh1h e2'
        exact hr.heap.injO j1 j2 o' o'' b ho' ho'' hm1 hm2
  · rcases hobj ho with ⟨i, o0, e, ho0, _⟩ | ⟨e1, e2, _⟩
    · rw [hφ1 i j e] at hm
      exact hret.heap.ltO i o0 b ho0 hm
    · rw [e1] at hm
      exact Nat.lt_of_lt_of_le (hrk.heap.ltO j o b e2 hm) hret.grow
  · obtain ⟨v, hv, hrep⟩ := hrk.slots i x hx
    exact ⟨v, hv, hkeepV (hkS i x hx).1 hrep⟩
  · rcases hobj ho with ⟨i, o0, e, ho0, _⟩ | ⟨e1, e2, _⟩
    · rw [hφ1 i j e] at hm
      rcases hmine ho0 hm with h1 | ⟨i0, j0, p, c0, c1, c2⟩
      · exact .inl (Nat.le_trans hr.grow h1)
      · have : j0 = j := by obtain ⟨c0, rfl⟩ := c0; rw [e] at c0; cases c0; rfl
        subst this
        exact hr.mine j0 p b c1 c2
    · rw [e1] at hm
      exact hrk.mine j o b e2 hm
  · -- the variables that came in stay where they were
    by_cases hex : ∃ i, lk R i = some j
    · obtain ⟨i, e⟩ := hex
      obtain ⟨o', ho', hb⟩ := hr.keep j _ hj
      rcases hρn e with e0 | hn
      · obtain ⟨o, ho⟩ := Option.isSome_iff_exists.1 ((List.all_eq_true.1 hdom) _ (lk_mem e0))
        obtain ⟨j', p, b1, b2, b3⟩ := hLj ho
        rw [e0] at b1
        cases b1
        have ho'' : lk h j = some o' := ho'
        rw [b2] at ho''
        have hpo : o' = p := by cases ho''; rfl
        rw [hpo] at hb
        have hk1 : o.isBox = p.isBox := by cases o <;> cases p <;> first | rfl | exact b3.elim | (obtain ⟨rfl, _⟩ := b3; rfl)
        rw [hφ1 i j e, hret.fix i o ho (by rw [hk1, AO.alike_box hb]; exact hne)]
        show φc i = F.φ j
        rw [hφc e0]
        exact hr.fix j _ hj hne
      · have ho'' : lk h j = some o' := ho'
        rw [hn] at ho''; cases ho''
    · rw [hφ2 j (fun i e => hex ⟨i, e⟩)]
      exact hr.fix j _ hj hne
  · obtain ⟨o1, ho1, hb1⟩ := hrk.keep j o hj
    have ho1' : lk h1 j = some o1 := ho1
    by_cases hex : ∃ i, lk R i = some j
    · obtain ⟨i, e⟩ := hex
      obtain ⟨p, hp, hw⟩ := hh1h ho1'
      rcases hρn e with e0 | hn
      · obtain ⟨oL, hoL⟩ := Option.isSome_iff_exists.1 ((List.all_eq_true.1 hdom) _ (lk_mem e0))
        obtain ⟨j', p', b1, b2, b3⟩ := hLj hoL
        rw [e0] at b1
        cases b1
        rw [hp] at b2
        cases b2
        obtain ⟨q, q', d1, d2, d3⟩ := hRh' e
        obtain ⟨q2, d4, d5⟩ := hret.keep i oL hoL
        rw [d1] at d4
        cases d4
        refine ⟨q', d2, ?_⟩
        have k1 : q.alike q' := by cases q <;> cases q' <;> first | trivial | exact d3.elim | (obtain ⟨rfl, rfl, rfl, rfl⟩ := d3; exact AO.alike_refl _)
        have k2 : p.alike oL := by cases oL <;> cases p <;> first | trivial | exact b3.elim | (obtain ⟨rfl, rfl, rfl, rfl⟩ := b3; exact AO.alike_refl _)
        have k3 : o1.alike p := by cases o1 <;> cases p <;> first | trivial | exact hw.elim | (obtain ⟨rfl, rfl, rfl, rfl⟩ := hw; exact AO.alike_refl _)
        exact AO.alike_trans hb1 (AO.alike_trans k3 (AO.alike_trans k2 (AO.alike_trans d5 k1)))
      · rw [hn] at hp; cases hp
    · exact ⟨o1, hnotR ho1' (fun i e => hex ⟨i, e⟩), hb1⟩
  · have hb3 : b < w.heap.size := Nat.lt_of_lt_of_le hb1 hr.grow
    rw [hsame b hb3 (fun i j p e hp hm => ?_)]
    · exact hr.frame b hb1 hb2
    · rcases hr.mine j p b hp hm with h1 | ⟨o0, h1, h2⟩
      · omega
      · exact hb2 ⟨j, o0, h1, h2⟩

theorem RelP.call {s s1 : Slots} {h h1 h' : Heap} {φ : Nat → Loc} {a : Act} {w : World} {f : FuncId} {xs zs : List AV} {L L' Lc Lc' : Heap} {r r' : AV} {ρ ρn : List (Nat × Nat)} {ks : List Nat} {vs : Array Value}
    (hr : RelP F N ⟨s, h⟩ φ a w) (hc : ACall P f xs L r L') (hinj : injB (ρ ++ ρn) = true)
    (hvs : PW (Stab F w φ h) w φ h zs vs.toList) (hxs : renL ρ xs = some zs) (hL : renH ρ L = some Lc) (hdom : ρ.all (fun p => (lk L p.1).isSome) = true) (hsub : SubH Lc h)
    (hL' : renH (ρ ++ ρn) L' = some Lc') (hdom' : (ρ ++ ρn).all (fun p => (lk L' p.1).isSome) = true) (hkeys : keysB Lc' = true)
    (hfresh : ρn.all (fun p => (lk h p.2).isNone) = true) (hr' : renO (ρ ++ ρn) r = some r')
    (hks : Lc.all (fun p => p.2.fixed || ks.contains p.1) = true)
    (hs1 : killSL ks s = some s1) (hh1 : killHL ks h = some h1) (hh' : putAll h1 Lc' = some h') :
    Calls P f vs w fun e w' => ∃ v φ', e = .returned v ∧ RelP F N ⟨s1, h'⟩ φ' a w' ∧ RepV (Stab F w' φ' h') w' φ' h' r' v ∧ (L = [] → Ext w w') := by
  refine hr.call0 (r := r) (fun φc hH hback => ?_) hinj hL hdom hsub hL' hdom' hkeys hfresh hr' hks hs1 hh1 hh'
  obtain ⟨hxl, hxr⟩ := renL_spec xs zs hxs
  refine hc w (Stab F w φ h) φc vs hH ⟨by rw [hxl]; exact hvs.1, fun i x v hx hv => ?_⟩
  obtain ⟨z, hz⟩ : ∃ z, zs[i]? = some z := ⟨zs[i]'(by rw [← hxl]; exact (List.getElem?_eq_some_iff.1 hx).1), by simp⟩
  exact hback (hxr i x z hx hz) (hvs.2 i z v hz hv)

variable {ops : Array Oper} {rest : List Oper} {K : St → Prop} {ty : TypeId} {pos : String} {after : Array Edge} {d : Nat}

/-- A call, with objects: 'ρ' says which of the caller's objects are the callee's 'L', 'ρn' how the caller names those that the call makes. -/
theorem TLE_call {ex : Bool} {f : FuncId} {args : Array Operand} {tys : Array TypeId} {s s1 s' : Slots} {h h1 h' : Heap} {xs zs : List AV} {L L' Lc Lc' : Heap} {r r' : AV} (ρ ρn : List (Nat × Nat)) (ks : List Nat)
    (hc : ACall P f xs L r L') (hE : ex = true → L = []) (hcall : ∀ args w, (callFunc f args).run P w = .ok (.enter f args) w) (hz : aevL s args.toList = some zs)
    (hinj : injB (ρ ++ ρn) = true) (hxs : renL ρ xs = some zs) (hL : renH ρ L = some Lc) (hdom : ρ.all (fun p => (lk L p.1).isSome) = true) (hsub : SubH Lc h)
    (hL' : renH (ρ ++ ρn) L' = some Lc') (hdom' : (ρ ++ ρn).all (fun p => (lk L' p.1).isSome) = true) (hkeys : keysB Lc' = true)
    (hfresh : ρn.all (fun p => (lk h p.2).isNone) = true) (hr' : renO (ρ ++ ρn) r = some r')
    (hks : Lc.all (fun p => p.2.fixed || ks.contains p.1) = true)
    (hs1 : killSL ks s = some s1) (hh1 : killHL ks h = some h1) (hh' : putAll h1 Lc' = some h') (hN : Nat.blt d N = true) (hs : sput s1 d r' = some s')
    (k : TLE ex P F N ops rest K ⟨s', h'⟩) : TLE ex P F N ops (⟨some d, .call ⟨.value (.func f), args, tys⟩, ty, pos, after, none⟩ :: rest) K ⟨s, h⟩ := by
  refine TL_enter (vs := fun a => args.map a.eval) rfl (fun φ a w hr => exec_call rfl rfl hcall) (fun φ a w hr => ?_) k
  obtain ⟨g1, g2⟩ := aevL_rep (fun y z hy => aev_rep hr hy) hz
  refine (hr.call hc hinj ⟨by rw [g1, Array.length_toList], fun i x v hx hv => g2 i x v hx (by simpa using hv)⟩ hxs hL hdom hsub hL' hdom' hkeys hfresh hr' hks hs1 hh1 hh').mono ?_
  rintro e w' ⟨v, φ', rfl, hr2, hv, hext⟩
  exact ⟨v, rfl, ⟨φ', hr2.put (Nat.le_of_ble_eq_true hN) hs hv⟩, fun h => hext (hE h)⟩

theorem TL_call {f : FuncId} {args : Array Operand} {tys : Array TypeId} {s s1 s' : Slots} {h h1 h' : Heap} {xs zs : List AV} {L L' Lc Lc' : Heap} {r r' : AV} (ρ ρn : List (Nat × Nat)) (ks : List Nat)
    (hc : ACall P f xs L r L') (hcall : ∀ args w, (callFunc f args).run P w = .ok (.enter f args) w) (hz : aevL s args.toList = some zs)
    (hinj : injB (ρ ++ ρn) = true) (hxs : renL ρ xs = some zs) (hL : renH ρ L = some Lc) (hdom : ρ.all (fun p => (lk L p.1).isSome) = true) (hsub : SubH Lc h)
    (hL' : renH (ρ ++ ρn) L' = some Lc') (hdom' : (ρ ++ ρn).all (fun p => (lk L' p.1).isSome) = true) (hkeys : keysB Lc' = true)
    (hfresh : ρn.all (fun p => (lk h p.2).isNone) = true) (hr' : renO (ρ ++ ρn) r = some r')
    (hks : Lc.all (fun p => p.2.fixed || ks.contains p.1) = true)
    (hs1 : killSL ks s = some s1) (hh1 : killHL ks h = some h1) (hh' : putAll h1 Lc' = some h') (hN : Nat.blt d N = true) (hs : sput s1 d r' = some s')
    (k : TL P F N ops rest K ⟨s', h'⟩) : TL P F N ops (⟨some d, .call ⟨.value (.func f), args, tys⟩, ty, pos, after, none⟩ :: rest) K ⟨s, h⟩ :=
  TLE_call ρ ρn ks hc (fun h => nomatch h) hcall hz hinj hxs hL hdom hsub hL' hdom' hkeys hfresh hr' hks hs1 hh1 hh' hN hs k

end

end Go.AM
