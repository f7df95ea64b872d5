/- Calls: contracts, and how a caller uses them. -/
import Derived.Test.YtlijhkhbdfgapaaAmI
namespace Go.AM
open Go

/-! ### Renaming objects -/

inductive Ren (ρ : Nat → Nat → Prop) : AV → AV → Prop where
  | tree {x : AV} : noIds x = true → Ren ρ x x
  | ow {i j : Nat} : ρ i j → Ren ρ (.ow i) (.ow j)
  | ptr {i j k o : Nat} : ρ i j → Ren ρ (.ptr i k o) (.ptr j k o)
  | mp {i j : Nat} : ρ i j → Ren ρ (.mp i) (.mp j)
  | sub {i j n : Nat} : ρ i j → Ren ρ (.sub i n) (.sub j n)
  | agg {xs ys : List AV} : xs.length = ys.length → (∀ (n : Nat) x y, xs[n]? = some x → ys[n]? = some y → Ren ρ x y) → Ren ρ (.agg xs) (.agg ys)
  | tup {xs ys : List AV} : xs.length = ys.length → (∀ (n : Nat) x y, xs[n]? = some x → ys[n]? = some y → Ren ρ x y) → Ren ρ (.tup xs) (.tup ys)
  | fn {f : Fn} {xs ys us vs : List AV} : xs.length = ys.length → us.length = vs.length → (∀ (n : Nat) x y, xs[n]? = some x → ys[n]? = some y → Ren ρ x y) →
      (∀ (n : Nat) x y, us[n]? = some x → vs[n]? = some y → Ren ρ x y) → Ren ρ (.fn f xs us) (.fn f ys vs)

theorem Ren.symm {ρ σ : Nat → Nat → Prop} (h : ∀ i j, ρ i j → σ j i) {x y : AV} (hr : Ren ρ x y) : Ren σ y x := by
  induction hr with
  | tree h => exact .tree h
  | ow hi => exact .ow (h _ _ hi)
  | ptr hi => exact .ptr (h _ _ hi)
  | mp hi => exact .mp (h _ _ hi)
  | sub hi => exact .sub (h _ _ hi)
  | agg hl _ ih => exact .agg hl.symm (fun n y x hy hx => ih n x y hx hy)
  | tup hl _ ih => exact .tup hl.symm (fun n y x hy hx => ih n x y hx hy)
  | fn h1 h2 _ _ ih1 ih2 => exact .fn h1.symm h2.symm (fun n y x hy hx => ih1 n x y hx hy) (fun n y x hy hx => ih2 n x y hx hy)

theorem RepV.fn_inv {S : Nat → Prop} {w : World} {φ : Nat → Loc} {η : Heap} {f : Fn} {xs us : List AV} {v : Value} (h : RepV S w φ η (.fn f xs us) v) :
    ∃ as bs : Array Value, v = .func f as bs ∧ xs.length = as.size ∧ us.length = bs.size ∧ (∀ (i : Nat) x u, xs[i]? = some x → as[i]? = some u → RepV S w φ η x u) ∧
      (∀ (i : Nat) x u, us[i]? = some x → bs[i]? = some u → RepV S w φ η x u) := by
  cases h with
  | pure h => cases h with
    | fn _ _ _ as bs h1 h2 h3 h4 => exact ⟨as, bs, rfl, h1, h2, fun i x u hx hu => .pure (h3 i x u hx hu), fun i x u hx hu => .pure (h4 i x u hx hu)⟩
  | fn _ _ _ as bs h1 h2 h3 h4 => exact ⟨as, bs, rfl, h1, h2, h3, h4⟩

/-- What is known of an object under its other name. -/
def objAlike (η η' : Heap) (i j : Nat) : Prop :=
  (∀ k sz E es, lk η i = some (.arr k sz E es) → ∃ k' es', es'.length = es.length ∧ lk η' j = some (.arr k' sz E es')) ∧ (∀ cs, lk η i = some (.box cs) → ∃ cs', lk η' j = some (.box cs'))

theorem RepV.ren {S S' : Nat → Prop} {w w' : World} {φ φ' : Nat → Loc} {η η' : Heap} {ρ : Nat → Nat → Prop} (hS : ∀ b, S b → S' b)
    (hw : ∀ b, S b → w'.heap[b]? = w.heap[b]?) (hρ : ∀ i j, ρ i j → (∀ o, lk η i = some o → φ' j = φ i) ∧ objAlike η η' i j) {x y : AV} (hr : Ren ρ x y) :
    ∀ {v : Value}, RepV S w φ η x v → RepV S' w' φ' η' y v := by
  induction hr with
  | tree h => intro v hv; exact .pure ((hv.tree h).mono hS hw)
  | @ow i j hij =>
    intro v hv
    obtain ⟨he', ha, _⟩ := hρ i j hij
    cases hv with
    | pure hv => cases hv
    | @ow _ sz k E es h1 h2 =>
      have he := he' _ h1
      obtain ⟨k', es', hle, h3⟩ := ha _ _ _ _ h1
      have := RepV.ow (S := S') (w := w') (φ := φ') h3 (by rw [he]; exact h2)
      rw [he, hle] at this
      exact this
    | ow0 h1 h2 =>
      have he := he' _ h1
      obtain ⟨k', es', hle, h3⟩ := ha _ _ _ _ h1
      have : es' = [] := List.eq_nil_of_length_eq_zero (by simpa using hle)
      subst this
      have := RepV.ow0 (S := S') (w := w') (φ := φ') h3 (by rw [he]; exact h2)
      rw [he] at this
      exact this
  | @ptr i j k o hij =>
    intro v hv
    obtain ⟨he', ha, hb⟩ := hρ i j hij
    cases hv with
    | pure hv => cases hv
    | box h1 h2 =>
      have he := he' _ h1
      obtain ⟨cs', h3⟩ := hb _ h1
      have := RepV.box (S := S') (w := w') (φ := φ') (off := o) h3 (by rw [he]; exact h2)
      rw [he] at this
      exact this
    | elt h1 h2 =>
      have he := he' _ h1
      obtain ⟨k', es', hle, h3⟩ := ha _ _ _ _ h1
      have := RepV.elt (S := S') (w := w') (φ := φ') (k := k) (off := o) h3 (by rw [he]; exact h2)
      rw [he] at this
      exact this
  | mp hij =>
    intro v hv
    cases hv with
    | pure hv => cases hv
  | @sub i j n hij =>
    intro v hv
    obtain ⟨he', ha, _⟩ := hρ i j hij
    cases hv with
    | pure hv => cases hv
    | sub h1 =>
      have he := he' _ h1
      obtain ⟨k', es', hle, h3⟩ := ha _ _ _ _ h1
      have := RepV.sub (S := S') (w := w') (φ := φ') (n := n) h3
      rw [he] at this
      exact this
  | @agg xs ys hl _ ih =>
    intro v hv
    obtain ⟨us, rfl, h1, h2⟩ := hv.agg_inv
    refine .agg ys us (by rw [← hl]; exact h1) (fun i y v hy hv => ?_)
    obtain ⟨x, hx⟩ : ∃ x, xs[i]? = some x := ⟨xs[i]'(by rw [hl]; exact (List.getElem?_eq_some_iff.1 hy).1), by simp⟩
    exact ih i x y hx hy (h2 i x v hx hv)
  | @tup xs ys hl _ ih =>
    intro v hv
    obtain ⟨us, rfl, h1, h2⟩ := hv.tup_inv
    refine .tup ys us (by rw [← hl]; exact h1) (fun i y v hy hv => ?_)
    obtain ⟨x, hx⟩ : ∃ x, xs[i]? = some x := ⟨xs[i]'(by rw [hl]; exact (List.getElem?_eq_some_iff.1 hy).1), by simp⟩
    exact ih i x y hx hy (h2 i x v hx hv)
  | @fn f xs ys us vs hl1 hl2 _ _ ih1 ih2 =>
    intro v hv
    obtain ⟨as, bs, rfl, h1, h2, h3, h4⟩ := hv.fn_inv
    refine .fn f ys vs as bs (by rw [← hl1]; exact h1) (by rw [← hl2]; exact h2) (fun i y v hy hv => ?_) (fun i y v hy hv => ?_)
    · obtain ⟨x, hx⟩ : ∃ x, xs[i]? = some x := ⟨xs[i]'(by rw [hl1]; exact (List.getElem?_eq_some_iff.1 hy).1), by simp⟩
      exact ih1 i x y hx hy (h3 i x v hx hv)
    · obtain ⟨x, hx⟩ : ∃ x, us[i]? = some x := ⟨us[i]'(by rw [hl2]; exact (List.getElem?_eq_some_iff.1 hy).1), by simp⟩
      exact ih2 i x y hx hy (h4 i x v hx hv)

mutual
/-- A value with its objects renamed. -/
def renO (ρ : List (Nat × Nat)) : AV → Option AV
  | .ow i => match lk ρ i with
    | some j => some (.ow j)
    | none => none
  | .ptr i k o => match lk ρ i with
    | some j => some (.ptr j k o)
    | none => none
  | .mp _ => none
  | .sub i n => match lk ρ i with
    | some j => some (.sub j n)
    | none => none
  | .agg xs => match renL ρ xs with
    | some ys => some (.agg ys)
    | none => none
  | .tup xs => match renL ρ xs with
    | some ys => some (.tup ys)
    | none => none
  | .fn f xs us => match renL ρ xs with
    | some ys => match renL ρ us with
      | some vs => some (.fn f ys vs)
      | none => none
    | none => none
  | x => some x
def renL (ρ : List (Nat × Nat)) : List AV → Option (List AV)
  | [] => some []
  | x :: r => match renO ρ x with
    | some y => match renL ρ r with
      | some l => some (y :: l)
      | none => none
    | none => none
end

mutual
theorem renO_spec {ρ : List (Nat × Nat)} : ∀ (x y : AV), renO ρ x = some y → Ren (fun i j => lk ρ i = some j) x y
  | .ow i, y, h => by
    unfold renO at h
    cases hl : lk ρ i with
    | none => simp [hl] at h
    | some j => simp only [hl, Option.some.injEq] at h; subst h; exact .ow hl
  | .ptr i k o, y, h => by
    unfold renO at h
    cases hl : lk ρ i with
    | none => simp [hl] at h
    | some j => simp only [hl, Option.some.injEq] at h; subst h; exact .ptr hl
  | .mp i, y, h => by simp [renO] at h
  | .sub i n, y, h => by
    unfold renO at h
    cases hl : lk ρ i with
    | none => simp [hl] at h
    | some j => simp only [hl, Option.some.injEq] at h; subst h; exact .sub hl
  | .agg xs, y, h => by
    unfold renO at h
    cases hl : renL ρ xs with
    | none => simp [hl] at h
    | some ys =>
      simp only [hl, Option.some.injEq] at h
      subst h
      obtain ⟨h1, h2⟩ := renL_spec xs ys hl
      exact .agg h1 h2
  | .tup xs, y, h => by
    unfold renO at h
    cases hl : renL ρ xs with
    | none => simp [hl] at h
    | some ys =>
      simp only [hl, Option.some.injEq] at h
      subst h
      obtain ⟨h1, h2⟩ := renL_spec xs ys hl
      exact .tup h1 h2
  | .fn f xs us, y, h => by
    unfold renO at h
    cases hl : renL ρ xs with
    | none => simp [hl] at h
    | some ys =>
      simp only [hl] at h
      cases hl2 : renL ρ us with
      | none => simp [hl2] at h
      | some vs =>
        simp only [hl2, Option.some.injEq] at h
        subst h
        obtain ⟨h1, h2⟩ := renL_spec xs ys hl
        obtain ⟨h3, h4⟩ := renL_spec us vs hl2
        exact .fn h1 h3 h2 h4
  | .int _ _, y, h => by simp only [renO, Option.some.injEq] at h; subst h; exact .tree rfl
  | .bool _, y, h => by simp only [renO, Option.some.injEq] at h; subst h; exact .tree rfl
  | .str _, y, h => by simp only [renO, Option.some.injEq] at h; subst h; exact .tree rfl
  | .snil, y, h => by simp only [renO, Option.some.injEq] at h; subst h; exact .tree rfl
  | .sl _ _, y, h => by simp only [renO, Option.some.injEq] at h; subst h; exact .tree rfl
  | .cp _, y, h => by simp only [renO, Option.some.injEq] at h; subst h; exact .tree rfl
  | .nilp, y, h => by simp only [renO, Option.some.injEq] at h; subst h; exact .tree rfl
  | .nilf, y, h => by simp only [renO, Option.some.injEq] at h; subst h; exact .tree rfl
  | .junk, y, h => by simp only [renO, Option.some.injEq] at h; subst h; exact .tree rfl
theorem renL_spec {ρ : List (Nat × Nat)} : ∀ (xs ys : List AV), renL ρ xs = some ys → xs.length = ys.length ∧
    ∀ (n : Nat) x y, xs[n]? = some x → ys[n]? = some y → Ren (fun i j => lk ρ i = some j) x y
  | [], ys, h => by simp only [renL, Option.some.injEq] at h; subst h; exact ⟨rfl, fun n x y hx => by simp at hx⟩
  | x :: r, ys, h => by
    unfold renL at h
    cases hx : renO ρ x with
    | none => simp [hx] at h
    | some y =>
      simp only [hx] at h
      cases hr : renL ρ r with
      | none => simp [hr] at h
      | some l =>
        simp only [hr, Option.some.injEq] at h
        subst h
        obtain ⟨h1, h2⟩ := renL_spec r l hr
        refine ⟨by simp [h1], fun n u v hu hv => ?_⟩
        cases n with
        | zero => simp at hu hv; subst hu; subst hv; exact renO_spec x y hx
        | succ n => simp at hu hv; exact h2 n u v hu hv
end

/-- Objects renamed. -/
def renH (ρ : List (Nat × Nat)) : Heap → Option Heap
  | [] => some []
  | (i, .box cs) :: r => match lk ρ i with
    | some j => match renL ρ cs with
      | some cs' => match renH ρ r with
        | some r' => some ((j, .box cs') :: r')
        | none => none
      | none => none
    | none => none
  | (i, .arr kd sz E es) :: r => match lk ρ i with
    | some j => match renH ρ r with
      | some r' => some ((j, .arr kd sz E es) :: r')
      | none => none
    | none => none

/-! ### Contracts -/

/-- What a call leaves. -/
structure Ret (F : Fr) (w' : World) (φ' : Nat → Loc) (L' : Heap) (r : AV) (v : Value) : Prop where
  sys : SameSys F.w w'
  grow : F.w.heap.size ≤ w'.heap.size
  heap : HeapOK (Stab F w' φ' L') w' φ' L'
  val : RepV (Stab F w' φ' L') w' φ' L' r v
  mine : ∀ id o b, lk L' id = some o → (φ' id).owns b → F.w.heap.size ≤ b ∨ ∃ o0, lk F.η id = some o0 ∧ (F.φ id).owns b
  fix : ∀ id o, lk F.η id = some o → o.isBox ≠ 1 → φ' id = F.φ id
  keep : ∀ id o, lk F.η id = some o → ∃ o', lk L' id = some o' ∧ o.alike o'
  frame : ∀ b, b < F.w.heap.size → ¬ F.mut b → w'.heap[b]? = F.w.heap[b]?

/-- Called with 'args' over the objects 'L' the function returns 'r' and leaves the objects 'L''. -/
def ACall (P : Program) (f : FuncId) (args : List AV) (L : Heap) (r : AV) (L' : Heap) : Prop :=
  ∀ (w : World) (S : Nat → Prop) (φ : Nat → Loc) (vs : Array Value), HeapOK S w φ L → PW S w φ L args vs.toList →
    Calls P f vs w fun e w' => ∃ v φ', e = .returned v ∧ Ret ⟨w, S, φ, L⟩ w' φ' L' r v

/-! ### From a body to a contract -/

def ResOK (P : Program) (s : Slots) (h : Heap) : ResultVar → AV → Prop
  | .tmp t, x => lk s t = some x
  | .cell a t, x => ∃ p cs, lk s a = some p ∧ acells h p = some cs ∧
      ((tyAgg P t = some false ∧ ∃ r, cs = x :: r) ∨ (tyAgg P t = some true ∧ ∃ n cs', tySize P t = some n ∧ takeO cs n = some cs' ∧ x = .agg cs'))

def ResL (P : Program) (s : Slots) (h : Heap) : List ResultVar → List AV → Prop
  | [], [] => True
  | rv :: rs, x :: xs => ResOK P s h rv x ∧ ResL P s h rs xs
  | _, _ => False

def resVal : List AV → AV
  | [x] => x
  | xs => .tup xs

mutual
/-- All objects that are named are there. -/
def closed (h : Heap) : AV → Bool
  | .ow i => (lk h i).isSome
  | .ptr i _ _ => (lk h i).isSome
  | .mp _ => false
  | .sub i _ => (lk h i).isSome
  | .agg cs => closedL h cs
  | .tup vs => closedL h vs
  | .fn _ as bs => closedL h as && closedL h bs
  | _ => true
def closedL (h : Heap) : List AV → Bool
  | [] => true
  | x :: r => closed h x && closedL h r
end

mutual
theorem closed_ren {h : Heap} : ∀ (x : AV), closed h x = true → Ren (fun i j => i = j ∧ (lk h i).isSome = true) x x
  | .ow i, hc => .ow ⟨rfl, by simpa [closed] using hc⟩
  | .ptr i k o, hc => .ptr ⟨rfl, by simpa [closed] using hc⟩
  | .mp i, hc => by simp [closed] at hc
  | .sub i _, hc => .sub ⟨rfl, by simpa [closed] using hc⟩
  | .agg xs, hc => .agg rfl (fun n x y hx hy => by
      rw [hx] at hy
      cases hy
      exact closedL_ren xs (by simpa [closed] using hc) n x hx)
  | .tup xs, hc => .tup rfl (fun n x y hx hy => by
      rw [hx] at hy
      cases hy
      exact closedL_ren xs (by simpa [closed] using hc) n x hx)
  | .fn f xs us, hc => by
    simp only [closed, Bool.and_eq_true] at hc
    refine .fn rfl rfl (fun n x y hx hy => ?_) (fun n x y hx hy => ?_)
    · rw [hx] at hy; cases hy; exact closedL_ren xs hc.1 n x hx
    · rw [hx] at hy; cases hy; exact closedL_ren us hc.2 n x hx
  | .int _ _, _ => .tree rfl
  | .bool _, _ => .tree rfl
  | .str _, _ => .tree rfl
  | .snil, _ => .tree rfl
  | .sl _ _, _ => .tree rfl
  | .cp _, _ => .tree rfl
  | .nilp, _ => .tree rfl
  | .nilf, _ => .tree rfl
  | .junk, _ => .tree rfl
theorem closedL_ren {h : Heap} : ∀ (xs : List AV), closedL h xs = true → ∀ (n : Nat) x, xs[n]? = some x → Ren (fun i j => i = j ∧ (lk h i).isSome = true) x x
  | [], _, n, x, hx => by simp at hx
  | y :: r, hc, n, x, hx => by
    simp only [closedL, Bool.and_eq_true] at hc
    cases n with
    | zero => simp at hx; subst hx; exact closed_ren y hc.1
    | succ n => simp at hx; exact closedL_ren r hc.2 n x hx
end

def closedH (h : Heap) : Heap → Bool
  | [] => true
  | (_, .box cs) :: r => closedL h cs && closedH h r
  | (_, .arr _ _ _ _) :: r => closedH h r

theorem closedH_lk {h : Heap} : ∀ {l : Heap}, closedH h l = true → ∀ i cs, lk l i = some (.box cs) → closedL h cs = true := by
  intro l
  induction l with
  | nil => intro _ i cs hi; cases hi
  | cons p l ih =>
    obtain ⟨k, o⟩ := p
    intro hc i cs hi
    rw [lk_cons] at hi
    cases o with
    | box cs0 =>
      simp only [closedH, Bool.and_eq_true] at hc
      split at hi
      · cases hi; exact hc.1
      · exact ih hc.2 i cs hi
    | arr kd sz E es =>
      simp only [closedH] at hc
      split at hi
      · cases hi
      · exact ih hc i cs hi

def keepO {α : Type} : List Nat → List (Nat × α) → Option (List (Nat × α))
  | [], _ => some []
  | i :: r, s => match lk s i with
    | some x => match keepO r s with
      | some l => some ((i, x) :: l)
      | none => none
    | none => none

theorem keepO_lk {α : Type} {s : List (Nat × α)} : ∀ {ids : List Nat} {s' : List (Nat × α)}, keepO ids s = some s' → ∀ i x, lk s' i = some x → lk s i = some x := by
  intro ids
  induction ids with
  | nil => intro s' h i x hx; cases h; cases hx
  | cons j ids ih =>
    intro s' h i x hx
    unfold keepO at h
    cases hj : lk s j with
    | none => simp [hj] at h
    | some y =>
      simp only [hj] at h
      cases hr : keepO ids s with
      | none => simp [hr] at h
      | some l =>
        simp only [hr, Option.some.injEq] at h
        subst h
        rw [lk_cons] at hx
        split at hx
        · cases hx; rename_i hji; rw [← hji]; exact hj
        · exact ih hr i x hx

/-- What stands at the end of a body. -/
def RetPost (P : Program) (rs : List ResultVar) (L : Heap) (r : AV) (L' : Heap) (st : St) : Prop :=
  ∃ xs ids, ResL P st.s st.h rs xs ∧ resVal xs = r ∧ keepO ids st.h = some L' ∧ closed L' r = true ∧ closedH L' L' = true ∧ L.all (fun p => (lk L' p.1).isSome) = true

def BodyPost (P : Program) (rs : List ResultVar) (L : Heap) (r : AV) (L' : Heap) : Exit → St → Prop
  | .normal, st => RetPost P rs L r L' st
  | .ret, st => RetPost P rs L r L' st
  | _, _ => False

section
variable {P : Program} {F : Fr} {N : Nat}

theorem ResOK_run {st : St} {φ : Nat → Loc} {a : Act} {w : World} (hr : RelP F N st φ a w) {rv : ResultVar} {x : AV} (h : ResOK P st.s st.h rv x) :
    ∃ v, ((match rv with
      | .tmp t => pure (a.tmps.getD t undef)
      | .cell b t => do loadVar t (← asAddr (a.tmps.getD b undef))) : Sem Value).run P w = .ok v w ∧ RepV (Stab F w φ st.h) w φ st.h x v := by
  cases rv with
  | tmp t =>
    obtain ⟨v, hv, hrep⟩ := hr.slots t x h
    exact ⟨v, by simp [hv], hrep⟩
  | cell b t =>
    obtain ⟨p, cs, hp, hcs, hx⟩ := h
    obtain ⟨v, hv, hrep⟩ := hr.slots b p hp
    have hgd : a.tmps.getD b undef = v := by simp [hv]
    have hpt := PT_of hr.heap hrep hcs
    have hav : ∃ bb off, v = .pointer (some ⟨bb, off, none⟩) := by
      obtain ⟨bb, off, f, e, _⟩ := hpt
      exact ⟨bb, off, e⟩
    obtain ⟨bb, off, rfl⟩ := hav
    have hload : ∀ u, (Instr.loadAt t (.pointer (some ⟨bb, off, none⟩))).run P w = .ok u w →
        ((do loadVar t (← asAddr (a.tmps.getD b undef))) : Sem Value).run P w = .ok u w := by
      intro u hu
      rw [hgd]
      exact hu
    rcases hx with ⟨ha, r, rfl⟩ | ⟨ha, n, cs', hs, ht, rfl⟩
    · obtain ⟨u, hu, hrep⟩ := load_one (P := P) hpt ha
      exact ⟨u, hload u (hu w (Ext.refl w)), hrep⟩
    · obtain ⟨u, hu, hrep⟩ := load_agg (P := P) hpt ha hs ht
      exact ⟨u, hload u (hu w (Ext.refl w)), hrep⟩

theorem ResL_run {st : St} {φ : Nat → Loc} {a : Act} {w : World} (hr : RelP F N st φ a w) : ∀ {rs : List ResultVar} {xs : List AV}, ResL P st.s st.h rs xs →
    ∃ vs, (rs.mapM fun rv => (match rv with
      | .tmp t => pure (a.tmps.getD t undef)
      | .cell b t => do loadVar t (← asAddr (a.tmps.getD b undef)) : Sem Value)).run P w = .ok vs w ∧ PW (Stab F w φ st.h) w φ st.h xs vs := by
  intro rs
  induction rs with
  | nil =>
    intro xs h
    cases xs with
    | nil => exact ⟨[], rfl, rfl, fun i x v hx => by simp at hx⟩
    | cons _ _ => exact h.elim
  | cons rv rs ih =>
    intro xs h
    cases xs with
    | nil => exact h.elim
    | cons x xs =>
      obtain ⟨v, hv, hrep⟩ := ResOK_run hr h.1
      obtain ⟨vs, hvs, hpw⟩ := ih h.2
      refine ⟨v :: vs, ?_, by simp [hpw.1], fun i y u hy hu => ?_⟩
      · simp only [List.mapM_cons, Sem.run_bind, hv, hvs, Result.andThen_ok, Sem.run_pure]
      · cases i with
        | zero => simp at hy hu; subst hy; subst hu; exact hrep
        | succ i => simp at hy hu; exact hpw.2 i y u hy hu

theorem results_run {fn : Func} {st : St} {φ : Nat → Loc} {a : Act} {w : World} (hr : RelP F N st φ a w) {xs : List AV} (h : ResL P st.s st.h fn.results.toList xs) :
    ∃ v, (results fn a.tmps).run P w = .ok v w ∧ RepV (Stab F w φ st.h) w φ st.h (resVal xs) v := by
  obtain ⟨vs, hvs, hpw⟩ := ResL_run hr h
  have hm : (fn.results.mapM fun rv => (match rv with
      | .tmp t => pure (a.tmps.getD t undef)
      | .cell b t => do loadVar t (← asAddr (a.tmps.getD b undef)) : Sem Value)).run P w = .ok vs.toArray w := by
    rw [Array.mapM_eq_mapM_toList]
    simp only [Sem.run_map, hvs, Result.andThen_ok]
  refine ⟨if h : vs.toArray.size = 1 then vs.toArray[0] else .tuple vs.toArray, ?_, ?_⟩
  · unfold results
    simp only [Sem.run_bind, Sem.run_pure]
    exact (congrArg (fun r => Result.andThen r fun a w' => Result.ok (if h : a.size = 1 then a[0] else Value.tuple a) w') (show _ = Result.ok vs.toArray w from hm)).trans rfl
  · by_cases h1 : vs.toArray.size = 1
    · rw [dif_pos h1]
      have hxl : xs.length = 1 := by rw [hpw.1]; simpa using h1
      match xs, hxl with
      | [x], _ => exact hpw.2 0 x _ (by simp) (by simp at h1; simp [h1])
    · rw [dif_neg h1]
      have hxl : xs.length ≠ 1 := by rw [hpw.1]; simpa using h1
      have : resVal xs = .tup xs := by
        unfold resVal
        split
        · simp at hxl
        · rfl
      rw [this]
      exact .tup xs vs.toArray (by simpa using hpw.1) (fun i x v hx hv => hpw.2 i x v hx (by simpa using hv))

def argS : Nat → List AV → Slots
  | _, [] => []
  | k, x :: r => (k, x) :: argS (k + 1) r

theorem argS_lk : ∀ {l : List AV} {k i : Nat} {x : AV}, lk (argS k l) i = some x → k ≤ i ∧ l[i - k]? = some x := by
  intro l
  induction l with
  | nil => intro k i x h; cases h
  | cons y l ih =>
    intro k i x h
    unfold argS at h
    rw [lk_cons] at h
    split at h
    · cases h; rename_i hk; subst hk; simp
    · rename_i hk
      obtain ⟨h1, h2⟩ := ih h
      refine ⟨by omega, ?_⟩
      have : i - k = (i - (k + 1)) + 1 := by omega
      rw [this]
      simpa using h2

theorem Ret.of_rel {st : St} {φ : Nat → Loc} {a : Act} {w : World} (hr : RelP F N st φ a w) {ids : List Nat} {L' : Heap} {r : AV} {v : Value}
    (hk : keepO ids st.h = some L') (hc : closed L' r = true) (hcH : closedH L' L' = true) (hall : F.η.all (fun p => (lk L' p.1).isSome) = true)
    (hv : RepV (Stab F w φ st.h) w φ st.h r v) : Ret F w φ L' r v := by
  have hlk := keepO_lk hk
  have hS : ∀ b, Stab F w φ st.h b → Stab F w φ L' b := fun b hb => ⟨hb.1, hb.2.1, fun i o ho hm => hb.2.2 i o (hlk i o ho) hm⟩
  have hρ : ∀ i j, (i = j ∧ (lk L' i).isSome = true) → (∀ o, lk st.h i = some o → φ j = φ i) ∧ objAlike st.h L' i j := by
    rintro i j ⟨rfl, hi⟩
    refine ⟨fun _ _ => rfl, fun k sz E es ho => ⟨k, es, rfl, ?_⟩, fun cs ho => ⟨cs, ?_⟩⟩
    · obtain ⟨o, hl⟩ := Option.isSome_iff_exists.1 hi
      have := hlk i o hl
      rw [ho] at this; cases this; exact hl
    · obtain ⟨o, hl⟩ := Option.isSome_iff_exists.1 hi
      have := hlk i o hl
      rw [ho] at this; cases this; exact hl
  have hR : ∀ {x v}, Ren (fun i j => i = j ∧ (lk L' i).isSome = true) x x → RepV (Stab F w φ st.h) w φ st.h x v → RepV (Stab F w φ L') w φ L' x v :=
    fun hx h => h.ren hS (fun _ _ => rfl) hρ hx
  have hkeep : ∀ id, lk F.η id ≠ none → (lk L' id).isSome = true := by
    intro id hid
    have : ∃ o, (id, o) ∈ F.η := by
      clear hr hk hc hcH hv hlk hS hρ hR
      generalize F.η = l at hid
      induction l with
      | nil => exact absurd rfl hid
      | cons p l ih =>
        obtain ⟨k, o⟩ := p
        rw [lk_cons] at hid
        by_cases hki : k = id
        · subst hki; exact ⟨o, by simp⟩
        · rw [if_neg hki] at hid
          obtain ⟨o', ho'⟩ := ih hid
          exact ⟨o', by simp [ho']⟩
    obtain ⟨o, ho⟩ := this
    exact (List.all_eq_true.1 hall) (id, o) ho
  refine ⟨hr.sys, hr.grow, ⟨fun i o ho => ?_, fun i j oi oj b hi hj hmi hmj => hr.heap.injO i j oi oj b (hlk i oi hi) (hlk j oj hj) hmi hmj, fun b hb => hb.1,
    fun i o b ho hm hst => hst.2.2 i o ho hm, fun i o b ho hm => hr.heap.ltO i o b (hlk i o ho) hm⟩, hR (closed_ren r hc) hv, fun i o b ho hm => hr.mine i o b (hlk i o ho) hm, hr.fix, fun i o hi => ?_, hr.frame⟩
  · have hok := hr.heap.obj i o (hlk i o ho)
    cases o with
    | box cs =>
      obtain ⟨hm, C, E, hC, hsz, hrep⟩ := hok
      exact ⟨hm, C, E, hC, hsz, fun j x v hx hv => hR (closedL_ren cs (closedH_lk hcH i cs ho) j x hx) (hrep j x v hx hv)⟩
    | arr kd sz E es =>
      obtain ⟨h0, hl, hone, hob⟩ := hok
      refine ⟨h0, hl, hone, ?_⟩
      rcases hob with hob | ⟨hm, C, hC, h1, h2, h3, h4⟩
      · exact .inl hob
      · exact .inr ⟨hm, C, hC, h1, h2, h3, h4.mono hS (fun _ _ => rfl) (fun _ _ _ => rfl) rfl⟩
  · obtain ⟨o', ho', hb⟩ := hr.keep i o hi
    obtain ⟨o2, ho2⟩ := Option.isSome_iff_exists.1 (hkeep i (by rw [hi]; simp))
    have := hlk i o2 ho2
    rw [ho'] at this
    cases this
    exact ⟨o', ho2, hb⟩

/-- A body that is walked gives a contract. -/
theorem ACall.intro {f : FuncId} {fn : Func} {c : Code} {args : List AV} {L L' : Heap} {r : AV} (hf : P.funcs[f]? = some fn) (hb : fn.body = some c) (hN : fn.ntmps = N)
    (ha : Nat.ble args.length N = true) (hT : ∀ F : Fr, F.η = L → T P F N c (BodyPost P fn.results.toList L r L') ⟨argS 0 args, L⟩) : ACall P f args L r L' := by
  intro w S φ vs hH hvs
  have ha' : args.length ≤ N := Nat.le_of_ble_eq_true ha
  have hvl : vs.size = args.length := by simpa using hvs.1.symm
  let F : Fr := ⟨w, S, φ, L⟩
  have hS1 : ∀ b, S b → Stab F w φ L b := fun b hb => ⟨hH.free b hb, .inl hb, fun id o ho hm => hH.apartO id o b ho hm hb⟩
  have hrel : RelP F N ⟨argS 0 args, L⟩ φ { tmps := vs ++ Array.replicate (fn.ntmps - vs.size) undef, defers := [] } w := by
    refine ⟨by simp [hN, hvl]; omega, rfl, SameSys.refl w, Nat.le_refl _, ⟨fun id o ho => ?_, hH.injO, fun b hb => hb.1, fun id o b ho hm hs => hs.2.2 id o ho hm, hH.ltO⟩, fun i x hx => ?_,
      fun id o b ho hm => .inr ⟨o, ho, hm⟩, fun _ _ _ _ => rfl, fun id o ho => ⟨o, ho, AO.alike_refl o⟩, fun _ _ _ => rfl⟩
    · have hok := hH.obj id o ho
      cases o with
      | box cs =>
        obtain ⟨hm, C, E, hC, hsz, hrep⟩ := hok
        exact ⟨hm, C, E, hC, hsz, fun j x v hx hv => (hrep j x v hx hv).mono hS1 (fun _ _ => rfl) (headsAlike.refl _ _)⟩
      | arr kd sz E es =>
        obtain ⟨h0, hl, hone, hob⟩ := hok
        refine ⟨h0, hl, hone, ?_⟩
        rcases hob with hob | ⟨hm, C, hC, h1, h2, h3, h4⟩
        · exact .inl hob
        · exact .inr ⟨hm, C, hC, h1, h2, h3, h4.mono hS1 (fun _ _ => rfl) (fun _ _ _ => rfl) rfl⟩
    · obtain ⟨_, hi⟩ := argS_lk hx
      have hlt := (List.getElem?_eq_some_iff.1 hi).1
      have hi' : args[i]? = some x := by simpa using hi
      have hlt' : i < vs.size := by rw [hvl]; simpa using hlt
      refine ⟨vs[i], ?_, (hvs.2 i x vs[i] hi' (by simp)).mono hS1 (fun _ _ => rfl) (headsAlike.refl _ _)⟩
      rw [Array.getElem?_append_left hlt']
      simp
  refine calls_of_wp hf hb (Code.wp_mono ?_ (hT F rfl _ w ⟨φ, hrel⟩))
  rintro e a' w' ⟨st', hq, φ', hr'⟩
  have hfin : ∀ {st'}, RetPost P fn.results.toList L r L' st' → RelP F N st' φ' a' w' → a'.defers = [] ∧ ∃ v, (results fn a'.tmps).run P w' = .ok v w' ∧ ∃ v' φ', Ending.returned v = .returned v' ∧ Ret F w' φ' L' r v' := by
    rintro st' ⟨xs, ids, hres, rfl, hk, hc, hcH, hall⟩ hr'
    obtain ⟨v, hv, hrep⟩ := results_run hr' hres
    exact ⟨hr'.defers, v, hv, v, φ', rfl, Ret.of_rel hr' hk hc hcH hall hrep⟩
  cases e with
  | normal => exact hfin hq hr'
  | ret => exact hfin hq hr'
  | _ => exact hq.elim

end
end Go.AM
