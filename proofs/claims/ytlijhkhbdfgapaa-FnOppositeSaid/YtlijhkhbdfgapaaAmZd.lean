/- Loops as functions; facts; variables whose time is over become trees. -/
import Derived.Test.YtlijhkhbdfgapaaAmZc
import Derived.Test.YtlijhkhbdfgapaaAmPa
namespace Go.AM
open Go

def CtlOK {σ τ : Type} (R : σ → Prop) (K : τ → Prop) : Ctl σ τ → Prop
  | .next s => R s
  | .out t => K t

section
variable {P : Program} {F : Fr} {N : Nat} {Q : Exit → St → Prop} {st : St} {c : Code}

theorem TR_forL {α σ τ : Type} (xs : List α) (step : Nat → α → σ → Option (Ctl σ τ)) (fin : σ → τ) (inv : Nat → σ → St) (K : τ → Prop) {s0 : σ} {t : τ} (hl : forL step fin 0 xs s0 = some t) (hk : K t)
    (hend : ∀ s, K (fin s) → T P F N c (Post.seq (TR P F N c Q) Q) (inv xs.length s))
    (hbody : ∀ n x s ctl, xs[n]? = some x → n < xs.length → step n x s = some ctl → CtlOK (fun s' => ∀ st, st = inv (n + 1) s' → TR P F N c Q st) K ctl → T P F N c (Post.seq (TR P F N c Q) Q) (inv n s)) :
    TR P F N c Q (inv 0 s0) := by
  have key : ∀ (r : List α) (n : Nat) (s : σ), xs.drop n = r → n ≤ xs.length → forL step fin n r s = some t → TR P F N c Q (inv n s) := by
    intro r
    induction r with
    | nil =>
      intro n s hd hn h
      have : n = xs.length := by have := congrArg List.length hd; simp at this; omega
      subst this
      cases h
      exact TR_step (hend s hk)
    | cons x r ih =>
      intro n s hd hn h
      have hx : xs[n]? = some x := by
        have : (xs.drop n)[0]? = some x := by rw [hd]; rfl
        simpa using this
      have hlt := (List.getElem?_eq_some_iff.1 hx).1
      have hd' : xs.drop (n + 1) = r := by rw [← List.drop_drop, hd]; rfl
      unfold forL at h
      cases hs : step n x s with
      | none => rw [hs] at h; cases h
      | some ctl =>
        rw [hs] at h
        refine TR_step (hbody n x s ctl hx hlt hs ?_)
        cases ctl with
        | next s' => rintro st rfl; exact ih (n + 1) s' hd' (by omega) h
        | out t' => cases h; exact hk
  exact key xs 0 s0 (by simp) (by omega) hl

theorem TR_iter {σ τ : Type} (step : σ → Option (Ctl σ τ)) (inv : σ → St) (K : τ → Prop) {s0 : σ} {t : τ} (hl : iter step s0 = some t) (hk : K t)
    (hbody : ∀ s ctl, step s = some ctl → CtlOK (fun s' => ∀ st, st = inv s' → TR P F N c Q st) K ctl → T P F N c (Post.seq (TR P F N c Q) Q) (inv s)) :
    TR P F N c Q (inv s0) := by
  obtain ⟨n, hn⟩ := iter_iff.1 hl
  have key : ∀ (n : Nat) (s : σ), iterN step n s = some t → TR P F N c Q (inv s) := by
    intro n
    induction n with
    | zero => intro s h; cases h
    | succ n ih =>
      intro s h
      unfold iterN at h
      cases hs : step s with
      | none => rw [hs] at h; cases h
      | some ctl =>
        rw [hs] at h
        refine TR_step (hbody s ctl hs ?_)
        cases ctl with
        | next s' => rintro st rfl; exact ih s' h
        | out t' => cases h; exact hk
  exact key n s0 hn

/-! ### Facts -/

variable {ops : Array Oper} {l : List Oper} {KK : St → Prop} {ex : Bool} {s s' : Slots} {h h' : Heap}

theorem T_fact {p : Prop} (hp : ∀ φ a w, RelP F N st φ a w → p) (k : p → T P F N c Q st) : T P F N c Q st := fun a w ⟨φ, hr⟩ => k (hp φ a w hr) a w ⟨φ, hr⟩
theorem TL_fact {p : Prop} (hp : ∀ φ a w, RelP F N st φ a w → p) (k : p → TLE ex P F N ops l KK st) : TLE ex P F N ops l KK st :=
  fun a w R hr hQ => by obtain ⟨φ, h1⟩ := hr; exact k (hp φ a w h1) a w R ⟨φ, h1⟩ hQ
theorem TZ_fact {Z : List Nat} {fuel : Nat} {listed : List Bool} {p : Prop} (hp : ∀ φ a w, RelP F N st φ a w → p) (k : p → TZ P F N ops Z fuel listed KK st) : TZ P F N ops Z fuel listed KK st :=
  fun hs a w QN hr hQ => by obtain ⟨φ, h1⟩ := hr; exact k (hp φ a w h1) hs a w QN ⟨φ, h1⟩ hQ

theorem RelP.slLen {φ : Nat → Loc} {a : Act} {w : World} {i sz : Nat} {es : List AV} (hi : lk st.s i = some (.sl sz es)) (hr : RelP F N st φ a w) : es.length ≤ 9223372036854775807 := by
  obtain ⟨v, _, hv⟩ := hr.slots i _ hi
  exact sl_length hv
theorem RelP.owLen {φ : Nat → Loc} {a : Act} {w : World} {id sz : Nat} {k : Kd} {E : TypeId} {es : List AV} (hl : lk st.h id = some (.arr k sz E es)) (hr : RelP F N st φ a w) : es.length ≤ 9223372036854775807 := by
  obtain ⟨_, _, _, hob⟩ := hr.heap.obj _ _ hl
  rcases hob with ⟨_, rfl⟩ | ⟨_, C, _, h1, h2, _⟩
  · simp
  · simp only [maxLen] at h2; omega

/-! ### Variables that become trees -/

mutual
/-- Pointers to the variable 'id' become pointers to what it holds. -/
def frb (id : Nat) (bs : List AV) : AV → Option AV
  | .ptr i k o => bif Nat.beq i id then (match k with
    | 0 => match dropO bs o with
      | some cs => some (.cp cs)
      | none => some .junk
    | _ => some .junk) else some (.ptr i k o)
  | .ow i => bif Nat.beq i id then some .junk else some (.ow i)
  | .sub i n => bif Nat.beq i id then some .junk else some (.sub i n)
  | .agg xs => match frbL id bs xs with
    | some ys => some (.agg ys)
    | none => none
  | .tup xs => match frbL id bs xs with
    | some ys => some (.tup ys)
    | none => none
  | .fn f xs us => match frbL id bs xs with
    | some ys => match frbL id bs us with
      | some vs => some (.fn f ys vs)
      | none => none
    | none => none
  | x => some x
def frbL (id : Nat) (bs : List AV) : List AV → Option (List AV)
  | [] => some []
  | x :: r => match frb id bs x with
    | some y => match frbL id bs r with
      | some l => some (y :: l)
      | none => none
    | none => none
end

structure FrozenB (S S' : Nat → Prop) (w : World) (φ : Nat → Loc) (h h' : Heap) (id : Nat) (bs : List AV) : Prop where
  ok : HeapOK S w φ h
  obj : lk h id = some (.box bs)
  pure : noIdsL bs = true
  mono : ∀ b, S b → S' b
  blk : S' (φ id).blk
  arr : ∀ i k sz E es, i ≠ id → lk h i = some (.arr k sz E es) → lk h' i = some (.arr k sz E es)
  box : ∀ i cs, i ≠ id → lk h i = some (.box cs) → ∃ cs', lk h' i = some (.box cs')

mutual
theorem frb_rep {S S' : Nat → Prop} {w : World} {φ : Nat → Loc} {h h' : Heap} {id : Nat} {bs : List AV} (hf : FrozenB S S' w φ h h' id bs) :
    ∀ (x y : AV) (v : Value), frb id bs x = some y → RepV S w φ h x v → RepV S' w φ h' y v
  | .ptr i k o, y, v, e, hv => by
    unfold frb at e
    cases hb : Nat.beq i id with
    | true =>
      obtain rfl := (beq_iff _ _).1 hb
      simp only [hb, cond_true] at e
      split at e
      · split at e
        · rename_i cs hd
          cases e
          cases hv with
          | pure h => cases h
          | elt h1 _ => rw [hf.obj] at h1; cases h1
          | box h1 hm =>
            rw [hf.obj] at h1
            cases h1
            obtain ⟨_, C, E, hC, hsz, hrep⟩ := hf.ok.obj _ _ hf.obj
            obtain ⟨rfl, hlen⟩ := dropO_eq hd
            refine .pure (.cp _ _ o (fun j => C.getD (o + j) undef) hf.blk (fun j x hx => ?_) (fun j x hx => ?_))
            · have hlt := (List.getElem?_eq_some_iff.1 hx).1
              rw [List.length_drop] at hlt
              rw [cell_at hC]
              have : o + j < C.size := by omega
              simp [this]
            · have hlt := (List.getElem?_eq_some_iff.1 hx).1
              rw [List.length_drop] at hlt
              rw [List.getElem?_drop] at hx
              have hcl : o + j < C.size := by omega
              have hr := hrep (o + j) x (C.getD (o + j) undef) hx (by simp [hcl])
              exact (hr.tree (noIdsL_mem hf.pure _ _ hx)).mono hf.mono (fun _ _ => rfl)
        · cases e; exact .pure (.junk _)
      · cases e; exact .pure (.junk _)
    | false =>
      have hne : i ≠ id := fun e => by rw [(beq_iff i id).2 e] at hb; cases hb
      simp only [hb, cond_false, Option.some.injEq] at e
      subst e
      cases hv with
      | pure h => cases h
      | box h1 h2 => obtain ⟨cs', h3⟩ := hf.box _ _ hne h1; exact .box h3 h2
      | elt h1 h2 => exact .elt (hf.arr _ _ _ _ _ hne h1) h2
  | .ow i, y, v, e, hv => by
    unfold frb at e
    cases hb : Nat.beq i id with
    | true => simp only [hb, cond_true, Option.some.injEq] at e; subst e; exact .pure (.junk _)
    | false =>
      have hne : i ≠ id := fun e => by rw [(beq_iff i id).2 e] at hb; cases hb
      simp only [hb, cond_false, Option.some.injEq] at e
      subst e
      cases hv with
      | pure h => cases h
      | ow h1 h2 => exact .ow (hf.arr _ _ _ _ _ hne h1) h2
      | ow0 h1 h2 => exact .ow0 (hf.arr _ _ _ _ _ hne h1) h2
  | .sub i n, y, v, e, hv => by
    unfold frb at e
    cases hb : Nat.beq i id with
    | true => simp only [hb, cond_true, Option.some.injEq] at e; subst e; exact .pure (.junk _)
    | false =>
      have hne : i ≠ id := fun e => by rw [(beq_iff i id).2 e] at hb; cases hb
      simp only [hb, cond_false, Option.some.injEq] at e
      subst e
      cases hv with
      | pure h => cases h
      | sub h1 => exact .sub (hf.arr _ _ _ _ _ hne h1)
  | .agg xs, y, v, e, hv => by
    unfold frb at e
    cases hl : frbL id bs xs with
    | none => simp [hl] at e
    | some ys =>
      simp only [hl, Option.some.injEq] at e
      subst e
      obtain ⟨us, rfl, h1, h2⟩ := hv.agg_inv
      obtain ⟨h3, h4⟩ := frbL_rep hf xs ys hl
      refine .agg ys us (by rw [← h3]; exact h1) (fun i y v hy hv => ?_)
      obtain ⟨x, hx⟩ : ∃ x, xs[i]? = some x := ⟨xs[i]'(by rw [h3]; exact (List.getElem?_eq_some_iff.1 hy).1), by simp⟩
      exact h4 i x y v hx hy (h2 i x v hx hv)
  | .tup xs, y, v, e, hv => by
    unfold frb at e
    cases hl : frbL id bs xs with
    | none => simp [hl] at e
    | some ys =>
      simp only [hl, Option.some.injEq] at e
      subst e
      obtain ⟨us, rfl, h1, h2⟩ := hv.tup_inv
      obtain ⟨h3, h4⟩ := frbL_rep hf xs ys hl
      refine .tup ys us (by rw [← h3]; exact h1) (fun i y v hy hv => ?_)
      obtain ⟨x, hx⟩ : ∃ x, xs[i]? = some x := ⟨xs[i]'(by rw [h3]; exact (List.getElem?_eq_some_iff.1 hy).1), by simp⟩
      exact h4 i x y v hx hy (h2 i x v hx hv)
  | .fn f xs us, y, v, e, hv => by
    unfold frb at e
    cases hl : frbL id bs xs with
    | none => simp [hl] at e
    | some ys =>
      simp only [hl] at e
      cases hl2 : frbL id bs us with
      | none => simp [hl2] at e
      | some zs =>
        simp only [hl2, Option.some.injEq] at e
        subst e
        obtain ⟨as, ds, rfl, h1, h2, h3, h4⟩ := hv.fn_inv
        obtain ⟨h5, h6⟩ := frbL_rep hf xs ys hl
        obtain ⟨h7, h8⟩ := frbL_rep hf us zs hl2
        refine .fn f ys zs as ds (by rw [← h5]; exact h1) (by rw [← h7]; exact h2) (fun i y v hy hv => ?_) (fun i y v hy hv => ?_)
        · obtain ⟨x, hx⟩ : ∃ x, xs[i]? = some x := ⟨xs[i]'(by rw [h5]; exact (List.getElem?_eq_some_iff.1 hy).1), by simp⟩
          exact h6 i x y v hx hy (h3 i x v hx hv)
        · obtain ⟨x, hx⟩ : ∃ x, us[i]? = some x := ⟨us[i]'(by rw [h7]; exact (List.getElem?_eq_some_iff.1 hy).1), by simp⟩
          exact h8 i x y v hx hy (h4 i x v hx hv)
  | .int a b, y, v, e, hv => by cases e; exact .pure ((hv.tree rfl).mono hf.mono (fun _ _ => rfl))
  | .bool b, y, v, e, hv => by cases e; exact .pure ((hv.tree rfl).mono hf.mono (fun _ _ => rfl))
  | .str b, y, v, e, hv => by cases e; exact .pure ((hv.tree rfl).mono hf.mono (fun _ _ => rfl))
  | .snil, y, v, e, hv => by cases e; exact .pure ((hv.tree rfl).mono hf.mono (fun _ _ => rfl))
  | .sl _ _, y, v, e, hv => by cases e; exact .pure ((hv.tree rfl).mono hf.mono (fun _ _ => rfl))
  | .cp _, y, v, e, hv => by cases e; exact .pure ((hv.tree rfl).mono hf.mono (fun _ _ => rfl))
  | .nilp, y, v, e, hv => by cases e; exact .pure ((hv.tree rfl).mono hf.mono (fun _ _ => rfl))
  | .nilf, y, v, e, hv => by cases e; exact .pure ((hv.tree rfl).mono hf.mono (fun _ _ => rfl))
  | .mp _, y, v, e, hv => by cases hv with | pure h => cases h
  | .junk, y, v, e, hv => by cases e; exact .pure (.junk _)
theorem frbL_rep {S S' : Nat → Prop} {w : World} {φ : Nat → Loc} {h h' : Heap} {id : Nat} {bs : List AV} (hf : FrozenB S S' w φ h h' id bs) :
    ∀ (xs ys : List AV), frbL id bs xs = some ys → xs.length = ys.length ∧
      ∀ (n : Nat) x y v, xs[n]? = some x → ys[n]? = some y → RepV S w φ h x v → RepV S' w φ h' y v
  | [], ys, e => by cases e; exact ⟨rfl, fun n x y v hx => by simp at hx⟩
  | x :: r, ys, e => by
    unfold frbL at e
    cases hx : frb id bs x with
    | none => simp [hx] at e
    | some y =>
      simp only [hx] at e
      cases hr : frbL id bs r with
      | none => simp [hr] at e
      | some l =>
        simp only [hr, Option.some.injEq] at e
        subst e
        obtain ⟨h1, h2⟩ := frbL_rep hf r l hr
        refine ⟨by simp [h1], fun n a b v ha hb hv => ?_⟩
        cases n with
        | zero => simp at ha hb; subst ha hb; exact frb_rep hf x y v hx hv
        | succ n => simp at ha hb; exact h2 n a b v ha hb hv
end

def frbS (id : Nat) (bs : List AV) : Slots → Option Slots
  | [] => some []
  | (k, x) :: r => match frb id bs x with
    | some y => match frbS id bs r with
      | some l => some ((k, y) :: l)
      | none => none
    | none => none
def frbH (id : Nat) (bs : List AV) : Heap → Option Heap
  | [] => some []
  | (k, .box cs) :: r => bif Nat.beq k id then frbH id bs r else
    match frbL id bs cs with
    | some cs' => match frbH id bs r with
      | some l => some ((k, .box cs') :: l)
      | none => none
    | none => none
  | (k, .arr kd n E xs) :: r => bif Nat.beq k id then frbH id bs r else
    match frbH id bs r with
    | some l => some ((k, .arr kd n E xs) :: l)
    | none => none

theorem frbS_spec {id : Nat} {bs : List AV} : ∀ {s s' : Slots}, frbS id bs s = some s' → ∀ i y, lk s' i = some y → ∃ x, lk s i = some x ∧ frb id bs x = some y := by
  intro s
  induction s with
  | nil => intro s' e i y hy; cases e; cases hy
  | cons p s ih =>
    obtain ⟨k, x⟩ := p
    intro s' e i y hy
    unfold frbS at e
    cases hx : frb id bs x with
    | none => simp [hx] at e
    | some z =>
      simp only [hx] at e
      cases hr : frbS id bs s with
      | none => simp [hr] at e
      | some l =>
        simp only [hr, Option.some.injEq] at e
        subst e
        rw [lk_cons] at hy ⊢
        split at hy
        · cases hy; rename_i hk; rw [if_pos hk]; exact ⟨x, rfl, hx⟩
        · rename_i hk; rw [if_neg hk]; exact ih hr i y hy

theorem frbH_spec {id : Nat} {bs : List AV} : ∀ {h h' : Heap}, frbH id bs h = some h' → lk h' id = none ∧
    (∀ i, i ≠ id → ∀ kd n E xs, lk h' i = some (.arr kd n E xs) ↔ lk h i = some (.arr kd n E xs)) ∧
    (∀ i cs', lk h' i = some (.box cs') → ∃ cs, lk h i = some (.box cs) ∧ frbL id bs cs = some cs') ∧ (∀ i cs, i ≠ id → lk h i = some (.box cs) → ∃ cs', lk h' i = some (.box cs')) := by
  intro h
  induction h with
  | nil => intro h' e; cases e; exact ⟨rfl, fun i _ kd n E xs => Iff.rfl, fun i cs hi => (by cases hi), fun i cs _ hi => (by cases hi)⟩
  | cons p h ih =>
    obtain ⟨k, o⟩ := p
    intro h' e
    cases hb : Nat.beq k id with
    | true =>
      obtain rfl := (beq_iff _ _).1 hb
      have e' : frbH k bs h = some h' := by
        cases o <;> (unfold frbH at e; simp only [hb, cond_true] at e; exact e)
      obtain ⟨h1, h2, h3, h4⟩ := ih e'
      refine ⟨h1, fun i hi kd n E xs => ?_, fun i cs' hi => ?_, fun i cs hi ho => ?_⟩
      · rw [lk_cons, if_neg (Ne.symm hi)]; exact h2 i hi kd n E xs
      · obtain ⟨cs, c1, c2⟩ := h3 i cs' hi
        have hne : k ≠ i := fun e => by subst e; rw [h1] at hi; cases hi
        exact ⟨cs, by rw [lk_cons, if_neg hne]; exact c1, c2⟩
      · rw [lk_cons, if_neg (Ne.symm hi)] at ho; exact h4 i cs hi ho
    | false =>
      have hne : k ≠ id := fun e => by rw [(beq_iff k id).2 e] at hb; cases hb
      cases o with
      | box cs0 =>
        unfold frbH at e
        simp only [hb, cond_false] at e
        cases hc : frbL id bs cs0 with
        | none => simp [hc] at e
        | some cs1 =>
          simp only [hc] at e
          cases hr : frbH id bs h with
          | none => simp [hr] at e
          | some l =>
            simp only [hr, Option.some.injEq] at e
            subst e
            obtain ⟨h1, h2, h3, h4⟩ := ih hr
            refine ⟨by rw [lk_cons, if_neg hne]; exact h1, fun i hi kd n E xs => ?_, fun i cs' hi => ?_, fun i cs hi ho => ?_⟩
            · rw [lk_cons, lk_cons]; split
              · simp
              · exact h2 i hi kd n E xs
            · rw [lk_cons] at hi ⊢
              split at hi
              · cases hi; rename_i hk; rw [if_pos hk]; exact ⟨cs0, rfl, hc⟩
              · rename_i hk; rw [if_neg hk]; exact h3 i cs' hi
            · rw [lk_cons] at ho ⊢
              split at ho
              · rename_i hk; rw [if_pos hk]; exact ⟨cs1, rfl⟩
              · rename_i hk; rw [if_neg hk]; exact h4 i cs hi ho
      | arr kd0 n0 E0 xs0 =>
        unfold frbH at e
        simp only [hb, cond_false] at e
        cases hr : frbH id bs h with
        | none => simp [hr] at e
        | some l =>
          simp only [hr, Option.some.injEq] at e
          subst e
          obtain ⟨h1, h2, h3, h4⟩ := ih hr
          refine ⟨by rw [lk_cons, if_neg hne]; exact h1, fun i hi kd n E xs => ?_, fun i cs' hi => ?_, fun i cs hi ho => ?_⟩
          · rw [lk_cons, lk_cons]; split
            · exact Iff.rfl
            · exact h2 i hi kd n E xs
          · rw [lk_cons] at hi ⊢
            split at hi
            · cases hi
            · rename_i hk; rw [if_neg hk]; exact h3 i cs' hi
          · rw [lk_cons] at ho ⊢
            split at ho
            · cases ho
            · rename_i hk; rw [if_neg hk]; exact h4 i cs hi ho

theorem RelP.freezeB {φ : Nat → Loc} {a : Act} {w : World} {id : Nat} {bs : List AV} (hr : RelP F N ⟨s, h⟩ φ a w) (hF : lk F.η id = none)
    (hl : lk h id = some (.box bs)) (hp : noIdsL bs = true) (hs : frbS id bs s = some s') (hh : frbH id bs h = some h') : RelP F N ⟨s', h'⟩ φ a w := by
  obtain ⟨g1, g2, g3, g4⟩ := frbH_spec hh
  have hex : ∀ i o, lk h' i = some o → i ≠ id ∧ ∃ o', lk h i = some o' := by
    intro i o ho
    have hne : i ≠ id := fun e => by subst e; rw [g1] at ho; cases ho
    refine ⟨hne, ?_⟩
    cases o with
    | box cs' => obtain ⟨cs, c1, _⟩ := g3 i cs' ho; exact ⟨_, c1⟩
    | arr k n E xs => exact ⟨_, (g2 i hne k n E xs).1 ho⟩
  have hS : ∀ b, Stab F w φ h b → Stab F w φ h' b := fun b hb => ⟨hb.1, hb.2.1, fun i o ho hm => by
    obtain ⟨_, o', ho'⟩ := hex i o ho
    exact hb.2.2 i o' ho' hm⟩
  have hf : FrozenB (Stab F w φ h) (Stab F w φ h') w φ h h' id bs := by
    obtain ⟨hm, _⟩ := hr.heap.obj _ _ hl
    have hown : (φ id).owns (φ id).blk := .inl ⟨hm, rfl⟩
    refine ⟨hr.heap, hl, hp, hS, ⟨hr.heap.ltO id _ _ hl hown, ?_, fun i o ho hmi => ?_⟩, fun i k n E xs hi ho => (g2 i hi k n E xs).2 ho, g4⟩
    · rcases hr.mine id _ _ hl hown with h1 | ⟨o0, h1, h2⟩
      · exact .inr h1
      · rw [hF] at h1; cases h1
    · obtain ⟨hne, o', ho'⟩ := hex i o ho
      exact hne (hr.heap.injO i id o' _ _ ho' hl hmi hown)
  refine hr.sub hS (fun i y hy => ?_) (fun i k n E xs ho => ?_) (fun i cs' ho => ?_) (fun i o hi => ?_)
  · obtain ⟨x, hx, hxy⟩ := frbS_spec hs i y hy
    exact ⟨x, hx, fun v hv => frb_rep hf x y v hxy hv⟩
  · exact (g2 i (hex i _ ho).1 k n E xs).1 ho
  · obtain ⟨cs, c1, c2⟩ := g3 i cs' ho
    obtain ⟨c3, c4⟩ := frbL_rep hf cs cs' c2
    refine ⟨cs, c1, c3.symm, fun n y hy => ?_⟩
    obtain ⟨x, hx⟩ : ∃ x, cs[n]? = some x := ⟨cs[n]'(by rw [c3]; exact (List.getElem?_eq_some_iff.1 hy).1), by simp⟩
    exact ⟨x, hx, fun v hv => c4 n x y v hx hy hv⟩
  · have hne : i ≠ id := fun e => by subst e; rw [hF] at hi; cases hi
    obtain ⟨o', ho', _⟩ := hr.keep i o hi
    have ho'' : lk h i = some o' := ho'
    cases o' with
    | box cs => obtain ⟨cs', hc⟩ := g4 i cs hne ho''; exact ⟨_, hc⟩
    | arr k n E xs => exact ⟨_, (g2 i hne k n E xs).2 ho''⟩

theorem TL_freezeB (id : Nat) {bs : List AV} (hF : lk F.η id = none) (hl : lk h id = some (.box bs)) (hp : noIdsL bs = true) (hs : frbS id bs s = some s') (hh : frbH id bs h = some h')
    (k : TLE ex P F N ops l KK ⟨s', h'⟩) : TLE ex P F N ops l KK ⟨s, h⟩ := TL_sub (fun φ _ _ hr => ⟨φ, hr.freezeB hF hl hp hs hh⟩) k
theorem T_freezeB (id : Nat) {bs : List AV} (hF : lk F.η id = none) (hl : lk h id = some (.box bs)) (hp : noIdsL bs = true) (hs : frbS id bs s = some s') (hh : frbH id bs h = some h')
    (k : T P F N c Q ⟨s', h'⟩) : T P F N c Q ⟨s, h⟩ := T_sub (fun φ _ _ hr => ⟨φ, hr.freezeB hF hl hp hs hh⟩) k
theorem TR_freezeB (id : Nat) {bs : List AV} (hF : lk F.η id = none) (hl : lk h id = some (.box bs)) (hp : noIdsL bs = true) (hs : frbS id bs s = some s') (hh : frbH id bs h = some h')
    (k : TR P F N c Q ⟨s', h'⟩) : TR P F N c Q ⟨s, h⟩ := TR_sub (fun φ _ _ hr => ⟨φ, hr.freezeB hF hl hp hs hh⟩) k
end
end Go.AM
