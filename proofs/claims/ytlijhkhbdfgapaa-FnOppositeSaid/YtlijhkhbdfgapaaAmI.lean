/- Rules: forgetting, append. -/
import Derived.Test.YtlijhkhbdfgapaaAmH
namespace Go.AM
open Go

/-! ### Forgetting -/

def killC (id : Nat) : List AV → Option (List AV)
  | [] => some []
  | x :: r => match killC id r with
    | some r' => bif men id x then some (.junk :: r') else some (x :: r')
    | none => none

def killS (id : Nat) : Slots → Option Slots
  | [] => some []
  | (k, x) :: r => match killS id r with
    | some r' => bif men id x then some ((k, .junk) :: r') else some ((k, x) :: r')
    | none => none

def killH (id : Nat) : Heap → Option Heap
  | [] => some []
  | (k, .box cs) :: r => match killC id cs with
    | some cs' => match killH id r with
      | some r' => some ((k, .box cs') :: r')
      | none => none
    | none => none
  | (k, .arr kd sz E es) :: r => match killH id r with
    | some r' => some ((k, .arr kd sz E es) :: r')
    | none => none

def isWeak (x' x : AV) : Prop := x' = x ∨ x' = .junk

def objWeak : AO → AO → Prop
  | .box cs', .box cs => cs'.length = cs.length ∧ ∀ (i : Nat) x', cs'[i]? = some x' → ∃ x, cs[i]? = some x ∧ isWeak x' x
  | .arr k' sz' E' es', .arr k sz E es => k' = k ∧ sz' = sz ∧ E' = E ∧ es' = es
  | _, _ => False

theorem killC_spec {id : Nat} : ∀ {l l' : List AV}, killC id l = some l' → l'.length = l.length ∧
    ∀ (i : Nat) x', l'[i]? = some x' → men id x' = false ∧ ∃ x, l[i]? = some x ∧ isWeak x' x := by
  intro l
  induction l with
  | nil => intro l' h; cases h; exact ⟨rfl, fun i x hx => by simp at hx⟩
  | cons x l ih =>
    intro l' h
    unfold killC at h
    cases hr : killC id l with
    | none => simp [hr] at h
    | some r' =>
      simp only [hr] at h
      obtain ⟨h1, h2⟩ := ih hr
      cases hm : men id x with
      | true =>
        simp only [hm, cond_true, Option.some.injEq] at h
        subst h
        refine ⟨by simp [h1], fun i y hy => ?_⟩
        cases i with
        | zero => simp at hy; subst hy; exact ⟨rfl, x, by simp, .inr rfl⟩
        | succ i => simp at hy; simpa using h2 i y hy
      | false =>
        simp only [hm, cond_false, Option.some.injEq] at h
        subst h
        refine ⟨by simp [h1], fun i y hy => ?_⟩
        cases i with
        | zero => simp at hy; subst hy; exact ⟨hm, x, by simp, .inl rfl⟩
        | succ i => simp at hy; simpa using h2 i y hy

theorem killS_spec {id : Nat} : ∀ {l l' : Slots}, killS id l = some l' → ∀ (i : Nat) x', lk l' i = some x' → men id x' = false ∧ ∃ x, lk l i = some x ∧ isWeak x' x := by
  intro l
  induction l with
  | nil => intro l' h i x hx; cases h; cases hx
  | cons p l ih =>
    obtain ⟨k, x⟩ := p
    intro l' h
    unfold killS at h
    cases hr : killS id l with
    | none => simp [hr] at h
    | some r' =>
      simp only [hr] at h
      have h2 := ih hr
      cases hm : men id x with
      | true =>
        simp only [hm, cond_true, Option.some.injEq] at h
        subst h
        intro i y hy
        rw [lk_cons] at hy ⊢
        split at hy
        · cases hy; rename_i hki; rw [if_pos hki]; exact ⟨rfl, x, rfl, .inr rfl⟩
        · rename_i hki; rw [if_neg hki]; exact h2 i y hy
      | false =>
        simp only [hm, cond_false, Option.some.injEq] at h
        subst h
        intro i y hy
        rw [lk_cons] at hy ⊢
        split at hy
        · cases hy; rename_i hki; rw [if_pos hki]; exact ⟨hm, x, rfl, .inl rfl⟩
        · rename_i hki; rw [if_neg hki]; exact h2 i y hy

theorem killH_spec {id : Nat} : ∀ {l l' : Heap}, killH id l = some l' →
    (∀ i, lk l' i = none ↔ lk l i = none) ∧ ∀ (i : Nat) o', lk l' i = some o' → (∀ cs', o' = .box cs' → ∀ x ∈ cs', men id x = false) ∧ ∃ o, lk l i = some o ∧ objWeak o' o := by
  intro l
  induction l with
  | nil => intro l' h; cases h; exact ⟨fun i => Iff.rfl, fun i o ho => by cases ho⟩
  | cons p l ih =>
    obtain ⟨k, o0⟩ := p
    intro l' h
    cases o0 with
    | box cs =>
      unfold killH at h
      cases hc : killC id cs with
      | none => simp [hc] at h
      | some cs' =>
        simp only [hc] at h
        cases hr : killH id l with
        | none => simp [hr] at h
        | some r' =>
          simp only [hr, Option.some.injEq] at h
          subst h
          obtain ⟨h1, h2⟩ := ih hr
          obtain ⟨c1, c2⟩ := killC_spec hc
          refine ⟨fun i => ?_, fun i o ho => ?_⟩
          · rw [lk_cons, lk_cons]; split
            · simp
            · exact h1 i
          · rw [lk_cons] at ho ⊢
            split at ho
            · cases ho
              rename_i hki
              rw [if_pos hki]
              refine ⟨fun cs1 he x hx => ?_, _, rfl, c1, fun i x hx => (c2 i x hx).2⟩
              cases he
              obtain ⟨i, hi⟩ := List.getElem?_of_mem hx
              exact (c2 i x hi).1
            · rename_i hki
              rw [if_neg hki]
              exact h2 i o ho
    | arr kd sz E es =>
      unfold killH at h
      cases hr : killH id l with
      | none => simp [hr] at h
      | some r' =>
        simp only [hr, Option.some.injEq] at h
        subst h
        obtain ⟨h1, h2⟩ := ih hr
        refine ⟨fun i => ?_, fun i o ho => ?_⟩
        · rw [lk_cons, lk_cons]; split
          · simp
          · exact h1 i
        · rw [lk_cons] at ho ⊢
          split at ho
          · cases ho
            rename_i hki
            rw [if_pos hki]
            exact ⟨fun cs1 he => (by cases he), _, rfl, rfl, rfl, rfl, rfl⟩
          · rename_i hki
            rw [if_neg hki]
            exact h2 i o ho
section
variable {F : Fr} {N : Nat}

theorem RelP.weaken {s s' : Slots} {h h' : Heap} {φ : Nat → Loc} {a : Act} {w : World} (hr : RelP F N ⟨s, h⟩ φ a w)
    (hs : ∀ i x', lk s' i = some x' → ∃ x, lk s i = some x ∧ isWeak x' x) (hn : ∀ i, lk h' i = none ↔ lk h i = none)
    (hh : ∀ i o', lk h' i = some o' → ∃ o, lk h i = some o ∧ objWeak o' o) : RelP F N ⟨s', h'⟩ φ a w := by
  have hS : ∀ b, Stab F w φ h b → Stab F w φ h' b := fun b hb => ⟨hb.1, hb.2.1, fun i o ho hm => by
    obtain ⟨o1, ho1, _⟩ := hh i o ho
    exact hb.2.2 i o1 ho1 hm⟩
  have hal : headsAlike φ φ h h' := by
    refine ⟨fun i cs hi _ => ⟨?_, rfl⟩, fun i k sz E es hi => ⟨rfl, ?_⟩⟩
    · cases hl : lk h' i with
      | none => rw [(hn i).1 hl] at hi; cases hi
      | some o' =>
        obtain ⟨o, ho, hw⟩ := hh i o' hl
        rw [hi] at ho
        cases ho
        cases o' with
        | box cs' => exact ⟨cs', rfl⟩
        | arr _ _ _ _ => exact hw.elim
    · cases hl : lk h' i with
      | none => rw [(hn i).1 hl] at hi; cases hi
      | some o' =>
        obtain ⟨o, ho, hw⟩ := hh i o' hl
        rw [hi] at ho
        cases ho
        cases o' with
        | box cs' => exact hw.elim
        | arr _ _ _ _ => obtain ⟨rfl, rfl, rfl, rfl⟩ := hw; exact ⟨_, _, rfl, rfl⟩
  have hV : ∀ {x v}, RepV (Stab F w φ h) w φ h x v → RepV (Stab F w φ h') w φ h' x v := fun hx => hx.mono hS (fun _ _ => rfl) hal
  refine ⟨hr.size, hr.defers, hr.sys, hr.grow, ⟨fun i o ho => ?_, fun i j oi oj b hi hj hmi hmj => ?_, fun b hb => hb.1, fun i o b ho hm hst => hst.2.2 i o ho hm, fun i o b ho hm => ?_⟩,
    fun i x hx => ?_, fun i o b ho hm => ?_, hr.fix, fun i o hi => ?_, hr.frame⟩
  · obtain ⟨o1, ho1, hw⟩ := hh i o ho
    have hok := hr.heap.obj i o1 ho1
    cases o with
    | box cs' =>
      cases o1 with
      | arr _ _ _ _ => exact hw.elim
      | box cs =>
        obtain ⟨hm, C, E, hC, hsz, hrep⟩ := hok
        refine ⟨hm, C, E, hC, by rw [hsz]; exact hw.1.symm, fun j x v hx hv => ?_⟩
        obtain ⟨y, hy, hxy⟩ := hw.2 j x hx
        rcases hxy with rfl | rfl
        · exact hV (hrep j x v hy hv)
        · exact .pure (.junk _)
    | arr k sz E es =>
      cases o1 with
      | box _ => exact hw.elim
      | arr _ _ _ _ =>
        obtain ⟨rfl, rfl, rfl, rfl⟩ := hw
        obtain ⟨h0, hl, hone, hob⟩ := hok
        refine ⟨h0, hl, hone, ?_⟩
        rcases hob with hob | ⟨hm, C, hC, h1, h2, h3, h4⟩
        · exact .inl hob
        · exact .inr ⟨hm, C, hC, h1, h2, h3, h4.mono hS (fun _ _ => rfl) (fun _ _ _ => rfl) rfl⟩
  · obtain ⟨o1, ho1, _⟩ := hh i oi hi
    obtain ⟨o2, ho2, _⟩ := hh j oj hj
    exact hr.heap.injO i j o1 o2 b ho1 ho2 hmi hmj
  · obtain ⟨o1, ho1, _⟩ := hh i o ho
    exact hr.heap.ltO i o1 b ho1 hm
  · obtain ⟨y, hy, hxy⟩ := hs i x hx
    obtain ⟨v, hv, hrep⟩ := hr.slots i y hy
    rcases hxy with rfl | rfl
    · exact ⟨v, hv, hV hrep⟩
    · exact ⟨v, hv, .pure (.junk _)⟩
  · obtain ⟨o1, ho1, _⟩ := hh i o ho
    exact hr.mine i o1 b ho1 hm
  · obtain ⟨o1, ho1, hb1⟩ := hr.keep i o hi
    cases hl : lk h' i with
    | none => rw [(hn i).1 hl] at ho1; cases ho1
    | some o' =>
      obtain ⟨o2, ho2, hw⟩ := hh i o' hl
      rw [ho1] at ho2
      cases ho2
      refine ⟨o', rfl, AO.alike_trans hb1 ?_⟩
      cases o' <;> cases o1 <;> first | trivial | exact hw.elim | (obtain ⟨rfl, rfl, rfl, rfl⟩ := hw; exact AO.alike_refl _)

theorem RelP.kill {s s' : Slots} {h h' : Heap} {φ : Nat → Loc} {a : Act} {w : World} {id : Nat} (hr : RelP F N ⟨s, h⟩ φ a w)
    (hs : killS id s = some s') (hh : killH id h = some h') : RelP F N ⟨s', h'⟩ φ a w :=
  hr.weaken (fun i x hx => (killS_spec hs i x hx).2) (killH_spec hh).1 (fun i o ho => ((killH_spec hh).2 i o ho).2)

/-! ### append -/

/-- The elements that a value would append. -/
def asrc (h : Heap) (sz : Nat) : AV → Option (List AV)
  | .snil => some []
  | .sl n xs => bif Nat.beq n sz then some xs else none
  | .ow i => match lk h i with
    | some (.arr ⟨_, false⟩ n _ xs) => bif Nat.beq n sz then some xs else none
    | _ => none
  | _ => none

theorem src_cells {S : Nat → Prop} {w : World} {φ : Nat → Loc} {h : Heap} {sz : Nat} {z : AV} {v : Value} {xs : List AV} (hh : HeapOK S w φ h) (hv : RepV S w φ h z v) (hsrc : asrc h sz z = some xs) :
    (∃ va, v = .slice va 0 0 ∧ xs = []) ∨ ∃ ad c, ∃ news : List Value, v = .slice (some ad) xs.length c ∧ news.length = xs.length * sz ∧ (∀ (j : Nat) u, news[j]? = some u → w.cell? (ad.add j) = some u) ∧
      (∀ (j : Nat) c u, (flat xs)[j]? = some c → news[j]? = some u → RepT S w c u) ∧ (∀ u ∈ news, u.oneCell' = true) ∧ (∀ e ∈ xs, e.cells.length = sz) ∧
      (∀ (j : Nat) c, (flat xs)[j]? = some c → one c = true) := by
  have build : ∀ (b off cap : Nat) (f : Nat → Value), (∀ e ∈ xs, e.cells.length = sz) → (∀ (j : Nat) c, (flat xs)[j]? = some c → one c = true) →
      (∀ (j : Nat) c, (flat xs)[j]? = some c → w.cell? ⟨b, off + j, none⟩ = some (f j)) → (∀ (j : Nat) c, (flat xs)[j]? = some c → RepT S w c (f j)) →
      ∃ ad c, ∃ news : List Value, Value.slice (some ⟨b, off, none⟩) xs.length cap = .slice (some ad) xs.length c ∧ news.length = xs.length * sz ∧ (∀ (j : Nat) u, news[j]? = some u → w.cell? (ad.add j) = some u) ∧
      (∀ (j : Nat) c u, (flat xs)[j]? = some c → news[j]? = some u → RepT S w c u) ∧ (∀ u ∈ news, u.oneCell' = true) ∧ (∀ e ∈ xs, e.cells.length = sz) ∧
      (∀ (j : Nat) c, (flat xs)[j]? = some c → one c = true) := by
    intro b off cap f hlens hones hcell hrep
    have hfl := flat_length hlens
    have hget : ∀ (j : Nat) u, ((List.range (xs.length * sz)).map f)[j]? = some u → u = f j ∧ ∃ c, (flat xs)[j]? = some c := by
      intro j u hu
      have hj := (List.getElem?_eq_some_iff.1 hu).1
      simp at hj
      simp [hj] at hu
      exact ⟨hu.symm, ⟨(flat xs)[j]'(by rw [hfl]; exact hj), by simp⟩⟩
    refine ⟨⟨b, off, none⟩, cap, (List.range (xs.length * sz)).map f, rfl, by simp, fun j u hu => ?_, fun j c u hc hu => ?_, fun u hu => ?_, hlens, hones⟩
    · obtain ⟨rfl, c, hc⟩ := hget j u hu
      rw [Addr.add_lit]; exact hcell j c hc
    · obtain ⟨rfl, _⟩ := hget j u hu
      exact hrep j c hc
    · obtain ⟨j, hj⟩ := List.getElem?_of_mem hu
      obtain ⟨rfl, c, hc⟩ := hget j u hj
      exact (hrep j c hc).one (hones j c hc)
  unfold asrc at hsrc
  split at hsrc
  · cases hsrc
    cases hv with
    | pure hv => cases hv; exact .inl ⟨none, rfl, rfl⟩
  · rename_i n es
    cases hb : Nat.beq n sz with
    | false => simp [hb] at hsrc
    | true =>
      obtain rfl := (beq_iff _ _).1 hb
      simp only [hb, cond_true, Option.some.injEq] at hsrc
      subst hsrc
      cases hv with
      | pure hv =>
        cases hv with
        | sl0 _ a cap h0 =>
          cases a with
          | none => rw [h0 rfl]; exact .inl ⟨none, rfl, rfl⟩
          | some ad => exact .inr ⟨ad, cap, [], rfl, by simp, fun j u hu => by simp at hu, fun j c u hc => by simp [flat] at hc, fun u hu => by simp at hu, fun e he => by simp at he, fun j c hc => by simp [flat] at hc⟩
        | sl _ _ b off cap f hne hS hcap hm hsz hlens hones hcell hrep => exact .inr (build b off cap f hlens hones hcell hrep)
  · rename_i i
    cases hl : lk h i with
    | none => simp [hl] at hsrc
    | some o =>
      cases o with
      | box cs => simp [hl] at hsrc
      | arr kd n E es =>
        obtain ⟨p, dd⟩ := kd
        cases dd with
        | true => simp [hl] at hsrc
        | false =>
        simp only [hl] at hsrc
        cases hb : Nat.beq n sz with
        | false => simp [hb] at hsrc
        | true =>
          obtain rfl := (beq_iff _ _).1 hb
          simp only [hb, cond_true, Option.some.injEq] at hsrc
          subst hsrc
          obtain ⟨hsz, hlens, hones, hob⟩ := hh.obj _ _ hl
          rcases hv.ow_inv hl with ⟨hm, rfl⟩ | ⟨hm, rfl, rfl⟩
          · rcases hob with ⟨hf, _⟩ | ⟨_, C, hC, hle, hcm, hCs, hrep⟩
            · rw [hm] at hf; cases hf
            · replace hrep := hrep.trees rfl
              have hcap : es.length * n ≤ (φ i).cap * n := Nat.mul_le_mul_right _ hle
              have hin : ∀ (j : Nat) c, (flat es)[j]? = some c → C[j]? = some (C.getD j undef) := by
                intro j c hc
                have hj := (List.getElem?_eq_some_iff.1 hc).1
                rw [flat_length hlens] at hj
                have : j < C.size := by omega
                simp [this]
              refine .inr (build _ 0 _ (fun j => C.getD j undef) hlens hones (fun j c hc => ?_) (fun j c hc => hrep j c _ hc (hin j c hc)))
              rw [Nat.zero_add, cell_at hC]; exact hin j c hc
          · exact .inl ⟨_, rfl, rfl⟩
  · cases hsrc

theorem exec_append {dst : Option Tmp} {ty : TypeId} {pos : String} {after : Array Edge} {gd : Option (Nat × Bool)} {x y : Operand} {t t' : TypeId} (ρ : Operand → Value) :
    execOp ρ ⟨dst, .call ⟨.builtin .append, #[x, y], #[t, t']⟩, ty, pos, after, gd⟩ = (do pure (.value (← Builtin.append_ #[t, t'] ty #[ρ x, ρ y]))) := by
  rw [BigFrame.execOp_builtin, BigFrame.builtin_append]
  simp only [List.map_toArray, List.map_cons, List.map_nil]

end
end Go.AM
