/- Rules: forgetting, append. -/
import Derived.Test.YtejcidjaedahhaaAmH
namespace Go.AM
open Go

/-! ### Forgetting -/

def killC (id : Nat) : List AV → Option (List AV)
  | [] => some []
  | x :: r => match killC id r with
    | some r' => bif men id x then some (.junk :: r') else some (x :: r')
    | none => none

def killS (id : Nat) : Slots → Option Slots
  | [] => some []
  | (k, x) :: r => match killS id r with
    | some r' => bif men id x then some ((k, .junk) :: r') else some ((k, x) :: r')
    | none => none

def killH (id : Nat) : Heap → Option Heap
  | [] => some []
  | (k, .box cs) :: r => match killC id cs with
    | some cs' => match killH id r with
      | some r' => some ((k, .box cs') :: r')
      | none => none
    | none => none
  | (k, .arr sz E es) :: r => match killH id r with
    | some r' => some ((k, .arr sz E es) :: r')
    | none => none

def isWeak (x' x : AV) : Prop := x' = x ∨ x' = .junk

def objWeak : AO → AO → Prop
  | .box cs', .box cs => cs'.length = cs.length ∧ ∀ (i : Nat) x', cs'[i]? = some x' → ∃ x, cs[i]? = some x ∧ isWeak x' x
  | .arr sz' E' es', .arr sz E es => sz' = sz ∧ E' = E ∧ es' = es
  | _, _ => False

theorem killC_spec {id : Nat} : ∀ {l l' : List AV}, killC id l = some l' → l'.length = l.length ∧
    ∀ (i : Nat) x', l'[i]? = some x' → men id x' = false ∧ ∃ x, l[i]? = some x ∧ isWeak x' x := by
  intro l
  induction l with
  | nil => intro l' h; cases h; exact ⟨rfl, fun i x hx => by simp at hx⟩
  | cons x l ih =>
    intro l' h
    unfold killC at h
    cases hr : killC id l with
    | none => simp [hr] at h
    | some r' =>
      simp only [hr] at h
      obtain ⟨h1, h2⟩ := ih hr
      cases hm : men id x with
      | true =>
        simp only [hm, cond_true, Option.some.injEq] at h
        subst h
        refine ⟨by simp [h1], fun i y hy => ?_⟩
        cases i with
        | zero => simp at hy; subst hy; exact ⟨rfl, x, by simp, .inr rfl⟩
        | succ i => simp at hy; simpa using h2 i y hy
      | false =>
        simp only [hm, cond_false, Option.some.injEq] at h
        subst h
        refine ⟨by simp [h1], fun i y hy => ?_⟩
        cases i with
        | zero => simp at hy; subst hy; exact ⟨hm, x, by simp, .inl rfl⟩
        | succ i => simp at hy; simpa using h2 i y hy

theorem killS_spec {id : Nat} : ∀ {l l' : Slots}, killS id l = some l' → ∀ (i : Nat) x', lk l' i = some x' → men id x' = false ∧ ∃ x, lk l i = some x ∧ isWeak x' x := by
  intro l
  induction l with
  | nil => intro l' h i x hx; cases h; cases hx
  | cons p l ih =>
    obtain ⟨k, x⟩ := p
    intro l' h
    unfold killS at h
    cases hr : killS id l with
    | none => simp [hr] at h
    | some r' =>
      simp only [hr] at h
      have h2 := ih hr
      cases hm : men id x with
      | true =>
        simp only [hm, cond_true, Option.some.injEq] at h
        subst h
        intro i y hy
        rw [lk_cons] at hy ⊢
        split at hy
        · cases hy; rename_i hki; rw [if_pos hki]; exact ⟨rfl, x, rfl, .inr rfl⟩
        · rename_i hki; rw [if_neg hki]; exact h2 i y hy
      | false =>
        simp only [hm, cond_false, Option.some.injEq] at h
        subst h
        intro i y hy
        rw [lk_cons] at hy ⊢
        split at hy
        · cases hy; rename_i hki; rw [if_pos hki]; exact ⟨hm, x, rfl, .inl rfl⟩
        · rename_i hki; rw [if_neg hki]; exact h2 i y hy

theorem killH_spec {id : Nat} : ∀ {l l' : Heap}, killH id l = some l' →
    (∀ i, lk l' i = none ↔ lk l i = none) ∧ ∀ (i : Nat) o', lk l' i = some o' → (∀ cs', o' = .box cs' → ∀ x ∈ cs', men id x = false) ∧ ∃ o, lk l i = some o ∧ objWeak o' o := by
  intro l
  induction l with
  | nil => intro l' h; cases h; exact ⟨fun i => Iff.rfl, fun i o ho => by cases ho⟩
  | cons p l ih =>
    obtain ⟨k, o0⟩ := p
    intro l' h
    cases o0 with
    | box cs =>
      unfold killH at h
      cases hc : killC id cs with
      | none => simp [hc] at h
      | some cs' =>
        simp only [hc] at h
        cases hr : killH id l with
        | none => simp [hr] at h
        | some r' =>
          simp only [hr, Option.some.injEq] at h
          subst h
          obtain ⟨h1, h2⟩ := ih hr
          obtain ⟨c1, c2⟩ := killC_spec hc
          refine ⟨fun i => ?_, fun i o ho => ?_⟩
          · rw [lk_cons, lk_cons]; split
            · simp
            · exact h1 i
          · rw [lk_cons] at ho ⊢
            split at ho
            · cases ho
              rename_i hki
              rw [if_pos hki]
              refine ⟨fun cs1 he x hx => ?_, _, rfl, c1, fun i x hx => (c2 i x hx).2⟩
              cases he
              obtain ⟨i, hi⟩ := List.getElem?_of_mem hx
              exact (c2 i x hi).1
            · rename_i hki
              rw [if_neg hki]
              exact h2 i o ho
    | arr sz E es =>
      unfold killH at h
      cases hr : killH id l with
      | none => simp [hr] at h
      | some r' =>
        simp only [hr, Option.some.injEq] at h
        subst h
        obtain ⟨h1, h2⟩ := ih hr
        refine ⟨fun i => ?_, fun i o ho => ?_⟩
        · rw [lk_cons, lk_cons]; split
          · simp
          · exact h1 i
        · rw [lk_cons] at ho ⊢
          split at ho
          · cases ho
            rename_i hki
            rw [if_pos hki]
            exact ⟨fun cs1 he => (by cases he), _, rfl, rfl, rfl, rfl⟩
          · rename_i hki
            rw [if_neg hki]
            exact h2 i o ho

section
variable {F : Fr} {N : Nat}

theorem RelP.weaken {s s' : Slots} {h h' : Heap} {φ : Nat → Loc} {a : Act} {w : World} (hr : RelP F N ⟨s, h⟩ φ a w)
    (hs : ∀ i x', lk s' i = some x' → ∃ x, lk s i = some x ∧ isWeak x' x) (hn : ∀ i, lk h' i = none ↔ lk h i = none)
    (hh : ∀ i o', lk h' i = some o' → ∃ o, lk h i = some o ∧ objWeak o' o) : RelP F N ⟨s', h'⟩ φ a w := by
  have hS : ∀ b, Stab F w φ h b → Stab F w φ h' b := fun b hb => ⟨hb.1, hb.2.1, fun i o ho hm => by
    obtain ⟨o1, ho1, _⟩ := hh i o ho
    exact hb.2.2 i o1 ho1 hm⟩
  have hal : headsAlike φ φ h h' := by
    refine ⟨fun i cs hi _ => ⟨?_, rfl⟩, fun i sz E es hi => ⟨rfl, ?_⟩⟩
    · cases hl : lk h' i with
      | none => rw [(hn i).1 hl] at hi; cases hi
      | some o' =>
        obtain ⟨o, ho, hw⟩ := hh i o' hl
        rw [hi] at ho
        cases ho
        cases o' with
        | box cs' => exact ⟨cs', rfl⟩
        | arr _ _ _ => exact hw.elim
    · cases hl : lk h' i with
      | none => rw [(hn i).1 hl] at hi; cases hi
      | some o' =>
        obtain ⟨o, ho, hw⟩ := hh i o' hl
        rw [hi] at ho
        cases ho
        cases o' with
        | box cs' => exact hw.elim
        | arr _ _ _ => obtain ⟨rfl, rfl, rfl⟩ := hw; exact ⟨_, rfl, rfl⟩
  have hV : ∀ {x v}, RepV (Stab F w φ h) w φ h x v → RepV (Stab F w φ h') w φ h' x v := fun hx => hx.mono hS (fun _ _ => rfl) hal
  refine ⟨hr.size, hr.defers, hr.sys, hr.grow, ⟨fun i o ho => ?_, fun i j oi oj hi hj hmi hmj he => ?_, fun b hb => hb.1, fun i o ho hm hst => hst.2.2 i o ho hm rfl⟩,
    fun i x hx => ?_, fun i o ho hm => ?_, hr.fix, fun i o hi => ?_, hr.frame⟩
  · obtain ⟨o1, ho1, hw⟩ := hh i o ho
    have hok := hr.heap.obj i o1 ho1
    cases o with
    | box cs' =>
      cases o1 with
      | arr _ _ _ => exact hw.elim
      | box cs =>
        obtain ⟨hm, C, E, hC, hsz, hrep⟩ := hok
        refine ⟨hm, C, E, hC, by rw [hsz]; exact hw.1.symm, fun j x v hx hv => ?_⟩
        obtain ⟨y, hy, hxy⟩ := hw.2 j x hx
        rcases hxy with rfl | rfl
        · exact hV (hrep j x v hy hv)
        · exact .pure (.junk _)
    | arr sz E es =>
      cases o1 with
      | box _ => exact hw.elim
      | arr _ _ _ =>
        obtain ⟨rfl, rfl, rfl⟩ := hw
        obtain ⟨h0, hl, hone, hob⟩ := hok
        refine ⟨h0, hl, hone, ?_⟩
        rcases hob with hob | ⟨hm, C, hC, h1, h2, h3, h4⟩
        · exact .inl hob
        · exact .inr ⟨hm, C, hC, h1, h2, h3, fun j x v hx hv => (h4 j x v hx hv).mono hS (fun _ _ => rfl)⟩
  · obtain ⟨o1, ho1, _⟩ := hh i oi hi
    obtain ⟨o2, ho2, _⟩ := hh j oj hj
    exact hr.heap.inj i j o1 o2 ho1 ho2 hmi hmj he
  · obtain ⟨y, hy, hxy⟩ := hs i x hx
    obtain ⟨v, hv, hrep⟩ := hr.slots i y hy
    rcases hxy with rfl | rfl
    · exact ⟨v, hv, hV hrep⟩
    · exact ⟨v, hv, .pure (.junk _)⟩
  · obtain ⟨o1, ho1, _⟩ := hh i o ho
    exact hr.mine i o1 ho1 hm
  · obtain ⟨o1, ho1, hb1⟩ := hr.keep i o hi
    cases hl : lk h' i with
    | none => rw [(hn i).1 hl] at ho1; cases ho1
    | some o' =>
      obtain ⟨o2, ho2, hw⟩ := hh i o' hl
      rw [ho1] at ho2
      cases ho2
      refine ⟨o', rfl, ?_⟩
      rw [← hb1]
      cases o' <;> cases o1 <;> first | rfl | exact hw.elim

theorem RelP.kill {s s' : Slots} {h h' : Heap} {φ : Nat → Loc} {a : Act} {w : World} {id : Nat} (hr : RelP F N ⟨s, h⟩ φ a w)
    (hs : killS id s = some s') (hh : killH id h = some h') : RelP F N ⟨s', h'⟩ φ a w :=
  hr.weaken (fun i x hx => (killS_spec hs i x hx).2) (killH_spec hh).1 (fun i o ho => ((killH_spec hh).2 i o ho).2)

/-! ### append -/

/-- The elements that a value would append. -/
def asrc (h : Heap) (sz : Nat) : AV → Option (List AV)
  | .snil => some []
  | .sl n xs => bif Nat.beq n sz then some xs else none
  | .ow i => match lk h i with
    | some (.arr n _ xs) => bif Nat.beq n sz then some xs else none
    | _ => none
  | _ => none

theorem src_cells {S : Nat → Prop} {w : World} {φ : Nat → Loc} {h : Heap} {sz : Nat} {z : AV} {v : Value} {xs : List AV} (hh : HeapOK S w φ h) (hv : RepV S w φ h z v) (hsrc : asrc h sz z = some xs) :
    (v = .slice none 0 0 ∧ xs = []) ∨ ∃ ad c, ∃ news : List Value, v = .slice (some ad) xs.length c ∧ news.length = xs.length * sz ∧ (∀ (j : Nat) u, news[j]? = some u → w.cell? (ad.add j) = some u) ∧
      (∀ (j : Nat) c u, (flat xs)[j]? = some c → news[j]? = some u → RepT S w c u) ∧ (∀ u ∈ news, u.oneCell' = true) ∧ (∀ e ∈ xs, e.cells.length = sz) ∧
      (∀ (j : Nat) c, (flat xs)[j]? = some c → one c = true) := by
  have build : ∀ (b off cap : Nat) (f : Nat → Value), (∀ e ∈ xs, e.cells.length = sz) → (∀ (j : Nat) c, (flat xs)[j]? = some c → one c = true) →
      (∀ (j : Nat) c, (flat xs)[j]? = some c → w.cell? ⟨b, off + j, none⟩ = some (f j)) → (∀ (j : Nat) c, (flat xs)[j]? = some c → RepT S w c (f j)) →
      ∃ ad c, ∃ news : List Value, Value.slice (some ⟨b, off, none⟩) xs.length cap = .slice (some ad) xs.length c ∧ news.length = xs.length * sz ∧ (∀ (j : Nat) u, news[j]? = some u → w.cell? (ad.add j) = some u) ∧
      (∀ (j : Nat) c u, (flat xs)[j]? = some c → news[j]? = some u → RepT S w c u) ∧ (∀ u ∈ news, u.oneCell' = true) ∧ (∀ e ∈ xs, e.cells.length = sz) ∧
      (∀ (j : Nat) c, (flat xs)[j]? = some c → one c = true) := by
    intro b off cap f hlens hones hcell hrep
    have hfl := flat_length hlens
    have hget : ∀ (j : Nat) u, ((List.range (xs.length * sz)).map f)[j]? = some u → u = f j ∧ ∃ c, (flat xs)[j]? = some c := by
      intro j u hu
      have hj := (List.getElem?_eq_some_iff.1 hu).1
      simp at hj
      simp [hj] at hu
      exact ⟨hu.symm, ⟨(flat xs)[j]'(by rw [hfl]; exact hj), by simp⟩⟩
    refine ⟨⟨b, off, none⟩, cap, (List.range (xs.length * sz)).map f, rfl, by simp, fun j u hu => ?_, fun j c u hc hu => ?_, fun u hu => ?_, hlens, hones⟩
    · obtain ⟨rfl, c, hc⟩ := hget j u hu
      rw [Addr.add_lit]; exact hcell j c hc
    · obtain ⟨rfl, _⟩ := hget j u hu
      exact hrep j c hc
    · obtain ⟨j, hj⟩ := List.getElem?_of_mem hu
      obtain ⟨rfl, c, hc⟩ := hget j u hj
      exact (hrep j c hc).one (hones j c hc)
  unfold asrc at hsrc
  split at hsrc
  · cases hsrc
    cases hv with
    | pure hv => cases hv; exact .inl ⟨rfl, rfl⟩
  · rename_i n es
    cases hb : Nat.beq n sz with
    | false => simp [hb] at hsrc
    | true =>
      obtain rfl := (beq_iff _ _).1 hb
      simp only [hb, cond_true, Option.some.injEq] at hsrc
      subst hsrc
      cases hv with
      | pure hv =>
        cases hv with
        | sl0 _ a cap h0 =>
          cases a with
          | none => rw [h0 rfl]; exact .inl ⟨rfl, rfl⟩
          | some ad => exact .inr ⟨ad, cap, [], rfl, by simp, fun j u hu => by simp at hu, fun j c u hc => by simp [flat] at hc, fun u hu => by simp at hu, fun e he => by simp at he, fun j c hc => by simp [flat] at hc⟩
        | sl _ _ b off cap f hne hS hcap hm hsz hlens hones hcell hrep => exact .inr (build b off cap f hlens hones hcell hrep)
  · rename_i i
    cases hl : lk h i with
    | none => simp [hl] at hsrc
    | some o =>
      cases o with
      | box cs => simp [hl] at hsrc
      | arr n E es =>
        simp only [hl] at hsrc
        cases hb : Nat.beq n sz with
        | false => simp [hb] at hsrc
        | true =>
          obtain rfl := (beq_iff _ _).1 hb
          simp only [hb, cond_true, Option.some.injEq] at hsrc
          subst hsrc
          obtain ⟨hsz, hlens, hones, hob⟩ := hh.obj _ _ hl
          rcases hv.ow_inv hl with ⟨hm, rfl⟩ | ⟨hm, rfl, rfl⟩
          · rcases hob with ⟨hf, _⟩ | ⟨_, C, hC, hle, hcm, hCs, hrep⟩
            · rw [hm] at hf; cases hf
            · have hcap : es.length * n ≤ (φ i).cap * n := Nat.mul_le_mul_right _ hle
              have hin : ∀ (j : Nat) c, (flat es)[j]? = some c → C[j]? = some (C.getD j undef) := by
                intro j c hc
                have hj := (List.getElem?_eq_some_iff.1 hc).1
                rw [flat_length hlens] at hj
                have : j < C.size := by omega
                simp [this]
              refine .inr (build _ 0 _ (fun j => C.getD j undef) hlens hones (fun j c hc => ?_) (fun j c hc => hrep j c _ hc (hin j c hc)))
              rw [Nat.zero_add, cell_at hC]; exact hin j c hc
          · exact .inl ⟨rfl, rfl⟩
  · cases hsrc

theorem exec_append {dst : Option Tmp} {ty : TypeId} {pos : String} {after : Array Edge} {gd : Option (Nat × Bool)} {x y : Operand} {t t' : TypeId} (ρ : Operand → Value) :
    execOp ρ ⟨dst, .call ⟨.builtin .append, #[x, y], #[t, t']⟩, ty, pos, after, gd⟩ = (do pure (.value (← Builtin.append_ #[t, t'] ty #[ρ x, ρ y]))) := by
  rw [BigFrame.execOp_builtin, BigFrame.builtin_append]
  simp only [List.map_toArray, List.map_cons, List.map_nil]

variable {P : Program} {ops : Array Oper} {rest : List Oper} {K : St → Prop}
variable {ty : TypeId} {pos : String} {after : Array Edge} {d id : Nat} {s s' s1 : Slots} {h h' h1 : Heap} {x y : Operand}

theorem RelP.append {t E : TypeId} {sz bz : Nat} {zv : Value} {z : AV} {es xs : List AV} {φ : Nat → Loc} {a : Act} {w : World} (hr : RelP F N ⟨s, h⟩ φ a w)
    (ht : tyElem P t = some (E, sz)) (hz : tyZero P E = some (zv, sz, bz)) (hzs : zv.cells.size = sz)
    (hsz : 0 < sz) (hb : 0 < bz) (hx : aev s x = some (.ow id)) (hl : lk h id = some (.arr sz E es)) (hy : aev s y = some z) (hsrc : asrc h sz z = some xs)
    (hks : killS id s = some s1) (hkh : killH id h = some h1) (hh : sput h1 id (.arr sz E (es ++ xs)) = some h')
    (hbig : (es.length + xs.length) * bz ≤ 140737488355328) :
    ∃ v' w' φ', (Builtin.append_ #[t, t] ty #[a.eval x, a.eval y]).run P w = .ok v' w' ∧ RelP F N ⟨s1, h'⟩ φ' a w' ∧ RepV (Stab F w' φ' h') w' φ' h' (.ow id) v' := by
  obtain ⟨hu, hsize⟩ := tyElem_inv ht
  obtain ⟨i, hi, hzero, hisz, hiby⟩ := tyZero_inv hz
  have hrk := hr.kill hks hkh
  have hlk := lk_sput hh
  obtain ⟨hHn, hH⟩ := killH_spec hkh
  have hl1 : lk h1 id = some (.arr sz E es) := by
    cases hq : lk h1 id with
    | none => rw [(hHn id).1 hq] at hl; cases hl
    | some o =>
      obtain ⟨_, o2, ho2, hw⟩ := hH id o hq
      rw [hl] at ho2
      cases ho2
      cases o with
      | box _ => exact hw.elim
      | arr _ _ _ => obtain ⟨rfl, rfl, rfl⟩ := hw; rfl
  have hfix : ∀ l : Loc, ∀ cs, lk F.η id = some (.box cs) → l = F.φ id := by
    intro l cs hcs
    obtain ⟨o1, ho1, hb1⟩ := hr.keep id _ hcs
    have ho1' : lk h id = some o1 := ho1
    rw [hl] at ho1'
    cases ho1'
    cases hb1
  have hkind : ∀ o, lk h1 id = some o → (AO.arr sz E (es ++ xs)).isBox = o.isBox := fun o ho => by rw [hl1] at ho; cases ho; rfl
  have hxr := aev_rep hr hx
  have hyr := aev_rep hr hy
  have hsc := src_cells hr.heap hyr hsrc
  have hobj := hr.heap.obj _ _ hl
  obtain ⟨_, hlens, hones, hob⟩ := hobj
  have hnb : es.length + xs.length ≤ (es.length + xs.length) * bz := Nat.le_mul_of_pos_right _ hb
  have h63 : es.length + xs.length ≤ maxLen := by simp only [maxLen]; omega
  -- values other than the array's own stand for what they did
  have hV : ∀ (φ' : Nat → Loc) (w' : World), (∀ i, i ≠ id → φ' i = φ i) → (∀ b, Stab F w φ h1 b → Stab F w' φ' h' b) → (∀ b, Stab F w φ h1 b → w'.heap[b]? = w.heap[b]?) →
      ∀ x v, ((∃ i, lk s1 i = some x) ∨ ∃ i cs, i ≠ id ∧ lk h1 i = some (.box cs) ∧ x ∈ cs) → RepV (Stab F w φ h1) w φ h1 x v → RepV (Stab F w' φ' h') w' φ' h' x v := by
    intro φ' w' hφ hS hw x v hx hv
    have hm : men id x = false := by
      rcases hx with ⟨i, hi⟩ | ⟨i, cs, _, hi, hxc⟩
      · exact (killS_spec hks i x hi).1
      · exact (hH i _ hi).1 cs rfl x hxc
    refine hv.apart hS hw hφ (fun i cs hi ho => ⟨cs, ?_⟩) (fun i sz E es hi ho => ?_) hm
    · rw [hlk, if_neg (Ne.symm hi)]; exact ho
    · rw [hlk, if_neg (Ne.symm hi)]; exact ho
  have hlens' : ∀ (hx : ∀ e ∈ xs, e.cells.length = sz), ∀ e ∈ es ++ xs, e.cells.length = sz := fun hx e he => by
    rcases List.mem_append.1 he with he | he
    · exact hlens e he
    · exact hx e he
  have hflat : flat (es ++ xs) = flat es ++ flat xs := by simp [flat]
  have hSk : ∀ b, Stab F w φ h b → Stab F w φ h1 b := fun b hb => ⟨hb.1, hb.2.1, fun i o ho hm => by
    obtain ⟨_, o1, ho1, _⟩ := hH i o ho
    exact hb.2.2 i o1 ho1 hm⟩
  rcases hsc with ⟨hyv, rfl⟩ | ⟨ad, c, news, hyv, hnl, hnews, hnrep, hn1, hxl, hxo⟩
  · -- nothing is appended
    have hown : w.ownsRow 0 E sz (a.eval x) es.length (if (φ id).mat then ((w.heap[(φ id).blk]?).map fun | .cells C _ _ => C.toList.take (es.length * sz) | _ => []).getD [] else []) := by
      rcases hxr.ow_inv hl with ⟨hm, hv⟩ | ⟨hm, rfl, hv⟩
      · rcases hob with ⟨hf, _⟩ | ⟨_, C, hC, hle, hcm, hCs, hrep⟩
        · rw [hm] at hf; cases hf
        · rw [hv, if_pos hm, hC]
          refine ⟨?_, .inr ⟨_, _, C, rfl, Nat.zero_le _, hC, hle, hcm, hCs, rfl⟩⟩
          have : es.length * sz ≤ C.size := by rw [hCs]; exact Nat.mul_le_mul_right _ hle
          simp; omega
      · rw [hv]
        simp only [hm, Bool.false_eq_true, if_false]
        exact World.ownsRow_nil w 0 E sz
    have hrun := run_append_owned_none (P := P) (w := w) 0 t ty E i sz hu hi (a.eval x) es.length _ hown
    refine ⟨a.eval x, w, φ, by rw [hyv]; exact hrun, hrk.upd hh (fun _ _ => rfl) (SameSys.refl w) (Nat.le_refl _) (fun _ _ _ => rfl)
      (fun hm => .inr ⟨_, hl1, hm, rfl⟩) (fun cs hcs => hfix _ cs hcs) hkind (fun hS hw => hV φ w (fun _ _ => rfl) hS hw) (fun hS hw => ?_), ?_⟩
    · rw [List.append_nil]
      refine ⟨hsz, hlens, hones, ?_⟩
      rcases hob with hob | ⟨hm, C, hC, h1', h2', h3', h4'⟩
      · exact .inl hob
      · exact .inr ⟨hm, C, hC, h1', h2', h3', fun j x v hx hv => ((h4' j x v hx hv).mono hSk (fun _ _ => rfl)).mono hS hw⟩
    · have hl' : lk h' id = some (.arr sz E (es ++ [])) := by rw [hlk, if_pos rfl]
      rw [List.append_nil] at hl'
      rcases hxr.ow_inv hl with ⟨hm, hv⟩ | ⟨hm, rfl, hv⟩
      · rw [hv]; exact .ow hl' hm
      · rw [hv]; exact .ow0 hl' hm
  · have hl' : lk h' id = some (.arr sz E (es ++ xs)) := by rw [hlk, if_pos rfl]
    have hallL := hlens' hxl
    have hallO : ∀ (j : Nat) z, (flat (es ++ xs))[j]? = some z → one z = true := by
      intro j z hz
      rw [hflat] at hz
      by_cases hj : j < (flat es).length
      · rw [List.getElem?_append_left hj] at hz; exact hones j z hz
      · rw [List.getElem?_append_right (by omega)] at hz; exact hxo _ z hz
    have hfe := flat_length hlens
    have hfx := flat_length hxl
    have hcont : ∀ (olds : List Value) (cur : Array Value), olds.length = es.length * sz → (∀ (j : Nat) z v, (flat es)[j]? = some z → olds[j]? = some v → RepT (Stab F w φ h) w z v) →
        cur.toList.take ((es.length + xs.length) * sz) = olds ++ news → ∀ (j : Nat) z v, (flat (es ++ xs))[j]? = some z → cur[j]? = some v → RepT (Stab F w φ h) w z v := by
      intro olds cur hol hor htake j z v hz hv
      have hj := (List.getElem?_eq_some_iff.1 hz).1
      rw [hflat, List.length_append, hfe, hfx, ← Nat.add_mul] at hj
      have hv' : (olds ++ news)[j]? = some v := by rw [← htake, List.getElem?_take, if_pos hj]; simpa using hv
      rw [hflat] at hz
      by_cases hj2 : j < (flat es).length
      · rw [List.getElem?_append_left hj2] at hz
        rw [List.getElem?_append_left (by rw [hol, ← hfe]; exact hj2)] at hv'
        exact hor j z v hz hv'
      · rw [List.getElem?_append_right (by omega)] at hz
        rw [List.getElem?_append_right (by rw [hol, ← hfe]; omega), hol, ← hfe] at hv'
        exact hnrep _ z v hz hv'
    rcases hxr.ow_inv hl with ⟨hm, hv⟩ | ⟨hm, rfl, hv⟩
    · rcases hob with ⟨hf, _⟩ | ⟨_, C, hC, hle, hcm, hCs, hrep⟩
      · rw [hm] at hf; cases hf
      have hcapn : es.length * sz ≤ C.size := by rw [hCs]; exact Nat.mul_le_mul_right _ hle
      have hol : (C.toList.take (es.length * sz)).length = es.length * sz := by simp; omega
      have hor : ∀ (j : Nat) z v, (flat es)[j]? = some z → (C.toList.take (es.length * sz))[j]? = some v → RepT (Stab F w φ h) w z v := by
        intro j z v hz hv
        have hj := (List.getElem?_eq_some_iff.1 hz).1
        rw [hfe] at hj
        rw [List.getElem?_take, if_pos hj] at hv
        exact hrep j z v hz (by simpa using hv)
      by_cases hroom : es.length + xs.length ≤ (φ id).cap
      · have hnl' : news.length = xs.length * i.size := by rw [hisz]; exact hnl
        have hfit : es.length * i.size + news.length ≤ C.size := by rw [hisz, hnl, hCs, ← Nat.add_mul]; exact Nat.mul_le_mul_right _ hroom
        have hrun := run_append_room (P := P) w t ty E i hu hi (φ id).blk es.length (φ id).cap C hC ad xs.length c news hnl' hnews hn1 hroom hfit
        rw [hisz] at hrun
        refine ⟨_, _, φ, by rw [hv, hyv]; exact hrun, hrk.upd hh (fun _ _ => rfl) (setRow_sys _ _ _) (by simp) (fun b _ hb => setRow_other _ _ _ _ (hb _ hl1 hm))
          (fun _ => .inr ⟨_, hl1, hm, rfl⟩) (fun cs hcs => hfix _ cs hcs) hkind (fun hS hw => hV φ _ (fun _ _ => rfl) hS hw) (fun hS hw => ?_), ?_⟩
        · refine ⟨hsz, hallL, hallO, .inr ⟨hm, _, setRow_heap _ _ _ _ _ _ hC, by simpa using hroom, hcm, ?_, fun j z v hz hvj => ?_⟩⟩
          · rw [hisz] at hfit
            have hCl : C.toList.length = C.size := by simp
            rw [List.size_toArray, List.length_append, List.length_append, hol, List.length_drop, hCl]
            omega
          · have htk : ((C.toList.take (es.length * sz) ++ news ++ C.toList.drop (es.length * sz + news.length)).toArray).toList.take ((es.length + xs.length) * sz) =
                C.toList.take (es.length * sz) ++ news := by
              have : (es.length + xs.length) * sz = (C.toList.take (es.length * sz) ++ news).length := by rw [List.length_append, hol, hnl, Nat.add_mul]
              rw [this]
              exact List.take_left
            exact ((hcont _ _ hol hor htk j z v hz hvj).mono hSk (fun _ _ => rfl)).mono hS hw
        · have := RepV.ow (S := Stab F (w.setRow (φ id).blk (C.toList.take (es.length * sz) ++ news ++ C.toList.drop (es.length * sz + news.length)).toArray) φ h')
            (w := w.setRow (φ id).blk (C.toList.take (es.length * sz) ++ news ++ C.toList.drop (es.length * sz + news.length)).toArray) (φ := φ) hl' hm
          rw [List.length_append] at this
          exact this
      · have holds : ∀ (j : Nat) u, (C.toList.take (es.length * sz))[j]? = some u → w.cell? ((⟨(φ id).blk, 0, none⟩ : Addr).add j) = some u := by
          intro j u hu
          rw [Addr.add_lit, Nat.zero_add, cell_at hC]
          rw [List.getElem?_take] at hu
          split at hu
          · simpa using hu
          · cases hu
        have hrun := run_append_grow (P := P) w t ty E i zv hu hi hzero ⟨(φ id).blk, 0, none⟩ es.length (φ id).cap (C.toList.take (es.length * sz)) (by rw [hisz]; exact hol) holds ad xs.length c news
          (by rw [hisz]; exact hnl) hnews (by omega) (by simp only [maxLen] at h63; omega) (growslice_fits (by omega) (by rw [hiby]; exact hbig))
        have hge := grownCap_ge w (es.length + xs.length) (φ id).cap E
        have hgm := grownCap_le_maxLen w (es.length + xs.length) (φ id).cap E h63
        generalize grownCap w (es.length + xs.length) (φ id).cap E = cap' at hrun hge hgm
        generalize hcur : (C.toList.take (es.length * sz)).toArray ++ news.toArray ++ Builtin.zeroCells zv.cells (cap' - (es.length + xs.length)) = cur at hrun
        obtain ⟨g1, g2, g3, g4⟩ := alloc_new w.drew (.cells cur E)
        refine ⟨_, _, updLoc φ id ⟨w.heap.size, cap', true⟩, by rw [hv, hyv]; exact hrun, hrk.upd hh (updLoc_ne φ id _) ⟨g1.os, g1.tape, g1.output⟩ g2 (fun b hb _ => g3 b hb)
          (fun _ => .inl (by rw [updLoc_same]; exact Nat.le_refl _)) (fun cs hcs => hfix _ cs hcs) hkind (fun hS hw => hV _ _ (updLoc_ne φ id _) hS hw) (fun hS hw => ?_), ?_⟩
        · refine ⟨hsz, hallL, hallO, .inr ⟨by rw [updLoc_same], cur, by rw [updLoc_same]; exact g4, by rw [updLoc_same]; simpa using hge, by rw [updLoc_same]; exact hgm, ?_, fun j z v hz hvj => ?_⟩⟩
          · rw [updLoc_same, ← hcur]
            simp only [Array.size_append, List.size_toArray, size_zeroCells, hzs, hol, hnl, ← Nat.add_mul]
            congr 1
            omega
          · have htk : cur.toList.take ((es.length + xs.length) * sz) = C.toList.take (es.length * sz) ++ news := by
              have : (es.length + xs.length) * sz = (C.toList.take (es.length * sz) ++ news).length := by rw [List.length_append, hol, hnl, Nat.add_mul]
              rw [this, ← hcur]
              simp only [Array.toList_append]
              exact List.take_left
            exact ((hcont _ _ hol hor htk j z v hz hvj).mono hSk (fun _ _ => rfl)).mono hS hw
        · have := RepV.ow (S := Stab F (w.drew.alloc (.cells cur E)) (updLoc φ id ⟨w.heap.size, cap', true⟩) h') (w := w.drew.alloc (.cells cur E))
            (φ := updLoc φ id ⟨w.heap.size, cap', true⟩) hl' (by rw [updLoc_same])
          rw [updLoc_same, List.length_append] at this
          exact this
    · obtain ⟨v', w', hrun, hown, hgrow, _⟩ := run_append_own (P := P) w w.heap.size t ty E i zv sz bz hu hi hzero hisz hiby hzs hsz (.slice none 0 0) 0 [] (World.ownsRow_nil w _ E sz)
        ad xs.length c news hnl hnews hn1 (by simpa using h63) (by simpa using hbig) (Nat.le_refl _)
      have hsame : ∀ b, b < w.heap.size → w'.heap[b]? = w.heap[b]? := fun b hb => hgrow.block b hb (by simp [Value.ownBlock])
      have hsys : SameSys w w' := ⟨hgrow.os, hgrow.tape, hgrow.output⟩
      rcases hown.2 with ⟨rfl, h0⟩ | ⟨g, cap', cur, rfl, hg, hcC, hnc, hcm', hcs', htake⟩
      · have hx0 : xs = [] := List.eq_nil_of_length_eq_zero (by omega)
        subst hx0
        refine ⟨_, _, φ, by rw [hv, hyv]; exact hrun, hrk.upd hh (fun _ _ => rfl) hsys hgrow.size (fun b hb _ => hsame b hb) (fun hm' => by rw [hm] at hm'; cases hm')
          (fun cs hcs => hfix _ cs hcs) hkind (fun hS hw => hV φ _ (fun _ _ => rfl) hS hw) (fun hS hw => ⟨hsz, hallL, hallO, .inl ⟨hm, rfl⟩⟩), .ow0 hl' hm⟩
      · refine ⟨_, _, updLoc φ id ⟨g, cap', true⟩, by rw [hv, hyv]; exact hrun, hrk.upd hh (updLoc_ne φ id _) hsys hgrow.size (fun b hb _ => hsame b hb)
          (fun _ => .inl (by rw [updLoc_same]; exact hg)) (fun cs hcs => hfix _ cs hcs) hkind (fun hS hw => hV _ _ (updLoc_ne φ id _) hS hw) (fun hS hw => ?_), ?_⟩
        · refine ⟨hsz, hallL, hallO, .inr ⟨by rw [updLoc_same], cur, by rw [updLoc_same]; exact hcC, by rw [updLoc_same]; simpa using hnc, by rw [updLoc_same]; exact hcm',
            by rw [updLoc_same]; exact hcs', fun j z v hz hvj => ?_⟩⟩
          exact ((hcont [] cur (by simp) (fun j z v hz => by simp [flat] at hz) (by simpa using htake) j z v hz hvj).mono hSk (fun _ _ => rfl)).mono hS hw
        · have := RepV.ow (S := Stab F w' (updLoc φ id ⟨g, cap', true⟩) h') (w := w') (φ := updLoc φ id ⟨g, cap', true⟩) hl' (by rw [updLoc_same])
          rw [updLoc_same] at this
          simpa using this

/-- append to an array of the machine's own; what was taken of it before is forgotten. -/
theorem TL_append {t E : TypeId} {sz bz : Nat} {zv : Value} {z : AV} {es xs : List AV}
    (ht : tyElem P t = some (E, sz)) (hz : tyZero P E = some (zv, sz, bz)) (hzs : Nat.beq zv.cells.size sz = true)
    (hsz : Nat.blt 0 sz = true) (hb : Nat.blt 0 bz = true) (hx : aev s x = some (.ow id)) (hl : lk h id = some (.arr sz E es)) (hy : aev s y = some z) (hsrc : asrc h sz z = some xs)
    (hbig : (es.length + xs.length) * bz ≤ 140737488355328)
    (hks : killS id s = some s1) (hkh : killH id h = some h1) (hh : sput h1 id (.arr sz E (es ++ xs)) = some h') (hN : Nat.blt d N = true) (hs : sput s1 d (.ow id) = some s')
    (k : TL P F N ops rest K ⟨s', h'⟩) : TL P F N ops (⟨some d, .call ⟨.builtin .append, #[x, y], #[t, t]⟩, ty, pos, after, none⟩ :: rest) K ⟨s, h⟩ := by
  refine TL_val rfl (fun φ a w hr => ?_) k
  obtain ⟨v', w', φ', hrun, hr', hv'⟩ := hr.append (P := P) (ty := ty) ht hz ((beq_iff _ _).1 hzs) (Nat.le_of_ble_eq_true hsz) (Nat.le_of_ble_eq_true hb) hx hl hy hsrc hks hkh hh hbig
  exact ⟨v', w', (fun h => nomatch h), by rw [exec_append]; simp only [Sem.run_bind, hrun, Result.andThen_ok, Sem.run_pure], φ', hr'.put (Nat.le_of_ble_eq_true hN) hs hv'⟩

end
end Go.AM
