/- Values that stay what they were; append; taking over what others own. -/
import Derived.Test.YtlijhkhbdfgapaaAmI2
import Derived.Test.YtlijhkhbdfgapaaAmV
namespace Go.AM
open Go

def sameHead (l l' : Loc) : Prop := l'.blk = l.blk ∧ l'.cap = l.cap ∧ l'.mat = l.mat ∧ l'.va = l.va

mutual
/-- No handle into 'id'. -/
def noSub (id : Nat) : AV → Bool
  | .sub i _ => !Nat.beq i id
  | .agg cs => noSubL id cs
  | .tup vs => noSubL id vs
  | .fn _ as bs => noSubL id as && noSubL id bs
  | _ => true
def noSubL (id : Nat) : List AV → Bool
  | [] => true
  | x :: r => noSub id x && noSubL id r
end

theorem noSubL_mem {id : Nat} : ∀ {l : List AV}, noSubL id l = true → ∀ (i : Nat) x, l[i]? = some x → noSub id x = true := by
  intro l
  induction l with
  | nil => intro _ i x hx; simp at hx
  | cons y l ih =>
    intro h i x hx
    simp only [noSubL, Bool.and_eq_true] at h
    cases i with
    | zero => simp at hx; subst hx; exact h.1
    | succ i => simp at hx; exact ih h.2 i x hx

theorem RepV.move {S S' : Nat → Prop} {w w' : World} {φ φ' : Nat → Loc} {η η' : Heap} {id : Nat} {gone : Nat → Prop} (hS : ∀ b, S b → S' b)
    (hw : ∀ b, S b → w'.heap[b]? = w.heap[b]?) (hφ : ∀ i, i ≠ id → ¬ gone i → φ' i = φ i) (hid : ∀ o, lk η id = some o → ¬ gone id → sameHead (φ id) (φ' id))
    (hb : ∀ i cs, ¬ gone i → lk η i = some (.box cs) → ∃ cs', lk η' i = some (.box cs'))
    (ha : ∀ i k sz E es, ¬ gone i → lk η i = some (.arr k sz E es) → ∃ k' es', es'.length = es.length ∧ lk η' i = some (.arr k' sz E es'))
    {x : AV} {v : Value} (h : RepV S w φ η x v) : (∀ i, gone i → men i x = false) → noSub id x = true → RepV S' w' φ' η' x v := by
  have hhd : ∀ i o, lk η i = some o → ¬ gone i → sameHead (φ i) (φ' i) := by
    intro i o ho hg
    by_cases hi : i = id
    · subst hi; exact hid o ho hg
    · rw [hφ i hi hg]; exact ⟨rfl, rfl, rfl, rfl⟩
  induction h with
  | pure h => exact fun _ _ => .pure (h.mono hS hw)
  | @ow i sz k E es h hm =>
    intro hg _
    have hg' : ¬ gone i := fun e => by have := hg i e; simp [men] at this
    obtain ⟨e1, e2, e3, e4⟩ := hhd i _ h hg'
    obtain ⟨k', es', hl, h'⟩ := ha i _ _ _ _ hg' h
    have := RepV.ow (S := S') (w := w') (φ := φ') h' (by rw [e3]; exact hm)
    rw [e1, e2, hl] at this
    exact this
  | @ow0 i sz k E h hm =>
    intro hg _
    have hg' : ¬ gone i := fun e => by have := hg i e; simp [men] at this
    obtain ⟨e1, e2, e3, e4⟩ := hhd i _ h hg'
    obtain ⟨k', es', hl, h'⟩ := ha i _ _ _ _ hg' h
    have : es' = [] := List.eq_nil_of_length_eq_zero (by simpa using hl)
    subst this
    have := RepV.ow0 (S := S') (w := w') (φ := φ') h' (by rw [e3]; exact hm)
    rw [e4] at this
    exact this
  | @box i off cs h hm =>
    intro hg _
    have hg' : ¬ gone i := fun e => by have := hg i e; simp [men] at this
    obtain ⟨e1, e2, e3, e4⟩ := hhd i _ h hg'
    obtain ⟨cs', h'⟩ := hb i _ hg' h
    have := RepV.box (S := S') (w := w') (φ := φ') (off := off) h' (by rw [e3]; exact hm)
    rw [e1] at this
    exact this
  | @elt i k off sz kd E es h hm =>
    intro hg _
    have hg' : ¬ gone i := fun e => by have := hg i e; simp [men] at this
    obtain ⟨e1, e2, e3, e4⟩ := hhd i _ h hg'
    obtain ⟨k', es', hl, h'⟩ := ha i _ _ _ _ hg' h
    have := RepV.elt (S := S') (w := w') (φ := φ') (k := k) (off := off) h' (by rw [e3]; exact hm)
    rw [e1] at this
    exact this
  | @sub i n sz k E es h =>
    intro hg hs
    have hg' : ¬ gone i := fun e => by have := hg i e; simp [men] at this
    have hne : i ≠ id := fun e => by subst e; simp [noSub] at hs
    obtain ⟨k', es', hl, h'⟩ := ha i _ _ _ _ hg' h
    have := RepV.sub (S := S') (w := w') (φ := φ') (n := n) h'
    rw [hφ i hne hg'] at this
    exact this
  | agg cs vs hl _ ih =>
    intro hg hs
    exact .agg cs vs hl (fun i x v hx hv => ih i x v hx hv (fun j hj => menL_mem (by simpa [men] using hg j hj) i x hx) (noSubL_mem (by simpa [noSub] using hs) i x hx))
  | tup cs vs hl _ ih =>
    intro hg hs
    exact .tup cs vs hl (fun i x v hx hv => ih i x v hx hv (fun j hj => menL_mem (by simpa [men] using hg j hj) i x hx) (noSubL_mem (by simpa [noSub] using hs) i x hx))
  | fn f first cap as bs h1 h2 _ _ ih1 ih2 =>
    intro hg hs
    simp only [noSub, Bool.and_eq_true] at hs
    have hg1 : ∀ j, gone j → menL j first = false ∧ menL j cap = false := fun j hj => by have := hg j hj; simpa [men, Bool.or_eq_false_iff] using this
    exact .fn f first cap as bs h1 h2 (fun i x v hx hv => ih1 i x v hx hv (fun j hj => menL_mem (hg1 j hj).1 i x hx) (noSubL_mem hs.1 i x hx))
      (fun i x v hx hv => ih2 i x v hx hv (fun j hj => menL_mem (hg1 j hj).2 i x hx) (noSubL_mem hs.2 i x hx))

mutual
theorem men_noSub {id : Nat} : ∀ (x : AV), men id x = false → noSub id x = true
  | .sub i n, h => by simp only [noSub]; simp only [men] at h; rw [h]; rfl
  | .agg cs, h => by simp only [noSub]; exact menL_noSub cs (by simpa [men] using h)
  | .tup vs, h => by simp only [noSub]; exact menL_noSub vs (by simpa [men] using h)
  | .fn f as bs, h => by
    simp only [men, Bool.or_eq_false_iff] at h
    simp only [noSub, Bool.and_eq_true]
    exact ⟨menL_noSub as h.1, menL_noSub bs h.2⟩
  | .int _ _, _ => rfl
  | .bool _, _ => rfl
  | .str _, _ => rfl
  | .snil, _ => rfl
  | .sl _ _, _ => rfl
  | .cp _, _ => rfl
  | .nilp, _ => rfl
  | .nilf, _ => rfl
  | .ptr _ _ _, _ => rfl
  | .ow _, _ => rfl
  | .mp _, _ => rfl
  | .junk, _ => rfl
theorem menL_noSub {id : Nat} : ∀ (xs : List AV), menL id xs = false → noSubL id xs = true
  | [], _ => rfl
  | x :: r, h => by
    simp only [menL, Bool.or_eq_false_iff] at h
    simp only [noSubL, Bool.and_eq_true]
    exact ⟨men_noSub x h.1, menL_noSub r h.2⟩
end

/-- A heap without some objects. -/
def dropH (ids : List Nat) : Heap → Heap
  | [] => []
  | (k, o) :: r => bif ids.any (fun i => Nat.beq i k) then dropH ids r else (k, o) :: dropH ids r

theorem any_beq {ids : List Nat} {k : Nat} : ids.any (fun i => Nat.beq i k) = true ↔ k ∈ ids := by
  rw [List.any_eq_true]
  constructor
  · rintro ⟨i, hi, he⟩; rw [(beq_iff _ _).1 he] at hi; exact hi
  · intro h; exact ⟨k, h, Nat.beq_refl k⟩

theorem lk_dropH {ids : List Nat} : ∀ {h : Heap} (j : Nat), lk (dropH ids h) j = if j ∈ ids then none else lk h j := by
  intro h
  induction h with
  | nil => intro j; simp [dropH, lk]
  | cons p h ih =>
    obtain ⟨k, o⟩ := p
    intro j
    unfold dropH
    by_cases hk : ids.any (fun i => Nat.beq i k) = true
    · rw [hk, cond_true, ih j, lk_cons]
      by_cases hj : j ∈ ids
      · rw [if_pos hj, if_pos hj]
      · rw [if_neg hj, if_neg hj, if_neg (fun e => hj (by subst e; exact any_beq.1 hk))]
    · rw [Bool.eq_false_iff.2 hk, cond_false, lk_cons, lk_cons, ih j]
      by_cases hj : j ∈ ids
      · rw [if_pos hj, if_neg (fun e => hk (any_beq.2 (by subst e; exact hj)))]
        simp [hj]
      · by_cases hkj : k = j
        · simp [hkj, hj]
        · rw [if_neg hkj, if_neg hkj]

section
variable {F : Fr} {N : Nat} {P : Program}

def oldsOf (w : World) (l : Loc) (n : Nat) : List Value :=
  if l.mat then (match w.heap[l.blk]? with | some (.cells C _ _) => C.toList.take n | _ => []) else []

theorem RelP.appX {s : Slots} {h : Heap} {φ : Nat → Loc} {a : Act} {w : World} {k : Kd} {sz id : Nat} {E : TypeId} {es : List AV} {x : Operand} (hr : RelP F N ⟨s, h⟩ φ a w)
    (hx : aev s x = some (.ow id)) (hl : lk h id = some (.arr k sz E es)) : AppX w E sz (φ id) es.length (a.eval x) (oldsOf w (φ id) (es.length * sz)) := by
  obtain ⟨_, hlens, hones, hob⟩ := hr.heap.obj _ _ hl
  rcases (aev_rep hr hx).ow_inv hl with ⟨hm, hv⟩ | ⟨hm, rfl, hv⟩
  · rcases hob with ⟨hf, _⟩ | ⟨_, C, hC, hle, hcm, hCs, hrep⟩
    · rw [hm] at hf; cases hf
    · refine ⟨.inl ⟨hm, hv, C, hC, hle, hcm, hCs, ?_⟩⟩
      simp only [oldsOf, hm, if_true, hC]
  · refine ⟨.inr ⟨hm, rfl, ?_, hv⟩⟩
    simp [oldsOf, hm]

/-- The row's old cells. -/
theorem olds_cells {S : Nat → Prop} {w : World} {φ : Nat → Loc} {h : Heap} {id sz : Nat} {k : Kd} {E : TypeId} {es : List AV} (hO : ObjOK S w φ h id (.arr k sz E es)) :
    (oldsOf w (φ id) (es.length * sz)).length = es.length * sz ∧ ∃ C : Array Value, CellsOK k S w (φ id) (flat es) C ∧ ((φ id).mat = true → w.heap[(φ id).blk]? = some (.cells C E (0, 0))) ∧
      ∀ (j : Nat) x v, (flat es)[j]? = some x → (oldsOf w (φ id) (es.length * sz))[j]? = some v → C[j]? = some v := by
  obtain ⟨_, hlens, hones, hob⟩ := hO
  rcases hob with ⟨hm, rfl⟩ | ⟨hm, C, hC, hle, hcm, hCs, hrep⟩
  · refine ⟨by simp [oldsOf, hm], #[], ?_, fun hmt => (by rw [hm] at hmt; cases hmt), fun j x v hx => by simp [flat] at hx⟩
    unfold CellsOK
    cases k.d with
    | false => exact fun j x v hx => by simp [flat] at hx
    | true => exact ⟨[], by simp [flat], fun j x v fp hx => by simp [flat] at hx, by simp, by simp, fun j x v hx => by simp [flat] at hx⟩
  · have hcap : es.length * sz ≤ (φ id).cap * sz := Nat.mul_le_mul_right _ hle
    refine ⟨?_, C, hrep, fun _ => hC, fun j x v hx hv => ?_⟩
    · simp only [oldsOf, hm, if_true, hC]; simp; omega
    · simp only [oldsOf, hm, if_true, hC] at hv
      rw [List.getElem?_take] at hv
      split at hv
      · simpa using hv
      · cases hv

variable {s s1 : Slots} {h h1 h' : Heap} {id sz : Nat} {k : Kd} {E : TypeId}

/-- After an append: the array 'id' holds other elements, and has taken over the objects 'gone'. -/
theorem RelP.appended {es es' : List AV} {φ : Nat → Loc} {a : Act} {w w' : World} {l' : Loc} {v' : Value} {cs : List Value} (gone : List Nat) (fp' : List Nat) (sv' : Nat → Option Addr × Nat × Nat)
    (hr : RelP F N ⟨s, h⟩ φ a w) (hl : lk h id = some (.arr k sz E es)) (hkp : k.p = false) (hgid : id ∉ gone) (hgF : ∀ j ∈ gone, lk F.η j = none)
    (hks : killSL (id :: gone) s = some s1) (hkh : killHL (id :: gone) h = some h1) (hh : sput (dropH gone h1) id (.arr k sz E es') = some h')
    (hres : AppR w w' E sz (φ id) l' es'.length v' cs) (hfp : ∀ b ∈ fp', b ∈ (φ id).fp ∨ ∃ j o, j ∈ gone ∧ lk h j = some o ∧ (φ j).owns b)
    (hlens : ∀ e ∈ es', e.cells.length = sz) (hones : ∀ (j : Nat) x, (flat es')[j]? = some x → one x = true)
    (hcells : ∀ C' : Array Value, C'.toList.take (es'.length * sz) = cs → l'.mat = true → CellsOK k (Stab F w φ h) w { l' with fp := fp', sv := sv' } (flat es') C') :
    RelP F N ⟨s1, h'⟩ (updLoc φ id { l' with fp := fp', sv := sv' }) a w' ∧ RepV (Stab F w' (updLoc φ id { l' with fp := fp', sv := sv' }) h') w' (updLoc φ id { l' with fp := fp', sv := sv' }) h' (.ow id) v' := by
  obtain ⟨hHn, hH⟩ := killHL_spec hkh
  have hkS := killSL_spec hks
  have hrk : RelP F N ⟨s1, h1⟩ φ a w := hr.weaken (fun i x hx => (hkS i x hx).2) hHn (fun i o ho => (hH i o ho).2)
  have hlk := lk_sput hh
  have hl1 : lk h1 id = some (.arr k sz E es) := by
    cases hq : lk h1 id with
    | none => rw [(hHn id).1 hq] at hl; cases hl
    | some o =>
      obtain ⟨_, o2, ho2, hw⟩ := hH id o hq
      rw [hl] at ho2
      cases ho2
      cases o with
      | box _ => exact hw.elim
      | arr _ _ _ _ => obtain ⟨rfl, rfl, rfl, rfl⟩ := hw; rfl
  have hh1h : ∀ {j o}, lk h1 j = some o → ∃ o', lk h j = some o' := fun {j o} e => by obtain ⟨_, o', ho', _⟩ := hH j o e; exact ⟨o', ho'⟩
  have hhh1 : ∀ {j o}, lk h j = some o → ∃ o', lk h1 j = some o' := fun {j o} e => by
    cases hq : lk h1 j with
    | none => rw [(hHn j).1 hq] at e; cases e
    | some o' => exact ⟨o', rfl⟩
  have hSk : ∀ b, Stab F w φ h b → Stab F w φ h1 b := fun b hb => ⟨hb.1, hb.2.1, fun i o ho hm => by
    obtain ⟨o1, ho1⟩ := hh1h ho
    exact hb.2.2 i o1 ho1 hm⟩
  have h1id : lk h' id = some (.arr k sz E es') := by rw [hlk, if_pos rfl]
  have hobj1 := hrk.heap.obj _ _ hl1
  obtain ⟨hsz, _, _, hob1⟩ := hobj1
  have hown : ∀ b, ({ l' with fp := fp', sv := sv' } : Loc).owns b → (w.heap.size ≤ b ∧ b < w'.heap.size) ∨ (∃ o, lk h1 id = some o ∧ (φ id).owns b) ∨ ∃ j o, j ∈ gone ∧ lk h1 j = some o ∧ (φ j).owns b := by
    rintro b (⟨hm, hb⟩ | hb)
    · rcases hres.go with ⟨hm', _⟩ | ⟨_, _, _, h3⟩
      · have hm2 : l'.mat = true := hm
        rw [hm'] at hm2; cases hm2
      · have hb' : l'.blk = b := hb
        rcases h3 with ⟨h4, h5⟩ | h4
        · exact .inr (.inl ⟨_, hl1, .inl ⟨h4, by rw [← h5]; exact hb'⟩⟩)
        · rw [hb'] at h4; exact .inl h4
    · rcases hfp b hb with h1 | ⟨j, o, h1, h2, h3⟩
      · exact .inr (.inl ⟨_, hl1, .inr h1⟩)
      · obtain ⟨o', ho'⟩ := hhh1 h2
        exact .inr (.inr ⟨j, o', h1, ho', h3⟩)
  have hdrop := @lk_dropH gone h1
  have hrel : RelP F N ⟨s1, h'⟩ (updLoc φ id { l' with fp := fp', sv := sv' }) a w' := by
    refine hrk.updX (fun j => j ∈ gone) h1id (fun j hj hg => by rw [hlk, if_neg (Ne.symm hj), hdrop, if_neg hg]) (fun j hj hg => by rw [hlk, if_neg (Ne.symm hj), hdrop, if_pos hg])
      (fun j hg => ⟨fun e => hgid (e ▸ hg), hgF j hg⟩) (updLoc_ne φ id _) hres.sys hres.grow (fun b hb hno => hres.same b hb (fun hm _ e => hno _ hl1 (.inl ⟨hm, e⟩))) (fun b hb => ?_) (fun o hcs hne => ?_)
      (fun o ho => by rw [hl1] at ho; cases ho; exact ⟨rfl, fun hp => by rw [hkp] at hp; cases hp⟩) (fun hS hw x v hx hv => ?_) (fun hS hw => ?_)
    · rw [updLoc_same] at hb; exact hown b hb
    · exfalso
      obtain ⟨o1, ho1, hb1⟩ := hr.keep id _ hcs
      have ho1' : lk h id = some o1 := ho1
      rw [hl] at ho1'
      cases ho1'
      have := AO.alike_box hb1
      apply hne
      rw [← this]
      simp [AO.isBox, hkp]
    · have hm : ∀ i ∈ id :: gone, men i x = false := by
        rcases hx with ⟨i, hi⟩ | ⟨i, cs, _, hi, hxc⟩
        · exact (hkS i x hi).1
        · intro m hm; exact (hH i _ hi).1 cs rfl x hxc m hm
      refine hv.move (id := id) (gone := fun j => j ∈ id :: gone) hS hw (fun i hi _ => updLoc_ne φ id _ i hi) (fun o ho hg => (hg (by simp)).elim) (fun i cs hg ho => ⟨cs, ?_⟩) (fun i k sz E es hg ho => ⟨k, es, rfl, ?_⟩)
        hm (men_noSub x (hm id (by simp)))
      · simp only [List.mem_cons, not_or] at hg
        rw [hlk, if_neg (Ne.symm hg.1), hdrop, if_neg hg.2]; exact ho
      · simp only [List.mem_cons, not_or] at hg
        rw [hlk, if_neg (Ne.symm hg.1), hdrop, if_neg hg.2]; exact ho
    · refine ⟨hsz, hlens, hones, ?_⟩
      rw [updLoc_same]
      rcases hres.go with ⟨hm, _, h0, _⟩ | ⟨hm, _, ⟨C', hC', hle, hcm, hCs, htk⟩, _⟩
      · exact .inl ⟨hm, List.eq_nil_of_length_eq_zero h0⟩
      · refine .inr ⟨hm, C', hC', hle, hcm, hCs, ?_⟩
        refine (hcells C' htk hm).mono (fun b hb => hS b (hSk b hb)) (fun b hb => hw b (hSk b hb)) (fun b hb hne => ?_) rfl
        have hbl : b < w.heap.size := by
          rcases hfp b hb with h1 | ⟨j, o, _, h2, h3⟩
          · exact hr.heap.ltO id _ b hl (.inr h1)
          · exact hr.heap.ltO j o b h2 h3
        exact hres.same b hbl (fun hm0 e1 e => hne (by show b = l'.blk; rw [e1]; exact e.symm))
  refine ⟨hrel, ?_⟩
  rcases hres.go with ⟨hm, _, h0, _, rfl⟩ | ⟨hm, rfl, _, _⟩
  · have h0' : es' = [] := List.eq_nil_of_length_eq_zero h0
    subst h0'
    have := RepV.ow0 (S := Stab F w' (updLoc φ id { l' with fp := fp', sv := sv' }) h') (w := w') (φ := updLoc φ id { l' with fp := fp', sv := sv' }) h1id (by rw [updLoc_same]; exact hm)
    rw [updLoc_same] at this
    exact this
  · have := RepV.ow (S := Stab F w' (updLoc φ id { l' with fp := fp', sv := sv' }) h') (w := w') (φ := updLoc φ id { l' with fp := fp', sv := sv' }) h1id (by rw [updLoc_same]; exact hm)
    rw [updLoc_same] at this
    exact this
end
end Go.AM
