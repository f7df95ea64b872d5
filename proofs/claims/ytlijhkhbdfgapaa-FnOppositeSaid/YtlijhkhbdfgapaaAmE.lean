/- How the relation is kept when memory is made or written. -/
import Derived.Test.YtlijhkhbdfgapaaAmD
import Derived.Laws.CopyRow
namespace Go.AM
open Go

section
variable {F : Fr} {N : Nat}

theorem Stab.grow {w w' : World} {φ : Nat → Loc} {h : Heap} (hg : w.heap.size ≤ w'.heap.size) {b : Nat} (hb : Stab F w φ h b) : Stab F w' φ h b :=
  ⟨Nat.lt_of_lt_of_le hb.1 hg, hb.2.1, hb.2.2⟩

theorem headsAlike.refl (φ : Nat → Loc) (η : Heap) : headsAlike φ φ η η :=
  ⟨fun _ cs h _ => ⟨⟨cs, h⟩, rfl⟩, fun _ k _ _ es h => ⟨rfl, k, es, rfl, h⟩⟩

/-- Nothing that was there has turned. -/
theorem RelP.world {st : St} {φ : Nat → Loc} {a : Act} {w w' : World} (hr : RelP F N st φ a w) (hsys : SameSys w w') (hg : w.heap.size ≤ w'.heap.size)
    (hb : ∀ b, b < w.heap.size → w'.heap[b]? = w.heap[b]?) : RelP F N st φ a w' := by
  have hV : ∀ {x v}, RepV (Stab F w φ st.h) w φ st.h x v → RepV (Stab F w' φ st.h) w' φ st.h x v := fun h =>
    h.mono (fun b hb' => hb'.grow hg) (fun b hb' => hb b hb'.1) (headsAlike.refl _ _)
  refine ⟨hr.size, hr.defers, hr.sys.trans hsys, Nat.le_trans hr.grow hg, ⟨fun id o ho => ?_, hr.heap.injO, fun b hb => hb.1, fun id o b ho hm hs => hs.2.2 id o ho hm, fun id o b ho hm => Nat.lt_of_lt_of_le (hr.heap.ltO id o b ho hm) hg⟩,
    fun i x hx => ?_, hr.mine, hr.fix, hr.keep, fun b hb1 hb2 => ?_⟩
  · have hok := hr.heap.obj id o ho
    cases o with
    | box cs =>
      have hlt := hok.lt hok.1
      obtain ⟨hm, C, E, hC, hsz, hrep⟩ := hok
      exact ⟨hm, C, E, by rw [hb _ hlt]; exact hC, hsz, fun i x v hx hv => hV (hrep i x v hx hv)⟩
    | arr k sz E es =>
      obtain ⟨h0, hl, hone, hh⟩ := hok
      refine ⟨h0, hl, hone, ?_⟩
      rcases hh with hh | ⟨hm, C, hC, h1, h2, h3, h4⟩
      · exact .inl hh
      · exact .inr ⟨hm, C, by rw [hb _ (Array.getElem?_eq_some_iff.1 hC).1]; exact hC, h1, h2, h3,
          h4.mono (fun b hb' => hb'.grow hg) (fun b hb' => hb b hb'.1) (fun b hbf _ => hb b (hr.heap.ltO id _ b ho (.inr hbf))) rfl⟩
  · obtain ⟨v, hv, hrep⟩ := hr.slots i x hx
    exact ⟨v, hv, hV hrep⟩
  · rw [hb b (Nat.lt_of_lt_of_le hb1 hr.grow)]
    exact hr.frame b hb1 hb2

/-- One object becomes another one, and may take over what others ('gone') have owned. -/
theorem RelP.updX {s : Slots} {h h' : Heap} {φ φ' : Nat → Loc} {a : Act} {w w' : World} {id : Nat} {o' : AO} (gone : Nat → Prop)
    (hr : RelP F N ⟨s, h⟩ φ a w) (hl1 : lk h' id = some o') (hl2 : ∀ j, j ≠ id → ¬ gone j → lk h' j = lk h j) (hl3 : ∀ j, j ≠ id → gone j → lk h' j = none)
    (hgF : ∀ j, gone j → j ≠ id ∧ lk F.η j = none) (hφ : ∀ i, i ≠ id → φ' i = φ i) (hsys : SameSys w w') (hg : w.heap.size ≤ w'.heap.size)
    (hblk : ∀ b, b < w.heap.size → (∀ o, lk h id = some o → ¬ (φ id).owns b) → w'.heap[b]? = w.heap[b]?)
    (hloc : ∀ b, (φ' id).owns b → (w.heap.size ≤ b ∧ b < w'.heap.size) ∨ (∃ o, lk h id = some o ∧ (φ id).owns b) ∨ ∃ j o, gone j ∧ lk h j = some o ∧ (φ j).owns b)
    (hfix : ∀ o, lk F.η id = some o → o.isBox ≠ 1 → φ' id = F.φ id) (hkind : ∀ o, lk h id = some o → o.alike o')
    (hV : (∀ b, Stab F w φ h b → Stab F w' φ' h' b) → (∀ b, Stab F w φ h b → w'.heap[b]? = w.heap[b]?) →
      ∀ x v, ((∃ i, lk s i = some x) ∨ ∃ i cs, i ≠ id ∧ lk h i = some (.box cs) ∧ x ∈ cs) → RepV (Stab F w φ h) w φ h x v → RepV (Stab F w' φ' h') w' φ' h' x v)
    (hO : (∀ b, Stab F w φ h b → Stab F w' φ' h' b) → (∀ b, Stab F w φ h b → w'.heap[b]? = w.heap[b]?) → ObjOK (Stab F w' φ' h') w' φ' h' id o') :
    RelP F N ⟨s, h'⟩ φ' a w' := by
  have hin : ∀ j o, j ≠ id → lk h' j = some o → lk h j = some o ∧ ¬ gone j := by
    intro j o hj ho
    by_cases hgj : gone j
    · rw [hl3 j hj hgj] at ho; cases ho
    · exact ⟨by rw [← hl2 j hj hgj]; exact ho, hgj⟩
  have hS : ∀ b, Stab F w φ h b → Stab F w' φ' h' b := by
    intro b hb
    refine ⟨Nat.lt_of_lt_of_le hb.1 hg, hb.2.1, fun i o ho hm => ?_⟩
    by_cases hi : id = i
    · subst hi
      rcases hloc b hm with h1 | ⟨o1, ho1, hm1⟩ | ⟨j, o1, _, ho1, hm1⟩
      · have := hb.1; omega
      · exact hb.2.2 id o1 ho1 hm1
      · exact hb.2.2 j o1 ho1 hm1
    · have ho' := (hin i o (Ne.symm hi) ho).1
      rw [hφ i (Ne.symm hi)] at hm
      exact hb.2.2 i o ho' hm
  have hw : ∀ b, Stab F w φ h b → w'.heap[b]? = w.heap[b]? := fun b hb => hblk b hb.1 (fun o ho hm => hb.2.2 id o ho hm)
  have hV := hV hS hw
  have hO := hO hS hw
  have hotherO : ∀ i o b, i ≠ id → lk h i = some o → (φ i).owns b → w'.heap[b]? = w.heap[b]? := by
    intro i o b hi ho hm
    exact hblk _ (hr.heap.ltO i o b ho hm) (fun o1 ho1 hm1 => hi (hr.heap.injO i id o o1 b ho ho1 hm hm1))
  have hother : ∀ i o, i ≠ id → lk h i = some o → (φ i).mat = true → w'.heap[(φ i).blk]? = w.heap[(φ i).blk]? :=
    fun i o hi ho hm => hotherO i o _ hi ho (.inl ⟨hm, rfl⟩)
  -- a block of the new object's is no other object's
  have hsep : ∀ b, (φ' id).owns b → ∀ j oj, j ≠ id → lk h' j = some oj → (φ j).owns b → False := by
    intro b hmi j oj hj ho hmj
    obtain ⟨ho', hng⟩ := hin j oj hj ho
    have hlt := hr.heap.ltO j oj b ho' hmj
    rcases hloc b hmi with h1 | ⟨o1, ho1, hm1⟩ | ⟨k, o1, hgk, ho1, hm1⟩
    · omega
    · exact hj (hr.heap.injO j id oj o1 b ho' ho1 hmj hm1)
    · exact hng (by rw [hr.heap.injO j k oj o1 b ho' ho1 hmj hm1]; exact hgk)
  refine ⟨hr.size, hr.defers, hr.sys.trans hsys, Nat.le_trans hr.grow hg, ⟨fun i o ho => ?_, ?_, fun b hb => hb.1, fun i o b ho hm hst => hst.2.2 i o ho hm, fun i o b ho hm => ?_⟩,
    fun i x hx => ?_, fun i o b ho hm => ?_, fun i o hi hb => ?_, fun i o hi => ?_, fun b hb1 hb2 => ?_⟩
  · simp only at ho
    by_cases hi : id = i
    · subst hi
      rw [hl1] at ho
      cases ho
      exact hO
    · have hi' : i ≠ id := Ne.symm hi
      have ho := (hin i o hi' ho).1
      have hok := hr.heap.obj i o ho
      cases o with
      | box cs =>
        obtain ⟨hm, C, E, hC, hsz, hrep⟩ := hok
        refine ⟨by rw [hφ i hi']; exact hm, C, E, by rw [hφ i hi', hother i _ hi' ho hm]; exact hC, hsz, fun j x v hx hv => ?_⟩
        exact hV x v (.inr ⟨i, cs, hi', ho, List.mem_of_getElem? hx⟩) (hrep j x v hx hv)
      | arr k sz E es =>
        obtain ⟨h0, hl, hone, hh⟩ := hok
        refine ⟨h0, hl, hone, ?_⟩
        rw [hφ i hi']
        rcases hh with hh | ⟨hm, C, hC, h1, h2, h3, h4⟩
        · exact .inl hh
        · exact .inr ⟨hm, C, by rw [hother i _ hi' ho hm]; exact hC, h1, h2, h3, h4.mono hS hw (fun b hbm _ => hotherO i _ b hi' ho (.inr hbm)) rfl⟩
  · intro i j oi oj b hi hj hmi hmj
    simp only at hi hj
    by_cases hii : id = i
    · subst hii
      by_cases hjj : id = j
      · exact hjj
      · have hj' : j ≠ id := Ne.symm hjj
        rw [hφ j hj'] at hmj
        exact (hsep b hmi j oj hj' hj hmj).elim
    · have hi' : i ≠ id := Ne.symm hii
      rw [hφ i hi'] at hmi
      by_cases hjj : id = j
      · subst hjj
        exact (hsep b hmj i oi hi' hi hmi).elim
      · rw [hφ j (Ne.symm hjj)] at hmj
        exact hr.heap.injO i j oi oj b (hin i oi hi' hi).1 (hin j oj (Ne.symm hjj) hj).1 hmi hmj
  · simp only at ho
    by_cases hi : id = i
    · subst hi
      rcases hloc b hm with h1 | ⟨o1, ho1, hm1⟩ | ⟨j, o1, _, ho1, hm1⟩
      · exact h1.2
      · exact Nat.lt_of_lt_of_le (hr.heap.ltO id o1 b ho1 hm1) hg
      · exact Nat.lt_of_lt_of_le (hr.heap.ltO j o1 b ho1 hm1) hg
    · rw [hφ i (Ne.symm hi)] at hm
      exact Nat.lt_of_lt_of_le (hr.heap.ltO i o b (hin i o (Ne.symm hi) ho).1 hm) hg
  · obtain ⟨v, hv, hrep⟩ := hr.slots i x hx
    exact ⟨v, hv, hV x v (.inl ⟨i, hx⟩) hrep⟩
  · simp only at ho
    by_cases hi : id = i
    · subst hi
      rcases hloc b hm with h1 | ⟨o1, ho1, hm1⟩ | ⟨j, o1, hgj, ho1, hm1⟩
      · exact .inl (Nat.le_trans hr.grow h1.1)
      · exact hr.mine id o1 b ho1 hm1
      · rcases hr.mine j o1 b ho1 hm1 with h2 | ⟨o0, h2, _⟩
        · exact .inl h2
        · rw [(hgF j hgj).2] at h2; cases h2
    · rw [hφ i (Ne.symm hi)] at hm
      exact hr.mine i o b (hin i o (Ne.symm hi) ho).1 hm
  · by_cases hi2 : i = id
    · subst hi2; exact hfix o hi hb
    · rw [hφ i hi2]; exact hr.fix i o hi hb
  · obtain ⟨o1, ho1, hb1⟩ := hr.keep i o hi
    simp only
    by_cases hii : id = i
    · subst hii
      exact ⟨o', hl1, AO.alike_trans hb1 (hkind o1 ho1)⟩
    · refine ⟨o1, ?_, hb1⟩
      rw [hl2 i (Ne.symm hii) (fun hgi => by rw [(hgF i hgi).2] at hi; cases hi)]
      exact ho1
  · have hne : ∀ o, lk h id = some o → ¬ (φ id).owns b := by
      intro o ho hm
      rcases hr.mine id o b ho hm with h1 | ⟨o0, h1, h2⟩
      · omega
      · exact hb2 ⟨id, o0, h1, h2⟩
    rw [hblk b (Nat.lt_of_lt_of_le hb1 hr.grow) hne]
    exact hr.frame b hb1 hb2

theorem RelP.upd {s : Slots} {h h' : Heap} {φ φ' : Nat → Loc} {a : Act} {w w' : World} {id : Nat} {o' : AO}
    (hr : RelP F N ⟨s, h⟩ φ a w) (hs : sput h id o' = some h') (hφ : ∀ i, i ≠ id → φ' i = φ i) (hsys : SameSys w w') (hg : w.heap.size ≤ w'.heap.size)
    (hblk : ∀ b, b < w.heap.size → (∀ o, lk h id = some o → ¬ (φ id).owns b) → w'.heap[b]? = w.heap[b]?)
    (hloc : ∀ b, (φ' id).owns b → (w.heap.size ≤ b ∧ b < w'.heap.size) ∨ ∃ o, lk h id = some o ∧ (φ id).owns b)
    (hfix : ∀ o, lk F.η id = some o → o.isBox ≠ 1 → φ' id = F.φ id) (hkind : ∀ o, lk h id = some o → o.alike o')
    (hV : (∀ b, Stab F w φ h b → Stab F w' φ' h' b) → (∀ b, Stab F w φ h b → w'.heap[b]? = w.heap[b]?) →
      ∀ x v, ((∃ i, lk s i = some x) ∨ ∃ i cs, i ≠ id ∧ lk h i = some (.box cs) ∧ x ∈ cs) → RepV (Stab F w φ h) w φ h x v → RepV (Stab F w' φ' h') w' φ' h' x v)
    (hO : (∀ b, Stab F w φ h b → Stab F w' φ' h' b) → (∀ b, Stab F w φ h b → w'.heap[b]? = w.heap[b]?) → ObjOK (Stab F w' φ' h') w' φ' h' id o') :
    RelP F N ⟨s, h'⟩ φ' a w' := by
  have hlk := lk_sput hs
  exact hr.updX (fun _ => False) (by rw [hlk, if_pos rfl]) (fun j hj _ => by rw [hlk, if_neg (Ne.symm hj)]) (fun _ _ h => h.elim) (fun _ h => h.elim) hφ hsys hg hblk
    (fun b hb => (hloc b hb).imp_right .inl) hfix hkind hV hO

/-- Fewer slots. -/
theorem RelP.slots_sub {s s' : Slots} {h : Heap} {φ : Nat → Loc} {a : Act} {w : World} (hr : RelP F N ⟨s, h⟩ φ a w)
    (hs : ∀ i x, lk s' i = some x → lk s i = some x ∨ x = .junk ∧ i < N) : RelP F N ⟨s', h⟩ φ a w := by
  refine ⟨hr.size, hr.defers, hr.sys, hr.grow, hr.heap, fun i x hx => ?_, hr.mine, hr.fix, hr.keep, hr.frame⟩
  rcases hs i x hx with h1 | ⟨rfl, hi⟩
  · exact hr.slots i x h1
  · have : i < a.tmps.size := by rw [hr.size]; exact hi
    exact ⟨a.tmps[i], by simp [this], .pure (.junk _)⟩

theorem headsAlike_new {φ φ' : Nat → Loc} {h h' : Heap} {id : Nat} {o : AO} (hl : lk h id = none) (hs : sput h id o = some h') (hφ : ∀ i, i ≠ id → φ' i = φ i) :
    headsAlike φ φ' h h' := by
  have hlk := lk_sput hs
  refine ⟨fun i cs hi _ => ?_, fun i k sz E es hi => ?_⟩
  · have hne : id ≠ i := fun e => by subst e; rw [hl] at hi; cases hi
    exact ⟨⟨cs, by rw [hlk, if_neg hne]; exact hi⟩, hφ i (Ne.symm hne)⟩
  · have hne : id ≠ i := fun e => by subst e; rw [hl] at hi; cases hi
    exact ⟨hφ i (Ne.symm hne), k, es, rfl, by rw [hlk, if_neg hne]; exact hi⟩

def updLoc (φ : Nat → Loc) (id : Nat) (l : Loc) : Nat → Loc := fun i => if i = id then l else φ i

theorem updLoc_same (φ : Nat → Loc) (id : Nat) (l : Loc) : updLoc φ id l id = l := by simp [updLoc]
theorem updLoc_ne (φ : Nat → Loc) (id : Nat) (l : Loc) (i : Nat) (h : i ≠ id) : updLoc φ id l i = φ i := by simp [updLoc, h]

/-- A new variable. -/
theorem RelP.newBox {s : Slots} {h h' : Heap} {φ : Nat → Loc} {a : Act} {w w' : World} {id : Nat} {cs : List AV} {C : Array Value} {E : TypeId}
    (hr : RelP F N ⟨s, h⟩ φ a w) (hl : lk h id = none) (hs : sput h id (.box cs) = some h') (hsys : SameSys w w') (hg : w.heap.size ≤ w'.heap.size)
    (hb : ∀ b, b < w.heap.size → w'.heap[b]? = w.heap[b]?) {g : Nat} (hgl : w.heap.size ≤ g) (hC : w'.heap[g]? = some (.cells C E (0, 0)))
    (hsz : C.size = cs.length) (hrep : ∀ (i : Nat) x v, cs[i]? = some x → C[i]? = some v → RepV (Stab F w φ h) w φ h x v) :
    RelP F N ⟨s, h'⟩ (updLoc φ id (mkLoc g 0 true)) a w' := by
  have hal := headsAlike_new (φ' := updLoc φ id (mkLoc g 0 true)) hl hs (updLoc_ne φ id _)
  refine hr.upd hs (updLoc_ne φ id _) hsys hg (fun b hb' _ => hb b hb') (fun b hbo => .inl (by rw [updLoc_same, mkLoc_owns] at hbo; rw [← hbo.2]; exact ⟨hgl, (Array.getElem?_eq_some_iff.1 hC).1⟩)) (fun cs hcs _ => ?_) (fun o ho => by rw [hl] at ho; cases ho)
    (fun hS hw x v _ hv => hv.mono hS hw hal) (fun hS hw => ⟨by rw [updLoc_same], C, E, by rw [updLoc_same]; exact hC, hsz, fun i x v hx hv => (hrep i x v hx hv).mono hS hw hal⟩)
  obtain ⟨o1, ho1, _⟩ := hr.keep id _ hcs
  rw [hl] at ho1; cases ho1

/-- A new array. -/
theorem RelP.newArrK {k : Kd} {s : Slots} {h h' : Heap} {φ : Nat → Loc} {a : Act} {w w' : World} {id sz : Nat} {es : List AV} {C : Array Value} {E : TypeId} {cap : Nat}
    (hr : RelP F N ⟨s, h⟩ φ a w) (hl : lk h id = none) (hs : sput h id (.arr k sz E es) = some h') (hsys : SameSys w w') (hg : w.heap.size ≤ w'.heap.size)
    (hb : ∀ b, b < w.heap.size → w'.heap[b]? = w.heap[b]?) {g : Nat} (hgl : w.heap.size ≤ g) (hC : w'.heap[g]? = some (.cells C E (0, 0)))
    (hsz : 0 < sz) (hlens : ∀ e ∈ es, e.cells.length = sz) (hone : ∀ (j : Nat) x, (flat es)[j]? = some x → one x = true)
    (hcap : es.length ≤ cap) (hcm : cap ≤ maxLen) (hCs : C.size = cap * sz)
    (hrep : CellsOK k (Stab F w φ h) w (mkLoc g cap true) (flat es) C) :
    RelP F N ⟨s, h'⟩ (updLoc φ id (mkLoc g cap true)) a w' := by
  have hal := headsAlike_new (φ' := updLoc φ id (mkLoc g cap true)) hl hs (updLoc_ne φ id _)
  refine hr.upd hs (updLoc_ne φ id _) hsys hg (fun b hb' _ => hb b hb') (fun b hbo => .inl (by rw [updLoc_same, mkLoc_owns] at hbo; rw [← hbo.2]; exact ⟨hgl, (Array.getElem?_eq_some_iff.1 hC).1⟩)) (fun cs hcs _ => ?_) (fun o ho => by rw [hl] at ho; cases ho)
    (fun hS hw x v _ hv => hv.mono hS hw hal) (fun hS hw => ⟨hsz, hlens, hone, .inr ⟨by rw [updLoc_same], C, by rw [updLoc_same]; exact hC,
      by rw [updLoc_same]; exact hcap, by rw [updLoc_same]; exact hcm, by rw [updLoc_same]; exact hCs, hrep.mono hS hw (fun b hb _ => by simp at hb) (updLoc_same _ _ _)⟩⟩)
  obtain ⟨o1, ho1, _⟩ := hr.keep id _ hcs
  rw [hl] at ho1; cases ho1

theorem RelP.newArr {s : Slots} {h h' : Heap} {φ : Nat → Loc} {a : Act} {w w' : World} {id sz : Nat} {p : Bool} {es : List AV} {C : Array Value} {E : TypeId} {cap : Nat}
    (hr : RelP F N ⟨s, h⟩ φ a w) (hl : lk h id = none) (hs : sput h id (.arr ⟨p, false⟩ sz E es) = some h') (hsys : SameSys w w') (hg : w.heap.size ≤ w'.heap.size)
    (hb : ∀ b, b < w.heap.size → w'.heap[b]? = w.heap[b]?) {g : Nat} (hgl : w.heap.size ≤ g) (hC : w'.heap[g]? = some (.cells C E (0, 0)))
    (hsz : 0 < sz) (hlens : ∀ e ∈ es, e.cells.length = sz) (hone : ∀ (j : Nat) x, (flat es)[j]? = some x → one x = true)
    (hcap : es.length ≤ cap) (hcm : cap ≤ maxLen) (hCs : C.size = cap * sz)
    (hrep : ∀ (j : Nat) x v, (flat es)[j]? = some x → C[j]? = some v → RepT (Stab F w φ h) w x v) :
    RelP F N ⟨s, h'⟩ (updLoc φ id (mkLoc g cap true)) a w' :=
  hr.newArrK hl hs hsys hg hb hgl hC hsz hlens hone hcap hcm hCs (CellsOK.ofTrees rfl hrep)

/-- An array that is not there yet: the nil slice. -/
theorem RelP.newNil {s : Slots} {h h' : Heap} {φ : Nat → Loc} {a : Act} {w : World} {id sz : Nat} {k : Kd} {E : TypeId} (va : Option Addr := none)
    (hr : RelP F N ⟨s, h⟩ φ a w) (hl : lk h id = none) (hs : sput h id (.arr k sz E []) = some h') (hsz : 0 < sz) :
    RelP F N ⟨s, h'⟩ (updLoc φ id { mkLoc 0 0 false with va := va }) a w := by
  have hal := headsAlike_new (φ' := updLoc φ id { mkLoc 0 0 false with va := va }) hl hs (updLoc_ne φ id _)
  refine hr.upd hs (updLoc_ne φ id _) (SameSys.refl w) (Nat.le_refl _) (fun b _ _ => rfl) (fun b hm => ?_) (fun cs hcs _ => ?_) (fun o ho => by rw [hl] at ho; cases ho)
    (fun hS hw x v _ hv => hv.mono hS hw hal) (fun hS hw => ⟨hsz, fun e he => by simp at he, fun j x hx => by simp [flat] at hx, .inl ⟨by rw [updLoc_same], rfl⟩⟩)
  · rw [updLoc_same] at hm; simp [Loc.owns] at hm
  · obtain ⟨o1, ho1, _⟩ := hr.keep id _ hcs
    rw [hl] at ho1; cases ho1

end
end Go.AM
