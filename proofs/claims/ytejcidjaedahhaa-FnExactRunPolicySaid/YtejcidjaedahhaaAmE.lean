/- How the relation is kept when memory is made or written. -/
import Derived.Test.YtejcidjaedahhaaAmD
import Derived.Laws.CopyRow
namespace Go.AM
open Go

section
variable {F : Fr} {N : Nat}

theorem Stab.grow {w w' : World} {φ : Nat → Loc} {h : Heap} (hg : w.heap.size ≤ w'.heap.size) {b : Nat} (hb : Stab F w φ h b) : Stab F w' φ h b :=
  ⟨Nat.lt_of_lt_of_le hb.1 hg, hb.2.1, hb.2.2⟩

theorem headsAlike.refl (φ : Nat → Loc) (η : Heap) : headsAlike φ φ η η :=
  ⟨fun _ cs h _ => ⟨⟨cs, h⟩, rfl⟩, fun _ _ _ es h => ⟨rfl, es, rfl, h⟩⟩

/-- Nothing that was there has turned. -/
theorem RelP.world {st : St} {φ : Nat → Loc} {a : Act} {w w' : World} (hr : RelP F N st φ a w) (hsys : SameSys w w') (hg : w.heap.size ≤ w'.heap.size)
    (hb : ∀ b, b < w.heap.size → w'.heap[b]? = w.heap[b]?) : RelP F N st φ a w' := by
  have hV : ∀ {x v}, RepV (Stab F w φ st.h) w φ st.h x v → RepV (Stab F w' φ st.h) w' φ st.h x v := fun h =>
    h.mono (fun b hb' => hb'.grow hg) (fun b hb' => hb b hb'.1) (headsAlike.refl _ _)
  have hT : ∀ {x v}, RepT (Stab F w φ st.h) w x v → RepT (Stab F w' φ st.h) w' x v := fun h =>
    h.mono (fun b hb' => hb'.grow hg) (fun b hb' => hb b hb'.1)
  refine ⟨hr.size, hr.defers, hr.sys.trans hsys, Nat.le_trans hr.grow hg, ⟨fun id o ho => ?_, hr.heap.inj, fun b hb => hb.1, fun id o ho hm hs => hs.2.2 id o ho hm rfl⟩,
    fun i x hx => ?_, hr.mine, hr.fix, hr.keep, fun b hb1 hb2 => ?_⟩
  · have hok := hr.heap.obj id o ho
    cases o with
    | box cs =>
      have hlt := hok.lt hok.1
      obtain ⟨hm, C, E, hC, hsz, hrep⟩ := hok
      exact ⟨hm, C, E, by rw [hb _ hlt]; exact hC, hsz, fun i x v hx hv => hV (hrep i x v hx hv)⟩
    | arr sz E es =>
      obtain ⟨h0, hl, hone, hh⟩ := hok
      refine ⟨h0, hl, hone, ?_⟩
      rcases hh with hh | ⟨hm, C, hC, h1, h2, h3, h4⟩
      · exact .inl hh
      · exact .inr ⟨hm, C, by rw [hb _ (Array.getElem?_eq_some_iff.1 hC).1]; exact hC, h1, h2, h3, fun j x v hx hv => hT (h4 j x v hx hv)⟩
  · obtain ⟨v, hv, hrep⟩ := hr.slots i x hx
    exact ⟨v, hv, hV hrep⟩
  · rw [hb b (Nat.lt_of_lt_of_le hb1 hr.grow)]
    exact hr.frame b hb1 hb2

theorem RelP.upd {s : Slots} {h h' : Heap} {φ φ' : Nat → Loc} {a : Act} {w w' : World} {id : Nat} {o' : AO}
    (hr : RelP F N ⟨s, h⟩ φ a w) (hs : sput h id o' = some h') (hφ : ∀ i, i ≠ id → φ' i = φ i) (hsys : SameSys w w') (hg : w.heap.size ≤ w'.heap.size)
    (hblk : ∀ b, b < w.heap.size → (∀ o, lk h id = some o → (φ id).mat = true → b ≠ (φ id).blk) → w'.heap[b]? = w.heap[b]?)
    (hloc : (φ' id).mat = true → w.heap.size ≤ (φ' id).blk ∨ ∃ o, lk h id = some o ∧ (φ id).mat = true ∧ (φ' id).blk = (φ id).blk)
    (hfix : ∀ cs, lk F.η id = some (.box cs) → φ' id = F.φ id) (hkind : ∀ o, lk h id = some o → o'.isBox = o.isBox)
    (hV : (∀ b, Stab F w φ h b → Stab F w' φ' h' b) → (∀ b, Stab F w φ h b → w'.heap[b]? = w.heap[b]?) →
      ∀ x v, ((∃ i, lk s i = some x) ∨ ∃ i cs, i ≠ id ∧ lk h i = some (.box cs) ∧ x ∈ cs) → RepV (Stab F w φ h) w φ h x v → RepV (Stab F w' φ' h') w' φ' h' x v)
    (hO : (∀ b, Stab F w φ h b → Stab F w' φ' h' b) → (∀ b, Stab F w φ h b → w'.heap[b]? = w.heap[b]?) → ObjOK (Stab F w' φ' h') w' φ' h' id o') :
    RelP F N ⟨s, h'⟩ φ' a w' := by
  have hlk := lk_sput hs
  have hS : ∀ b, Stab F w φ h b → Stab F w' φ' h' b := by
    intro b hb
    refine ⟨Nat.lt_of_lt_of_le hb.1 hg, hb.2.1, fun i o ho hm => ?_⟩
    by_cases hi : id = i
    · subst hi
      rcases hloc hm with h1 | ⟨o1, ho1, hm1, he⟩
      · have := hb.1; omega
      · rw [he]; exact hb.2.2 id o1 ho1 hm1
    · rw [hlk, if_neg hi] at ho
      rw [hφ i (Ne.symm hi)] at hm ⊢
      exact hb.2.2 i o ho hm
  have hw : ∀ b, Stab F w φ h b → w'.heap[b]? = w.heap[b]? := fun b hb => hblk b hb.1 (fun o ho hm he => hb.2.2 id o ho hm he.symm)
  have hV := hV hS hw
  have hO := hO hS hw
  have hother : ∀ i o, i ≠ id → lk h i = some o → (φ i).mat = true → w'.heap[(φ i).blk]? = w.heap[(φ i).blk]? := by
    intro i o hi ho hm
    exact hblk _ ((hr.heap.obj i o ho).lt hm) (fun o1 ho1 hm1 he => hi (hr.heap.inj i id o o1 ho ho1 hm hm1 he))
  refine ⟨hr.size, hr.defers, hr.sys.trans hsys, Nat.le_trans hr.grow hg, ⟨fun i o ho => ?_, ?_, fun b hb => hb.1, fun i o ho hm hst => hst.2.2 i o ho hm rfl⟩,
    fun i x hx => ?_, fun i o ho hm => ?_, fun i cs hi => ?_, fun i o hi => ?_, fun b hb1 hb2 => ?_⟩
  · simp only at ho
    rw [hlk] at ho
    by_cases hi : id = i
    · subst hi
      rw [if_pos rfl] at ho
      cases ho
      exact hO
    · rw [if_neg hi] at ho
      have hi' : i ≠ id := Ne.symm hi
      have hok := hr.heap.obj i o ho
      cases o with
      | box cs =>
        obtain ⟨hm, C, E, hC, hsz, hrep⟩ := hok
        refine ⟨by rw [hφ i hi']; exact hm, C, E, by rw [hφ i hi', hother i _ hi' ho hm]; exact hC, hsz, fun j x v hx hv => ?_⟩
        exact hV x v (.inr ⟨i, cs, hi', ho, List.mem_of_getElem? hx⟩) (hrep j x v hx hv)
      | arr sz E es =>
        obtain ⟨h0, hl, hone, hh⟩ := hok
        refine ⟨h0, hl, hone, ?_⟩
        rw [hφ i hi']
        rcases hh with hh | ⟨hm, C, hC, h1, h2, h3, h4⟩
        · exact .inl hh
        · exact .inr ⟨hm, C, by rw [hother i _ hi' ho hm]; exact hC, h1, h2, h3, fun j x v hx hv => (h4 j x v hx hv).mono hS hw⟩
  · intro i j oi oj hi hj hmi hmj he
    simp only at hi hj
    rw [hlk] at hi hj
    by_cases hii : id = i
    · subst hii
      by_cases hjj : id = j
      · exact hjj
      · rw [if_neg hjj] at hj
        have hj' : j ≠ id := Ne.symm hjj
        rw [hφ j hj'] at hmj he
        have hlt := (hr.heap.obj j oj hj).lt hmj
        rcases hloc hmi with h1 | ⟨o1, ho1, hm1, he1⟩
        · omega
        · rw [he1] at he
          exact hr.heap.inj id j o1 oj ho1 hj hm1 hmj he
    · rw [if_neg hii] at hi
      have hi' : i ≠ id := Ne.symm hii
      rw [hφ i hi'] at hmi he
      have hlt := (hr.heap.obj i oi hi).lt hmi
      by_cases hjj : id = j
      · subst hjj
        rcases hloc hmj with h1 | ⟨o1, ho1, hm1, he1⟩
        · omega
        · rw [he1] at he
          exact hr.heap.inj i id oi o1 hi ho1 hmi hm1 he
      · rw [if_neg hjj] at hj
        rw [hφ j (Ne.symm hjj)] at hmj he
        exact hr.heap.inj i j oi oj hi hj hmi hmj he
  · obtain ⟨v, hv, hrep⟩ := hr.slots i x hx
    exact ⟨v, hv, hV x v (.inl ⟨i, hx⟩) hrep⟩
  · simp only at ho
    rw [hlk] at ho
    by_cases hi : id = i
    · subst hi
      rcases hloc hm with h1 | ⟨o1, ho1, hm1, he⟩
      · exact .inl (Nat.le_trans hr.grow h1)
      · rw [he]; exact hr.mine id o1 ho1 hm1
    · rw [if_neg hi] at ho
      rw [hφ i (Ne.symm hi)] at hm ⊢
      exact hr.mine i o ho hm
  · by_cases hi2 : i = id
    · subst hi2; exact hfix cs hi
    · rw [hφ i hi2]; exact hr.fix i cs hi
  · obtain ⟨o1, ho1, hb1⟩ := hr.keep i o hi
    simp only
    rw [hlk]
    by_cases hii : id = i
    · subst hii
      rw [if_pos rfl]
      exact ⟨o', rfl, by rw [hkind o1 ho1]; exact hb1⟩
    · rw [if_neg hii]
      exact ⟨o1, ho1, hb1⟩
  · have hne : ∀ o, lk h id = some o → (φ id).mat = true → b ≠ (φ id).blk := by
      intro o ho hm he
      subst he
      rcases hr.mine id o ho hm with h1 | h1
      · omega
      · obtain ⟨o0, h2, h3, h4⟩ := h1
        exact hb2 ⟨id, o0, h2, h3, h4⟩
    rw [hblk b (Nat.lt_of_lt_of_le hb1 hr.grow) hne]
    exact hr.frame b hb1 hb2

/-- Fewer slots. -/
theorem RelP.slots_sub {s s' : Slots} {h : Heap} {φ : Nat → Loc} {a : Act} {w : World} (hr : RelP F N ⟨s, h⟩ φ a w)
    (hs : ∀ i x, lk s' i = some x → lk s i = some x ∨ x = .junk ∧ i < N) : RelP F N ⟨s', h⟩ φ a w := by
  refine ⟨hr.size, hr.defers, hr.sys, hr.grow, hr.heap, fun i x hx => ?_, hr.mine, hr.fix, hr.keep, hr.frame⟩
  rcases hs i x hx with h1 | ⟨rfl, hi⟩
  · exact hr.slots i x h1
  · have : i < a.tmps.size := by rw [hr.size]; exact hi
    exact ⟨a.tmps[i], by simp [this], .pure (.junk _)⟩

theorem headsAlike_new {φ φ' : Nat → Loc} {h h' : Heap} {id : Nat} {o : AO} (hl : lk h id = none) (hs : sput h id o = some h') (hφ : ∀ i, i ≠ id → φ' i = φ i) :
    headsAlike φ φ' h h' := by
  have hlk := lk_sput hs
  refine ⟨fun i cs hi _ => ?_, fun i sz E es hi => ?_⟩
  · have hne : id ≠ i := fun e => by subst e; rw [hl] at hi; cases hi
    exact ⟨⟨cs, by rw [hlk, if_neg hne]; exact hi⟩, hφ i (Ne.symm hne)⟩
  · have hne : id ≠ i := fun e => by subst e; rw [hl] at hi; cases hi
    exact ⟨hφ i (Ne.symm hne), es, rfl, by rw [hlk, if_neg hne]; exact hi⟩

def updLoc (φ : Nat → Loc) (id : Nat) (l : Loc) : Nat → Loc := fun i => if i = id then l else φ i

theorem updLoc_same (φ : Nat → Loc) (id : Nat) (l : Loc) : updLoc φ id l id = l := by simp [updLoc]
theorem updLoc_ne (φ : Nat → Loc) (id : Nat) (l : Loc) (i : Nat) (h : i ≠ id) : updLoc φ id l i = φ i := by simp [updLoc, h]

/-- A new variable. -/
theorem RelP.newBox {s : Slots} {h h' : Heap} {φ : Nat → Loc} {a : Act} {w w' : World} {id : Nat} {cs : List AV} {C : Array Value} {E : TypeId}
    (hr : RelP F N ⟨s, h⟩ φ a w) (hl : lk h id = none) (hs : sput h id (.box cs) = some h') (hsys : SameSys w w') (hg : w.heap.size ≤ w'.heap.size)
    (hb : ∀ b, b < w.heap.size → w'.heap[b]? = w.heap[b]?) {g : Nat} (hgl : w.heap.size ≤ g) (hC : w'.heap[g]? = some (.cells C E (0, 0)))
    (hsz : C.size = cs.length) (hrep : ∀ (i : Nat) x v, cs[i]? = some x → C[i]? = some v → RepV (Stab F w φ h) w φ h x v) :
    RelP F N ⟨s, h'⟩ (updLoc φ id ⟨g, 0, true⟩) a w' := by
  have hal := headsAlike_new (φ' := updLoc φ id ⟨g, 0, true⟩) hl hs (updLoc_ne φ id _)
  refine hr.upd hs (updLoc_ne φ id _) hsys hg (fun b hb' _ => hb b hb') (fun _ => .inl (by rw [updLoc_same]; exact hgl)) (fun cs hcs => ?_) (fun o ho => by rw [hl] at ho; cases ho)
    (fun hS hw x v _ hv => hv.mono hS hw hal) (fun hS hw => ⟨by rw [updLoc_same], C, E, by rw [updLoc_same]; exact hC, hsz, fun i x v hx hv => (hrep i x v hx hv).mono hS hw hal⟩)
  obtain ⟨o1, ho1, _⟩ := hr.keep id _ hcs
  rw [hl] at ho1; cases ho1

/-- A new array. -/
theorem RelP.newArr {s : Slots} {h h' : Heap} {φ : Nat → Loc} {a : Act} {w w' : World} {id sz : Nat} {es : List AV} {C : Array Value} {E : TypeId} {cap : Nat}
    (hr : RelP F N ⟨s, h⟩ φ a w) (hl : lk h id = none) (hs : sput h id (.arr sz E es) = some h') (hsys : SameSys w w') (hg : w.heap.size ≤ w'.heap.size)
    (hb : ∀ b, b < w.heap.size → w'.heap[b]? = w.heap[b]?) {g : Nat} (hgl : w.heap.size ≤ g) (hC : w'.heap[g]? = some (.cells C E (0, 0)))
    (hsz : 0 < sz) (hlens : ∀ e ∈ es, e.cells.length = sz) (hone : ∀ (j : Nat) x, (flat es)[j]? = some x → one x = true)
    (hcap : es.length ≤ cap) (hcm : cap ≤ maxLen) (hCs : C.size = cap * sz)
    (hrep : ∀ (j : Nat) x v, (flat es)[j]? = some x → C[j]? = some v → RepT (Stab F w φ h) w x v) :
    RelP F N ⟨s, h'⟩ (updLoc φ id ⟨g, cap, true⟩) a w' := by
  have hal := headsAlike_new (φ' := updLoc φ id ⟨g, cap, true⟩) hl hs (updLoc_ne φ id _)
  refine hr.upd hs (updLoc_ne φ id _) hsys hg (fun b hb' _ => hb b hb') (fun _ => .inl (by rw [updLoc_same]; exact hgl)) (fun cs hcs => ?_) (fun o ho => by rw [hl] at ho; cases ho)
    (fun hS hw x v _ hv => hv.mono hS hw hal) (fun hS hw => ⟨hsz, hlens, hone, .inr ⟨by rw [updLoc_same], C, by rw [updLoc_same]; exact hC,
      by rw [updLoc_same]; exact hcap, by rw [updLoc_same]; exact hcm, by rw [updLoc_same]; exact hCs, fun j x v hx hv => (hrep j x v hx hv).mono hS hw⟩⟩)
  obtain ⟨o1, ho1, _⟩ := hr.keep id _ hcs
  rw [hl] at ho1; cases ho1

/-- An array that is not there yet: the nil slice. -/
theorem RelP.newNil {s : Slots} {h h' : Heap} {φ : Nat → Loc} {a : Act} {w : World} {id sz : Nat} {E : TypeId}
    (hr : RelP F N ⟨s, h⟩ φ a w) (hl : lk h id = none) (hs : sput h id (.arr sz E []) = some h') (hsz : 0 < sz) :
    RelP F N ⟨s, h'⟩ (updLoc φ id ⟨0, 0, false⟩) a w := by
  have hal := headsAlike_new (φ' := updLoc φ id ⟨0, 0, false⟩) hl hs (updLoc_ne φ id _)
  refine hr.upd hs (updLoc_ne φ id _) (SameSys.refl w) (Nat.le_refl _) (fun b _ _ => rfl) (fun hm => ?_) (fun cs hcs => ?_) (fun o ho => by rw [hl] at ho; cases ho)
    (fun hS hw x v _ hv => hv.mono hS hw hal) (fun hS hw => ⟨hsz, fun e he => by simp at he, fun j x hx => by simp [flat] at hx, .inl ⟨by rw [updLoc_same], rfl⟩⟩)
  · rw [updLoc_same] at hm; cases hm
  · obtain ⟨o1, ho1, _⟩ := hr.keep id _ hcs
    rw [hl] at ho1; cases ho1

end
end Go.AM
