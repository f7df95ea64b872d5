/- Other readings of one array: owned or not, its place fixed or not. -/
import Derived.Test.YtlijhkhbdfgapaaAmZa
namespace Go.AM
open Go

def nilLike : AV → Prop
  | .snil => True
  | .sl _ es => es = []
  | _ => False
/-- A cell that may be read as another one. -/
def cR : AV → AV → Prop
  | .snil, y => nilLike y
  | x, y => flat1 x = true ∧ y = x
def cellsR : List AV → List AV → Prop
  | [], [] => True
  | x :: r, y :: s => cR x y ∧ cellsR r s
  | _, _ => False
/-- Elements that may be read as others. -/
structure ElR (es es' : List AV) : Prop where
  len : es'.length = es.length
  el : ∀ (i : Nat) e e', es[i]? = some e → es'[i]? = some e' → cellsR e.cells e'.cells

theorem ElR.map {α : Type} {f g : α → AV} (h : ∀ x, cellsR (f x).cells (g x).cells) (xs : List α) : ElR (xs.map f) (xs.map g) := by
  refine ⟨by simp, fun i e e' he he' => ?_⟩
  rw [List.getElem?_map] at he he'
  cases hx : xs[i]? with
  | none => rw [hx] at he; cases he
  | some x => rw [hx] at he he'; cases he; cases he'; exact h x
theorem ElR.rep {α : Type} {z : AV} {g : α → AV} {x : α} (h : cellsR z.cells (g x).cells) (n : Nat) : ElR (List.replicate n z) ((List.replicate n x).map g) := by
  refine ⟨by simp, fun i e e' he he' => ?_⟩
  have h1 := List.mem_of_getElem? he
  have h2 := List.mem_of_getElem? he'
  rw [(List.mem_replicate.1 h1).2]
  rw [List.map_replicate] at h2
  rw [(List.mem_replicate.1 h2).2]
  exact h
theorem ElR.nil : ElR [] [] := ⟨rfl, fun i e e' he => by simp at he⟩
theorem ElR.cons {e e' : AV} {es es' : List AV} (h : cellsR e.cells e'.cells) (k : ElR es es') : ElR (e :: es) (e' :: es') := by
  refine ⟨by simp [k.len], fun i a b ha hb => ?_⟩
  cases i with
  | zero => simp at ha hb; subst ha hb; exact h
  | succ i => simp at ha hb; exact k.el i a b ha hb

theorem cellsR_get : ∀ {a b : List AV}, cellsR a b → b.length = a.length ∧ ∀ (i : Nat) x y, a[i]? = some x → b[i]? = some y → cR x y := by
  intro a
  induction a with
  | nil => intro b h; cases b with
    | nil => exact ⟨rfl, fun i x y hx => by simp at hx⟩
    | cons y s => exact h.elim
  | cons x r ih =>
    intro b h
    cases b with
    | nil => exact h.elim
    | cons y s =>
      obtain ⟨h1, h2⟩ := ih h.2
      refine ⟨by simp [h1], fun i u v hu hv => ?_⟩
      cases i with
      | zero => simp at hu hv; subst hu hv; exact h.1
      | succ i => simp at hu hv; exact h2 i u v hu hv

theorem ElR.flat {es es' : List AV} {sz : Nat} (h : ElR es es') (hsz : 0 < sz) (hl : ∀ e ∈ es, e.cells.length = sz) :
    (∀ e ∈ es', e.cells.length = sz) ∧ ∀ (j : Nat) y, (AM.flat es')[j]? = some y → ∃ x, (AM.flat es)[j]? = some x ∧ cR x y := by
  have hl' : ∀ e ∈ es', e.cells.length = sz := by
    intro e' he'
    obtain ⟨i, hi⟩ := List.getElem?_of_mem he'
    have hlt := (List.getElem?_eq_some_iff.1 hi).1
    obtain ⟨e, he⟩ : ∃ e, es[i]? = some e := ⟨es[i]'(by rw [← h.len]; exact hlt), by simp⟩
    rw [(cellsR_get (h.el i e e' he hi)).1]
    exact hl e (List.mem_of_getElem? he)
  refine ⟨hl', fun j y hy => ?_⟩
  obtain ⟨q, r, e', rfl, hr, hq, he', hc⟩ := flat_get_inv hsz hl' hy
  obtain ⟨e, he⟩ : ∃ e, es[q]? = some e := ⟨es[q]'(by rw [← h.len]; exact hq), by simp⟩
  have hR := cellsR_get (h.el q e e' he he')
  have hrl : r < e.cells.length := by rw [hl e (List.mem_of_getElem? he)]; exact hr
  have hx : e.cells[r]? = some (e.cells[r]) := by simp [hrl]
  exact ⟨_, by rw [flat_get hl he hr]; exact hx, hR.2 r _ y hx hc⟩

theorem cR_one {x y : AV} (h : cR x y) (hx : one x = true) : one y = true := by
  cases x with
  | snil => cases y <;> first | rfl | exact h.elim
  | _ => first | (obtain ⟨_, rfl⟩ := h; exact hx)

section
variable {F : Fr} {N : Nat} {P : Program}
variable {ops : Array Oper} {l : List Oper} {K : St → Prop} {ex : Bool} {c : Code} {Q : Exit → St → Prop}
variable {id sz : Nat} {s : Slots} {h h' : Heap} {k k' : Kd} {E : TypeId} {es es' : List AV}

theorem RelP.reread {φ : Nat → Loc} {a : Act} {w : World} (hr : RelP F N ⟨s, h⟩ φ a w) (hF : lk F.η id = none) (hl : lk h id = some (.arr k sz E es)) (sv : Nat → Option Addr × Nat × Nat)
    (hns : (s.all (fun q => noSub id q.2) = true ∧ noSubH id h = true) ∨ sv = (φ id).sv)
    (hlen : es'.length = es.length) (hlens : ∀ e ∈ es', e.cells.length = sz) (hone : ∀ (j : Nat) x, (flat es')[j]? = some x → one x = true)
    (hcells : ∀ C, CellsOK k (Stab F w φ h) w (φ id) (flat es) C → (flat es).length ≤ C.size → CellsOK k' (Stab F w φ h) w { φ id with sv := sv } (flat es') C)
    (hh : sput h id (.arr k' sz E es') = some h') : Rel F N ⟨s, h'⟩ a w := by
  obtain ⟨hsz, hlens0, hones, hob⟩ := hr.heap.obj _ _ hl
  have hlk := lk_sput hh
  have hnoF : ∀ o, lk F.η id ≠ some o := fun o ho => by rw [hF] at ho; cases ho
  have h1id : lk h' id = some (.arr k' sz E es') := by rw [hlk, if_pos rfl]
  refine ⟨updLoc φ id { φ id with sv := sv }, ?_⟩
  have hbx : ∀ i cs, lk h i = some (.box cs) → ∃ cs', lk h' i = some (.box cs') := by
    intro i cs ho
    have hne : id ≠ i := fun e => by subst e; rw [hl] at ho; cases ho
    exact ⟨cs, by rw [hlk, if_neg hne]; exact ho⟩
  have har : ∀ i k2 sz2 E2 es2, lk h i = some (.arr k2 sz2 E2 es2) → ∃ k' es', es'.length = es2.length ∧ lk h' i = some (.arr k' sz2 E2 es') := by
    intro i k2 sz2 E2 es2 ho
    by_cases hii : id = i
    · subst hii
      rw [hl] at ho
      cases ho
      exact ⟨_, _, hlen, h1id⟩
    · exact ⟨k2, es2, rfl, by rw [hlk, if_neg hii]; exact ho⟩
  -- as 'upd' asks that the kind be kept, the relation is written out
  have hS : ∀ b, Stab F w φ h b → Stab F w (updLoc φ id { φ id with sv := sv }) h' b := by
    intro b hb
    refine ⟨hb.1, hb.2.1, fun i o ho hm => ?_⟩
    by_cases hi : id = i
    · subst hi; rw [updLoc_same] at hm; exact hb.2.2 id _ hl hm
    · rw [updLoc_ne φ id _ i (Ne.symm hi)] at hm
      rw [hlk, if_neg hi] at ho
      exact hb.2.2 i o ho hm
  have hV : ∀ {x v}, ((∃ i, lk s i = some x) ∨ ∃ i cs, lk h i = some (.box cs) ∧ x ∈ cs) → RepV (Stab F w φ h) w φ h x v →
      RepV (Stab F w (updLoc φ id { φ id with sv := sv }) h') w (updLoc φ id { φ id with sv := sv }) h' x v := by
    intro x v hx hv
    rcases hns with ⟨n1, n2⟩ | hn
    · refine hv.move (id := id) (gone := fun _ => False) hS (fun _ _ => rfl) (fun i hi _ => updLoc_ne φ id _ i hi) (fun o ho _ => by rw [updLoc_same]; exact ⟨rfl, rfl, rfl, rfl⟩) (fun i cs _ ho => hbx i cs ho)
        (fun i k2 sz2 E2 es2 _ ho => har i k2 sz2 E2 es2 ho) (fun _ h => h.elim) ?_
      rcases hx with ⟨i, hi⟩ | ⟨i, cs, hi, hxc⟩
      · exact lk_all (p := noSub id) n1 hi
      · exact noSubH_box n2 hi hxc
    · have hfe : updLoc φ id { φ id with sv := sv } = φ := by funext i; by_cases hi : i = id <;> simp [updLoc, hi, hn]
      rw [hfe] at hS ⊢
      exact hv.mono hS (fun _ _ => rfl) ⟨fun i cs ho _ => ⟨hbx i cs ho, rfl⟩, fun i k2 sz2 E2 es2 ho => by
        obtain ⟨k', es', q1, q2⟩ := har i k2 sz2 E2 es2 ho
        exact ⟨rfl, k', es', q1, q2⟩⟩
  have howns : ∀ i b, (updLoc φ id { φ id with sv := sv } i).owns b ↔ (φ i).owns b := by
    intro i b
    by_cases hi : i = id
    · subst hi; rw [updLoc_same]; exact Iff.rfl
    · rw [updLoc_ne φ id _ i hi]
  have hold : ∀ i o, lk h' i = some o → ∃ o', lk h i = some o' := by
    intro i o ho
    by_cases hi : id = i
    · subst hi; exact ⟨_, hl⟩
    · rw [hlk, if_neg hi] at ho; exact ⟨o, ho⟩
  refine ⟨hr.size, hr.defers, hr.sys, hr.grow, ⟨fun i o ho => ?_, fun i j oi oj b hi hj hmi hmj => ?_, fun b hb => hb.1, fun i o b ho hm hst => hst.2.2 i o ho hm, fun i o b ho hm => ?_⟩,
    fun i x hx => ?_, fun i o b ho hm => ?_, fun i o hi hb => ?_, fun i o hi => ?_, hr.frame⟩
  · simp only at ho
    by_cases hi : id = i
    · subst hi
      rw [h1id] at ho
      cases ho
      refine ⟨hsz, hlens, hone, ?_⟩
      rw [updLoc_same]
      rcases hob with ⟨hm, rfl⟩ | ⟨hm, C, hC, h1, h2, h3, h4⟩
      · exact .inl ⟨hm, List.eq_nil_of_length_eq_zero (by simpa using hlen)⟩
      · refine .inr ⟨hm, C, hC, by rw [hlen]; exact h1, h2, h3, (hcells C h4 ?_).mono hS (fun _ _ => rfl) (fun _ _ _ => rfl) rfl⟩
        rw [flat_length hlens0, h3]; exact Nat.mul_le_mul_right _ h1
    · rw [hlk, if_neg hi] at ho
      have hok := hr.heap.obj i o ho
      cases o with
      | box cs =>
        obtain ⟨hm, C, E, hC, hsz, hrep⟩ := hok
        refine ⟨by rw [updLoc_ne φ id _ i (Ne.symm hi)]; exact hm, C, E, by rw [updLoc_ne φ id _ i (Ne.symm hi)]; exact hC, hsz, fun j x v hx hv => hV (.inr ⟨i, cs, ho, List.mem_of_getElem? hx⟩) (hrep j x v hx hv)⟩
      | arr k2 sz2 E2 es2 =>
        obtain ⟨q0, q1, q2, q3⟩ := hok
        refine ⟨q0, q1, q2, ?_⟩
        rw [updLoc_ne φ id _ i (Ne.symm hi)]
        rcases q3 with q3 | ⟨hm, C, hC, h1, h2, h3, h4⟩
        · exact .inl q3
        · exact .inr ⟨hm, C, hC, h1, h2, h3, h4.mono hS (fun _ _ => rfl) (fun _ _ _ => rfl) rfl⟩
  · obtain ⟨o1, ho1⟩ := hold i oi hi
    obtain ⟨o2, ho2⟩ := hold j oj hj
    exact hr.heap.injO i j o1 o2 b ho1 ho2 ((howns i b).1 hmi) ((howns j b).1 hmj)
  · obtain ⟨o1, ho1⟩ := hold i o ho
    exact hr.heap.ltO i o1 b ho1 ((howns i b).1 hm)
  · obtain ⟨v, hv, hrep⟩ := hr.slots i x hx
    exact ⟨v, hv, hV (.inl ⟨i, hx⟩) hrep⟩
  · obtain ⟨o1, ho1⟩ := hold i o ho
    exact hr.mine i o1 b ho1 ((howns i b).1 hm)
  · have hne : i ≠ id := fun e => by subst e; exact hnoF o hi
    rw [updLoc_ne φ id _ i hne]
    exact hr.fix i o hi hb
  · have hne : id ≠ i := fun e => by subst e; exact hnoF o hi
    obtain ⟨o', ho', hb⟩ := hr.keep i o hi
    exact ⟨o', by simp only; rw [hlk, if_neg hne]; exact ho', hb⟩

theorem RelP.deepen {p p' : Bool} {φ : Nat → Loc} {a : Act} {w : World} (hr : RelP F N ⟨s, h⟩ φ a w) (hF : lk F.η id = none) (hl : lk h id = some (.arr ⟨p, false⟩ sz E es)) (he : ElR es es')
    (hn1 : s.all (fun q => noSub id q.2) = true) (hn2 : noSubH id h = true) (hh : sput h id (.arr ⟨p', true⟩ sz E es') = some h') : Rel F N ⟨s, h'⟩ a w := by
  obtain ⟨hsz, hlens0, hones, hob⟩ := hr.heap.obj _ _ hl
  obtain ⟨h1, h2⟩ := he.flat hsz hlens0
  refine hr.reread hF hl (fun _ => (none, 0, 0)) (.inl ⟨hn1, hn2⟩) he.len h1 (fun j y hy => ?_) (fun C hC hle => ?_) hh
  · obtain ⟨x, hx, hR⟩ := h2 j y hy
    exact cR_one hR (hones j x hx)
  · have hC' := hC.trees rfl
    have key : ∀ (j : Nat) y v, (flat es')[j]? = some y → C[j]? = some v → LinT w y v [] ∧ (isSl y = true → v = .slice none 0 0) := by
      intro j y v hy hv
      obtain ⟨x, hx, hR⟩ := h2 j y hy
      have ht := hC' j x v hx hv
      cases x with
      | snil =>
        cases ht
        cases y with
        | snil => exact ⟨.snil, fun _ => rfl⟩
        | sl n es => have hR' : es = [] := hR; subst hR'; exact ⟨.sl0 _ _, fun _ => rfl⟩
        | _ => exact hR.elim
      | int _ _ => obtain ⟨_, rfl⟩ := hR; exact ⟨ht.lin rfl, fun h => by simp [isSl] at h⟩
      | bool _ => obtain ⟨_, rfl⟩ := hR; exact ⟨ht.lin rfl, fun h => by simp [isSl] at h⟩
      | str _ => obtain ⟨_, rfl⟩ := hR; exact ⟨ht.lin rfl, fun h => by simp [isSl] at h⟩
      | _ => obtain ⟨h3, _⟩ := hR; simp [flat1] at h3
    refine ⟨List.replicate (flat es').length [], by simp, fun j y v fp hy hv hp => ?_, ?_, fun b hb => by simp at hb, fun j y v hy hv hs => (key j y v hy hv).2 hs⟩
    · have := (List.mem_replicate.1 (List.mem_of_getElem? hp)).2
      subst this
      exact (key j y v hy hv).1
    · simp

theorem RelP.undeep {p p' : Bool} {φ : Nat → Loc} {a : Act} {w : World} (hr : RelP F N ⟨s, h⟩ φ a w) (hF : lk F.η id = none) (hl : lk h id = some (.arr ⟨p, true⟩ sz E es)) (he : ElR es es)
    (hh : sput h id (.arr ⟨p', false⟩ sz E es) = some h') : Rel F N ⟨s, h'⟩ a w := by
  obtain ⟨hsz, hlens0, hones, hob⟩ := hr.heap.obj _ _ hl
  obtain ⟨h1, h2⟩ := he.flat hsz hlens0
  refine hr.reread hF hl (φ id).sv (.inr rfl) rfl hlens0 hones (fun C hC hle => CellsOK.ofTrees rfl fun j x v hx hv => ?_) hh
  obtain ⟨x', hx', hR⟩ := h2 j x hx
  rw [hx] at hx'
  cases hx'
  obtain ⟨fps, f1, f2, _⟩ := (show CellsOK ⟨p, true⟩ (Stab F w φ h) w (φ id) (flat es) C from hC)
  obtain ⟨fp, hfp⟩ : ∃ fp, fps[j]? = some fp := ⟨fps[j]'(by rw [f1]; exact (List.getElem?_eq_some_iff.1 hx).1), by simp⟩
  have ht := f2 j x v fp hx hv hfp
  cases x with
  | snil => cases ht; exact .snil
  | int _ _ => exact ht.ofFlat rfl _ _
  | bool _ => exact ht.ofFlat rfl _ _
  | str _ => exact ht.ofFlat rfl _ _
  | _ => obtain ⟨h3, _⟩ := hR; simp [flat1] at h3

theorem RelP.pin {k k' : Kd} {φ : Nat → Loc} {a : Act} {w : World} (hr : RelP F N ⟨s, h⟩ φ a w) (hF : lk F.η id = none) (hl : lk h id = some (.arr k sz E es)) (hd : k'.d = k.d)
    (hh : sput h id (.arr k' sz E es) = some h') : Rel F N ⟨s, h'⟩ a w := by
  obtain ⟨hsz, hlens0, hones, hob⟩ := hr.heap.obj _ _ hl
  refine hr.reread hF hl (φ id).sv (.inr rfl) rfl hlens0 hones (fun C hC hle => ?_) hh
  unfold CellsOK at *
  rw [hd]
  exact hC

/-- Trees: the nil slices within read as empty ones. -/
theorem RelP.nils {p : Bool} {φ : Nat → Loc} {a : Act} {w : World} (hr : RelP F N ⟨s, h⟩ φ a w) (hF : lk F.η id = none) (hl : lk h id = some (.arr ⟨p, false⟩ sz E es)) (he : ElR es es')
    (hh : sput h id (.arr ⟨p, false⟩ sz E es') = some h') : Rel F N ⟨s, h'⟩ a w := by
  obtain ⟨hsz, hlens0, hones, hob⟩ := hr.heap.obj _ _ hl
  obtain ⟨h1, h2⟩ := he.flat hsz hlens0
  refine hr.reread hF hl (φ id).sv (.inr rfl) he.len h1 (fun j y hy => ?_) (fun C hC hle => CellsOK.ofTrees rfl fun j y v hy hv => ?_) hh
  · obtain ⟨x, hx, hR⟩ := h2 j y hy
    exact cR_one hR (hones j x hx)
  · obtain ⟨x, hx, hR⟩ := h2 j y hy
    have ht := hC.trees rfl j x v hx hv
    cases x with
    | snil =>
      cases ht
      cases y with
      | snil => exact .snil
      | sl n es => have hR' : es = [] := hR; subst hR'; exact .sl0 _ _ _ (fun _ => rfl)
      | _ => exact hR.elim
    | int _ _ => obtain ⟨_, rfl⟩ := hR; exact ht
    | bool _ => obtain ⟨_, rfl⟩ := hR; exact ht
    | str _ => obtain ⟨_, rfl⟩ := hR; exact ht
    | _ => obtain ⟨h3, _⟩ := hR; simp [flat1] at h3

theorem T_deepen (id : Nat) {p p' : Bool} (es' : List AV) (hF : lk F.η id = none) (hl : lk h id = some (.arr ⟨p, false⟩ sz E es)) (he : ElR es es')
    (hn1 : s.all (fun q => noSub id q.2) = true) (hn2 : noSubH id h = true) (hh : sput h id (.arr ⟨p', true⟩ sz E es') = some h') (q : T P F N c Q ⟨s, h'⟩) : T P F N c Q ⟨s, h⟩ := T_sub (fun _ _ _ hr => hr.deepen hF hl he hn1 hn2 hh) q
theorem TL_deepen (id : Nat) {p p' : Bool} (es' : List AV) (hF : lk F.η id = none) (hl : lk h id = some (.arr ⟨p, false⟩ sz E es)) (he : ElR es es')
    (hn1 : s.all (fun q => noSub id q.2) = true) (hn2 : noSubH id h = true) (hh : sput h id (.arr ⟨p', true⟩ sz E es') = some h') (q : TLE ex P F N ops l K ⟨s, h'⟩) : TLE ex P F N ops l K ⟨s, h⟩ := TL_sub (fun _ _ _ hr => hr.deepen hF hl he hn1 hn2 hh) q
theorem T_undeep (id : Nat) {p p' : Bool} (hF : lk F.η id = none) (hl : lk h id = some (.arr ⟨p, true⟩ sz E es)) (he : ElR es es)
    (hh : sput h id (.arr ⟨p', false⟩ sz E es) = some h') (q : T P F N c Q ⟨s, h'⟩) : T P F N c Q ⟨s, h⟩ := T_sub (fun _ _ _ hr => hr.undeep hF hl he hh) q
theorem TL_undeep (id : Nat) {p p' : Bool} (hF : lk F.η id = none) (hl : lk h id = some (.arr ⟨p, true⟩ sz E es)) (he : ElR es es)
    (hh : sput h id (.arr ⟨p', false⟩ sz E es) = some h') (q : TLE ex P F N ops l K ⟨s, h'⟩) : TLE ex P F N ops l K ⟨s, h⟩ := TL_sub (fun _ _ _ hr => hr.undeep hF hl he hh) q
theorem T_pin (id : Nat) {k k' : Kd} (hF : lk F.η id = none) (hl : lk h id = some (.arr k sz E es)) (hd : k'.d = k.d)
    (hh : sput h id (.arr k' sz E es) = some h') (q : T P F N c Q ⟨s, h'⟩) : T P F N c Q ⟨s, h⟩ := T_sub (fun _ _ _ hr => hr.pin hF hl hd hh) q
theorem TL_pin (id : Nat) {k k' : Kd} (hF : lk F.η id = none) (hl : lk h id = some (.arr k sz E es)) (hd : k'.d = k.d)
    (hh : sput h id (.arr k' sz E es) = some h') (q : TLE ex P F N ops l K ⟨s, h'⟩) : TLE ex P F N ops l K ⟨s, h⟩ := TL_sub (fun _ _ _ hr => hr.pin hF hl hd hh) q
theorem T_nils (id : Nat) {p : Bool} (es' : List AV) (hF : lk F.η id = none) (hl : lk h id = some (.arr ⟨p, false⟩ sz E es)) (he : ElR es es')
    (hh : sput h id (.arr ⟨p, false⟩ sz E es') = some h') (q : T P F N c Q ⟨s, h'⟩) : T P F N c Q ⟨s, h⟩ := T_sub (fun _ _ _ hr => hr.nils hF hl he hh) q
theorem TL_nils (id : Nat) {p : Bool} (es' : List AV) (hF : lk F.η id = none) (hl : lk h id = some (.arr ⟨p, false⟩ sz E es)) (he : ElR es es')
    (hh : sput h id (.arr ⟨p, false⟩ sz E es') = some h') (q : TLE ex P F N ops l K ⟨s, h'⟩) : TLE ex P F N ops l K ⟨s, h⟩ := TL_sub (fun _ _ _ hr => hr.nils hF hl he hh) q

end
end Go.AM
