/- Rules: variables, literals, make, stores. -/
import Derived.Test.YtlijhkhbdfgapaaAmF
namespace Go.AM
open Go

section
variable {P : Program} {F : Fr} {N : Nat} {ops : Array Oper} {rest : List Oper} {K : St → Prop} {ex : Bool}

/-- One operation, whatever it does. -/
theorem TL_val {o : Oper} {st st' : St} (hg : o.guard = none)
    (h : ∀ φ a w, RelP F N st φ a w → ∃ v w', (ex = true → Ext w w') ∧ (execOp a.eval o).run P w = .ok (.value v) w' ∧ Rel F N st' (a.put o.dst v) w')
    (k : TLE ex P F N ops rest K st') : TLE ex P F N ops (o :: rest) K st := by
  intro a w R hr hQ
  obtain ⟨φ, hp⟩ := hr
  obtain ⟨v, w', hext, hrun, hr'⟩ := h φ a w hp
  refine wpList_plain hg fun K' hK' => ?_
  unfold Oper.wp
  rw [hrun]
  exact hK' _ _ (k _ _ R hr' (fun st' a' w'' hk hr'' he => hQ st' a' w'' hk hr'' (fun h => (hext h).trans (he h))))

theorem TL_skip {o : Oper} {st st' : St} (hg : o.guard = none) (hd : o.dst = none)
    (h : ∀ φ a w, RelP F N st φ a w → ∃ w', (execOp a.eval o).run P w = .ok .skip w' ∧ Rel F N st' a w')
    (k : TL P F N ops rest K st') : TL P F N ops (o :: rest) K st := by
  intro a w R hr hQ
  obtain ⟨φ, hp⟩ := hr
  obtain ⟨w', hrun, hr'⟩ := h φ a w hp
  refine wpList_plain hg fun K' hK' => ?_
  unfold Oper.wp
  rw [hrun]
  show K' (a.put o.dst undef) w'
  rw [hd]
  exact hK' _ _ (k _ _ R hr' (fun st' a' w'' hk hr'' _ => hQ st' a' w'' hk hr'' (fun h => by cases h)))

/-- A step of thought: another abstract state for the same. -/
theorem TL_sub {l : List Oper} {st st' : St} (h : ∀ φ a w, RelP F N st φ a w → Rel F N st' a w) (k : TLE ex P F N ops l K st') : TLE ex P F N ops l K st := by
  intro a w R hr hQ
  obtain ⟨φ, hp⟩ := hr
  exact k a w R (h φ a w hp) hQ

theorem T_sub {c : Code} {Q : Exit → St → Prop} {st st' : St} (h : ∀ φ a w, RelP F N st φ a w → Rel F N st' a w) (k : T P F N c Q st') : T P F N c Q st := by
  intro a w hr
  obtain ⟨φ, hp⟩ := hr
  exact k a w (h φ a w hp)

theorem TR_sub {c : Code} {Q : Exit → St → Prop} {st st' : St} (h : ∀ φ a w, RelP F N st φ a w → Rel F N st' a w) (k : TR P F N c Q st') : TR P F N c Q st := by
  intro a w hr
  obtain ⟨φ, hp⟩ := hr
  exact k a w (h φ a w hp)

def isJunk : AV → Bool
  | .junk => true
  | _ => false

variable {ty : TypeId} {pos : String} {after : Array Edge} {d id : Nat} {s s' : Slots} {h h' : Heap} {y : Operand}

theorem alloc_new (w : World) (o : Obj) : SameSys w (w.alloc o) ∧ w.heap.size ≤ (w.alloc o).heap.size ∧ (∀ b, b < w.heap.size → (w.alloc o).heap[b]? = w.heap[b]?) ∧
    (w.alloc o).heap[w.heap.size]? = some o :=
  ⟨⟨rfl, rfl, rfl⟩, by simp, fun b hb => heap_alloc_old w o b hb, heap_alloc_new w o⟩

/-- A variable with a value. -/
theorem TL_box {E : TypeId} {z : AV} {cs : List AV} (id : Nat) (hy : aev s y = some z) (hj : isJunk z = false) (hc : cellsO z = some cs)
    (hl : lk h id = none) (hh : sput h id (.box cs) = some h') (hN : Nat.blt d N = true) (hs : sput s d (.ptr id 0 0) = some s')
    (k : TLE ex P F N ops rest K ⟨s', h'⟩) : TLE ex P F N ops (⟨some d, .box E y, ty, pos, after, none⟩ :: rest) K ⟨s, h⟩ := by
  refine TL_val rfl (fun φ a w hp => ?_) k
  have hv := aev_rep hp hy
  have hcells := hv.cells hc (fun u hu => by subst hu; cases hj)
  obtain ⟨h1, h2, h3, h4⟩ := alloc_new w (.cells (a.eval y).cells E)
  refine ⟨.pointer (some ⟨w.heap.size, 0, none⟩), _, fun _ => ⟨h2, h3⟩, rfl, _, RelP.put (hp.newBox hl hh h1 h2 h3 (Nat.le_refl _) h4 (by simpa using hcells.1.symm)
    (fun i x v hx hv => hcells.2 i x v hx (by simpa using hv))) (Nat.le_of_ble_eq_true hN) hs ?_⟩
  have := RepV.box (S := Stab F (w.alloc (.cells (a.eval y).cells E)) (updLoc φ id (mkLoc w.heap.size 0 true)) h') (w := w.alloc (.cells (a.eval y).cells E))
    (φ := updLoc φ id (mkLoc w.heap.size 0 true)) (η := h') (id := id) (off := 0) (cs := cs) (by rw [lk_sput hh, if_pos rfl]) (by rw [updLoc_same])
  rw [updLoc_same] at this
  exact this

/-- A type's zero value, its cells and bytes. -/
def tyZero (P : Program) (t : TypeId) : Option (Value × Nat × Nat) :=
  (P.info? t).bind fun i => i.zero.map fun z => (z, i.size, i.bytes)

theorem tyZero_inv {t : TypeId} {z : Value} {n b : Nat} (h : tyZero P t = some (z, n, b)) : ∃ i, P.info? t = some i ∧ i.zero = some z ∧ i.size = n ∧ i.bytes = b := by
  unfold tyZero at h
  cases hi : P.info? t with
  | none => simp [hi] at h
  | some i =>
    cases hz : i.zero with
    | none => simp [hi, hz] at h
    | some z' => simp [hi, hz] at h; exact ⟨i, rfl, by rw [hz, h.1], h.2.1, h.2.2⟩

theorem run_zero {t : TypeId} {z : Value} {n b : Nat} (h : tyZero P t = some (z, n, b)) (w : World) : (zeroValue t).run P w = .ok z w := by
  obtain ⟨i, h1, h2, _⟩ := tyZero_inv h
  simp [zeroValue, typeInfo, h1, h2]

/-- A variable at its zero value. -/
theorem TL_alloc {E : TypeId} {zv : Value} {n b : Nat} {z : AV} {cs : List AV} (id : Nat) (hz : tyZero P E = some (zv, n, b)) (hy : cav zv = some z) (hj : isJunk z = false)
    (hc : cellsO z = some cs) (hl : lk h id = none) (hh : sput h id (.box cs) = some h') (hN : Nat.blt d N = true) (hs : sput s d (.ptr id 0 0) = some s')
    (k : TLE ex P F N ops rest K ⟨s', h'⟩) : TLE ex P F N ops (⟨some d, .alloc E, ty, pos, after, none⟩ :: rest) K ⟨s, h⟩ := by
  refine TL_val rfl (fun φ a w hp => ?_) k
  have hv : RepV (Stab F w φ h) w φ h z zv := .pure (cav_rep hy)
  have hcells := hv.cells hc (fun u hu => by subst hu; cases hj)
  obtain ⟨h1, h2, h3, h4⟩ := alloc_new w (.cells zv.cells E)
  have hrun : (execOp a.eval ⟨some d, .alloc E, ty, pos, after, none⟩).run P w = .ok (.value (.pointer (some ⟨w.heap.size, 0, none⟩))) (w.alloc (.cells zv.cells E)) := by
    show (do pure (.value (← Instr.alloc E true (.tuple #[]))) : Sem Next).run P w = _
    simp only [Instr.alloc, Sem.run_bind, run_zero hz, Result.andThen_ok]
    rfl
  refine ⟨.pointer (some ⟨w.heap.size, 0, none⟩), _, fun _ => ⟨h2, h3⟩, hrun, _, RelP.put (hp.newBox hl hh h1 h2 h3 (Nat.le_refl _) h4 (by simpa using hcells.1.symm)
    (fun i x v hx hv => hcells.2 i x v hx (by simpa using hv))) (Nat.le_of_ble_eq_true hN) hs ?_⟩
  have := RepV.box (S := Stab F (w.alloc (.cells zv.cells E)) (updLoc φ id (mkLoc w.heap.size 0 true)) h') (w := w.alloc (.cells zv.cells E))
    (φ := updLoc φ id (mkLoc w.heap.size 0 true)) (η := h') (id := id) (off := 0) (cs := cs) (by rw [lk_sput hh, if_pos rfl]) (by rw [updLoc_same])
  rw [updLoc_same] at this
  exact this

/-! ### Literals of slices -/

theorem fill_ordered (sz : Nat) : ∀ (vs : List Value) (k : Nat) (cells : Array Value), (k + vs.length) * sz ≤ cells.size → (∀ v ∈ vs, v.cells.size = sz) →
    ∃ C, Instr.fill (fun i => some (i * sz, sz)) cells ((List.range' k vs.length).zip vs) = some C ∧
      C.toList = cells.toList.take (k * sz) ++ vs.flatMap (·.cells.toList) ++ cells.toList.drop ((k + vs.length) * sz) := by
  intro vs
  induction vs with
  | nil => intro k cells _ _; exact ⟨cells, rfl, by simp⟩
  | cons v vs ih =>
    intro k cells hsz hv
    have h0 : v.cells.size = sz := hv v (by simp)
    have e1 : (k + (v :: vs).length) * sz = k * sz + sz + vs.length * sz := by
      simp only [List.length_cons, Nat.add_mul, Nat.one_mul]; omega
    have e2 : (k + 1 + vs.length) * sz = k * sz + sz + vs.length * sz := by simp only [Nat.add_mul, Nat.one_mul]
    have hf := foldl_setA v.cells cells (k * sz) (by rw [h0]; omega)
    generalize hC1 : v.cells.zipIdx.foldl (fun cs (c, j) => cs.setIfInBounds (k * sz + j) c) cells = C1 at hf
    have hs1 : C1.size = cells.size := by
      rw [← Array.length_toList, hf]; simp [h0]; omega
    obtain ⟨C, hC, hCl⟩ := ih (k + 1) C1 (by rw [hs1]; omega) (fun u hu => hv u (by simp [hu]))
    refine ⟨C, ?_, ?_⟩
    · simp only [List.length_cons, List.range'_succ, List.zip_cons_cons, Instr.fill]
      rw [if_neg]
      · rw [hC1]; exact hC
      · simp [h0]; omega
    · rw [hCl, hf]
      have e3 : (k + 1) * sz = k * sz + sz := by simp only [Nat.add_mul, Nat.one_mul]
      rw [e3, e2, e1, h0]
      have hlen : (cells.toList.take (k * sz)).length = k * sz := by simp; omega
      have hlen2 : v.cells.toList.length = sz := by simpa using h0
      rw [List.take_append_of_le_length (by simp [h0]; omega), List.take_of_length_le (by simp [h0]; omega)]
      rw [List.drop_append, List.drop_of_length_le (by simp [h0]; omega), List.nil_append, List.drop_drop]
      simp only [List.flatMap_cons, List.append_assoc]
      congr 3
      simp [h0]
      congr 1
      omega

def aevP (s : Slots) (k : Nat) : List (Nat × Operand) → Option (List AV)
  | [] => some []
  | (i, y) :: r => bif Nat.beq i k then
    match aev s y with
    | some x => match aevP s (k + 1) r with
      | some l => some (x :: l)
      | none => none
    | none => none
    else none

theorem aevP_eq : ∀ {l : List (Nat × Operand)} {k : Nat} {xs : List AV}, aevP s k l = some xs → xs.length = l.length ∧ l.map (·.1) = List.range' k l.length ∧
    ∀ (i : Nat) x, xs[i]? = some x → ∃ p, l[i]? = some p ∧ aev s p.2 = some x := by
  intro l
  induction l with
  | nil => intro k xs h; cases h; exact ⟨rfl, rfl, fun i x hx => by simp at hx⟩
  | cons p r ih =>
    obtain ⟨j, y⟩ := p
    intro k xs h
    unfold aevP at h
    cases hjk : Nat.beq j k with
    | false => simp [hjk] at h
    | true =>
      obtain rfl := (beq_iff j k).1 hjk
      simp only [hjk, cond_true] at h
      cases hy : aev s y with
      | none => simp [hy] at h
      | some x0 =>
        simp only [hy] at h
        cases hr : aevP s (j + 1) r with
        | none => simp [hr] at h
        | some l0 =>
          simp only [hr, Option.some.injEq] at h
          subst h
          obtain ⟨h1, h2, h3⟩ := ih hr
          refine ⟨by simp [h1], by simp [List.range'_succ, h2], fun i x hx => ?_⟩
          cases i with
          | zero => simp at hx; subst hx; exact ⟨(j, y), by simp, hy⟩
          | succ i => simp at hx; obtain ⟨p, hp, hp'⟩ := h3 i x hx; exact ⟨p, by simpa using hp, hp'⟩

/-- All of the values are trees of 'sz' cells, of one cell each. -/
def elemsOK (sz : Nat) : List AV → Bool
  | [] => true
  | e :: r => match cellsO e with
    | some cs => Nat.beq cs.length sz && cs.all one && noIds e && !isJunk e && elemsOK sz r
    | none => false

theorem elemsOK_mem {sz : Nat} : ∀ {es : List AV}, elemsOK sz es = true → ∀ e ∈ es, e.cells.length = sz ∧ (∀ x ∈ e.cells, one x = true) ∧ noIds e = true ∧ isJunk e = false := by
  intro es
  induction es with
  | nil => intro _ e he; simp at he
  | cons e0 es ih =>
    intro h e he
    unfold elemsOK at h
    cases hc : cellsO e0 with
    | none => simp [hc] at h
    | some cs =>
      obtain rfl := cellsO_eq hc
      simp only [hc, Bool.and_eq_true, Bool.not_eq_true'] at h
      obtain ⟨⟨⟨⟨h1, h2⟩, h3⟩, h4⟩, h5⟩ := h
      rcases List.mem_cons.1 he with rfl | he
      · exact ⟨(beq_iff _ _).1 h1, fun x hx => (List.all_eq_true.1 h2) x hx, h3, h4⟩
      · exact ih h5 e he

theorem flat_one {es : List AV} (h : ∀ e ∈ es, ∀ x ∈ e.cells, one x = true) (j : Nat) (x : AV) (hx : (flat es)[j]? = some x) : one x = true := by
  have hm := List.mem_of_getElem? hx
  unfold flat at hm
  obtain ⟨e, he, hxe⟩ := List.mem_flatMap.1 hm
  exact h e he x hxe

theorem PW_flat {S : Nat → Prop} {w : World} {φ : Nat → Loc} {η : Heap} : ∀ {es : List AV} {vs : List Value}, es.length = vs.length →
    (∀ (i : Nat) e v, es[i]? = some e → vs[i]? = some v → RepV S w φ η e v ∧ isJunk e = false) → PW S w φ η (flat es) (vs.flatMap (·.cells.toList)) := by
  intro es
  induction es with
  | nil => intro vs hl _; cases vs with
    | nil => exact ⟨rfl, fun i x v hx => by simp [flat] at hx⟩
    | cons _ _ => simp at hl
  | cons e es ih =>
    intro vs hl h
    cases vs with
    | nil => simp at hl
    | cons v vs =>
      have hfl : flat (e :: es) = e.cells ++ flat es := by simp [flat]
      rw [hfl, List.flatMap_cons]
      obtain ⟨h1, h2⟩ := h 0 e v (by simp) (by simp)
      refine PW.append (h1.cells (by cases e <;> rfl) (fun u hu => by subst hu; cases h2)) (ih (by simpa using hl) (fun i e' v' he hv => h (i + 1) e' v' (by simpa using he) (by simpa using hv)))

theorem zip_parts {α β γ : Type} (f : β → γ) : ∀ l : List (α × β), l.map (fun p => (p.1, f p.2)) = (l.map (·.1)).zip (l.map fun p => f p.2) := by
  intro l
  induction l with
  | nil => rfl
  | cons p l ih => simp [ih]

theorem TL_buildSlice {t E : TypeId} {n sz : Nat} {parts : Array (Nat × Operand)} {es : List AV} (id : Nat) {zv : Value} {bz : Nat} (ht : tyElem P t = some (E, sz))
    (hz : tyZero P E = some (zv, sz, bz))
    (hsz : Nat.blt 0 sz = true) (hp : aevP s 0 parts.toList = some es) (hn : Nat.beq parts.toList.length n = true) (hok : elemsOK sz es = true) (hbig : Nat.ble (n * sz) 16777216 = true)
    (hl : lk h id = none) (hh : sput h id (.arr ⟨false, false⟩ sz E es) = some h') (hN : Nat.blt d N = true) (hs : sput s d (.ow id) = some s')
    (k : TLE ex P F N ops rest K ⟨s', h'⟩) : TLE ex P F N ops (⟨some d, .buildSlice t n parts, ty, pos, after, none⟩ :: rest) K ⟨s, h⟩ := by
  refine TL_val rfl (fun φ a w hr => ?_) k
  have hsz' : 0 < sz := Nat.le_of_ble_eq_true hsz
  have hbig' : n * sz ≤ 16777216 := Nat.le_of_ble_eq_true hbig
  obtain ⟨hu, hsize⟩ := tyElem_inv ht
  obtain ⟨h1, h2, h3⟩ := aevP_eq hp
  have hn' : parts.toList.length = n := (beq_iff _ _).1 hn
  have hmem := elemsOK_mem hok
  -- the values of the parts
  let vs : List Value := parts.toList.map fun p => a.eval p.2
  have hvl : vs.length = n := by simp only [vs, List.length_map]; exact hn'
  have hzip : (parts.map fun (i, x) => (i, a.eval x)).toList = (List.range' 0 vs.length).zip vs := by
    rw [hvl, ← hn', ← h2]
    rw [Array.toList_map]
    exact zip_parts (fun y => a.eval y) parts.toList
  have hrep : ∀ (i : Nat) e v, es[i]? = some e → vs[i]? = some v → RepV (Stab F w φ h) w φ h e v ∧ isJunk e = false := by
    intro i e v he hv
    obtain ⟨p, hp1, hp2⟩ := h3 i e he
    have hpv : vs[i]? = some (a.eval p.2) := by simp only [vs, List.getElem?_map, hp1, Option.map_some]
    rw [hpv] at hv
    cases hv
    exact ⟨aev_rep hr hp2, (hmem e (List.mem_of_getElem? he)).2.2.2⟩
  have hpw := PW_flat (S := Stab F w φ h) (w := w) (φ := φ) (η := h) (es := es) (vs := vs) (by rw [h1, hvl, hn']) hrep
  have hvc : ∀ v ∈ vs, v.cells.size = sz := by
    intro v hv
    obtain ⟨i, hi⟩ := List.getElem?_of_mem hv
    have hlt := (List.getElem?_eq_some_iff.1 hi).1
    obtain ⟨e, he⟩ : ∃ e, es[i]? = some e := ⟨es[i]'(by rw [h1, hn', ← hvl]; exact hlt), by simp⟩
    obtain ⟨r1, r2⟩ := hrep i e v he hi
    have := (r1.cells (cs := e.cells) (by cases e <;> rfl) (fun u hu => by subst hu; cases r2)).1
    rw [(hmem e (List.mem_of_getElem? he)).1] at this
    simpa using this.symm
  let Z : Array Value := (Array.range (n * sz)).map ((if n * sz = 0 then #[] else zv.cells)[· % (if n * sz = 0 then #[] else zv.cells).size]!)
  have hZ : Z.size = n * sz := by simp [Z]
  obtain ⟨C, hC, hCl⟩ := fill_ordered sz vs 0 Z (by rw [hZ, hvl, Nat.zero_add]; exact Nat.le_refl _) hvc
  have hCl' : C.toList = vs.flatMap (·.cells.toList) := by
    rw [hCl]
    rw [List.drop_of_length_le (by rw [Array.length_toList, hZ, hvl]; simp)]
    simp
  have hCs : C.size = n * sz := by
    rw [← Array.length_toList, hCl', ← hpw.1, flat_length (fun e he => (hmem e he).1), h1, hn']
  have hrun : (execOp a.eval ⟨some d, .buildSlice t n parts, ty, pos, after, none⟩).run P w = .ok (.value (.slice (some ⟨w.heap.size, 0, none⟩) n n)) (w.alloc (.cells C E)) := by
    show (do pure (.value (← Instr.buildSlice t n (parts.map fun (i, x) => (i, a.eval x)))) : Sem Next).run P w = _
    unfold Instr.buildSlice
    simp only [Sem.run_bind, run_underlying hu, Result.andThen_ok, run_size hsize]
    rw [if_neg (by simp; omega)]
    rw [hzip]
    simp only [Z] at hC
    by_cases h0 : n * sz = 0
    · rw [if_pos h0] at hC ⊢
      simp only [Sem.run_bind, Sem.run_pure, Result.andThen_ok]
      rw [hC]
      rfl
    · rw [if_neg h0] at hC ⊢
      simp only [Sem.run_bind, Sem.run_pure, Result.andThen_ok, run_zero hz]
      rw [hC]
      rfl
  obtain ⟨g1, g2, g3, g4⟩ := alloc_new w (.cells C E)
  refine ⟨_, _, fun _ => ⟨g2, g3⟩, hrun, _, RelP.put (hr.newArr (cap := n) hl hh g1 g2 g3 (Nat.le_refl _) g4 hsz' (fun e he => (hmem e he).1) (flat_one (fun e he => (hmem e he).2.1))
    (by rw [h1, hn']; exact Nat.le_refl _) ?_ hCs ?_) (Nat.le_of_ble_eq_true hN) hs ?_⟩
  · have : n ≤ n * sz := Nat.le_mul_of_pos_right n hsz'
    simp only [maxLen]; omega
  · intro j x v hx hv
    have hv' : (vs.flatMap (·.cells.toList))[j]? = some v := by rw [← hCl']; simpa using hv
    have hxr := hpw.2 j x v hx hv'
    have hm := List.mem_of_getElem? hx
    unfold flat at hm
    obtain ⟨e, he, hxe⟩ := List.mem_flatMap.1 hm
    refine hxr.tree ?_
    have hne := (hmem e he).2.2.1
    cases e with
    | agg cs => obtain ⟨i, hi⟩ := List.getElem?_of_mem hxe; exact noIdsL_mem (by simpa [noIds, AV.cells] using hne) i x hi
    | _ => simp [AV.cells] at hxe; subst hxe; exact hne
  · have := RepV.ow (S := Stab F (w.alloc (.cells C E)) (updLoc φ id (mkLoc w.heap.size n true)) h') (w := w.alloc (.cells C E))
      (φ := updLoc φ id (mkLoc w.heap.size n true)) (η := h') (id := id) (sz := sz) (k := ⟨false, false⟩) (E := E) (es := es) (by rw [lk_sput hh, if_pos rfl]) (by rw [updLoc_same])
    rw [updLoc_same, h1, hn'] at this
    exact this

end
end Go.AM
