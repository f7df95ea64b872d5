/- Literals that take over; other readings of one array; calls on a part of an owned array. -/
import Derived.Test.YtlijhkhbdfgapaaAmZ
namespace Go.AM
open Go

section
variable {F : Fr} {N : Nat} {P : Program}
variable {ops : Array Oper} {rest : List Oper} {K : St → Prop} {ex : Bool}
variable {ty : TypeId} {pos : String} {after : Array Edge} {d id : Nat} {s s' s1 : Slots} {h h' h1 : Heap} {x y : Operand}

theorem run_buildSlice_vals {a : Act} {w : World} {t E : TypeId} {n sz bz : Nat} {zv : Value} {parts : Array (Nat × Operand)} (ht : tyElem P t = some (E, sz)) (hz : tyZero P E = some (zv, sz, bz))
    (hn : parts.toList.length = n) (hord : parts.toList.map (·.1) = List.range' 0 parts.toList.length) (hbig : n * sz ≤ 16777216) (hvc : ∀ p ∈ parts.toList, (a.eval p.2).cells.size = sz) :
    ∃ C : Array Value, (execOp a.eval ⟨some d, .buildSlice t n parts, ty, pos, after, none⟩).run P w = .ok (.value (.slice (some ⟨w.heap.size, 0, none⟩) n n)) (w.alloc (.cells C E)) ∧
      C.toList = (parts.toList.map fun p => a.eval p.2).flatMap (·.cells.toList) := by
  obtain ⟨hu, hsize⟩ := tyElem_inv ht
  let vs : List Value := parts.toList.map fun p => a.eval p.2
  have hvl : vs.length = n := by simp only [vs, List.length_map]; exact hn
  have hzip : (parts.map fun (i, x) => (i, a.eval x)).toList = (List.range' 0 vs.length).zip vs := by
    rw [hvl, ← hn, ← hord]
    rw [Array.toList_map]
    exact zip_parts (fun y => a.eval y) parts.toList
  have hvc' : ∀ v ∈ vs, v.cells.size = sz := by
    intro v hv
    obtain ⟨p, hp, rfl⟩ := List.mem_map.1 hv
    exact hvc p hp
  let Z : Array Value := (Array.range (n * sz)).map ((if n * sz = 0 then #[] else zv.cells)[· % (if n * sz = 0 then #[] else zv.cells).size]!)
  have hZ : Z.size = n * sz := by simp [Z]
  obtain ⟨C, hC, hCl⟩ := fill_ordered sz vs 0 Z (by rw [hZ, hvl, Nat.zero_add]; exact Nat.le_refl _) hvc'
  have hCl' : C.toList = vs.flatMap (·.cells.toList) := by
    rw [hCl]
    rw [List.drop_of_length_le (by rw [Array.length_toList, hZ, hvl]; simp)]
    simp
  refine ⟨C, ?_, hCl'⟩
  show (do pure (.value (← Instr.buildSlice t n (parts.map fun (i, x) => (i, a.eval x)))) : Sem Next).run P w = _
  unfold Instr.buildSlice
  simp only [Sem.run_bind, run_underlying hu, Result.andThen_ok, run_size hsize]
  rw [if_neg (by simp; omega)]
  rw [hzip]
  simp only [Z] at hC
  by_cases h0 : n * sz = 0
  · rw [if_pos h0] at hC ⊢
    simp only [Sem.run_bind, Sem.run_pure, Result.andThen_ok]
    rw [hC]
    rfl
  · rw [if_neg h0] at hC ⊢
    simp only [Sem.run_bind, Sem.run_pure, Result.andThen_ok, run_zero hz]
    rw [hC]
    rfl

/-- An element with other cells. -/
def reE (ys : List AV) : AV → AV
  | .agg _ => .agg ys
  | _ => ys.headD .junk
/-- Elements, with the objects that they name taken over. -/
def absE (h : Heap) (sz : Nat) : List AV → Option (List AV × List Nat)
  | [] => some ([], [])
  | e :: r => bif isJunk e then none else match cellsO e with
    | some cs => bif Nat.beq cs.length sz then match absL h cs with
      | some (ys, i) => match absE h sz r with
        | some (es, is) => some (reE ys e :: es, i ++ is)
        | none => none
      | none => none
      else none
    | none => none

theorem absL_app {h : Heap} : ∀ {a b ya yb : List AV} {ia ib : List Nat}, absL h a = some (ya, ia) → absL h b = some (yb, ib) → absL h (a ++ b) = some (ya ++ yb, ia ++ ib) := by
  intro a
  induction a with
  | nil => intro b ya yb ia ib ha hb; cases ha; simpa using hb
  | cons x r ih =>
    intro b ya yb ia ib ha hb
    unfold absL at ha
    cases hx : absC h x with
    | none => simp [hx] at ha
    | some p =>
      obtain ⟨y, i⟩ := p
      simp only [hx] at ha
      cases hr : absL h r with
      | none => simp [hr] at ha
      | some q =>
        obtain ⟨ys', is⟩ := q
        simp only [hr, Option.some.injEq, Prod.mk.injEq] at ha
        obtain ⟨rfl, rfl⟩ := ha
        rw [List.cons_append]
        unfold absL
        rw [hx]
        simp only [ih hr hb, List.cons_append, List.append_assoc]

theorem absL_len {h : Heap} : ∀ {a ya : List AV} {ia : List Nat}, absL h a = some (ya, ia) → ya.length = a.length := by
  intro a
  induction a with
  | nil => intro ya ia ha; cases ha; rfl
  | cons x r ih =>
    intro ya ia ha
    unfold absL at ha
    cases hx : absC h x with
    | none => simp [hx] at ha
    | some p =>
      obtain ⟨y, i⟩ := p
      simp only [hx] at ha
      cases hr : absL h r with
      | none => simp [hr] at ha
      | some q =>
        obtain ⟨ys', is⟩ := q
        simp only [hr, Option.some.injEq, Prod.mk.injEq] at ha
        obtain ⟨rfl, rfl⟩ := ha
        simp [ih hr]

theorem absE_spec {h : Heap} {sz : Nat} (hsz : 0 < sz) : ∀ {zs es : List AV} {ids : List Nat}, absE h sz zs = some (es, ids) →
    es.length = zs.length ∧ absL h (flat zs) = some (flat es, ids) ∧ (∀ e ∈ es, e.cells.length = sz) ∧ (∀ z ∈ zs, isJunk z = false ∧ z.cells.length = sz) := by
  intro zs
  induction zs with
  | nil => intro es ids h; cases h; exact ⟨rfl, rfl, fun e he => by simp at he, fun e he => by simp at he⟩
  | cons z r ih =>
    intro es ids hh
    unfold absE at hh
    cases hj : isJunk z with
    | true => simp [hj] at hh
    | false =>
      simp only [hj, cond_false] at hh
      cases hc : cellsO z with
      | none => simp [hc] at hh
      | some cs =>
        simp only [hc] at hh
        cases hb : Nat.beq cs.length sz with
        | false => simp [hb] at hh
        | true =>
          simp only [hb, cond_true] at hh
          cases hl : absL h cs with
          | none => simp [hl] at hh
          | some p =>
            obtain ⟨ys, i⟩ := p
            simp only [hl] at hh
            cases hr : absE h sz r with
            | none => simp [hr] at hh
            | some q =>
              obtain ⟨es', is⟩ := q
              simp only [hr, Option.some.injEq, Prod.mk.injEq] at hh
              obtain ⟨rfl, rfl⟩ := hh
              obtain ⟨a1, a2, a3, a4⟩ := ih hr
              have hcs := cellsO_eq hc
              have hlen := (beq_iff _ _).1 hb
              have hyl := absL_len hl
              have hone : ∀ {xs ys : List AV} {i : List Nat}, absL h xs = some (ys, i) → ∀ y ∈ ys, one y = true := by
                intro xs
                induction xs with
                | nil => intro ys i e y hy; cases e; simp at hy
                | cons x r ih =>
                  intro ys i e y hy
                  unfold absL at e
                  cases hx : absC h x with
                  | none => simp [hx] at e
                  | some p =>
                    obtain ⟨y0, i⟩ := p
                    simp only [hx] at e
                    cases hr : absL h r with
                    | none => simp [hr] at e
                    | some q =>
                      obtain ⟨ys', is⟩ := q
                      simp only [hr, Option.some.injEq, Prod.mk.injEq] at e
                      obtain ⟨rfl, rfl⟩ := e
                      rcases List.mem_cons.1 hy with rfl | hy
                      · exact absC_one hx
                      · exact ih hr y hy
              have hcell : ∀ (e : AV), e = reE ys z → e.cells = ys := by
                intro e he
                subst he
                cases z with
                | agg cs' => rfl
                | _ =>
                  all_goals
                    simp only [cellsO, Option.some.injEq] at hc
                    subst hc
                    obtain ⟨y, rfl⟩ : ∃ y, ys = [y] := by
                      match ys, hyl with
                      | [y], _ => exact ⟨y, rfl⟩
                    have := hone hl y (by simp)
                    show y.cells = [y]
                    cases y <;> first | rfl | (simp [one] at this)
              have hz : flat (z :: r) = cs ++ flat r := by simp [flat, hcs]
              refine ⟨by simp [a1], ?_, fun e he => ?_, fun u hu => ?_⟩
              · rw [hz, show flat (_ :: es') = ys ++ flat es' from by simp only [flat, List.flatMap_cons]; rw [hcell _ rfl]]
                exact absL_app hl a2
              · rcases List.mem_cons.1 he with he | he
                · rw [hcell e he, hyl, hlen]
                · exact a3 e he
              · rcases List.mem_cons.1 hu with rfl | hu
                · exact ⟨hj, by rw [← hcs, hlen]⟩
                · exact a4 u hu

theorem absL_lk {h : Heap} : ∀ {zc zy : List AV} {ids : List Nat}, absL h zc = some (zy, ids) → ∀ i ∈ ids, ∃ o, lk h i = some o := by
  intro zc
  induction zc with
  | nil => intro zy ids e i hi; cases e; simp at hi
  | cons c r ih =>
    intro zy ids e i hi
    unfold absL at e
    cases hx : absC h c with
    | none => simp [hx] at e
    | some p =>
      obtain ⟨y, i1⟩ := p
      simp only [hx] at e
      cases hr : absL h r with
      | none => simp [hr] at e
      | some q =>
        obtain ⟨ys', is⟩ := q
        simp only [hr, Option.some.injEq, Prod.mk.injEq] at e
        obtain ⟨_, rfl⟩ := e
        rcases List.mem_append.1 hi with hi | hi
        · unfold absC at hx
          split at hx
          · split at hx
            · rename_i hl; cases hx; simp at hi; subst hi; exact ⟨_, hl⟩
            · cases hx
          · cases hb : flat1 c || isSnil c with
            | false => rw [hb] at hx; cases hx
            | true => rw [hb] at hx; cases hx; simp at hi
        · exact ih hr i hi

/-- A literal of elements, which takes over the objects that they name. -/
theorem TL_buildSliceD {t E : TypeId} {n sz : Nat} {parts : Array (Nat × Operand)} {zs es : List AV} {ids : List Nat} (id : Nat) {zv : Value} {bz : Nat} (ht : tyElem P t = some (E, sz))
    (hz : tyZero P E = some (zv, sz, bz)) (hsz : Nat.blt 0 sz = true) (hp : aevP s 0 parts.toList = some zs) (hn : Nat.beq parts.toList.length n = true) (hab : absE h sz zs = some (es, ids))
    (hbig : Nat.ble (n * sz) 16777216 = true) (hnd : nodupL (id :: ids) = true) (hgF : ∀ j ∈ ids, lk F.η j = none)
    (hl : lk h id = none) (hks : killSL ids s = some s1) (hkh : killHL ids h = some h1) (hh : sput (dropH ids h1) id (.arr ⟨false, true⟩ sz E es) = some h') (hN : Nat.blt d N = true) (hs : sput s1 d (.ow id) = some s')
    (k : TL P F N ops rest K ⟨s', h'⟩) : TL P F N ops (⟨some d, .buildSlice t n parts, ty, pos, after, none⟩ :: rest) K ⟨s, h⟩ := by
  refine TL_val rfl (fun φ a w hr => ?_) k
  have hsz' : 0 < sz := Nat.le_of_ble_eq_true hsz
  have hbig' : n * sz ≤ 16777216 := Nat.le_of_ble_eq_true hbig
  have hn' : parts.toList.length = n := (beq_iff _ _).1 hn
  obtain ⟨p1, p2, p3⟩ := aevP_eq hp
  obtain ⟨e1, e2, e3, e4⟩ := absE_spec hsz' hab
  have hnd' := List.nodup_cons.1 (nodupL_spec hnd)
  have hrep : ∀ (i : Nat) e v, zs[i]? = some e → (parts.toList.map fun p => a.eval p.2)[i]? = some v → RepV (Stab F w φ h) w φ h e v ∧ isJunk e = false := by
    intro i e v he hv
    obtain ⟨p, hp1, hp2⟩ := p3 i e he
    rw [List.getElem?_map, hp1, Option.map_some, Option.some.injEq] at hv
    subst hv
    exact ⟨aev_rep hr hp2, (e4 e (List.mem_of_getElem? he)).1⟩
  have hpw := PW_flat (S := Stab F w φ h) (w := w) (φ := φ) (η := h) (es := zs) (vs := parts.toList.map fun p => a.eval p.2) (by rw [p1, List.length_map]) hrep
  have hvc : ∀ p ∈ parts.toList, (a.eval p.2).cells.size = sz := by
    intro p hpm
    obtain ⟨i, hi⟩ := List.getElem?_of_mem hpm
    have hlt := (List.getElem?_eq_some_iff.1 hi).1
    obtain ⟨e, he⟩ : ∃ e, zs[i]? = some e := ⟨zs[i]'(by rw [p1]; exact hlt), by simp⟩
    obtain ⟨r1, r2⟩ := hrep i e (a.eval p.2) he (by rw [List.getElem?_map, hi]; rfl)
    have := (r1.cells (cs := e.cells) (by cases e <;> rfl) (fun u hu => by subst hu; cases r2)).1
    rw [(e4 e (List.mem_of_getElem? he)).2] at this
    simpa using this.symm
  obtain ⟨C, hrun, hCl⟩ := run_buildSlice_vals (P := P) (d := d) (ty := ty) (pos := pos) (after := after) (w := w) (a := a) ht hz hn' p2 hbig' hvc
  obtain ⟨hyl, hyone, nf, hnl, hlin, hnnd, hnown⟩ := absL_rep hr.heap hpw e2 hnd'.2
  have hCs : C.size = n * sz := by
    rw [← Array.length_toList, hCl, ← hpw.1, ← hyl, flat_length e3, e1, p1, hn']
  obtain ⟨g1, g2, g3, g4⟩ := alloc_new w (.cells C E)
  obtain ⟨hHn, hH⟩ := killHL_spec hkh
  have hkS := killSL_spec hks
  have hrk : RelP F N ⟨s1, h1⟩ φ a w := hr.weaken (fun i x hx => (hkS i x hx).2) hHn (fun i o ho => (hH i o ho).2)
  have hl1 : lk h1 id = none := (hHn id).2 hl
  have hlk := lk_sput hh
  have hdrop := @lk_dropH ids h1
  have h1id : lk h' id = some (.arr ⟨false, true⟩ sz E es) := by rw [hlk, if_pos rfl]
  have hhh1 : ∀ {j o}, lk h j = some o → ∃ o', lk h1 j = some o' := fun {j o} e => by
    cases hq : lk h1 j with
    | none => rw [(hHn j).1 hq] at e; cases e
    | some o' => exact ⟨o', rfl⟩
  have hh1h : ∀ {j o}, lk h1 j = some o → ∃ o', lk h j = some o' := fun {j o} e => by obtain ⟨_, o', ho', _⟩ := hH j o e; exact ⟨o', ho'⟩
  have hSk : ∀ b, Stab F w φ h b → Stab F w φ h1 b := fun b hb => ⟨hb.1, hb.2.1, fun i o ho hm => by
    obtain ⟨o1, ho1⟩ := hh1h ho
    exact hb.2.2 i o1 ho1 hm⟩
  let l' : Loc := ⟨w.heap.size, n, true, ids.flatMap (fun i => (φ i).all), none, fun j => comps (C.getD j undef)⟩
  have hrel : RelP F N ⟨s1, h'⟩ (updLoc φ id l') a (w.alloc (.cells C E)) := by
    refine hrk.updX (fun j => j ∈ ids) h1id (fun j hj hg => by rw [hlk, if_neg (Ne.symm hj), hdrop, if_neg hg]) (fun j hj hg => by rw [hlk, if_neg (Ne.symm hj), hdrop, if_pos hg])
      (fun j hg => ⟨fun e => hnd'.1 (e ▸ hg), hgF j hg⟩) (updLoc_ne φ id _) g1 g2 (fun b hb _ => g3 b hb) (fun b hb => ?_) (fun o ho hne => ?_)
      (fun o ho => by rw [hl1] at ho; cases ho) (fun hS hw x v hx hv => ?_) (fun hS hw => ?_)
    · rw [updLoc_same] at hb
      rcases hb with ⟨_, hb⟩ | hb
      · have hb' : w.heap.size = b := hb
        exact .inl ⟨Nat.le_of_eq hb', by rw [← hb']; exact (Array.getElem?_eq_some_iff.1 g4).1⟩
      · obtain ⟨i, hi, hb⟩ := List.mem_flatMap.1 hb
        obtain ⟨o, ho⟩ := absL_lk e2 i hi
        obtain ⟨o', ho'⟩ := hhh1 ho
        exact .inr (.inr ⟨i, o', hi, ho', Loc.mem_all.1 hb⟩)
    · obtain ⟨o1, ho1, _⟩ := hr.keep id _ ho
      have ho1' : lk h id = some o1 := ho1
      rw [hl] at ho1'; cases ho1'
    · have hm : ∀ i ∈ ids, men i x = false := by
        rcases hx with ⟨i, hi⟩ | ⟨i, cs, _, hi, hxc⟩
        · exact (hkS i x hi).1
        · intro m hm; exact (hH i _ hi).1 cs rfl x hxc m hm
      have hne : ∀ {i o}, lk h1 i = some o → id ≠ i := fun {i o} ho e => by subst e; rw [hl1] at ho; cases ho
      have hv' : RepV (Stab F (w.alloc (.cells C E)) (updLoc φ id l') h') (w.alloc (.cells C E)) (updLoc φ id l') h' x v := by
        refine hv.ren (ρ := fun i j => i = j ∧ (fun k => ids.any fun i => Nat.beq i k) i = false) hS hw ?_ (men_ren (K := fun k => ids.any fun i => Nat.beq i k) x (fun k hk => hm k (any_beq.1 hk)))
        rintro i j ⟨rfl, hk⟩
        have hg : i ∉ ids := fun e => by have h2 := any_beq.2 e; rw [show (ids.any fun j => Nat.beq j i) = false from hk] at h2; cases h2
        refine ⟨fun o ho => updLoc_ne φ id _ i (Ne.symm (hne ho)), fun k sz E es ho => ⟨k, es, rfl, ?_⟩, fun cs ho => ⟨cs, ?_⟩⟩
        · rw [hlk, if_neg (hne ho), hdrop, if_neg hg]; exact ho
        · rw [hlk, if_neg (hne ho), hdrop, if_neg hg]; exact ho
      exact hv'
    · refine ⟨hsz', e3, fun j c hc => hyone c (List.mem_of_getElem? hc), .inr ⟨by rw [updLoc_same], C, by rw [updLoc_same]; exact g4, by rw [updLoc_same]; show es.length ≤ n; rw [e1, p1, hn']; exact Nat.le_refl _, by
        rw [updLoc_same]; show n ≤ maxLen
        have : n ≤ n * sz := Nat.le_mul_of_pos_right n hsz'
        simp only [maxLen]; omega, by rw [updLoc_same]; exact hCs, ?_⟩⟩
      rw [updLoc_same]
      have hold : CellsOK ⟨false, true⟩ (Stab F w φ h) w l' (flat es) C := by
        refine ⟨nf, hnl, fun j c v fp hc hv hp => hlin j c v fp hc (by rw [← hCl]; simpa using hv) hp, ?_, fun b hb => ?_, fun j c v hc hv hs => ?_⟩
        · rw [List.nodup_cons]
          refine ⟨fun hb => ?_, hnnd⟩
          obtain ⟨i, _, o, ho, hw⟩ := hnown _ hb
          have := hr.heap.ltO i o _ ho hw
          exact Nat.lt_irrefl _ this
        · obtain ⟨i, hi, o, ho, hw⟩ := hnown b hb
          exact List.mem_flatMap.2 ⟨i, hi, Loc.mem_all.2 hw⟩
        · have hp : nf[j]? = some (nf[j]'(by rw [hnl]; exact (List.getElem?_eq_some_iff.1 hc).1)) := by simp
          have hg : C.getD j undef = v := by simp [Array.getD_eq_getD_getElem?, hv]
          show v = .slice (comps (C.getD j undef)).1 (comps (C.getD j undef)).2.1 (comps (C.getD j undef)).2.2
          rw [hg]
          exact (hlin j c v _ hc (by rw [← hCl]; simpa using hv) hp).comps hs
      refine hold.mono (fun b hb => hS b (hSk b hb)) (fun b hb => hw b (hSk b hb)) (fun b hb _ => ?_) rfl
      obtain ⟨i, hi, hb⟩ := List.mem_flatMap.1 hb
      obtain ⟨o, ho⟩ := absL_lk e2 i hi
      exact g3 b (hr.heap.ltO i o b ho (Loc.mem_all.1 hb))
  refine ⟨_, _, (fun h => nomatch h), hrun, _, RelP.put hrel (Nat.le_of_ble_eq_true hN) hs ?_⟩
  have := RepV.ow (S := Stab F (w.alloc (.cells C E)) (updLoc φ id l') h') (w := w.alloc (.cells C E)) (φ := updLoc φ id l') h1id (by rw [updLoc_same])
  rw [updLoc_same] at this
  have e : (es.length : Nat) = n := by rw [e1, p1, hn']
  rw [e] at this
  exact this
end
end Go.AM
