import Derived.Test.YtkiapbiifhkaaaaGb
import Derived.MapKept
import Derived.WideKeyRuns
import Derived.Laws.BytesArg
import Derived.Below
import Derived.Laws.CopyRow
import Derived.Laws.Externs
import Derived.Deep.AppendSrc
import Derived.Lib.AppendZerosOnto
namespace Go.AM
open Go
section
variable {F : Fr} {N : Nat} {P : Program}
variable {ops : Array Oper} {rest : List Oper} {K : St → Prop} {ex : Bool}
variable {ty : TypeId} {pos : String} {after : Array Edge} {d id : Nat} {s s' s1 : Xb} {h h' h1 : Heap} {x y : Operand}
theorem run_buildSlice_vals {a : Act} {w : World} {t E : TypeId} {n sz bz : Nat} {zv : Value} {parts : Array (Nat × Operand)} (ht : tyElem P t = some (E, sz)) (hz : tyZero P E = some (zv, sz, bz))
    (hn : parts.toList.length = n) (hord : parts.toList.map (·.1) = List.range' 0 parts.toList.length) (hbig : n * sz ≤ 16777216) (hvc : ∀ p ∈ parts.toList, (a.eval p.2).cells.size = sz) :
    ∃ C : Array Value, (execOp a.eval ⟨some d, .buildSlice t n parts, ty, pos, after, none⟩).run P w = .ok (.value (.slice (some ⟨w.heap.size, 0, none⟩) n n)) (w.alloc (.cells C E)) ∧
      C.toList = (parts.toList.map fun p => a.eval p.2).flatMap (·.cells.toList) := by
  obtain ⟨hu, hsize⟩ := tyElem_inv ht
  let vs : List Value := parts.toList.map fun p => a.eval p.2
  have hvl : vs.length = n := by simp only [vs, List.length_map]; exact hn
  have hzip : (parts.map fun (i, x) => (i, a.eval x)).toList = (List.range' 0 vs.length).zip vs := by
    rw [hvl, ← hn, ← hord]
    rw [Array.toList_map]
    exact zip_parts (fun y => a.eval y) parts.toList
  have hvc' : ∀ v ∈ vs, v.cells.size = sz := by
    intro v hv
    obtain ⟨p, hp, rfl⟩ := List.mem_map.1 hv
    exact hvc p hp
  let Z : Array Value := (Array.range (n * sz)).map ((if n * sz = 0 then #[] else zv.cells)[· % (if n * sz = 0 then #[] else zv.cells).size]!)
  have hZ : Z.size = n * sz := by simp [Z]
  obtain ⟨C, hC, hCl⟩ := fill_ordered sz vs 0 Z (by rw [hZ, hvl, Nat.zero_add]; exact Nat.le_refl _) hvc'
  have hCl' : C.toList = vs.flatMap (·.cells.toList) := by
    rw [hCl]
    rw [List.drop_of_length_le (by rw [Array.length_toList, hZ, hvl]; simp)]
    simp
  refine ⟨C, ?_, hCl'⟩
  show (do pure (.value (← Instr.buildSlice t n (parts.map fun (i, x) => (i, a.eval x)))) : Sem Next).run P w = _
  unfold Instr.buildSlice
  simp only [Sem.run_bind, run_underlying hu, Result.andThen_ok, run_size hsize]
  rw [if_neg (by simp; omega)]
  rw [hzip]
  simp only [Z] at hC
  by_cases h0 : n * sz = 0
  · rw [if_pos h0] at hC ⊢
    simp only [Sem.run_bind, Sem.run_pure, Result.andThen_ok]
    rw [hC]
    rfl
  · rw [if_neg h0] at hC ⊢
    simp only [Sem.run_bind, Sem.run_pure, Result.andThen_ok, run_zero hz]
    rw [hC]
    rfl
def reE (ys : List AV) : AV → AV
  | .agg _ => .agg ys
  | _ => ys.headD .junk
def absE (h : Heap) (sz : Nat) : List AV → Option (List AV × List Nat)
  | [] => some ([], [])
  | e :: r => bif isJunk e then none else match cellsO e with
    | some cs => bif Nat.beq cs.length sz then match absL h cs with
      | some (ys, i) => match absE h sz r with
        | some (es, is) => some (reE ys e :: es, i ++ is)
        | none => none
      | none => none
      else none
    | none => none
theorem absL_app {h : Heap} : ∀ {a b ya yb : List AV} {ia ib : List Nat}, absL h a = some (ya, ia) → absL h b = some (yb, ib) → absL h (a ++ b) = some (ya ++ yb, ia ++ ib) := by
  intro a
  induction a with
  | nil => intro b ya yb ia ib ha hb; cases ha; simpa using hb
  | cons x r ih =>
    intro b ya yb ia ib ha hb
    unfold absL at ha
    cases hx : absC h x with
    | none => simp [hx] at ha
    | some p =>
      obtain ⟨y, i⟩ := p
      simp only [hx] at ha
      cases hr : absL h r with
      | none => simp [hr] at ha
      | some q =>
        obtain ⟨ys', is⟩ := q
        simp only [hr, Option.some.injEq, Prod.mk.injEq] at ha
        obtain ⟨rfl, rfl⟩ := ha
        rw [List.cons_append]
        unfold absL
        rw [hx]
        simp only [ih hr hb, List.cons_append, List.append_assoc]
theorem absL_len {h : Heap} : ∀ {a ya : List AV} {ia : List Nat}, absL h a = some (ya, ia) → ya.length = a.length := by
  intro a
  induction a with
  | nil => intro ya ia ha; cases ha; rfl
  | cons x r ih =>
    intro ya ia ha
    unfold absL at ha
    cases hx : absC h x with
    | none => simp [hx] at ha
    | some p =>
      obtain ⟨y, i⟩ := p
      simp only [hx] at ha
      cases hr : absL h r with
      | none => simp [hr] at ha
      | some q =>
        obtain ⟨ys', is⟩ := q
        simp only [hr, Option.some.injEq, Prod.mk.injEq] at ha
        obtain ⟨rfl, rfl⟩ := ha
        simp [ih hr]
theorem absE_spec {h : Heap} {sz : Nat} (hsz : 0 < sz) : ∀ {zs es : List AV} {ids : List Nat}, absE h sz zs = some (es, ids) →
    es.length = zs.length ∧ absL h (flat zs) = some (flat es, ids) ∧ (∀ e ∈ es, e.cells.length = sz) ∧ (∀ z ∈ zs, isJunk z = false ∧ z.cells.length = sz) := by
  intro zs
  induction zs with
  | nil => intro es ids h; cases h; exact ⟨rfl, rfl, fun e he => by simp at he, fun e he => by simp at he⟩
  | cons z r ih =>
    intro es ids hh
    unfold absE at hh
    cases hj : isJunk z with
    | true => simp [hj] at hh
    | false =>
      simp only [hj, cond_false] at hh
      cases hc : cellsO z with
      | none => simp [hc] at hh
      | some cs =>
        simp only [hc] at hh
        cases hb : Nat.beq cs.length sz with
        | false => simp [hb] at hh
        | true =>
          simp only [hb, cond_true] at hh
          cases hl : absL h cs with
          | none => simp [hl] at hh
          | some p =>
            obtain ⟨ys, i⟩ := p
            simp only [hl] at hh
            cases hr : absE h sz r with
            | none => simp [hr] at hh
            | some q =>
              obtain ⟨es', is⟩ := q
              simp only [hr, Option.some.injEq, Prod.mk.injEq] at hh
              obtain ⟨rfl, rfl⟩ := hh
              obtain ⟨a1, a2, a3, a4⟩ := ih hr
              have hcs := cellsO_eq hc
              have hlen := (beq_iff _ _).1 hb
              have hyl := absL_len hl
              have hone : ∀ {xs ys : List AV} {i : List Nat}, absL h xs = some (ys, i) → ∀ y ∈ ys, one y = true := by
                intro xs
                induction xs with
                | nil => intro ys i e y hy; cases e; simp at hy
                | cons x r ih =>
                  intro ys i e y hy
                  unfold absL at e
                  cases hx : absC h x with
                  | none => simp [hx] at e
                  | some p =>
                    obtain ⟨y0, i⟩ := p
                    simp only [hx] at e
                    cases hr : absL h r with
                    | none => simp [hr] at e
                    | some q =>
                      obtain ⟨ys', is⟩ := q
                      simp only [hr, Option.some.injEq, Prod.mk.injEq] at e
                      obtain ⟨rfl, rfl⟩ := e
                      rcases List.mem_cons.1 hy with rfl | hy
                      · exact absC_one hx
                      · exact ih hr y hy
              have hcell : ∀ (e : AV), e = reE ys z → e.cells = ys := by
                intro e he
                subst he
                cases z with
                | agg cs' => rfl
                | _ =>
                  all_goals
                    simp only [cellsO, Option.some.injEq] at hc
                    subst hc
                    obtain ⟨y, rfl⟩ : ∃ y, ys = [y] := by
                      match ys, hyl with
                      | [y], _ => exact ⟨y, rfl⟩
                    have := hone hl y (by simp)
                    show y.cells = [y]
                    cases y <;> first | rfl | (simp [one] at this)
              have hz : flat (z :: r) = cs ++ flat r := by simp [flat, hcs]
              refine ⟨by simp [a1], ?_, fun e he => ?_, fun u hu => ?_⟩
              · rw [hz, show flat (_ :: es') = ys ++ flat es' from by simp only [flat, List.flatMap_cons]; rw [hcell _ rfl]]
                exact absL_app hl a2
              · rcases List.mem_cons.1 he with he | he
                · rw [hcell e he, hyl, hlen]
                · exact a3 e he
              · rcases List.mem_cons.1 hu with rfl | hu
                · exact ⟨hj, by rw [← hcs, hlen]⟩
                · exact a4 u hu
theorem absL_lk {h : Heap} : ∀ {zc zy : List AV} {ids : List Nat}, absL h zc = some (zy, ids) → ∀ i ∈ ids, ∃ o, lk h i = some o := by
  intro zc
  induction zc with
  | nil => intro zy ids e i hi; cases e; simp at hi
  | cons c r ih =>
    intro zy ids e i hi
    unfold absL at e
    cases hx : absC h c with
    | none => simp [hx] at e
    | some p =>
      obtain ⟨y, i1⟩ := p
      simp only [hx] at e
      cases hr : absL h r with
      | none => simp [hr] at e
      | some q =>
        obtain ⟨ys', is⟩ := q
        simp only [hr, Option.some.injEq, Prod.mk.injEq] at e
        obtain ⟨_, rfl⟩ := e
        rcases List.mem_append.1 hi with hi | hi
        · unfold absC at hx
          split at hx
          · split at hx
            · rename_i hl; cases hx; simp at hi; subst hi; exact ⟨_, hl⟩
            · cases hx
          · cases hb : flat1 c || isSnil c with
            | false => rw [hb] at hx; cases hx
            | true => rw [hb] at hx; cases hx; simp at hi
        · exact ih hr i hi
theorem Q6 {t E : TypeId} {n sz : Nat} {parts : Array (Nat × Operand)} {zs es : List AV} {ids : List Nat} (id : Nat) {zv : Value} {bz : Nat} (ht : tyElem P t = some (E, sz))
    (hz : tyZero P E = some (zv, sz, bz)) (hsz : Nat.blt 0 sz = true) (hp : aevP s 0 parts.toList = some zs) (hn : Nat.beq parts.toList.length n = true) (hab : absE h sz zs = some (es, ids))
    (hbig : Nat.ble (n * sz) 16777216 = true) (hnd : nodupL (id :: ids) = true) (hgF : ∀ j ∈ ids, lk F.η j = none)
    (hl : lk h id = none) (hks : killSL ids s = some s1) (hkh : killHL ids h = some h1) (hh : sput (dropH ids h1) id (.arr ⟨false, true⟩ sz E es) = some h') (hN : Nat.blt d N = true) (hs : sput s1 d (.ow id) = some s')
    (k : TL P F N ops rest K ⟨s', h'⟩) : TL P F N ops (⟨some d, .buildSlice t n parts, ty, pos, after, none⟩ :: rest) K ⟨s, h⟩ := by
  refine TL_val rfl (fun φ a w hr => ?_) k
  have hsz' : 0 < sz := Nat.le_of_ble_eq_true hsz
  have hbig' : n * sz ≤ 16777216 := Nat.le_of_ble_eq_true hbig
  have hn' : parts.toList.length = n := (beq_iff _ _).1 hn
  obtain ⟨p1, p2, p3⟩ := aevP_eq hp
  obtain ⟨e1, e2, e3, e4⟩ := absE_spec hsz' hab
  have hnd' := List.nodup_cons.1 (nodupL_spec hnd)
  have hrep : ∀ (i : Nat) e v, zs[i]? = some e → (parts.toList.map fun p => a.eval p.2)[i]? = some v → RepV (Stab F w φ h) w φ h e v ∧ isJunk e = false := by
    intro i e v he hv
    obtain ⟨p, hp1, hp2⟩ := p3 i e he
    rw [List.getElem?_map, hp1, Option.map_some, Option.some.injEq] at hv
    subst hv
    exact ⟨aev_rep hr hp2, (e4 e (List.mem_of_getElem? he)).1⟩
  have hpw := PW_flat (S := Stab F w φ h) (w := w) (φ := φ) (η := h) (es := zs) (vs := parts.toList.map fun p => a.eval p.2) (by rw [p1, List.length_map]) hrep
  have hvc : ∀ p ∈ parts.toList, (a.eval p.2).cells.size = sz := by
    intro p hpm
    obtain ⟨i, hi⟩ := List.getElem?_of_mem hpm
    have hlt := (List.getElem?_eq_some_iff.1 hi).1
    obtain ⟨e, he⟩ : ∃ e, zs[i]? = some e := ⟨zs[i]'(by rw [p1]; exact hlt), by simp⟩
    obtain ⟨r1, r2⟩ := hrep i e (a.eval p.2) he (by rw [List.getElem?_map, hi]; rfl)
    have := (r1.cells (cs := e.cells) (by cases e <;> rfl) (fun u hu => by subst hu; cases r2)).1
    rw [(e4 e (List.mem_of_getElem? he)).2] at this
    simpa using this.symm
  obtain ⟨C, hrun, hCl⟩ := run_buildSlice_vals (P := P) (d := d) (ty := ty) (pos := pos) (after := after) (w := w) (a := a) ht hz hn' p2 hbig' hvc
  obtain ⟨hyl, hyone, nf, hnl, hlin, hnnd, hnown⟩ := absL_rep hr.heap hpw e2 hnd'.2
  have hCs : C.size = n * sz := by
    rw [← Array.length_toList, hCl, ← hpw.1, ← hyl, Xa e3, e1, p1, hn']
  obtain ⟨g1, g2, g3, g4⟩ := alloc_new w (.cells C E)
  obtain ⟨hHn, hH⟩ := killHL_spec hkh
  have hkS := killSL_spec hks
  have hrk : RelP F N ⟨s1, h1⟩ φ a w := hr.weaken (fun i x hx => (hkS i x hx).2) hHn (fun i o ho => (hH i o ho).2)
  have hl1 : lk h1 id = none := (hHn id).2 hl
  have hlk := lk_sput hh
  have hdrop := @lk_dropH ids h1
  have h1id : lk h' id = some (.arr ⟨false, true⟩ sz E es) := by rw [hlk, if_pos rfl]
  have hhh1 : ∀ {j o}, lk h j = some o → ∃ o', lk h1 j = some o' := fun {j o} e => by
    cases hq : lk h1 j with
    | none => rw [(hHn j).1 hq] at e; cases e
    | some o' => exact ⟨o', rfl⟩
  have hh1h : ∀ {j o}, lk h1 j = some o → ∃ o', lk h j = some o' := fun {j o} e => by obtain ⟨_, o', ho', _⟩ := hH j o e; exact ⟨o', ho'⟩
  have hSk : ∀ b, Stab F w φ h b → Stab F w φ h1 b := fun b hb => ⟨hb.1, hb.2.1, fun i o ho hm => by
    obtain ⟨o1, ho1⟩ := hh1h ho
    exact hb.2.2 i o1 ho1 hm⟩
  let l' : Loc := ⟨w.heap.size, n, true, ids.flatMap (fun i => (φ i).all), none, fun j => comps (C.getD j undef)⟩
  have hrel : RelP F N ⟨s1, h'⟩ (updLoc φ id l') a (w.alloc (.cells C E)) := by
    refine hrk.updX (fun j => j ∈ ids) h1id (fun j hj hg => by rw [hlk, if_neg (Ne.symm hj), hdrop, if_neg hg]) (fun j hj hg => by rw [hlk, if_neg (Ne.symm hj), hdrop, if_pos hg])
      (fun j hg => ⟨fun e => hnd'.1 (e ▸ hg), hgF j hg⟩) (updLoc_ne φ id _) g1 g2 (fun b hb _ => g3 b hb) (fun b hb => ?_) (fun o ho hne => ?_)
      (fun o ho => by rw [hl1] at ho; cases ho) (fun hS hw x v hx hv => ?_) (fun hS hw => ?_)
    · rw [Qu] at hb
      rcases hb with ⟨_, hb⟩ | hb
      · have hb' : w.heap.size = b := hb
        exact .inl ⟨Nat.le_of_eq hb', by rw [← hb']; exact (Array.getElem?_eq_some_iff.1 g4).1⟩
      · obtain ⟨i, hi, hb⟩ := List.mem_flatMap.1 hb
        obtain ⟨o, ho⟩ := absL_lk e2 i hi
        obtain ⟨o', ho'⟩ := hhh1 ho
        exact .inr (.inr ⟨i, o', hi, ho', Loc.mem_all.1 hb⟩)
    · obtain ⟨o1, ho1, _⟩ := hr.keep id _ ho
      have ho1' : lk h id = some o1 := ho1
      rw [hl] at ho1'; cases ho1'
    · have hm : ∀ i ∈ ids, men i x = false := by
        rcases hx with ⟨i, hi⟩ | ⟨i, cs, _, hi, hxc⟩
        · exact (hkS i x hi).1
        · intro m hm; exact (hH i _ hi).1 cs rfl x hxc m hm
      have hne : ∀ {i o}, lk h1 i = some o → id ≠ i := fun {i o} ho e => by subst e; rw [hl1] at ho; cases ho
      have hv' : RepV (Stab F (w.alloc (.cells C E)) (updLoc φ id l') h') (w.alloc (.cells C E)) (updLoc φ id l') h' x v := by
        refine hv.ren (ρ := fun i j => i = j ∧ (fun k => ids.any fun i => Nat.beq i k) i = false) hS hw ?_ (men_ren (K := fun k => ids.any fun i => Nat.beq i k) x (fun k hk => hm k (any_beq.1 hk)))
        rintro i j ⟨rfl, hk⟩
        have hg : i ∉ ids := fun e => by have h2 := any_beq.2 e; rw [show (ids.any fun j => Nat.beq j i) = false from hk] at h2; cases h2
        refine ⟨fun o ho => updLoc_ne φ id _ i (Ne.symm (hne ho)), fun k sz E es ho => ⟨k, es, rfl, ?_⟩, fun cs ho => ⟨cs, ?_⟩⟩
        · rw [hlk, if_neg (hne ho), hdrop, if_neg hg]; exact ho
        · rw [hlk, if_neg (hne ho), hdrop, if_neg hg]; exact ho
      exact hv'
    · refine ⟨hsz', e3, fun j c hc => hyone c (List.mem_of_getElem? hc), .inr ⟨by rw [Qu], C, by rw [Qu]; exact g4, by rw [Qu]; show es.length ≤ n; rw [e1, p1, hn']; exact Nat.le_refl _, by
        rw [Qu]; show n ≤ maxLen
        have : n ≤ n * sz := Nat.le_mul_of_pos_right n hsz'
        simp only [maxLen]; omega, by rw [Qu]; exact hCs, ?_⟩⟩
      rw [Qu]
      have hold : CellsOK ⟨false, true⟩ (Stab F w φ h) w l' (flat es) C := by
        refine ⟨nf, hnl, fun j c v fp hc hv hp => hlin j c v fp hc (by rw [← hCl]; simpa using hv) hp, ?_, fun b hb => ?_, fun j c v hc hv hs => ?_⟩
        · rw [List.nodup_cons]
          refine ⟨fun hb => ?_, hnnd⟩
          obtain ⟨i, _, o, ho, hw⟩ := hnown _ hb
          have := hr.heap.ltO i o _ ho hw
          exact Nat.lt_irrefl _ this
        · obtain ⟨i, hi, o, ho, hw⟩ := hnown b hb
          exact List.mem_flatMap.2 ⟨i, hi, Loc.mem_all.2 hw⟩
        · have hp : nf[j]? = some (nf[j]'(by rw [hnl]; exact (List.getElem?_eq_some_iff.1 hc).1)) := by simp
          have hg : C.getD j undef = v := by simp [Array.getD_eq_getD_getElem?, hv]
          show v = .slice (comps (C.getD j undef)).1 (comps (C.getD j undef)).2.1 (comps (C.getD j undef)).2.2
          rw [hg]
          exact (hlin j c v _ hc (by rw [← hCl]; simpa using hv) hp).comps hs
      refine hold.mono (fun b hb => hS b (hSk b hb)) (fun b hb => hw b (hSk b hb)) (fun b hb _ => ?_) rfl
      obtain ⟨i, hi, hb⟩ := List.mem_flatMap.1 hb
      obtain ⟨o, ho⟩ := absL_lk e2 i hi
      exact g3 b (hr.heap.ltO i o b ho (Loc.mem_all.1 hb))
  refine ⟨_, _, (fun h => nomatch h), hrun, _, RelP.put hrel (Nat.le_of_ble_eq_true hN) hs ?_⟩
  have := RepV.ow (S := Stab F (w.alloc (.cells C E)) (updLoc φ id l') h') (w := w.alloc (.cells C E)) (φ := updLoc φ id l') h1id (by rw [Qu])
  rw [Qu] at this
  have e : (es.length : Nat) = n := by rw [e1, p1, hn']
  rw [e] at this
  exact this
end
end Go.AM

namespace Go.AM
open Go
def nilLike : AV → Prop
  | .snil => True
  | .sl _ es => es = []
  | _ => False
def cR : AV → AV → Prop
  | .snil, y => nilLike y
  | x, y => flat1 x = true ∧ y = x
def cellsR : List AV → List AV → Prop
  | [], [] => True
  | x :: r, y :: s => cR x y ∧ cellsR r s
  | _, _ => False
structure ElR (es es' : List AV) : Prop where
  len : es'.length = es.length
  el : ∀ (i : Nat) e e', es[i]? = some e → es'[i]? = some e' → cellsR e.cells e'.cells
theorem ElR.map {α : Type} {f g : α → AV} (h : ∀ x, cellsR (f x).cells (g x).cells) (xs : List α) : ElR (xs.map f) (xs.map g) := by
  refine ⟨by simp, fun i e e' he he' => ?_⟩
  rw [List.getElem?_map] at he he'
  cases hx : xs[i]? with
  | none => rw [hx] at he; cases he
  | some x => rw [hx] at he he'; cases he; cases he'; exact h x
theorem ElR.rep {α : Type} {z : AV} {g : α → AV} {x : α} (h : cellsR z.cells (g x).cells) (n : Nat) : ElR (List.replicate n z) ((List.replicate n x).map g) := by
  refine ⟨by simp, fun i e e' he he' => ?_⟩
  have h1 := List.mem_of_getElem? he
  have h2 := List.mem_of_getElem? he'
  rw [(List.mem_replicate.1 h1).2]
  rw [List.map_replicate] at h2
  rw [(List.mem_replicate.1 h2).2]
  exact h
theorem ElR.nil : ElR [] [] := ⟨rfl, fun i e e' he => by simp at he⟩
theorem ElR.cons {e e' : AV} {es es' : List AV} (h : cellsR e.cells e'.cells) (k : ElR es es') : ElR (e :: es) (e' :: es') := by
  refine ⟨by simp [k.len], fun i a b ha hb => ?_⟩
  cases i with
  | zero => simp at ha hb; subst ha hb; exact h
  | succ i => simp at ha hb; exact k.el i a b ha hb
theorem cellsR_get : ∀ {a b : List AV}, cellsR a b → b.length = a.length ∧ ∀ (i : Nat) x y, a[i]? = some x → b[i]? = some y → cR x y := by
  intro a
  induction a with
  | nil => intro b h; cases b with
    | nil => exact ⟨rfl, fun i x y hx => by simp at hx⟩
    | cons y s => exact h.elim
  | cons x r ih =>
    intro b h
    cases b with
    | nil => exact h.elim
    | cons y s =>
      obtain ⟨h1, h2⟩ := ih h.2
      refine ⟨by simp [h1], fun i u v hu hv => ?_⟩
      cases i with
      | zero => simp at hu hv; subst hu hv; exact h.1
      | succ i => simp at hu hv; exact h2 i u v hu hv
theorem ElR.flat {es es' : List AV} {sz : Nat} (h : ElR es es') (hsz : 0 < sz) (hl : ∀ e ∈ es, e.cells.length = sz) :
    (∀ e ∈ es', e.cells.length = sz) ∧ ∀ (j : Nat) y, (AM.flat es')[j]? = some y → ∃ x, (AM.flat es)[j]? = some x ∧ cR x y := by
  have hl' : ∀ e ∈ es', e.cells.length = sz := by
    intro e' he'
    obtain ⟨i, hi⟩ := List.getElem?_of_mem he'
    have hlt := (List.getElem?_eq_some_iff.1 hi).1
    obtain ⟨e, he⟩ : ∃ e, es[i]? = some e := ⟨es[i]'(by rw [← h.len]; exact hlt), by simp⟩
    rw [(cellsR_get (h.el i e e' he hi)).1]
    exact hl e (List.mem_of_getElem? he)
  refine ⟨hl', fun j y hy => ?_⟩
  obtain ⟨q, r, e', rfl, hr, hq, he', hc⟩ := flat_get_inv hsz hl' hy
  obtain ⟨e, he⟩ : ∃ e, es[q]? = some e := ⟨es[q]'(by rw [← h.len]; exact hq), by simp⟩
  have hR := cellsR_get (h.el q e e' he he')
  have hrl : r < e.cells.length := by rw [hl e (List.mem_of_getElem? he)]; exact hr
  have hx : e.cells[r]? = some (e.cells[r]) := by simp [hrl]
  exact ⟨_, by rw [flat_get hl he hr]; exact hx, hR.2 r _ y hx hc⟩
theorem cR_one {x y : AV} (h : cR x y) (hx : one x = true) : one y = true := by
  cases x with
  | snil => cases y <;> first | rfl | exact h.elim
  | _ => first | (obtain ⟨_, rfl⟩ := h; exact hx)
section
variable {F : Fr} {N : Nat} {P : Program}
variable {ops : Array Oper} {l : List Oper} {K : St → Prop} {ex : Bool} {c : Code} {Q : Exit → St → Prop}
variable {id sz : Nat} {s : Xb} {h h' : Heap} {k k' : Kd} {E : TypeId} {es es' : List AV}
theorem RelP.reread {φ : Nat → Loc} {a : Act} {w : World} (hr : RelP F N ⟨s, h⟩ φ a w) (hF : lk F.η id = none) (hl : lk h id = some (.arr k sz E es)) (sv : Nat → Option Addr × Nat × Nat)
    (hns : (s.all (fun q => noSub id q.2) = true ∧ noSubH id h = true) ∨ sv = (φ id).sv)
    (hlen : es'.length = es.length) (hlens : ∀ e ∈ es', e.cells.length = sz) (hone : ∀ (j : Nat) x, (flat es')[j]? = some x → one x = true)
    (hcells : ∀ C, CellsOK k (Stab F w φ h) w (φ id) (flat es) C → (flat es).length ≤ C.size → CellsOK k' (Stab F w φ h) w { φ id with sv := sv } (flat es') C)
    (hh : sput h id (.arr k' sz E es') = some h') : Rel F N ⟨s, h'⟩ a w := by
  obtain ⟨hsz, hlens0, hones, hob⟩ := hr.heap.obj _ _ hl
  have hlk := lk_sput hh
  have hnoF : ∀ o, lk F.η id ≠ some o := fun o ho => by rw [hF] at ho; cases ho
  have h1id : lk h' id = some (.arr k' sz E es') := by rw [hlk, if_pos rfl]
  refine ⟨updLoc φ id { φ id with sv := sv }, ?_⟩
  have hbx : ∀ i cs, lk h i = some (.box cs) → ∃ cs', lk h' i = some (.box cs') := by
    intro i cs ho
    have hne : id ≠ i := fun e => by subst e; rw [hl] at ho; cases ho
    exact ⟨cs, by rw [hlk, if_neg hne]; exact ho⟩
  have har : ∀ i k2 sz2 E2 es2, lk h i = some (.arr k2 sz2 E2 es2) → ∃ k' es', es'.length = es2.length ∧ lk h' i = some (.arr k' sz2 E2 es') := by
    intro i k2 sz2 E2 es2 ho
    by_cases hii : id = i
    · subst hii
      rw [hl] at ho
      cases ho
      exact ⟨_, _, hlen, h1id⟩
    · exact ⟨k2, es2, rfl, by rw [hlk, if_neg hii]; exact ho⟩
  -- as 'upd' asks that the kind be kept, the relation is written out
  have hS : ∀ b, Stab F w φ h b → Stab F w (updLoc φ id { φ id with sv := sv }) h' b := by
    intro b hb
    refine ⟨hb.1, hb.2.1, fun i o ho hm => ?_⟩
    by_cases hi : id = i
    · subst hi; rw [Qu] at hm; exact hb.2.2 id _ hl hm
    · rw [updLoc_ne φ id _ i (Ne.symm hi)] at hm
      rw [hlk, if_neg hi] at ho
      exact hb.2.2 i o ho hm
  have hV : ∀ {x v}, ((∃ i, lk s i = some x) ∨ ∃ i cs, lk h i = some (.box cs) ∧ x ∈ cs) → RepV (Stab F w φ h) w φ h x v →
      RepV (Stab F w (updLoc φ id { φ id with sv := sv }) h') w (updLoc φ id { φ id with sv := sv }) h' x v := by
    intro x v hx hv
    rcases hns with ⟨n1, n2⟩ | hn
    · refine hv.move (id := id) (gone := fun _ => False) hS (fun _ _ => rfl) (fun i hi _ => updLoc_ne φ id _ i hi) (fun o ho _ => by rw [Qu]; exact ⟨rfl, rfl, rfl, rfl⟩) (fun i cs _ ho => hbx i cs ho)
        (fun i k2 sz2 E2 es2 _ ho => har i k2 sz2 E2 es2 ho) (fun _ h => h.elim) ?_
      rcases hx with ⟨i, hi⟩ | ⟨i, cs, hi, hxc⟩
      · exact lk_all (p := noSub id) n1 hi
      · exact noSubH_box n2 hi hxc
    · have hfe : updLoc φ id { φ id with sv := sv } = φ := by funext i; by_cases hi : i = id <;> simp [updLoc, hi, hn]
      rw [hfe] at hS ⊢
      exact hv.mono hS (fun _ _ => rfl) ⟨fun i cs ho _ => ⟨hbx i cs ho, rfl⟩, fun i k2 sz2 E2 es2 ho => by
        obtain ⟨k', es', q1, q2⟩ := har i k2 sz2 E2 es2 ho
        exact ⟨rfl, k', es', q1, q2⟩⟩
  have howns : ∀ i b, (updLoc φ id { φ id with sv := sv } i).owns b ↔ (φ i).owns b := by
    intro i b
    by_cases hi : i = id
    · subst hi; rw [Qu]; exact Iff.rfl
    · rw [updLoc_ne φ id _ i hi]
  have hold : ∀ i o, lk h' i = some o → ∃ o', lk h i = some o' := by
    intro i o ho
    by_cases hi : id = i
    · subst hi; exact ⟨_, hl⟩
    · rw [hlk, if_neg hi] at ho; exact ⟨o, ho⟩
  refine ⟨hr.size, hr.defers, hr.sys, hr.grow, ⟨fun i o ho => ?_, fun i j oi oj b hi hj hmi hmj => ?_, fun b hb => hb.1, fun i o b ho hm hst => hst.2.2 i o ho hm, fun i o b ho hm => ?_⟩,
    fun i x hx => ?_, fun i o b ho hm => ?_, fun i o hi hb => ?_, fun i o hi => ?_, hr.frame⟩
  · simp only at ho
    by_cases hi : id = i
    · subst hi
      rw [h1id] at ho
      cases ho
      refine ⟨hsz, hlens, hone, ?_⟩
      rw [Qu]
      rcases hob with ⟨hm, rfl⟩ | ⟨hm, C, hC, h1, h2, h3, h4⟩
      · exact .inl ⟨hm, List.eq_nil_of_length_eq_zero (by simpa using hlen)⟩
      · refine .inr ⟨hm, C, hC, by rw [hlen]; exact h1, h2, h3, (hcells C h4 ?_).mono hS (fun _ _ => rfl) (fun _ _ _ => rfl) rfl⟩
        rw [Xa hlens0, h3]; exact Nat.mul_le_mul_right _ h1
    · rw [hlk, if_neg hi] at ho
      have hok := hr.heap.obj i o ho
      cases o with
      | box cs =>
        obtain ⟨hm, C, E, hC, hsz, hrep⟩ := hok
        refine ⟨by rw [updLoc_ne φ id _ i (Ne.symm hi)]; exact hm, C, E, by rw [updLoc_ne φ id _ i (Ne.symm hi)]; exact hC, hsz, fun j x v hx hv => hV (.inr ⟨i, cs, ho, List.mem_of_getElem? hx⟩) (hrep j x v hx hv)⟩
      | arr k2 sz2 E2 es2 =>
        obtain ⟨q0, q1, q2, q3⟩ := hok
        refine ⟨q0, q1, q2, ?_⟩
        rw [updLoc_ne φ id _ i (Ne.symm hi)]
        rcases q3 with q3 | ⟨hm, C, hC, h1, h2, h3, h4⟩
        · exact .inl q3
        · exact .inr ⟨hm, C, hC, h1, h2, h3, h4.mono hS (fun _ _ => rfl) (fun _ _ _ => rfl) rfl⟩
  · obtain ⟨o1, ho1⟩ := hold i oi hi
    obtain ⟨o2, ho2⟩ := hold j oj hj
    exact hr.heap.injO i j o1 o2 b ho1 ho2 ((howns i b).1 hmi) ((howns j b).1 hmj)
  · obtain ⟨o1, ho1⟩ := hold i o ho
    exact hr.heap.ltO i o1 b ho1 ((howns i b).1 hm)
  · obtain ⟨v, hv, hrep⟩ := hr.slots i x hx
    exact ⟨v, hv, hV (.inl ⟨i, hx⟩) hrep⟩
  · obtain ⟨o1, ho1⟩ := hold i o ho
    exact hr.mine i o1 b ho1 ((howns i b).1 hm)
  · have hne : i ≠ id := fun e => by subst e; exact hnoF o hi
    rw [updLoc_ne φ id _ i hne]
    exact hr.fix i o hi hb
  · have hne : id ≠ i := fun e => by subst e; exact hnoF o hi
    obtain ⟨o', ho', hb⟩ := hr.keep i o hi
    exact ⟨o', by simp only; rw [hlk, if_neg hne]; exact ho', hb⟩
theorem RelP.deepen {p p' : Bool} {φ : Nat → Loc} {a : Act} {w : World} (hr : RelP F N ⟨s, h⟩ φ a w) (hF : lk F.η id = none) (hl : lk h id = some (.arr ⟨p, false⟩ sz E es)) (he : ElR es es')
    (hn1 : s.all (fun q => noSub id q.2) = true) (hn2 : noSubH id h = true) (hh : sput h id (.arr ⟨p', true⟩ sz E es') = some h') : Rel F N ⟨s, h'⟩ a w := by
  obtain ⟨hsz, hlens0, hones, hob⟩ := hr.heap.obj _ _ hl
  obtain ⟨h1, h2⟩ := he.flat hsz hlens0
  refine hr.reread hF hl (fun _ => (none, 0, 0)) (.inl ⟨hn1, hn2⟩) he.len h1 (fun j y hy => ?_) (fun C hC hle => ?_) hh
  · obtain ⟨x, hx, hR⟩ := h2 j y hy
    exact cR_one hR (hones j x hx)
  · have hC' := hC.trees rfl
    have key : ∀ (j : Nat) y v, (flat es')[j]? = some y → C[j]? = some v → LinT w y v [] ∧ (isSl y = true → v = .slice none 0 0) := by
      intro j y v hy hv
      obtain ⟨x, hx, hR⟩ := h2 j y hy
      have ht := hC' j x v hx hv
      cases x with
      | snil =>
        cases ht
        cases y with
        | snil => exact ⟨.snil, fun _ => rfl⟩
        | sl n es => have hR' : es = [] := hR; subst hR'; exact ⟨.sl0 _ _, fun _ => rfl⟩
        | _ => exact hR.elim
      | int _ _ => obtain ⟨_, rfl⟩ := hR; exact ⟨ht.lin rfl, fun h => by simp [isSl] at h⟩
      | bool _ => obtain ⟨_, rfl⟩ := hR; exact ⟨ht.lin rfl, fun h => by simp [isSl] at h⟩
      | str _ => obtain ⟨_, rfl⟩ := hR; exact ⟨ht.lin rfl, fun h => by simp [isSl] at h⟩
      | _ => obtain ⟨h3, _⟩ := hR; simp [flat1] at h3
    refine ⟨List.replicate (flat es').length [], by simp, fun j y v fp hy hv hp => ?_, ?_, fun b hb => by simp at hb, fun j y v hy hv hs => (key j y v hy hv).2 hs⟩
    · have := (List.mem_replicate.1 (List.mem_of_getElem? hp)).2
      subst this
      exact (key j y v hy hv).1
    · simp
theorem RelP.pin {k k' : Kd} {φ : Nat → Loc} {a : Act} {w : World} (hr : RelP F N ⟨s, h⟩ φ a w) (hF : lk F.η id = none) (hl : lk h id = some (.arr k sz E es)) (hd : k'.d = k.d)
    (hh : sput h id (.arr k' sz E es) = some h') : Rel F N ⟨s, h'⟩ a w := by
  obtain ⟨hsz, hlens0, hones, hob⟩ := hr.heap.obj _ _ hl
  refine hr.reread hF hl (φ id).sv (.inr rfl) rfl hlens0 hones (fun C hC hle => ?_) hh
  unfold CellsOK at *
  rw [hd]
  exact hC
theorem RelP.nils {p : Bool} {φ : Nat → Loc} {a : Act} {w : World} (hr : RelP F N ⟨s, h⟩ φ a w) (hF : lk F.η id = none) (hl : lk h id = some (.arr ⟨p, false⟩ sz E es)) (he : ElR es es')
    (hh : sput h id (.arr ⟨p, false⟩ sz E es') = some h') : Rel F N ⟨s, h'⟩ a w := by
  obtain ⟨hsz, hlens0, hones, hob⟩ := hr.heap.obj _ _ hl
  obtain ⟨h1, h2⟩ := he.flat hsz hlens0
  refine hr.reread hF hl (φ id).sv (.inr rfl) he.len h1 (fun j y hy => ?_) (fun C hC hle => CellsOK.ofTrees rfl fun j y v hy hv => ?_) hh
  · obtain ⟨x, hx, hR⟩ := h2 j y hy
    exact cR_one hR (hones j x hx)
  · obtain ⟨x, hx, hR⟩ := h2 j y hy
    have ht := hC.trees rfl j x v hx hv
    cases x with
    | snil =>
      cases ht
      cases y with
      | snil => exact .snil
      | sl n es => have hR' : es = [] := hR; subst hR'; exact .sl0 _ _ _ (fun _ => rfl)
      | _ => exact hR.elim
    | int _ _ => obtain ⟨_, rfl⟩ := hR; exact ht
    | bool _ => obtain ⟨_, rfl⟩ := hR; exact ht
    | str _ => obtain ⟨_, rfl⟩ := hR; exact ht
    | _ => obtain ⟨h3, _⟩ := hR; simp [flat1] at h3
theorem T_deepen (id : Nat) {p p' : Bool} (es' : List AV) (hF : lk F.η id = none) (hl : lk h id = some (.arr ⟨p, false⟩ sz E es)) (he : ElR es es')
    (hn1 : s.all (fun q => noSub id q.2) = true) (hn2 : noSubH id h = true) (hh : sput h id (.arr ⟨p', true⟩ sz E es') = some h') (q : T P F N c Q ⟨s, h'⟩) : T P F N c Q ⟨s, h⟩ := T_sub (fun _ _ _ hr => hr.deepen hF hl he hn1 hn2 hh) q
theorem TL_deepen (id : Nat) {p p' : Bool} (es' : List AV) (hF : lk F.η id = none) (hl : lk h id = some (.arr ⟨p, false⟩ sz E es)) (he : ElR es es')
    (hn1 : s.all (fun q => noSub id q.2) = true) (hn2 : noSubH id h = true) (hh : sput h id (.arr ⟨p', true⟩ sz E es') = some h') (q : TLE ex P F N ops l K ⟨s, h'⟩) : TLE ex P F N ops l K ⟨s, h⟩ := TL_sub (fun _ _ _ hr => hr.deepen hF hl he hn1 hn2 hh) q
theorem TL_pin (id : Nat) {k k' : Kd} (hF : lk F.η id = none) (hl : lk h id = some (.arr k sz E es)) (hd : k'.d = k.d)
    (hh : sput h id (.arr k' sz E es) = some h') (q : TLE ex P F N ops l K ⟨s, h'⟩) : TLE ex P F N ops l K ⟨s, h⟩ := TL_sub (fun _ _ _ hr => hr.pin hF hl hd hh) q
theorem TL_nils (id : Nat) {p : Bool} (es' : List AV) (hF : lk F.η id = none) (hl : lk h id = some (.arr ⟨p, false⟩ sz E es)) (he : ElR es es')
    (hh : sput h id (.arr ⟨p, false⟩ sz E es') = some h') (q : TLE ex P F N ops l K ⟨s, h'⟩) : TLE ex P F N ops l K ⟨s, h⟩ := TL_sub (fun _ _ _ hr => hr.nils hF hl he hh) q
end
end Go.AM

namespace Go.AM
open Go
section
variable {F : Fr} {N : Nat} {P : Program}
variable {ops : Array Oper} {rest : List Oper} {K : St → Prop}
variable {ty : TypeId} {pos : String} {after : Array Edge} {d id : Nat} {s s' : Xb} {h h' : Heap}
def ArgSub (id n : Nat) : List AV → List AV → Prop
  | [], [] => True
  | z :: r, x :: q => ((z = .sub id n ∧ x = .ow 0) ∨ (noIds z = true ∧ x = z)) ∧ ArgSub id n r q
  | _, _ => False
theorem ArgSub_get {id n : Nat} : ∀ {zs xs : List AV}, ArgSub id n zs xs → xs.length = zs.length ∧ ∀ (i : Nat) z x, zs[i]? = some z → xs[i]? = some x → (z = .sub id n ∧ x = .ow 0) ∨ (noIds z = true ∧ x = z) := by
  intro zs
  induction zs with
  | nil => intro xs h; cases xs with
    | nil => exact ⟨rfl, fun i z x hz => by simp at hz⟩
    | cons _ _ => exact h.elim
  | cons z r ih =>
    intro xs h
    cases xs with
    | nil => exact h.elim
    | cons x q =>
      obtain ⟨h1, h2⟩ := ih h.2
      refine ⟨by simp [h1], fun i a b ha hb => ?_⟩
      cases i with
      | zero => simp at ha hb; subst ha hb; exact h.1
      | succ i => simp at ha hb; exact h2 i a b ha hb
theorem flatV_tree {S S' : Nat → Prop} {w w' : World} {φ φ' : Nat → Loc} {h h' : Heap} {r : AV} {v : Value} (hf : flatV r = true) (hv : RepV S w φ h r v) : RepV S' w' φ' h' r v :=
  .pure (flatV_rep hf hv)
theorem RelP.callSub {f : FuncId} {n sz sz' i j : Nat} {p : Bool} {E : TypeId} {es ec es1 es2 : List AV} {e e' : AV} {zs xs : List AV} {r : AV} {φ : Nat → Loc} {a : Act} {w : World} {vs : Array Value}
    (hr : RelP F N ⟨s, h⟩ φ a w) (hsz' : 0 < sz') (hl : lk h id = some (.arr ⟨p, true⟩ sz E es)) (he : es[i]? = some e) (hec : cellsO e = some ec) (hej : ec[j]? = some (.sl sz' es1)) (hn : n = i * sz + j)
    (hc : ∀ E', ACallF F P f xs [(0, .arr ⟨true, true⟩ sz' E' es1)] r [(0, .arr ⟨true, true⟩ sz' E' es2)]) (hvs : PW (Stab F w φ h) w φ h zs vs.toList) (hxs : ArgSub id n zs xs) (hf : flatV r = true)
    (hec' : e'.cells = ec.set j (.sl sz' es2)) (hh : sput h id (.arr ⟨p, true⟩ sz E (es.set i e')) = some h') :
    Calls P f vs w fun en w' => ∃ v, en = .returned v ∧ RelP F N ⟨s, h'⟩ φ a w' ∧ RepV (Stab F w' φ h') w' φ h' r v := by
  subst hn
  obtain rfl := cellsO_eq hec
  obtain ⟨hsz, hlens, hones, hob⟩ := hr.heap.obj _ _ hl
  have hek : e.cells.length = sz := hlens e (List.mem_of_getElem? he)
  have hjs : j < sz := by rw [← hek]; exact (List.getElem?_eq_some_iff.1 hej).1
  have hi := (List.getElem?_eq_some_iff.1 he).1
  rcases hob with ⟨_, rfl⟩ | ⟨hm, C, hC, hle, hcm, hCs, hrep⟩
  · simp at he
  obtain ⟨fps, f1, f2, f3, f4, f5⟩ := (show CellsOK ⟨p, true⟩ (Stab F w φ h) w (φ id) (flat es) C from hrep)
  have hfe := Xa hlens
  have hin : i * sz + sz ≤ es.length * sz := by rw [← Nat.succ_mul]; exact Nat.mul_le_mul_right _ hi
  have hflat : (flat es)[i * sz + j]? = some (.sl sz' es1) := by rw [flat_get hlens he hjs]; exact hej
  have hlt : i * sz + j < C.size := by
    have : es.length * sz ≤ C.size := by rw [hCs]; exact Nat.mul_le_mul_right _ hle
    omega
  obtain ⟨v0, hv0⟩ : ∃ v0, C[i * sz + j]? = some v0 := ⟨C[i * sz + j], by simp [hlt]⟩
  obtain ⟨fp, hfp⟩ : ∃ fp, fps[i * sz + j]? = some fp := ⟨fps[i * sz + j]'(by rw [f1, hfe]; omega), by simp⟩
  have hlin := f2 _ _ _ _ hflat hv0 hfp
  have hsv := f5 _ _ _ hflat hv0 rfl
  have hfpm : ∀ b ∈ fp, b ∈ fps.flatten := fun b hb => List.mem_flatten.2 ⟨fp, List.mem_of_getElem? hfp, hb⟩
  obtain ⟨hroot, hnd⟩ := List.nodup_cons.1 f3
  -- the other cells' blocks are others
  have hothers : ∀ (q : Nat) fq, q ≠ i * sz + j → fps[q]? = some fq → ∀ b ∈ fq, b ∉ fp := by
    intro q fq hq hfq b hb hb2
    rw [List.Nodup, List.pairwise_flatten] at hnd
    have hpw := List.pairwise_iff_getElem.1 hnd.2
    have hq1 := (List.getElem?_eq_some_iff.1 hfq)
    have hq2 := (List.getElem?_eq_some_iff.1 hfp)
    obtain ⟨l1, e1⟩ := hq1
    obtain ⟨l2, e2⟩ := hq2
    rcases Nat.lt_or_gt_of_ne hq with hlt | hgt
    · exact hpw q (i * sz + j) l1 l2 hlt b (by rw [e1]; exact hb) b (by rw [e2]; exact hb2) rfl
    · exact hpw (i * sz + j) q l2 l1 hgt b (by rw [e2]; exact hb2) b (by rw [e1]; exact hb) rfl
  -- the callee's object
  have hloc : ∃ (E' : TypeId) (l0 : Loc), ObjOK (Stab F w φ h) w (fun _ => l0) [(0, .arr ⟨true, true⟩ sz' E' es1)] 0 (.arr ⟨true, true⟩ sz' E' es1) ∧ (∀ b, l0.owns b → b ∈ fp) ∧
      ((l0.mat = true ∧ v0 = .slice (some ⟨l0.blk, 0, none⟩) es1.length l0.cap) ∨ (l0.mat = false ∧ es1 = [] ∧ v0 = .slice l0.va 0 0)) ∧
      (∀ (w' : World) (S' : Nat → Prop) (es2 : List AV), es2.length = es1.length → ObjOK S' w' (fun _ => l0) [(0, .arr ⟨true, true⟩ sz' E' es2)] 0 (.arr ⟨true, true⟩ sz' E' es2) → ∃ fp', LinT w' (.sl sz' es2) v0 fp' ∧ fp'.Nodup ∧ ∀ b ∈ fp', b ∈ fp) := by
    have hnfp : fp.Nodup := by
      rw [List.Nodup, List.pairwise_flatten] at hnd
      exact hnd.1 fp (List.mem_of_getElem? hfp)
    cases hlin with
    | sl0 _ a0 =>
      refine ⟨0, ⟨0, 0, false, [], a0, fun _ => (none, 0, 0)⟩, ⟨hsz', fun e he => by simp at he, fun j x hx => by simp [flat] at hx, .inl ⟨rfl, rfl⟩⟩, fun b hb => ?_, .inr ⟨rfl, rfl, rfl⟩, fun w' S' es2 hl2 _ => ?_⟩
      · rcases hb with ⟨hb, _⟩ | hb
        · cases hb
        · simp at hb
      · have : es2 = [] := List.eq_nil_of_length_eq_zero (by simpa using hl2)
        subst this
        exact ⟨[], .sl0 _ _, by simp, fun b hb => by simp at hb⟩
    | sl _ _ b cap C1 E1 fps1 g2 g3 g4 g5 g6 g7 g8 g9 g10 =>
      refine ⟨E1, ⟨b, cap, true, fps1.flatten, none, fun j => comps (C1.getD j undef)⟩, ⟨g6, g7, g8, .inr ⟨rfl, C1, g2, g4, g5, g3, fps1, g9, g10, hnfp, fun b hb => hb, fun j x v hx hv hs => ?_⟩⟩, fun c hc => ?_,
        .inl ⟨rfl, rfl⟩, fun w' S' es2 hl2 hok => ?_⟩
      · have hp : fps1[j]? = some (fps1[j]'(by rw [g9]; exact (List.getElem?_eq_some_iff.1 hx).1)) := by simp
        have hg : C1.getD j undef = v := by simp [Array.getD_eq_getD_getElem?, hv]
        show v = .slice (comps (C1.getD j undef)).1 (comps (C1.getD j undef)).2.1 (comps (C1.getD j undef)).2.2
        rw [hg]
        exact (g10 j x v _ hx hv hp).comps hs
      · rcases hc with ⟨_, hc⟩ | hc
        · exact List.mem_cons.2 (.inl hc.symm)
        · exact List.mem_cons.2 (.inr hc)
      · obtain ⟨k1, k2, k3, k4⟩ := hok
        rcases k4 with ⟨hf, _⟩ | ⟨_, C2, hC2, k5, k6, k7, k8⟩
        · cases hf
        · obtain ⟨fps2, m1, m2, m3, m4, _⟩ := (show CellsOK ⟨true, true⟩ S' w' _ (flat es2) C2 from k8)
          rw [← hl2]
          exact ⟨_, .sl sz' es2 b cap C2 E1 fps2 hC2 k7 k5 k6 k1 k2 k3 m1 m2, m3, fun c hc => by
            rcases List.mem_cons.1 hc with hc | hc
            · exact List.mem_cons.2 (.inl hc)
            · exact List.mem_cons.2 (.inr (m4 c hc))⟩
  obtain ⟨E', l0, hob0, hown0, hval0, hback⟩ := hloc
  have hown : ∀ b, l0.owns b → (φ id).owns b := fun b hb => .inr (f4 b (hfpm b (hown0 b hb)))
  have hHc : HeapOK (Stab F w φ h) w (fun _ => l0) [(0, .arr ⟨true, true⟩ sz' E' es1)] := by
    refine ⟨fun k o ho => ?_, fun k k' o o' b ho ho' _ _ => ?_, fun b hb => hb.1, fun k o b ho hm hst => hst.2.2 id _ hl (hown b hm), fun k o b ho hm => hr.heap.ltO id _ b hl (hown b hm)⟩
    · rw [Q7] at ho
      split at ho
      · rename_i hk; subst hk; cases ho; exact hob0
      · cases ho
    · rw [Q7] at ho ho'
      split at ho
      · rename_i hk; subst hk
        split at ho'
        · rename_i hk'; exact hk'
        · cases ho'
      · cases ho
  obtain ⟨hxl, hxr⟩ := ArgSub_get hxs
  have hargs : PW (Stab F w φ h) w (fun _ => l0) [(0, .arr ⟨true, true⟩ sz' E' es1)] xs vs.toList := by
    refine ⟨by rw [hxl]; exact hvs.1, fun q x v hx hv => ?_⟩
    obtain ⟨z, hz⟩ : ∃ z, zs[q]? = some z := ⟨zs[q]'(by rw [← hxl]; exact (List.getElem?_eq_some_iff.1 hx).1), by simp⟩
    have hrz := hvs.2 q z v hz hv
    rcases hxr q z x hz hx with ⟨rfl, rfl⟩ | ⟨hno, rfl⟩
    · have hveq : v = v0 := by
        cases hrz with
        | pure h => cases h
        | sub _ => exact hsv.symm
      subst hveq
      rcases hval0 with ⟨hm0, e0⟩ | ⟨hm0, rfl, e0⟩
      · rw [e0]; exact .ow (by rw [Q7, if_pos rfl]) hm0
      · rw [e0]; exact .ow0 (by rw [Q7, if_pos rfl]) hm0
    · exact .pure (hrz.tree hno)
  refine (hc E' w (Stab F w φ h) (fun _ => l0) vs hr.keeps hHc hargs).mono ?_
  rintro en w' ⟨v, φ', rfl, hret⟩
  refine ⟨v, rfl, ?_, flatV_tree hf hret.val⟩
  -- the object of the callee's, afterwards
  have hl0 : lk [((0 : Nat), AO.arr ⟨true, true⟩ sz' E' es1)] 0 = some (.arr ⟨true, true⟩ sz' E' es1) := by rw [Q7, if_pos rfl]
  have hl0' : lk [((0 : Nat), AO.arr ⟨true, true⟩ sz' E' es2)] 0 = some (.arr ⟨true, true⟩ sz' E' es2) := by rw [Q7, if_pos rfl]
  have hφ0 : φ' 0 = l0 := hret.fix 0 _ hl0 (by simp [AO.isBox])
  have hlen2 : es2.length = es1.length := by
    obtain ⟨o', ho', hal⟩ := hret.keep 0 _ hl0
    rw [hl0'] at ho'
    cases ho'
    exact (hal.2 rfl).2.2
  have hobj' : ObjOK (Stab ⟨w, Stab F w φ h, fun _ => l0, [(0, .arr ⟨true, true⟩ sz' E' es1)]⟩ w' φ' [(0, .arr ⟨true, true⟩ sz' E' es2)]) w' (fun _ => l0) [(0, .arr ⟨true, true⟩ sz' E' es2)] 0 (.arr ⟨true, true⟩ sz' E' es2) := by
    have := hret.heap.obj 0 _ hl0'
    obtain ⟨k1, k2, k3, k4⟩ := this
    rw [hφ0] at k4
    exact ⟨k1, k2, k3, k4⟩
  obtain ⟨fp', hlin', hnd', hsub'⟩ := hback w' _ es2 hlen2 hobj'
  have hframe : ∀ b, b < w.heap.size → b ∉ fp → w'.heap[b]? = w.heap[b]? := by
    intro b hb hnb
    refine hret.frame b hb ?_
    rintro ⟨k, o, ho, hw⟩
    exact hnb (hown0 b hw)
  have hlk := lk_sput hh
  have hal : headsAlike φ φ h h' := by
    refine ⟨fun q cs1 hq _ => ?_, fun q k1 sz1 E1 es1 hq => ⟨rfl, ?_⟩⟩
    · have hid : id ≠ q := fun e => by subst e; rw [hl] at hq; cases hq
      exact ⟨⟨cs1, by rw [hlk, if_neg hid]; exact hq⟩, rfl⟩
    · by_cases hid : id = q
      · subst hid
        rw [hl] at hq
        cases hq
        exact ⟨_, _, List.length_set, by rw [hlk, if_pos rfl]⟩
      · exact ⟨k1, es1, rfl, by rw [hlk, if_neg hid]; exact hq⟩
  have he'k : e'.cells.length = sz := by rw [hec']; simp [hek]
  refine hr.upd hh (fun _ _ => rfl) hret.sys hret.grow (fun b hb hno => hframe b hb (fun hbf => hno _ hl (.inr (f4 b (hfpm b hbf))))) (fun b hbo => .inr ⟨_, hl, hbo⟩) (fun o1 h1 h2 => hr.fix id o1 h1 h2)
    (fun o ho => by rw [hl] at ho; cases ho; exact ⟨rfl, fun _ => ⟨rfl, rfl, by simp⟩⟩) (fun hS hw x v _ hv => hv.mono hS hw hal) (fun hS hw => ?_)
  have hlens' : ∀ u ∈ es.set i e', u.cells.length = sz := by
    intro u hu
    rcases List.mem_or_eq_of_mem_set hu with hu | rfl
    · exact hlens u hu
    · exact he'k
  -- the cells of the new row
  have hcell : ∀ (q : Nat) c, (flat (es.set i e'))[q]? = some c → (q = i * sz + j ∧ c = .sl sz' es2) ∨ (q ≠ i * sz + j ∧ (flat es)[q]? = some c) := by
    intro q c hq
    obtain ⟨q1, r1, u, rfl, hr1, hq1, hu, hcu⟩ := flat_get_inv hsz hlens' hq
    rw [List.length_set] at hq1
    by_cases hqi : i = q1
    · subst hqi
      rw [List.getElem?_set_self hi] at hu
      cases hu
      rw [hec', List.getElem?_set] at hcu
      split at hcu
      · rename_i hjr; subst hjr
        split at hcu
        · cases hcu; exact .inl ⟨rfl, rfl⟩
        · cases hcu
      · rename_i hjr
        exact .inr ⟨by omega, by rw [flat_get hlens he hr1]; exact hcu⟩
    · rw [List.getElem?_set_ne hqi] at hu
      refine .inr ⟨fun e => ?_, by rw [flat_get hlens hu hr1]; exact hcu⟩
      have h1 : (q1 * sz + r1) / sz = q1 := by rw [Nat.mul_comm, Nat.mul_add_div hsz, Nat.div_eq_of_lt hr1]; omega
      have h2 : (i * sz + j) / sz = i := by rw [Nat.mul_comm, Nat.mul_add_div hsz, Nat.div_eq_of_lt hjs]; omega
      rw [e, h2] at h1
      exact hqi h1
  have hrootw : w'.heap[(φ id).blk]? = w.heap[(φ id).blk]? := hframe _ (hr.heap.ltB hl hm) (fun hb => hroot (hfpm _ hb))
  refine ⟨hsz, hlens', fun q c hq => ?_, .inr ⟨hm, C, by rw [hrootw]; exact hC, by simpa using hle, hcm, hCs, ?_⟩⟩
  · rcases hcell q c hq with ⟨_, rfl⟩ | ⟨_, hq'⟩
    · rfl
    · exact hones q c hq'
  · refine ⟨fps.set (i * sz + j) fp', ?_, fun q c u fq hc hu hfq => ?_, ?_, fun b hb => ?_, fun q c u hc hu hs => ?_⟩
    · rw [List.length_set, f1, Xa hlens', List.length_set, hfe]
    · rcases hcell q c hc with ⟨rfl, rfl⟩ | ⟨hne, hq'⟩
      · rw [List.getElem?_set_self (by rw [f1, hfe]; omega)] at hfq
        cases hfq
        rw [hv0] at hu
        cases hu
        exact hlin'
      · rw [List.getElem?_set_ne (Ne.symm hne)] at hfq
        refine (f2 q c u fq hq' hu hfq).mono (fun b hb => hframe b (hr.heap.ltO id _ b hl (.inr (f4 b (List.mem_flatten.2 ⟨fq, List.mem_of_getElem? hfq, hb⟩)))) (hothers q fq hne hfq b hb))
    · -- no block twice
      have hsubm : ∀ b, b ∈ (fps.set (i * sz + j) fp').flatten → b ∈ fps.flatten := by
        intro b hb
        obtain ⟨l, h1, h2⟩ := List.mem_flatten.1 hb
        rcases List.mem_or_eq_of_mem_set h1 with h1 | rfl
        · exact List.mem_flatten.2 ⟨l, h1, h2⟩
        · exact hfpm b (hsub' b h2)
      rw [List.nodup_cons]
      refine ⟨fun hb => hroot (hsubm _ hb), ?_⟩
      have hnd0 := hnd
      rw [List.Nodup, List.pairwise_flatten] at hnd ⊢
      refine ⟨fun l hl => ?_, List.pairwise_iff_getElem.2 (fun q1 q2 l1 l2 hq => ?_)⟩
      · rcases List.mem_or_eq_of_mem_set hl with hl | rfl
        · exact hnd.1 l hl
        · exact hnd'
      · have hpw := List.pairwise_iff_getElem.1 hnd.2
        rw [List.length_set] at l1 l2
        intro b hb c hc e
        subst e
        rw [List.getElem_set] at hb hc
        split at hb
        · rename_i hq1; subst hq1
          rw [if_neg (by omega)] at hc
          exact hothers q2 _ (by omega) (List.getElem?_eq_getElem l2) b hc (hsub' b hb)
        · split at hc
          · rename_i hq2; subst hq2
            exact hothers q1 _ (by omega) (List.getElem?_eq_getElem l1) b hb (hsub' b hc)
          · exact hpw q1 q2 l1 l2 hq b hb b hc rfl
    · obtain ⟨l, h1, h2⟩ := List.mem_flatten.1 hb
      rcases List.mem_or_eq_of_mem_set h1 with h1 | rfl
      · exact f4 b (List.mem_flatten.2 ⟨l, h1, h2⟩)
      · exact f4 b (hfpm b (hsub' b h2))
    · rcases hcell q c hc with ⟨rfl, rfl⟩ | ⟨hne, hq'⟩
      · rw [hv0] at hu; cases hu; exact hsv
      · exact f5 q c u hq' hu hs
theorem TL_callSub {f : FuncId} {args : Array Operand} {tys : Array TypeId} {n sz sz' i j : Nat} {p : Bool} {E : TypeId} {es es' ec ec' es1 es2 : List AV} {e e' : AV} {zs xs : List AV} {r : AV}
    (hc : ∀ E', ACallF F P f xs [(0, .arr ⟨true, true⟩ sz' E' es1)] r [(0, .arr ⟨true, true⟩ sz' E' es2)]) (hcall : ∀ args w, (callFunc f args).run P w = .ok (.enter f args) w)
    (hz : aevL s args.toList = some zs) (hl : lk h id = some (.arr ⟨p, true⟩ sz E es)) (he : es[i]? = some e) (hec : cellsO e = some ec) (hej : ec[j]? = some (.sl sz' es1)) (hn : n = i * sz + j)
    (hsz' : Nat.blt 0 sz' = true) (hxs : ArgSub id n zs xs) (hf : flatV r = true) (hec' : cellsO e' = some ec') (hecj : ec' = ec.set j (.sl sz' es2)) (hes : es' = es.set i e')
    (hh : sput h id (.arr ⟨p, true⟩ sz E es') = some h') (hN : Nat.blt d N = true) (hs : sput s d r = some s')
    (k : TL P F N ops rest K ⟨s', h'⟩) : TL P F N ops (⟨some d, .call ⟨.value (.func f), args, tys⟩, ty, pos, after, none⟩ :: rest) K ⟨s, h⟩ := by
  refine TL_enter (vs := fun a => args.map a.eval) rfl (fun φ a w hr => exec_call rfl rfl hcall) (fun φ a w hr => ?_) k
  subst hes
  obtain ⟨g1, g2⟩ := aevL_rep (fun y z hy => aev_rep hr hy) hz
  refine (hr.callSub (Nat.le_of_ble_eq_true hsz') hl he hec hej hn hc ⟨by rw [g1, Array.length_toList], fun i x v hx hv => g2 i x v hx (by simpa using hv)⟩ hxs hf (by rw [← cellsO_eq hec', hecj]) hh).mono ?_
  rintro en w' ⟨v, rfl, hr2, hv⟩
  exact ⟨v, rfl, ⟨φ, hr2.put (Nat.le_of_ble_eq_true hN) hs hv⟩, fun h => nomatch h⟩
end
end Go.AM


namespace Go.AM
inductive Ctl (σ τ : Type) where
  | next (s : σ)
  | out (t : τ)
def forL {α σ τ : Type} (step : Nat → α → σ → Option (Ctl σ τ)) (fin : σ → τ) : Nat → List α → σ → Option τ
  | _, [], s => some (fin s)
  | n, x :: r, s => match step n x s with
    | none => none
    | some (.next s') => forL step fin (n + 1) r s'
    | some (.out t) => some t
def iterN {σ τ : Type} (step : σ → Option (Ctl σ τ)) : Nat → σ → Option τ
  | 0, _ => none
  | n + 1, s => match step s with
    | none => none
    | some (.next s') => iterN step n s'
    | some (.out t) => some t
theorem iterN_mono {σ τ : Type} {step : σ → Option (Ctl σ τ)} : ∀ {n m : Nat} {s : σ} {t : τ}, n ≤ m → iterN step n s = some t → iterN step m s = some t := by
  intro n
  induction n with
  | zero => intro m s t _ h; cases h
  | succ n ih =>
    intro m s t hm h
    obtain ⟨k, rfl⟩ : ∃ k, m = k + 1 := ⟨m - 1, by omega⟩
    unfold iterN at h ⊢
    cases hs : step s with
    | none => rw [hs] at h; cases h
    | some c =>
      rw [hs] at h
      cases c with
      | next s' => exact ih (by omega) h
      | out t' => exact h
open Classical in
noncomputable def iter {σ τ : Type} (step : σ → Option (Ctl σ τ)) (s : σ) : Option τ :=
  if h : ∃ t, ∃ n, iterN step n s = some t then some (Classical.choose h) else none
theorem iter_iff {σ τ : Type} {step : σ → Option (Ctl σ τ)} {s : σ} {t : τ} : iter step s = some t ↔ ∃ n, iterN step n s = some t := by
  unfold iter
  constructor
  · intro h
    split at h
    · rename_i hex
      cases h
      exact Classical.choose_spec hex
    · cases h
  · rintro ⟨n, hn⟩
    have hex : ∃ t, ∃ n, iterN step n s = some t := ⟨t, n, hn⟩
    rw [dif_pos hex]
    obtain ⟨m, hm⟩ := Classical.choose_spec hex
    have h1 := iterN_mono (Nat.le_max_left n m) hn
    have h2 := iterN_mono (Nat.le_max_right n m) hm
    rw [h1] at h2
    exact congrArg some (Option.some.inj h2).symm
theorem iter_next {σ τ : Type} {step : σ → Option (Ctl σ τ)} {s s' : σ} (h : step s = some (.next s')) : iter step s = iter step s' := by
  have key : ∀ t, iter step s = some t ↔ iter step s' = some t := by
    intro t
    rw [iter_iff, iter_iff]
    constructor
    · rintro ⟨n, hn⟩
      cases n with
      | zero => cases hn
      | succ n => unfold iterN at hn; rw [h] at hn; exact ⟨n, hn⟩
    · rintro ⟨n, hn⟩
      exact ⟨n + 1, by unfold iterN; rw [h]; exact hn⟩
  cases h1 : iter step s with
  | some t => exact ((key t).1 h1).symm
  | none =>
    cases h2 : iter step s' with
    | none => rfl
    | some t => rw [(key t).2 h2] at h1; cases h1
theorem iter_out {σ τ : Type} {step : σ → Option (Ctl σ τ)} {s : σ} {t : τ} (h : step s = some (.out t)) : iter step s = some t :=
  iter_iff.2 ⟨1, by unfold iterN; rw [h]⟩
theorem iter_none {σ τ : Type} {step : σ → Option (Ctl σ τ)} {s : σ} (h : step s = none) : iter step s = none := by
  cases h1 : iter step s with
  | none => rfl
  | some t =>
    obtain ⟨n, hn⟩ := iter_iff.1 h1
    cases n with
    | zero => cases hn
    | succ n => unfold iterN at hn; rw [h] at hn; cases hn
theorem Qw {α β : Type} {m : Option α} {f : α → Option β} {r : β} (h : m.bind f = some r) : ∃ a, m = some a ∧ f a = some r := by
  cases m with
  | none => cases h
  | some a => exact ⟨a, rfl, h⟩
theorem QT {α : Type} {b : Bool} {x y z : α} (hb : b = true) (h : cond b x y = z) : x = z := by rw [hb] at h; exact h
theorem QS {α : Type} {b : Bool} {x y z : α} (hb : b = false) (h : cond b x y = z) : y = z := by rw [hb] at h; exact h
def w64 (n : Int) : Int := (n + 9223372036854775808) % 18446744073709551616 - 9223372036854775808
theorem w64_eq {n : Int} (h : -9223372036854775808 ≤ n ∧ n ≤ 9223372036854775807) : w64 n = n := by unfold w64; omega
def getI {α : Type} (xs : List α) (i : Int) : Option α := bif decide (0 ≤ i) then xs[i.toNat]? else none
theorem getI_spec {α : Type} {xs : List α} {i : Int} {x : α} (h : getI xs i = some x) : i = (i.toNat : Int) ∧ xs[i.toNat]? = some x := by
  unfold getI at h
  by_cases h0 : 0 ≤ i
  · simp [h0] at h; exact ⟨by omega, h⟩
  · simp [h0] at h
theorem getI_nat {α : Type} {xs : List α} {n : Nat} : getI xs (n : Int) = xs[n]? := by simp [getI]
theorem getI_lt {α : Type} {xs : List α} {i : Int} {x : α} (h : getI xs i = some x) : i.toNat < xs.length := (List.getElem?_eq_some_iff.1 (getI_spec h).2).1
def sliceI {α : Type} (xs : List α) (l u : Int) : Option (List α) := bif decide (0 ≤ l) && decide (l ≤ u) && decide (u ≤ xs.length) then some ((xs.drop l.toNat).take (u.toNat - l.toNat)) else none
theorem sliceI_spec {α : Type} {xs ys : List α} {l u : Int} (h : sliceI xs l u = some ys) : l = (l.toNat : Int) ∧ u = (u.toNat : Int) ∧ l.toNat ≤ u.toNat ∧ u.toNat ≤ xs.length ∧ ys = (xs.drop l.toNat).take (u.toNat - l.toNat) := by
  unfold sliceI at h
  by_cases h0 : (decide (0 ≤ l) && decide (l ≤ u) && decide (u ≤ xs.length)) = true
  · rw [h0, cond_true] at h
    simp only [Bool.and_eq_true, decide_eq_true_eq] at h0
    cases h
    exact ⟨by omega, by omega, by omega, by omega, rfl⟩
  · rw [Bool.eq_false_iff.2 h0] at h; cases h
def makeI (n : Int) (bz : Nat) : Option Nat := bif decide (0 ≤ n) && decide (n.toNat * bz ≤ 281474976710656) then some n.toNat else none
theorem makeI_spec {n : Int} {bz k : Nat} (h : makeI n bz = some k) : n = (k : Int) ∧ k * bz ≤ 281474976710656 := by
  unfold makeI at h
  by_cases h0 : (decide (0 ≤ n) && decide (n.toNat * bz ≤ 281474976710656)) = true
  · rw [h0, cond_true] at h
    simp only [Bool.and_eq_true, decide_eq_true_eq] at h0
    cases h
    exact ⟨by omega, h0.2⟩
  · rw [Bool.eq_false_iff.2 h0] at h; cases h
def capI (n bz : Nat) : Option Unit := bif decide (n * bz ≤ 140737488355328) then some () else none
theorem Q9 {n bz : Nat} {u : Unit} (h : capI n bz = some u) : n * bz ≤ 140737488355328 := by
  unfold capI at h
  by_cases h0 : n * bz ≤ 140737488355328
  · exact h0
  · simp [h0] at h
end Go.AM

namespace Go.AM
open Go
def CtlOK {σ τ : Type} (R : σ → Prop) (K : τ → Prop) : Ctl σ τ → Prop
  | .next s => R s
  | .out t => K t
section
variable {P : Program} {F : Fr} {N : Nat} {Q : Exit → St → Prop} {st : St} {c : Code}
theorem TR_forL {α σ τ : Type} (xs : List α) (step : Nat → α → σ → Option (Ctl σ τ)) (fin : σ → τ) (inv : Nat → σ → St) (K : τ → Prop) {s0 : σ} {t : τ} (hl : forL step fin 0 xs s0 = some t) (hk : K t)
    (hend : ∀ s, K (fin s) → T P F N c (Post.seq (TR P F N c Q) Q) (inv xs.length s))
    (hbody : ∀ n x s ctl, xs[n]? = some x → n < xs.length → step n x s = some ctl → CtlOK (fun s' => ∀ st, st = inv (n + 1) s' → TR P F N c Q st) K ctl → T P F N c (Post.seq (TR P F N c Q) Q) (inv n s)) :
    TR P F N c Q (inv 0 s0) := by
  have key : ∀ (r : List α) (n : Nat) (s : σ), xs.drop n = r → n ≤ xs.length → forL step fin n r s = some t → TR P F N c Q (inv n s) := by
    intro r
    induction r with
    | nil =>
      intro n s hd hn h
      have : n = xs.length := by have := congrArg List.length hd; simp at this; omega
      subst this
      cases h
      exact TR_step (hend s hk)
    | cons x r ih =>
      intro n s hd hn h
      have hx : xs[n]? = some x := by
        have : (xs.drop n)[0]? = some x := by rw [hd]; rfl
        simpa using this
      have hlt := (List.getElem?_eq_some_iff.1 hx).1
      have hd' : xs.drop (n + 1) = r := by rw [← List.drop_drop, hd]; rfl
      unfold forL at h
      cases hs : step n x s with
      | none => rw [hs] at h; cases h
      | some ctl =>
        rw [hs] at h
        refine TR_step (hbody n x s ctl hx hlt hs ?_)
        cases ctl with
        | next s' => rintro st rfl; exact ih (n + 1) s' hd' (by omega) h
        | out t' => cases h; exact hk
  exact key xs 0 s0 (by simp) (by omega) hl
theorem TR_iter {σ τ : Type} (step : σ → Option (Ctl σ τ)) (inv : σ → St) (K : τ → Prop) {s0 : σ} {t : τ} (hl : iter step s0 = some t) (hk : K t)
    (hbody : ∀ s ctl, step s = some ctl → CtlOK (fun s' => ∀ st, st = inv s' → TR P F N c Q st) K ctl → T P F N c (Post.seq (TR P F N c Q) Q) (inv s)) :
    TR P F N c Q (inv s0) := by
  obtain ⟨n, hn⟩ := iter_iff.1 hl
  have key : ∀ (n : Nat) (s : σ), iterN step n s = some t → TR P F N c Q (inv s) := by
    intro n
    induction n with
    | zero => intro s h; cases h
    | succ n ih =>
      intro s h
      unfold iterN at h
      cases hs : step s with
      | none => rw [hs] at h; cases h
      | some ctl =>
        rw [hs] at h
        refine TR_step (hbody s ctl hs ?_)
        cases ctl with
        | next s' => rintro st rfl; exact ih s' h
        | out t' => cases h; exact hk
  exact key n s0 hn
variable {ops : Array Oper} {l : List Oper} {KK : St → Prop} {ex : Bool} {s s' : Xb} {h h' : Heap}
theorem Xg {p : Prop} (hp : ∀ φ a w, RelP F N st φ a w → p) (k : p → TLE ex P F N ops l KK st) : TLE ex P F N ops l KK st :=
  fun a w R hr hQ => by obtain ⟨φ, h1⟩ := hr; exact k (hp φ a w h1) a w R ⟨φ, h1⟩ hQ
theorem TZ_fact {Z : List Nat} {fuel : Nat} {listed : List Bool} {p : Prop} (hp : ∀ φ a w, RelP F N st φ a w → p) (k : p → TZ P F N ops Z fuel listed KK st) : TZ P F N ops Z fuel listed KK st :=
  fun hs a w QN hr hQ => by obtain ⟨φ, h1⟩ := hr; exact k (hp φ a w h1) hs a w QN ⟨φ, h1⟩ hQ
theorem RelP.slLen {φ : Nat → Loc} {a : Act} {w : World} {i sz : Nat} {es : List AV} (hi : lk st.s i = some (.sl sz es)) (hr : RelP F N st φ a w) : es.length ≤ 9223372036854775807 := by
  obtain ⟨v, _, hv⟩ := hr.slots i _ hi
  exact sl_length hv
theorem RelP.owLen {φ : Nat → Loc} {a : Act} {w : World} {id sz : Nat} {k : Kd} {E : TypeId} {es : List AV} (hl : lk st.h id = some (.arr k sz E es)) (hr : RelP F N st φ a w) : es.length ≤ 9223372036854775807 := by
  obtain ⟨_, _, _, hob⟩ := hr.heap.obj _ _ hl
  rcases hob with ⟨_, rfl⟩ | ⟨_, C, _, h1, h2, _⟩
  · simp
  · simp only [maxLen] at h2; omega
structure FrozenB (S S' : Nat → Prop) (w : World) (φ : Nat → Loc) (h h' : Heap) (id : Nat) (bs : List AV) : Prop where
  ok : HeapOK S w φ h
  obj : lk h id = some (.box bs)
  pure : noIdsL bs = true
  nm : isMapLen bs.length = false
  mono : ∀ b, S b → S' b
  blk : S' (φ id).blk
  arr : ∀ i k sz E es, i ≠ id → lk h i = some (.arr k sz E es) → lk h' i = some (.arr k sz E es)
  box : ∀ i cs, i ≠ id → lk h i = some (.box cs) → ∃ cs', lk h' i = some (.box cs')
end
end Go.AM

namespace Go.AM
open Go
def renSl (ρ : List (Nat × Nat)) : Xb → Option Xb
  | [] => some []
  | (k, x) :: r => match renO ρ x with
    | some y => match renSl ρ r with
      | some l => some ((k, y) :: l)
      | none => none
    | none => none
theorem renSl_spec {ρ : List (Nat × Nat)} : ∀ {s s' : Xb}, renSl ρ s = some s' → ∀ i y, lk s' i = some y → ∃ x, lk s i = some x ∧ Ren (fun i j => lk ρ i = some j) x y := by
  intro s
  induction s with
  | nil => intro s' e i y hy; cases e; cases hy
  | cons p s ih =>
    obtain ⟨k, x⟩ := p
    intro s' e i y hy
    unfold renSl at e
    cases hx : renO ρ x with
    | none => simp [hx] at e
    | some z =>
      simp only [hx] at e
      cases hr : renSl ρ s with
      | none => simp [hr] at e
      | some l =>
        simp only [hr, Option.some.injEq] at e
        subst e
        rw [Q7] at hy ⊢
        split at hy
        · cases hy; rename_i hk; rw [if_pos hk]; exact ⟨x, rfl, renO_spec x y hx⟩
        · rename_i hk; rw [if_neg hk]; exact ih hr i y hy
section
variable {P : Program} {F : Fr} {N : Nat} {Q : Exit → St → Prop} {st : St} {c : Code}
variable {ops : Array Oper} {l : List Oper} {KK : St → Prop} {ex : Bool} {s s' : Xb} {h h' : Heap}
theorem RelP.ren {ρ : List (Nat × Nat)} {φ : Nat → Loc} {a : Act} {w : World} (hr : RelP F N ⟨s, h⟩ φ a w) (hinj : injB ρ = true) (hs : renSl ρ s = some s') (hh : renH ρ h = some h')
    (hF : F.η.all (fun p => match lk ρ p.1 with | some j => Nat.beq j p.1 | none => false) = true) : Rel F N ⟨s', h'⟩ a w := by
  obtain ⟨r1, r2⟩ := renH_spec hinj hh
  have hFe : ∀ i o, lk F.η i = some o → lk ρ i = some i := by
    intro i o ho
    have := List.all_eq_true.1 hF _ (lk_mem ho)
    simp only at this
    cases hl : lk ρ i with
    | none => rw [hl] at this; cases this
    | some j => rw [hl] at this; rw [(beq_iff _ _).1 this]
  have hplace : ∃ φ' : Nat → Loc, ∀ i j, lk ρ i = some j → φ' j = φ i := by
    classical
    refine ⟨fun j => if h : ∃ i, lk ρ i = some j then φ (Classical.choose h) else φ j, fun i j e => ?_⟩
    have hex : ∃ i, lk ρ i = some j := ⟨i, e⟩
    show (if h : ∃ i, lk ρ i = some j then φ (Classical.choose h) else φ j) = φ i
    rw [dif_pos hex, injB_inj hinj (Classical.choose_spec hex) e]
  obtain ⟨φ', hφ⟩ := hplace
  have hS : ∀ b, Stab F w φ h b → Stab F w φ' h' b := by
    intro b hb
    refine ⟨hb.1, hb.2.1, fun j o ho hm => ?_⟩
    obtain ⟨i, o', e1, e2, _⟩ := r2 j o ho
    rw [hφ i j e1] at hm
    exact hb.2.2 i o' e2 hm
  have hR : ∀ {x y v}, Ren (fun i j => lk ρ i = some j) x y → RepV (Stab F w φ h) w φ h x v → RepV (Stab F w φ' h') w φ' h' y v := fun hxy hv =>
    hv.ren hS (fun _ _ => rfl) (fun i j e => by
      refine ⟨fun _ _ => hφ i j e, fun k sz E es ho => ?_, fun cs ho => ?_⟩
      · obtain ⟨j', o', e1, e2, e3⟩ := r1 i _ ho
        rw [e] at e1; cases e1
        cases o' with
        | box _ => exact e3.elim
        | arr _ _ _ _ => obtain ⟨rfl, rfl, rfl, rfl⟩ := e3; exact ⟨_, _, rfl, e2⟩
      · obtain ⟨j', o', e1, e2, e3⟩ := r1 i _ ho
        rw [e] at e1; cases e1
        cases o' with
        | box cs' => exact ⟨cs', e2⟩
        | arr _ _ _ _ => exact e3.elim) hxy
  refine ⟨φ', hr.size, hr.defers, hr.sys, hr.grow, ⟨fun j o ho => ?_, fun i j oi oj b hi hj hmi hmj => ?_, fun b hb => hb.1, fun i o b ho hm hst => hst.2.2 i o ho hm, fun j o b ho hm => ?_⟩,
    fun i x hx => ?_, fun j o b ho hm => ?_, fun i o hi hb => ?_, fun i o hi => ?_, hr.frame⟩
  · obtain ⟨i, o', e1, e2, e3⟩ := r2 j o ho
    have hok := hr.heap.obj i o' e2
    cases o' with
    | box cs =>
      cases o with
      | arr _ _ _ _ => exact e3.elim
      | box cs' =>
        obtain ⟨hm, C, E, hC, hsz, hrep⟩ := hok
        refine ⟨by rw [hφ i j e1]; exact hm, C, E, by rw [hφ i j e1]; exact hC.len e3.1.symm, by rw [hsz]; exact e3.1, fun n y v hy hv => ?_⟩
        obtain ⟨x, hx⟩ : ∃ x, cs[n]? = some x := ⟨cs[n]'(by rw [e3.1]; exact (List.getElem?_eq_some_iff.1 hy).1), by simp⟩
        exact hR (e3.2 n x y hx hy) (hrep n x v hx hv)
    | arr k sz E es =>
      cases o with
      | box _ => exact e3.elim
      | arr _ _ _ _ =>
        obtain ⟨rfl, rfl, rfl, rfl⟩ := e3
        obtain ⟨h0, hl, hone, hob⟩ := hok
        refine ⟨h0, hl, hone, ?_⟩
        rw [hφ i j e1]
        rcases hob with hob | ⟨hm, C, hC, h1, h2, h3, h4⟩
        · exact .inl hob
        · exact .inr ⟨hm, C, hC, h1, h2, h3, h4.mono hS (fun _ _ => rfl) (fun _ _ _ => rfl) rfl⟩
  · obtain ⟨i1, o1, e1, e2, _⟩ := r2 i oi hi
    obtain ⟨i2, o2, f1, f2, _⟩ := r2 j oj hj
    rw [hφ i1 i e1] at hmi
    rw [hφ i2 j f1] at hmj
    have := hr.heap.injO i1 i2 o1 o2 b e2 f2 hmi hmj
    subst this
    rw [e1] at f1
    cases f1
    rfl
  · obtain ⟨i, o', e1, e2, _⟩ := r2 j o ho
    rw [hφ i j e1] at hm
    exact hr.heap.ltO i o' b e2 hm
  · obtain ⟨y, hy, hxy⟩ := renSl_spec hs i x hx
    obtain ⟨v, hv, hrep⟩ := hr.slots i y hy
    exact ⟨v, hv, hR hxy hrep⟩
  · obtain ⟨i, o', e1, e2, _⟩ := r2 j o ho
    rw [hφ i j e1] at hm
    rcases hr.mine i o' b e2 hm with h1 | ⟨o0, h1, h2⟩
    · exact .inl h1
    · right
      have := hFe i o0 h1
      rw [e1] at this
      cases this
      exact ⟨o0, h1, h2⟩
  · rw [hφ i i (hFe i o hi)]; exact hr.fix i o hi hb
  · obtain ⟨o', ho', hal⟩ := hr.keep i o hi
    obtain ⟨j, o2, e1, e2, e3⟩ := r1 i o' ho'
    rw [hFe i o hi] at e1
    cases e1
    refine ⟨o2, e2, AO.alike_trans hal ?_⟩
    cases o' <;> cases o2 <;> first | trivial | exact e3.elim | (obtain ⟨rfl, rfl, rfl, rfl⟩ := e3; exact AO.alike_refl _)
theorem T_ren (ρ : List (Nat × Nat)) (hinj : injB ρ = true) (hs : renSl ρ s = some s') (hh : renH ρ h = some h')
    (hF : F.η.all (fun p => match lk ρ p.1 with | some j => Nat.beq j p.1 | none => false) = true) (k : T P F N c Q ⟨s', h'⟩) : T P F N c Q ⟨s, h⟩ := T_sub (fun _ _ _ hr => hr.ren hinj hs hh hF) k
theorem T_join {ι : Type} {x y : Code} (J : ι → St) (M : ι → Prop) (hrest : ∀ i, M i → T P F N y Q (J i))
    (hfirst : (∀ i, M i → T P F N y Q (J i)) → T P F N x (Post.seq (T P F N y Q) Q) st) : T P F N (.seq x y) Q st := Qk (hfirst hrest)
theorem TL_join {ι : Type} (n : Nat) (J : ι → St) (M : ι → Prop) (hrest : ∀ i, M i → TLE ex P F N ops (l.drop n) KK (J i))
    (hfirst : (∀ i, M i → TLE ex P F N ops (l.drop n) KK (J i)) → TLE ex P F N ops l KK st) : TLE ex P F N ops l KK st := hfirst hrest
end
theorem wrap_w64 (n : Int) : IntKind.i64.wrap n = w64 n := by
  rw [IntKind.wrap_i64]
  unfold w64
  omega
section
variable {P : Program} {s s' s1 : Xb} {h h' h1 : Heap} {dst : Option Tmp} {ty : TypeId} {pos : String} {after : Array Edge} {gd : Option (Nat × Bool)} {x y : Operand} {t : TypeId}
theorem Q8 {sz n : Nat} {es : List AV} {e : TypeId} (hu : P.underlying t = some (.slice e)) (hx : aev s x = some (.sl sz es)) (hn : es.length = n) :
    OpP P ⟨dst, .call ⟨.builtin .len, #[x], #[t]⟩, ty, pos, after, gd⟩ s h (.int .i64 (n : Int)) := by subst hn; exact op_len_sl hu hx
theorem op_lenO {id sz n : Nat} {k : Kd} {E : TypeId} {es : List AV} {e : TypeId} (hu : P.underlying t = some (.slice e)) (hx : aev s x = some (.ow id)) (hl : lk h id = some (.arr k sz E es)) (hn : es.length = n) :
    OpP P ⟨dst, .call ⟨.builtin .len, #[x], #[t]⟩, ty, pos, after, gd⟩ s h (.int .i64 (n : Int)) := by subst hn; exact op_len_ow hu hx hl
theorem QU {α : Type} {f : α → AV} {sz : Nat} {E : TypeId} {a : List α} {v : α} {cs : List AV} {k : IntKind} {i : Int} (ht : tyElem P t = some (E, sz))
    (hx : aev s x = some (.sl sz (a.map f))) (hy : aev s y = some (.int k i)) (hg : getI a i = some v) (hc : cellsO (f v) = some cs) :
    OpP P ⟨dst, .indexAddr t x y, ty, pos, after, gd⟩ s h (.cp cs) :=
  op_index_sl ht hx hy (getI_spec hg).1 (get_map (getI_spec hg).2) hc
theorem op_indexO {α : Type} {f : α → AV} {id sz : Nat} {kd : Kd} {E E' : TypeId} {a : List α} {v : α} {k : IntKind} {i : Int} (ht : tyElem P t = some (E, sz))
    (hx : aev s x = some (.ow id)) (hl : lk h id = some (.arr kd sz E' (a.map f))) (hy : aev s y = some (.int k i)) (hg : getI a i = some v) :
    OpP P ⟨dst, .indexAddr t x y, ty, pos, after, gd⟩ s h (.ptr id i.toNat 0) :=
  op_index_ow ht hx hl hy (getI_spec hg).1 (by simpa using getI_lt hg)
theorem Xh {t' : TypeId} {a b : Int} (hx : aev s x = some (.int .i64 a)) (hy : aev s y = some (.int .i64 b)) : OpP P ⟨dst, .binOp .add t x y t', ty, pos, after, gd⟩ s h (.int .i64 (w64 (a + b))) := by
  rw [← wrap_w64]; exact op_add hx hy
theorem op_subW {t' : TypeId} {a b : Int} (hx : aev s x = some (.int .i64 a)) (hy : aev s y = some (.int .i64 b)) : OpP P ⟨dst, .binOp .sub t x y t', ty, pos, after, gd⟩ s h (.int .i64 (w64 (a - b))) := by
  rw [← wrap_w64]; exact op_sub hx hy
theorem op_addN {t' : TypeId} {n : Nat} (hx : aev s x = some (.int .i64 (n : Int))) (hy : aev s y = some (.int .i64 1)) (hf : n < 9223372036854775807) :
    OpP P ⟨dst, .binOp .add t x y t', ty, pos, after, gd⟩ s h (.int .i64 ((n + 1 : Nat) : Int)) := op_add64 hx hy (by omega)
theorem op_loadT1 {α : Type} {f : α → AV} {id k off sz : Nat} {p : Bool} {E : TypeId} {a : List α} {v : α} {c : AV} {cs r : List AV} (ha : tyAgg P t = some false) (hx : aev s x = some (.ptr id k off))
    (hl : lk h id = some (.arr ⟨p, false⟩ sz E (a.map f))) (hg : a[k]? = some v) (hc : cellsO (f v) = some cs) (hd : dropO cs off = some (c :: r)) :
    OpP P ⟨dst, .load t x, ty, pos, after, gd⟩ s h c := op_load_arr1 ha hx hl (get_map hg) hc hd
theorem op_loadD1 {α : Type} {f : α → AV} {id k off sz n : Nat} {p : Bool} {E : TypeId} {a : List α} {v : α} {c c' : AV} {cs r : List AV} (ha : tyAgg P t = some false) (hx : aev s x = some (.ptr id k off))
    (hl : lk h id = some (.arr ⟨p, true⟩ sz E (a.map f))) (hg : a[k]? = some v) (hc : cellsO (f v) = some cs) (hd : dropO cs off = some (c :: r)) (hn : n = k * sz + off) (hcc : dcell id n c = c') :
    OpP P ⟨dst, .load t x, ty, pos, after, gd⟩ s h c' := op_load_arrD1 ha hx hl (get_map hg) hc hd hn hcc
theorem op_sliceT {α : Type} {f : α → AV} {sz l u : Nat} {E : TypeId} {a b : List α} {lo hi : Option Operand} (ht : tyElem P t = some (E, sz))
    (hx : aev s x = some (.sl sz (a.map f))) (hb : Bnds s (a.map f).length lo hi l u) (hlu : l ≤ u) (hu : u ≤ a.length) (he : b = (a.drop l).take (u - l)) :
    OpP P ⟨dst, .slice t x lo hi none, ty, pos, after, gd⟩ s h (.sl sz (b.map f)) := by
  subst he
  rw [List.map_take, List.map_drop]
  exact op_slice_sl ht hx hb hlu (by simpa using hu)
end
end Go.AM

namespace Go.AM
open Go
mutual
def NilR : AV → AV → Prop
  | .snil, y => y = .snil ∨ ∃ n, y = .sl n []
  | .agg xs, y => ∃ ys, y = .agg ys ∧ NilRL xs ys
  | .tup xs, y => ∃ ys, y = .tup ys ∧ NilRL xs ys
  | .cp xs, y => ∃ ys, y = .cp ys ∧ NilRL xs ys
  | .fn f as bs, y => ∃ ys zs, y = .fn f ys zs ∧ NilRL as ys ∧ NilRL bs zs
  | .int k n, y => y = .int k n
  | .bool b, y => y = .bool b
  | .str b, y => y = .str b
  | .sl n es, y => y = .sl n es
  | .nilp, y => y = .nilp ∨ y = .tr .nilp
  | .tr x, y => y = .tr x
  | .nilf, y => y = .nilf
  | .ptr i k o, y => y = .ptr i k o
  | .ow i, y => y = .ow i
  | .mp i, y => y = .mp i
  | .sub i n, y => y = .sub i n
  | .win i n, y => y = .win i n
  | .junk, y => y = .junk
def NilRL : List AV → List AV → Prop
  | [], ys => ys = []
  | x :: r, ys => ∃ y s, ys = y :: s ∧ NilR x y ∧ NilRL r s
end
theorem NilRL_get : ∀ {xs ys : List AV}, NilRL xs ys → ys.length = xs.length ∧ ∀ (i : Nat) x y, xs[i]? = some x → ys[i]? = some y → NilR x y := by
  intro xs
  induction xs with
  | nil => intro ys h; simp only [NilRL] at h; subst h; exact ⟨rfl, fun i x y hx => by simp at hx⟩
  | cons x r ih =>
    intro ys h
    simp only [NilRL] at h
    obtain ⟨y, s, rfl, h1, h2⟩ := h
    obtain ⟨h3, h4⟩ := ih h2
    refine ⟨by simp [h3], fun i a b ha hb => ?_⟩
    cases i with
    | zero => simp at ha hb; subst ha hb; exact h1
    | succ i => simp at ha hb; exact h4 i a b ha hb
mutual
theorem NilR_T {S : Nat → Prop} {w : World} : ∀ (x y : AV) (v : Value), NilR x y → RepT S w x v → RepT S w y v
  | .snil, y, v, h, hv => by
    simp only [NilR] at h
    cases hv
    rcases h with rfl | ⟨n, rfl⟩
    · exact .snil
    · exact .sl0 _ _ _ (fun _ => rfl)
  | .agg xs, y, v, h, hv => by
    simp only [NilR] at h
    obtain ⟨ys, rfl, hl⟩ := h
    cases hv with
    | agg _ vs h1 h2 => obtain ⟨h3, h4⟩ := NilRL_T xs ys hl; exact .agg ys vs (by rw [h3]; exact h1) (fun i y v hy hv => h4 i y v hy (fun x hx => h2 i x v hx hv))
  | .tup xs, y, v, h, hv => by
    simp only [NilR] at h
    obtain ⟨ys, rfl, hl⟩ := h
    cases hv with
    | tup _ vs h1 h2 => obtain ⟨h3, h4⟩ := NilRL_T xs ys hl; exact .tup ys vs (by rw [h3]; exact h1) (fun i y v hy hv => h4 i y v hy (fun x hx => h2 i x v hx hv))
  | .cp xs, y, v, h, hv => by
    simp only [NilR] at h
    obtain ⟨ys, rfl, hl⟩ := h
    cases hv with
    | cp _ b off f hb h1 h2 =>
      obtain ⟨h3, h4⟩ := NilRL_T xs ys hl
      have hx : ∀ (j : Nat) y, ys[j]? = some y → ∃ x, xs[j]? = some x := fun j y hy => ⟨xs[j]'(by rw [← h3]; exact (List.getElem?_eq_some_iff.1 hy).1), by simp⟩
      exact .cp ys b off f hb (fun j y hy => by obtain ⟨x, hx⟩ := hx j y hy; exact h1 j x hx) (fun j y hy => h4 j y _ hy (fun x hx => h2 j x hx))
  | .fn f as bs, y, v, h, hv => by
    simp only [NilR] at h
    obtain ⟨ys, zs, rfl, hl1, hl2⟩ := h
    cases hv with
    | fn _ _ _ us ws h1 h2 h3 h4 =>
      obtain ⟨g1, g2⟩ := NilRL_T as ys hl1
      obtain ⟨g3, g4⟩ := NilRL_T bs zs hl2
      exact .fn f ys zs us ws (by rw [g1]; exact h1) (by rw [g3]; exact h2) (fun i y v hy hv => g2 i y v hy (fun x hx => h3 i x v hx hv)) (fun i y v hy hv => g4 i y v hy (fun x hx => h4 i x v hx hv))
  | .int k n, y, v, h, hv => by simp only [NilR] at h; subst h; exact hv
  | .bool b, y, v, h, hv => by simp only [NilR] at h; subst h; exact hv
  | .str b, y, v, h, hv => by simp only [NilR] at h; subst h; exact hv
  | .sl n es, y, v, h, hv => by simp only [NilR] at h; subst h; exact hv
  | .nilp, y, v, h, hv => by
    simp only [NilR] at h
    rcases h with rfl | rfl
    · exact hv
    · cases hv; exact .tr _ _ .nilp
  | .tr _, y, v, h, hv => by simp only [NilR] at h; subst h; exact hv
  | .nilf, y, v, h, hv => by simp only [NilR] at h; subst h; exact hv
  | .ptr i k o, y, v, h, hv => by simp only [NilR] at h; subst h; exact hv
  | .ow i, y, v, h, hv => by simp only [NilR] at h; subst h; exact hv
  | .mp i, y, v, h, hv => by simp only [NilR] at h; subst h; exact hv
  | .sub i n, y, v, h, hv => by simp only [NilR] at h; subst h; exact hv
  | .win i n, y, v, h, hv => by simp only [NilR] at h; subst h; exact hv
  | .junk, y, v, h, hv => by simp only [NilR] at h; subst h; exact hv
theorem NilRL_T {S : Nat → Prop} {w : World} : ∀ (xs ys : List AV), NilRL xs ys → ys.length = xs.length ∧
    ∀ (i : Nat) y v, ys[i]? = some y → (∀ x, xs[i]? = some x → RepT S w x v) → RepT S w y v
  | [], ys, h => by simp only [NilRL] at h; subst h; exact ⟨rfl, fun i y v hy => by simp at hy⟩
  | x :: r, ys, h => by
    simp only [NilRL] at h
    obtain ⟨y, s, rfl, h1, h2⟩ := h
    obtain ⟨h3, h4⟩ := NilRL_T (S := S) (w := w) r s h2
    refine ⟨by simp [h3], fun i b v hb hv => ?_⟩
    cases i with
    | zero => simp at hb; subst hb; exact NilR_T x y v h1 (hv x (by simp))
    | succ i => simp at hb; exact h4 i b v hb (fun x hx => hv x (by simpa using hx))
end
mutual
theorem NilR_V {S : Nat → Prop} {w : World} {φ : Nat → Loc} {η : Heap} : ∀ (x y : AV) (v : Value), NilR x y → RepV S w φ η x v → RepV S w φ η y v
  | .agg xs, y, v, h, hv => by
    simp only [NilR] at h
    obtain ⟨ys, rfl, hl⟩ := h
    obtain ⟨vs, rfl, h1, h2⟩ := hv.agg_inv
    obtain ⟨h3, h4⟩ := NilRL_V (S := S) (w := w) (φ := φ) (η := η) xs ys hl
    exact .agg ys vs (by rw [h3]; exact h1) (fun i y v hy hv => h4 i y v hy (fun x hx => h2 i x v hx hv))
  | .tup xs, y, v, h, hv => by
    simp only [NilR] at h
    obtain ⟨ys, rfl, hl⟩ := h
    obtain ⟨vs, rfl, h1, h2⟩ := hv.tup_inv
    obtain ⟨h3, h4⟩ := NilRL_V (S := S) (w := w) (φ := φ) (η := η) xs ys hl
    exact .tup ys vs (by rw [h3]; exact h1) (fun i y v hy hv => h4 i y v hy (fun x hx => h2 i x v hx hv))
  | .fn f as bs, y, v, h, hv => by
    simp only [NilR] at h
    obtain ⟨ys, zs, rfl, hl1, hl2⟩ := h
    obtain ⟨us, ws, rfl, h1, h2, h3, h4⟩ := hv.fn_inv
    obtain ⟨g1, g2⟩ := NilRL_V (S := S) (w := w) (φ := φ) (η := η) as ys hl1
    obtain ⟨g3, g4⟩ := NilRL_V (S := S) (w := w) (φ := φ) (η := η) bs zs hl2
    exact .fn f ys zs us ws (by rw [g1]; exact h1) (by rw [g3]; exact h2) (fun i y v hy hv => g2 i y v hy (fun x hx => h3 i x v hx hv)) (fun i y v hy hv => g4 i y v hy (fun x hx => h4 i x v hx hv))
  | .snil, y, v, h, hv => by cases hv with | pure hv => exact .pure (NilR_T _ _ _ h hv)
  | .cp xs, y, v, h, hv => by cases hv with | pure hv => exact .pure (NilR_T _ _ _ h hv)
  | .int k n, y, v, h, hv => by simp only [NilR] at h; subst h; exact hv
  | .bool b, y, v, h, hv => by simp only [NilR] at h; subst h; exact hv
  | .str b, y, v, h, hv => by simp only [NilR] at h; subst h; exact hv
  | .sl n es, y, v, h, hv => by simp only [NilR] at h; subst h; exact hv
  | .nilp, y, v, h, hv => by
    simp only [NilR] at h
    rcases h with rfl | rfl
    · exact hv
    · cases hv with
      | pure hv => cases hv; exact .pure (.tr _ _ .nilp)
  | .tr _, y, v, h, hv => by simp only [NilR] at h; subst h; exact hv
  | .nilf, y, v, h, hv => by simp only [NilR] at h; subst h; exact hv
  | .ptr i k o, y, v, h, hv => by simp only [NilR] at h; subst h; exact hv
  | .ow i, y, v, h, hv => by simp only [NilR] at h; subst h; exact hv
  | .mp i, y, v, h, hv => by simp only [NilR] at h; subst h; exact hv
  | .sub i n, y, v, h, hv => by simp only [NilR] at h; subst h; exact hv
  | .win i n, y, v, h, hv => by simp only [NilR] at h; subst h; exact hv
  | .junk, y, v, h, hv => by simp only [NilR] at h; subst h; exact hv
theorem NilRL_V {S : Nat → Prop} {w : World} {φ : Nat → Loc} {η : Heap} : ∀ (xs ys : List AV), NilRL xs ys → ys.length = xs.length ∧
    ∀ (i : Nat) y v, ys[i]? = some y → (∀ x, xs[i]? = some x → RepV S w φ η x v) → RepV S w φ η y v
  | [], ys, h => by simp only [NilRL] at h; subst h; exact ⟨rfl, fun i y v hy => by simp at hy⟩
  | x :: r, ys, h => by
    simp only [NilRL] at h
    obtain ⟨y, s, rfl, h1, h2⟩ := h
    obtain ⟨h3, h4⟩ := NilRL_V (S := S) (w := w) (φ := φ) (η := η) r s h2
    refine ⟨by simp [h3], fun i b v hb hv => ?_⟩
    cases i with
    | zero => simp at hb; subst hb; exact NilR_V x y v h1 (hv x (by simp))
    | succ i => simp at hb; exact h4 i b v hb (fun x hx => hv x (by simpa using hx))
end
theorem ACallF.nil {F : Fr} {P : Program} {f : FuncId} {xs ys : List AV} {L L' : Heap} {r : AV} (hc : ACallF F P f xs L r L') (hn : NilRL ys xs) : ACallF F P f ys L r L' := by
  intro w S φ vs hK hH hvs
  obtain ⟨h1, h2⟩ := NilRL_V (S := S) (w := w) (φ := φ) (η := L) ys xs hn
  exact hc w S φ vs hK hH ⟨by rw [h1]; exact hvs.1, fun i x v hx hv => h2 i x v hx (fun y hy => hvs.2 i y v hy hv)⟩
section
variable {P : Program} {F : Fr} {N : Nat} {Q : Exit → St → Prop} {st : St} {c : Code}
variable {ops : Array Oper} {l : List Oper} {KK : St → Prop} {ex : Bool} {s s' : Xb} {h h' : Heap}
theorem RelP.nilBox {φ : Nat → Loc} {a : Act} {w : World} {id : Nat} {cs cs' : List AV} (hr : RelP F N ⟨s, h⟩ φ a w) (hl : lk h id = some (.box cs)) (hn : NilRL cs cs') (hh : sput h id (.box cs') = some h') : RelP F N ⟨s, h'⟩ φ a w := by
  obtain ⟨n1, n2⟩ := NilRL_get hn
  have hlk := lk_sput hh
  have hal : headsAlike φ φ h h' := by
    refine ⟨fun i cs1 hi _ => ⟨?_, rfl⟩, fun i k1 sz E1 es hi => ⟨rfl, k1, es, rfl, ?_⟩⟩
    · by_cases hid : id = i
      · subst hid; exact ⟨_, by rw [hlk, if_pos rfl]⟩
      · exact ⟨cs1, by rw [hlk, if_neg hid]; exact hi⟩
    · have hid : id ≠ i := fun e => by subst e; rw [hl] at hi; cases hi
      rw [hlk, if_neg hid]; exact hi
  obtain ⟨hm, C, E, hC, hsz, hrep⟩ := hr.heap.obj _ _ hl
  refine hr.upd hh (fun _ _ => rfl) (SameSys.refl w) (Nat.le_refl _) (fun _ _ _ => rfl) (fun b hbo => .inr ⟨_, hl, hbo⟩) (fun o1 h1 h2 => hr.fix id o1 h1 h2) (fun o ho => by rw [hl] at ho; cases ho; trivial)
    (fun hS hw x v _ hv => hv.mono hS hw hal) (fun hS hw => ⟨hm, C, E, hC.len n1, by rw [hsz]; exact n1.symm, fun i y v hy hv => ?_⟩)
  obtain ⟨x, hx⟩ : ∃ x, cs[i]? = some x := ⟨cs[i]'(by rw [← n1]; exact (List.getElem?_eq_some_iff.1 hy).1), by simp⟩
  exact (NilR_V x y v (n2 i x y hx hy) (hrep i x v hx hv)).mono hS hw hal
theorem T_nilBox (id : Nat) {cs cs' : List AV} (hl : lk h id = some (.box cs)) (hn : NilRL cs cs') (hh : sput h id (.box cs') = some h') (k : T P F N c Q ⟨s, h'⟩) : T P F N c Q ⟨s, h⟩ := T_sub (fun φ _ _ hr => ⟨φ, hr.nilBox hl hn hh⟩) k
theorem RelP.ownNilBox {φ : Nat → Loc} {a : Act} {w : World} {bid k id sz : Nat} {kd : Kd} {E : TypeId} {cs cs' : List AV} {h1 : Heap} (hr : RelP F N ⟨s, h⟩ φ a w) (hb : lk h bid = some (.box cs)) (hk : cs[k]? = some .snil)
    (hl : lk h id = none) (hsz : 0 < sz) (hh1 : sput h id (.arr kd sz E []) = some h1) (hc : cs' = cs.set k (.ow id)) (hh : sput h1 bid (.box cs') = some h') : Rel F N ⟨s, h'⟩ a w := by
  have h2 := hr.newNil none hl hh1 hsz
  have hlk1 := lk_sput hh1
  have hlk := lk_sput hh
  have hne : id ≠ bid := fun e => by subst e; rw [hl] at hb; cases hb
  have hb1 : lk h1 bid = some (.box cs) := by rw [hlk1, if_neg hne]; exact hb
  have h1id : lk h1 id = some (.arr kd sz E []) := by rw [hlk1, if_pos rfl]
  generalize hφ : updLoc φ id { mkLoc 0 0 false with va := none } = φ' at h2
  have hloc : φ' id = mkLoc 0 0 false := by rw [← hφ, Qu]
  have hal : headsAlike φ' φ' h1 h' := by
    refine ⟨fun i cs1 hi _ => ⟨?_, rfl⟩, fun i k1 sz E1 es hi => ⟨rfl, k1, es, rfl, ?_⟩⟩
    · by_cases hid : bid = i
      · subst hid; exact ⟨_, by rw [hlk, if_pos rfl]⟩
      · exact ⟨cs1, by rw [hlk, if_neg hid]; exact hi⟩
    · have hid : bid ≠ i := fun e => by subst e; rw [hb1] at hi; cases hi
      rw [hlk, if_neg hid]; exact hi
  obtain ⟨hm, C, E', hC, hsz', hrep⟩ := h2.heap.obj _ _ hb1
  refine ⟨φ', h2.upd hh (fun _ _ => rfl) (SameSys.refl w) (Nat.le_refl _) (fun _ _ _ => rfl) (fun b hbo => .inr ⟨_, hb1, hbo⟩) (fun o1 h3 h4 => h2.fix bid o1 h3 h4) (fun o ho => by rw [hb1] at ho; cases ho; trivial)
    (fun hS hw x v _ hv => hv.mono hS hw hal) (fun hS hw => ⟨hm, C, E', hC.len (by rw [hc, List.length_set]), by rw [hc, List.length_set]; exact hsz', fun i y v hy hv => ?_⟩)⟩
  subst hc
  rw [List.getElem?_set] at hy
  split at hy
  · rename_i hki; subst hki
    split at hy
    · cases hy
      have hvn : v = .slice none 0 0 := by
        have := hrep k _ v hk hv
        cases this with
        | pure h => cases h; rfl
      subst hvn
      have := RepV.ow0 (S := Stab F w φ' h') (w := w) (φ := φ') (η := h') (id := id) (k := kd) (sz := sz) (E := E) (by rw [hlk, if_neg (Ne.symm hne)]; exact h1id) (by rw [hloc])
      rw [hloc] at this
      exact this
    · cases hy
  · exact (hrep i y v hy hv).mono hS hw hal
theorem T_ownNilBox (bid k id : Nat) {sz : Nat} (kd : Kd) (E : TypeId) {cs cs' : List AV} {h1 : Heap} (hb : lk h bid = some (.box cs)) (hk : cs[k]? = some .snil)
    (hl : lk h id = none) (hsz : Nat.blt 0 sz = true) (hh1 : sput h id (.arr kd sz E []) = some h1) (hc : cs' = cs.set k (.ow id)) (hh : sput h1 bid (.box cs') = some h') (q : T P F N c Q ⟨s, h'⟩) : T P F N c Q ⟨s, h⟩ :=
  T_sub (fun _ _ _ hr => hr.ownNilBox hb hk hl (Nat.le_of_ble_eq_true hsz) hh1 hc hh) q
theorem TR_forL2 {α σ τ : Type} (xs : List α) (step : Nat → α → σ → Option (Ctl σ τ)) (fin : σ → τ) (inv : Nat → σ → St) (E : τ → Exit) (J : τ → St) (K : τ → Prop) {s0 : σ} {t : τ} (hl : forL step fin 0 xs s0 = some t) (hk : K t)
    (hex : ∀ t, K t → Q (E t) (J t))
    (hend : (∀ t, K t → Q (E t) (J t)) → ∀ s, K (fin s) → T P F N c (Post.seq (TR P F N c Q) Q) (inv xs.length s))
    (hbody : (∀ t, K t → Q (E t) (J t)) → ∀ n x s ctl, xs[n]? = some x → n < xs.length → step n x s = some ctl → CtlOK (fun s' => ∀ st, st = inv (n + 1) s' → TR P F N c Q st) K ctl → T P F N c (Post.seq (TR P F N c Q) Q) (inv n s)) :
    TR P F N c Q (inv 0 s0) := TR_forL xs step fin inv K hl hk (hend hex) (hbody hex)
theorem TR_iter2 {σ τ : Type} (step : σ → Option (Ctl σ τ)) (inv : σ → St) (E : τ → Exit) (J : τ → St) (K : τ → Prop) {s0 : σ} {t : τ} (hl : iter step s0 = some t) (hk : K t)
    (hex : ∀ t, K t → Q (E t) (J t))
    (hbody : (∀ t, K t → Q (E t) (J t)) → ∀ s ctl, step s = some ctl → CtlOK (fun s' => ∀ st, st = inv s' → TR P F N c Q st) K ctl → T P F N c (Post.seq (TR P F N c Q) Q) (inv s)) :
    TR P F N c Q (inv s0) := TR_iter step inv K hl hk (hbody hex)
theorem Qr {α : Type} {a b : α} (h : some a = some b) : a = b := Option.some.inj h
theorem QI {σ τ : Type} {R : σ → Prop} {K : τ → Prop} {t : τ} (h : CtlOK R K (.out t)) : K t := h
theorem QM {σ τ : Type} {R : σ → Prop} {K : τ → Prop} {s : σ} (h : CtlOK R K (.next s)) : R s := h
end
end Go.AM

namespace Go.AM
open Go
section
variable {P : Program} {s s' s1 : Xb} {h h' h1 : Heap} {dst : Option Tmp} {ty : TypeId} {pos : String} {after : Array Edge} {gd : Option (Nat × Bool)} {x y : Operand} {t t' : TypeId}
def BndI (s : Xb) (len : Nat) (lo hi : Option Operand) (l u : Int) : Prop :=
  (match lo with
   | none => l = 0
   | some y => ∃ k, aev s y = some (.int k l)) ∧
  (match hi with
   | none => u = (len : Int)
   | some y => ∃ k, aev s y = some (.int k u))
theorem BndI.bnds {α : Type} {xs ys : List α} {n : Nat} {lo hi : Option Operand} {l u : Int} (hb : BndI s n lo hi l u) (hs : sliceI xs l u = some ys) : Bnds s n lo hi l.toNat u.toNat := by
  obtain ⟨h1, h2, _⟩ := sliceI_spec hs
  refine ⟨?_, ?_⟩
  · have := hb.1
    cases lo with
    | none => simp only at this ⊢; subst this; rfl
    | some y => obtain ⟨k, hk⟩ := this; exact ⟨k, by rw [← h1]; exact hk⟩
  · have := hb.2
    cases hi with
    | none => simp only at this ⊢; subst this; simp
    | some y => obtain ⟨k, hk⟩ := this; exact ⟨k, by rw [← h2]; exact hk⟩
theorem op_sliceI {α : Type} {f : α → AV} {sz : Nat} {E : TypeId} {a b : List α} {lo hi : Option Operand} {l u : Int} (ht : tyElem P t = some (E, sz))
    (hx : aev s x = some (.sl sz (a.map f))) (hb : BndI s a.length lo hi l u) (hs : sliceI a l u = some b) :
    OpP P ⟨dst, .slice t x lo hi none, ty, pos, after, gd⟩ s h (.sl sz (b.map f)) := by
  obtain ⟨h1, h2, h3, h4, h5⟩ := sliceI_spec hs
  exact op_sliceT ht hx (by rw [List.length_map]; exact hb.bnds hs) h3 h4 h5
end
section
variable {P : Program} {F : Fr} {N : Nat} {ops : Array Oper} {rest : List Oper} {K : St → Prop}
variable {ty : TypeId} {pos : String} {after : Array Edge} {d id : Nat} {s s' s1 : Xb} {h h' h1 : Heap} {x y : Operand}
theorem Xn {α : Type} {f : α → AV} {t E : TypeId} {sz bz : Nat} {zv : Value} {z : AV} {a b : List α}
    (ht : tyElem P t = some (E, sz)) (hz : tyZero P E = some (zv, sz, bz)) (hzs : Nat.beq zv.cells.size sz = true)
    (hsz : Nat.blt 0 sz = true) (hb : Nat.blt 0 bz = true) (hx : aev s x = some (.ow id)) (hl : lk h id = some (.arr ⟨false, false⟩ sz E (a.map f))) (hy : aev s y = some z) (hsrc : asrc h sz z = some (b.map f))
    (hbig : (a.length + b.length) * bz ≤ 140737488355328)
    (hks : killSL [id] s = some s1) (hkh : killHL [id] h = some h1) (hh : sput (dropH [] h1) id (.arr ⟨false, false⟩ sz E ((a ++ b).map f)) = some h') (hN : Nat.blt d N = true) (hs : sput s1 d (.ow id) = some s')
    (k : TL P F N ops rest K ⟨s', h'⟩) : TL P F N ops (⟨some d, .call ⟨.builtin .append, #[x, y], #[t, t]⟩, ty, pos, after, none⟩ :: rest) K ⟨s, h⟩ :=
  TL_append ht hz hzs hsz hb hx hl hy hsrc (by simpa using hbig) hks hkh (by rw [← List.map_append]; exact hh) hN hs k
theorem TL_appendDT {α : Type} {f : α → AV} {t E E2 : TypeId} {sz bz id2 : Nat} {p2 : Bool} {zv : Value} {a b : List α}
    (ht : tyElem P t = some (E, sz)) (hz : tyZero P E = some (zv, sz, bz)) (hzs : Nat.beq zv.cells.size sz = true)
    (hsz : Nat.blt 0 sz = true) (hb : Nat.blt 0 bz = true) (hx : aev s x = some (.ow id)) (hl : lk h id = some (.arr ⟨false, true⟩ sz E (a.map f))) (hy : aev s y = some (.ow id2)) (hl2 : lk h id2 = some (.arr ⟨p2, true⟩ sz E2 (b.map f)))
    (hne : Nat.beq id id2 = false) (hF2 : lk F.η id2 = none)
    (hbig : (a.length + b.length) * bz ≤ 140737488355328)
    (hks : killSL [id, id2] s = some s1) (hkh : killHL [id, id2] h = some h1) (hh : sput (dropH [id2] h1) id (.arr ⟨false, true⟩ sz E ((a ++ b).map f)) = some h') (hN : Nat.blt d N = true) (hs : sput s1 d (.ow id) = some s')
    (k : TL P F N ops rest K ⟨s', h'⟩) : TL P F N ops (⟨some d, .call ⟨.builtin .append, #[x, y], #[t, t]⟩, ty, pos, after, none⟩ :: rest) K ⟨s, h⟩ :=
  TL_appendD ht hz hzs hsz hb hx hl hy hl2 hne hF2 (by simpa using hbig) hks hkh (by rw [← List.map_append]; exact hh) hN hs k
theorem TL_storeT {α : Type} {f : α → AV} {t n sz k0 off : Nat} {p : Bool} {E : TypeId} {z : AV} {a : List α} {v : α} {ec zc ec' : List AV} (hs : tySize P t = some n) (hx : aev s x = some (.ptr id k0 off))
    (hl : lk h id = some (.arr ⟨p, false⟩ sz E (a.map f))) (hg : a[k0]? = some v) {v' : α} (hec : cellsO (f v) = some ec) (hy : aev s y = some z) (hj : isJunk z = false) (hnoi : noIds z = true) (hc : cellsO z = some zc)
    (hn : Nat.beq zc.length n = true) (hone : zc.all one = true) (hset : setO ec off zc = some ec') (hec' : cellsO (f v') = some ec')
    (hh : sput h id (.arr ⟨p, false⟩ sz E ((a.set k0 v').map f)) = some h') (k : TL P F N ops rest K ⟨s, h'⟩) :
    TL P F N ops (⟨none, .store t x y, ty, pos, after, none⟩ :: rest) K ⟨s, h⟩ := by
  refine TL_skip rfl rfl (fun φ a' w hr => ?_) k
  obtain rfl := cellsO_eq hec
  have hee := cellsO_eq hec'
  obtain ⟨rfl, hlen⟩ := setO_eq hset
  have he := get_map (f := f) hg
  have hek : (f v).cells.length = sz := (hr.heap.obj _ _ hl).2.1 _ (List.mem_of_getElem? he)
  rw [List.map_set] at hh
  exact hr.storeArr hs hx hl he hy hj hnoi hc ((beq_iff _ _).1 hn) hone hee.symm (by omega) hh
theorem TL_storeFT {α : Type} {f : α → AV} {t n sz k0 off : Nat} {p : Bool} {E : TypeId} {z : AV} {a : List α} {v : α} {ec zc ec' : List AV} (hs : tySize P t = some n) (hx : aev s x = some (.ptr id k0 off))
    (hl : lk h id = some (.arr ⟨p, true⟩ sz E (a.map f))) (hg : a[k0]? = some v) {v' : α} (hec : cellsO (f v) = some ec) (hy : aev s y = some z) (hj : isJunk z = false) (hc : cellsO z = some zc) (hn : Nat.beq zc.length n = true)
    (hfl : zc.all flat1 = true) (hset : setO ec off zc = some ec') (hec' : cellsO (f v') = some ec')
    (hh : sput h id (.arr ⟨p, true⟩ sz E ((a.set k0 v').map f)) = some h') (k : TL P F N ops rest K ⟨s, h'⟩) :
    TL P F N ops (⟨none, .store t x y, ty, pos, after, none⟩ :: rest) K ⟨s, h⟩ :=
  TL_storeF hs hx hl (get_map hg) hec hy hj hc hn hfl hset hec' (List.map_set) hh k
theorem TL_storeXT {α : Type} {f : α → AV} {t n sz k0 off : Nat} {E : TypeId} {z : AV} {a : List α} {v : α} {ec zc zy ec' : List AV} {ids : List Nat} (hs : tySize P t = some n) (hx : aev s x = some (.ptr id k0 off))
    (hl : lk h id = some (.arr ⟨false, true⟩ sz E (a.map f))) (hg : a[k0]? = some v) {v' : α} (hec : cellsO (f v) = some ec) (hy : aev s y = some z) (hj : isJunk z = false) (hc : cellsO z = some zc) (hn : Nat.beq zc.length n = true)
    (hab : absL h zc = some (zy, ids)) (hnd : nodupL (id :: ids) = true) (hgF : ∀ j ∈ ids, lk F.η j = none) (hset : setO ec off zy = some ec') (hec' : cellsO (f v') = some ec')
    (hks : killSL ids s = some s1) (hkh : killHL ids h = some h1) (hns : s1.all (fun q => noSub id q.2) = true) (hnh : noSubH id h1 = true)
    (hh : sput (dropH ids h1) id (.arr ⟨false, true⟩ sz E ((a.set k0 v').map f)) = some h') (k : TL P F N ops rest K ⟨s1, h'⟩) :
    TL P F N ops (⟨none, .store t x y, ty, pos, after, none⟩ :: rest) K ⟨s, h⟩ :=
  TL_storeX hs hx hl (get_map hg) hec hy hj hc hn hab hnd hgF hset hec' (List.map_set) hks hkh hns hnh hh k
end
end Go.AM
namespace Go.AM
open Go
def tyPlaces (P : Program) (t : TypeId) : Option (List (Nat × Nat)) :=
  match P.underlying t with
  | some (.struct fs) => fs.toList.mapM fun f => (tySize P f.type).map fun n => (f.offset, n)
  | _ => none
theorem run_places {P : Program} : ∀ (l : List Field) (r : List (Nat × Nat)) (w : World), (l.mapM fun f => (tySize P f.type).map fun n => (f.offset, n)) = some r →
    (l.mapM (fun f => do pure (f.offset, ← sizeOf f.type)) : Sem (List (Nat × Nat))).run P w = .ok r w := by
  intro l
  induction l with
  | nil => intro r w h; simp at h; subst h; rfl
  | cons f l ih =>
    intro r w h
    rw [List.mapM_cons] at h ⊢
    cases hf : tySize P f.type with
    | none => rw [hf] at h; cases h
    | some n =>
      rw [hf] at h
      cases hl : (l.mapM fun f => (tySize P f.type).map fun n => (f.offset, n)) with
      | none => simp [hl] at h
      | some r' =>
        simp [hl] at h
        subst h
        simp only [Sem.run_bind, run_size hf, Result.andThen_ok, Sem.run_pure, ih r' w hl]
section
variable {P : Program} {s : Xb} {h : Heap} {dst : Option Tmp} {ty : TypeId} {pos : String} {after : Array Edge} {gd : Option (Nat × Bool)} {t : TypeId}
theorem Q3 {places : List (Nat × Nat)} {zv : Value} {n b : Nat} {z : AV} {zc r : List AV} {parts : Array (Nat × Operand)} {ps : List (Nat × AV)}
    (hp : tyPlaces P t = some places) (hz : tyZero P t = some (zv, n, b)) (hc : cav zv = some z) (hj : isJunk z = false) (hzc : cellsO z = some zc)
    (ha : aevB s parts.toList = some ps) (hf : bfill places zc ps = some r) : OpP P ⟨dst, .build t parts, ty, pos, after, gd⟩ s h (.agg r) := by
  unfold tyPlaces at hp
  split at hp
  · rename_i fs hu
    refine op_build (places := places.toArray) hu (fun w => ?_) hz hc hj hzc ha (by simpa using hf)
    have := run_places fs.toList places w hp
    rw [Array.mapM_eq_mapM_toList]
    show ((List.mapM (fun f => do pure (f.offset, ← sizeOf f.type)) fs.toList : Sem (List (Nat × Nat))) >>= fun l => pure l.toArray).run P w = _
    rw [Sem.run_bind, this]
    rfl
  · cases hp
end
end Go.AM

namespace Go.AM
theorem iter_inv {σ τ : Type} {step : σ → Option (Ctl σ τ)} (I : σ → Prop) (μ : σ → Nat) (Q : τ → Prop)
    (h : ∀ s, I s → (∃ s', step s = some (.next s') ∧ I s' ∧ μ s' < μ s) ∨ ∃ t, step s = some (.out t) ∧ Q t) : ∀ {s : σ}, I s → ∃ t, iter step s = some t ∧ Q t := by
  have key : ∀ (n : Nat) (s : σ), μ s < n → I s → ∃ t, iter step s = some t ∧ Q t := by
    intro n
    induction n with
    | zero => intro s h0; omega
    | succ n ih =>
      intro s hn hI
      rcases h s hI with ⟨s', h1, h2, h3⟩ | ⟨t, h1, h2⟩
      · rw [iter_next h1]; exact ih s' (by omega) h2
      · exact ⟨t, iter_out h1, h2⟩
  exact fun {s} hI => key _ s (Nat.lt_succ_self _) hI
theorem forL_inv' {α σ τ : Type} {step : Nat → α → σ → Option (Ctl σ τ)} {fin : σ → τ} (I : Nat → σ → Prop) (Q : τ → Prop) : ∀ (xs : List α) (k : Nat) (s : σ),
    (∀ n x s, xs[n]? = some x → I (k + n) s → (∃ s', step (k + n) x s = some (.next s') ∧ I (k + n + 1) s') ∨ ∃ t, step (k + n) x s = some (.out t) ∧ Q t) →
    (∀ s, I (k + xs.length) s → Q (fin s)) → I k s → ∃ t, forL step fin k xs s = some t ∧ Q t := by
  intro xs
  induction xs with
  | nil => intro k s _ hf hI; exact ⟨_, rfl, hf s hI⟩
  | cons x r ih =>
    intro k s h hf hI
    rcases h 0 x s rfl hI with ⟨s', h1, h2⟩ | ⟨t, h1, h2⟩
    · have e : forL step fin k (x :: r) s = forL step fin (k + 1) r s' := by simp only [Nat.add_zero] at h1; simp [forL, h1]
      rw [e]
      refine ih (k + 1) s' (fun n y s2 hy hI2 => ?_) (fun s2 hI2 => hf s2 ?_) h2
      · have := h (n + 1) y s2 (by simpa using hy) (by rw [show k + (n + 1) = k + 1 + n by omega]; exact hI2)
        rw [show k + (n + 1) = k + 1 + n by omega] at this
        exact this
      · rw [show k + (x :: r).length = k + 1 + r.length by simp; omega]; exact hI2
    · exact ⟨t, by simp only [Nat.add_zero] at h1; simp [forL, h1], h2⟩
theorem forL_inv {α σ τ : Type} {step : Nat → α → σ → Option (Ctl σ τ)} {fin : σ → τ} {xs : List α} (I : Nat → σ → Prop) (Q : τ → Prop)
    (h : ∀ n x s, xs[n]? = some x → I n s → (∃ s', step n x s = some (.next s') ∧ I (n + 1) s') ∨ ∃ t, step n x s = some (.out t) ∧ Q t)
    (hf : ∀ s, I xs.length s → Q (fin s)) {s : σ} (hI : I 0 s) : ∃ t, forL step fin 0 xs s = some t ∧ Q t :=
  forL_inv' I Q xs 0 s (fun n x s hx hI => by simp only [Nat.zero_add] at *; exact h n x s hx hI) (fun s hI => hf s (by simpa using hI)) hI
theorem iter_for' {α ρ σ τ : Type} {step : σ → Option (Ctl σ τ)} (st : Nat → ρ → σ) (body : Nat → α → ρ → Option (Ctl ρ τ)) (fin : ρ → τ) : ∀ (xs : List α) (k : Nat) (r : ρ),
    (∀ n x r, xs[n]? = some x → step (st (k + n) r) = (body (k + n) x r).map fun c => match c with | .next r' => .next (st (k + n + 1) r') | .out t => .out t) →
    (∀ r, step (st (k + xs.length) r) = some (.out (fin r))) → iter step (st k r) = forL body fin k xs r := by
  intro xs
  induction xs with
  | nil => intro k r _ he; exact iter_out (he r)
  | cons x xs ih =>
    intro k r hs he
    have h0 := hs 0 x r rfl
    simp only [Nat.add_zero] at h0
    unfold forL
    cases hb : body k x r with
    | none => rw [hb] at h0; exact iter_none h0
    | some c =>
      rw [hb] at h0
      cases c with
      | next r' =>
        rw [iter_next h0]
        refine ih (k + 1) r' (fun n y r2 hy => ?_) (fun r2 => ?_)
        · have := hs (n + 1) y r2 (by simpa using hy)
          rw [show k + (n + 1) = k + 1 + n by omega] at this
          exact this
        · have := he r2
          rw [show k + (x :: xs).length = k + 1 + xs.length by simp; omega] at this
          exact this
      | out t => exact iter_out h0
theorem iter_for {α ρ σ τ : Type} {step : σ → Option (Ctl σ τ)} (xs : List α) (st : Nat → ρ → σ) (body : Nat → α → ρ → Option (Ctl ρ τ)) (fin : ρ → τ)
    (hs : ∀ n x r, xs[n]? = some x → step (st n r) = (body n x r).map fun c => match c with | .next r' => .next (st (n + 1) r') | .out t => .out t)
    (he : ∀ r, step (st xs.length r) = some (.out (fin r))) (r : ρ) : iter step (st 0 r) = forL body fin 0 xs r :=
  iter_for' st body fin xs 0 r (fun n x r hx => by rw [Nat.zero_add]; exact hs n x r hx) (fun r => by rw [Nat.zero_add]; exact he r)
theorem forL_all {α τ : Type} {body : Nat → α → Unit → Option (Ctl Unit τ)} {fin : Unit → τ} {f : τ} (p : α → Bool) : ∀ (xs : List α) (k : Nat),
    (∀ n, ∀ x ∈ xs, body n x () = bif p x then some (.next ()) else some (.out f)) → forL body fin k xs () = some (bif xs.all p then fin () else f) := by
  intro xs
  induction xs with
  | nil => intro k _; rfl
  | cons x xs ih =>
    intro k h
    have h0 := h k x (by simp)
    unfold forL
    cases hp : p x with
    | true => rw [hp] at h0; rw [h0]; simp only [cond_true, List.all_cons, hp, Bool.true_and]; exact ih (k + 1) (fun n y hy => h n y (by simp [hy]))
    | false => rw [hp] at h0; rw [h0]; simp [hp]
theorem forL_fold {α σ τ : Type} {body : Nat → α → σ → Option (Ctl σ τ)} {fin : σ → τ} (g : σ → α → σ) (I : Nat → σ → Prop) : ∀ (xs : List α) (k : Nat) (s : σ), I k s →
    (∀ n x s, xs[n]? = some x → I (k + n) s → body (k + n) x s = some (.next (g s x)) ∧ I (k + n + 1) (g s x)) → forL body fin k xs s = some (fin (xs.foldl g s)) := by
  intro xs
  induction xs with
  | nil => intro k s _ _; rfl
  | cons x xs ih =>
    intro k s hI h
    obtain ⟨h0, h1⟩ := h 0 x s rfl (by simpa using hI)
    simp only [Nat.add_zero] at h0 h1
    unfold forL
    rw [h0]
    refine ih (k + 1) _ h1 (fun n y s2 hy hI2 => ?_)
    have := h (n + 1) y s2 (by simpa using hy) (by rw [show k + (n + 1) = k + 1 + n by omega]; exact hI2)
    rw [show k + (n + 1) = k + 1 + n by omega] at this
    exact this
theorem Q0 {α : Type} {xs : List α} {n : Nat} {x : α} (h : xs[n]? = some x) : getI xs (n : Int) = some x := by rw [getI_nat, h]
theorem w64_succ {n : Nat} (h : n < 9223372036854775807) : w64 ((n : Int) + 1) = ((n + 1 : Nat) : Int) := by rw [w64_eq (by omega)]; omega
theorem w64_pred {n : Nat} (h : 0 < n) (h2 : n ≤ 9223372036854775807) : w64 ((n : Int) - 1) = ((n - 1 : Nat) : Int) := by rw [w64_eq (by omega)]; omega
theorem get_lt {α : Type} {xs : List α} {n : Nat} {x : α} (h : xs[n]? = some x) : n < xs.length := (List.getElem?_eq_some_iff.1 h).1
theorem makeI_some {n : Nat} {bz : Nat} (h : n * bz ≤ 281474976710656) : makeI (n : Int) bz = some n := by simp [makeI, h]
theorem capI_some {n bz : Nat} (h : n * bz ≤ 140737488355328) : capI n bz = some () := by simp [capI, h]
theorem dec_lt {a b : Nat} (h : a < b) : decide ((a : Int) < (b : Int)) = true := decide_eq_true (by omega)
theorem dec_self {a : Nat} : decide ((a : Int) < (a : Int)) = false := decide_eq_false (by omega)
theorem set_front {α : Type} {xs : List α} {z x : α} {n k : Nat} (hx : xs[n]? = some x) (hk : xs.length = n + 1 + k) :
    (xs.take n ++ List.replicate (k + 1) z).set n x = xs.take (n + 1) ++ List.replicate k z := by
  have hn := get_lt hx
  apply List.ext_getElem?
  intro i
  rw [List.getElem?_set]
  have hl : (xs.take n).length = n := by simp; omega
  have hl2 : (xs.take (n + 1)).length = n + 1 := by simp; omega
  by_cases hi : n = i
  · subst hi
    rw [if_pos rfl, List.getElem?_append_left (by omega)]
    simp [hx]
    omega
  · rw [if_neg hi]
    by_cases h2 : i < n
    · rw [List.getElem?_append_left (by omega), List.getElem?_append_left (by omega)]
      simp [List.getElem?_take, h2]
      omega
    · rw [List.getElem?_append_right (by omega), List.getElem?_append_right (by omega)]
      rw [hl, hl2]
      simp [List.getElem?_replicate]
      by_cases h3 : i - n < k + 1
      · rw [if_pos h3, if_pos (by omega)]
      · rw [if_neg h3, if_neg (by omega)]
def kfind {K : Type} [DecidableEq K] (k : K) : List K → Option Nat
  | [] => none
  | a :: r => if a = k then some 0 else (kfind k r).map (· + 1)
end Go.AM

namespace Go.AM
open Go
section
variable {P : Program} {dst : Option Tmp} {x y : Operand} {t ty : TypeId} {pos : String} {after : Array Edge} {gd : Option (Nat × Bool)} {s : Xb} {h : Heap} {k k' : IntKind} {a b : Int} {tys : Array TypeId}
section
variable {t' : TypeId} {W : Int → Int}
end
end
end Go.AM

namespace Go.AM
open Go
section
variable {S : Nat → Prop} {w : World} {φ : Nat → Loc} {h : Heap}
end
section
variable {P : Program} {F : Fr} {N : Nat} {ops : Array Oper} {l rest : List Oper} {K : St → Prop} {ex : Bool}
variable {ty : TypeId} {pos : String} {after : Array Edge} {d : Nat} {s s' : Xb} {h h' : Heap}
end
end Go.AM

namespace Go.AM
open Go
section
variable {P : Program} {F : Fr} {N : Nat} {ops : Array Oper} {l rest : List Oper} {K : St → Prop} {ex : Bool}
variable {ty : TypeId} {pos : String} {after : Array Edge} {d : Nat} {s s1 s' : Xb} {h h1 h' : Heap} {x : Operand} {id : Nat}
end
end Go.AM

namespace Go.AM
open Go
section
variable {P : Program} {F : Fr} {N : Nat} {ops : Array Oper} {l rest : List Oper} {K : St → Prop} {ex : Bool}
variable {ty t t' : TypeId} {pos : String} {after : Array Edge} {d : Nat} {s s1 s2 : Xb} {h : Heap} {x y : Operand}
theorem run_equalIn {w : World} {e : TypeId} {a : Option Addr} {n c : Nat} (hu : P.underlying t = some (.slice e)) (k : Nat) :
    (Op.equalIn (k + 1) t (.slice a n c) (.slice none 0 0)).run P w = .ok a.isNone w := by
  unfold Op.equalIn
  simp only [Sem.run_bind, run_underlying hu, Result.andThen_ok]
  cases a <;> rfl
theorem run_equal {w : World} {e : TypeId} {a : Option Addr} {n c : Nat} (hu : P.underlying t = some (.slice e)) : (Op.equal t (.slice a n c) (.slice none 0 0)).run P w = .ok a.isNone w := by
  unfold Op.equal
  have : ∃ k, Op.maxDepth = k + 1 := ⟨Op.maxDepth - 1, rfl⟩
  obtain ⟨k, hk⟩ := this
  rw [hk]
  exact run_equalIn hu k
theorem run_eqNil {w : World} {e : TypeId} {a : Option Addr} {n c : Nat} (hu : P.underlying t = some (.slice e)) :
    (binOp .eql t (.slice a n c) (.slice none 0 0)).run P w = .ok (.bool a.isNone) w := by
  have : binOp .eql t (.slice a n c) (.slice none 0 0) = (do pure (.bool (← Op.equal t (.slice a n c) (.slice none 0 0)))) := rfl
  rw [this]
  simp only [Sem.run_bind, run_equal hu, Result.andThen_ok, Sem.run_pure]
theorem eqGuard_sl (op : BinOp) (w : World) (a : Option Addr) (n c : Nat) (v : Value) : (eqGuard op t x y (.slice a n c) v).run P w = .ok () w := by
  have : eqGuard op t x y (.slice a n c) v = pure () := by cases op <;> rfl
  rw [this]; rfl
theorem sl_addr {S : Nat → Prop} {w : World} {φ : Nat → Loc} {η : Heap} {sz : Nat} {es : List AV} {v : Value} (hv : RepV S w φ η (.sl sz es) v) : ∃ a n c, v = .slice a n c ∧ (a = none → es = []) := by
  cases hv with
  | pure hv =>
    cases hv with
    | sl0 _ a cap _ => exact ⟨a, 0, cap, rfl, fun _ => rfl⟩
    | sl _ _ b off cap f _ => exact ⟨_, _, _, rfl, fun h => by cases h⟩
theorem snil_val {S : Nat → Prop} {w : World} {φ : Nat → Loc} {η : Heap} {v : Value} (hv : RepV S w φ η .snil v) : v = .slice none 0 0 := by
  cases hv with
  | pure h => cases h; rfl
theorem TL_eqNil {e : TypeId} {sz : Nat} {es : List AV} (hu : P.underlying t = some (.slice e)) (hx : aev s x = some (.sl sz es)) (hy : aev s y = some .snil) (hN : Nat.blt d N = true)
    (hs1 : sput s d (.bool true) = some s1) (hs2 : sput s d (.bool false) = some s2) (k1 : es = [] → TLE ex P F N ops rest K ⟨s1, h⟩) (k2 : TLE ex P F N ops rest K ⟨s2, h⟩) :
    TLE ex P F N ops (⟨some d, .binOp .eql t x y t', ty, pos, after, none⟩ :: rest) K ⟨s, h⟩ := by
  intro a w R hr hQ
  obtain ⟨φ, hp⟩ := hr
  obtain ⟨ad, n, c, hv, he⟩ := sl_addr (aev_rep hp hx)
  have hv2 := snil_val (aev_rep hp hy)
  have hrun : (execOp a.eval ⟨some d, .binOp .eql t x y t', ty, pos, after, none⟩).run P w = .ok (.value (.bool ad.isNone)) w := by
    simp only [exec_binOp, hv, hv2, Sem.run_bind, Sem.run_pure, eqGuard_sl, run_eqNil hu, Result.andThen_ok]
  refine wpList_plain rfl fun K' hK' => ?_
  unfold Oper.wp
  rw [hrun]
  cases ad with
  | none => exact hK' _ _ (k1 (he rfl) _ _ R ⟨φ, hp.put (Nat.le_of_ble_eq_true hN) hs1 (.pure (.bool true))⟩ (fun st' a' w'' hk hr'' he => hQ st' a' w'' hk hr'' he))
  | some ad => exact hK' _ _ (k2 _ _ R ⟨φ, hp.put (Nat.le_of_ble_eq_true hN) hs2 (.pure (.bool false))⟩ (fun st' a' w'' hk hr'' he => hQ st' a' w'' hk hr'' he))
end
end Go.AM

namespace Go.AM
open Go
section
variable {P : Program} {s : Xb} {h : Heap} {dst : Option Tmp} {ty : TypeId} {pos : String} {after : Array Edge} {gd : Option (Nat × Bool)} {x y : Operand} {t : TypeId}
end
end Go.AM

namespace Go.AM
open Go
section
variable {P : Program} {s : Xb} {h : Heap} {dst : Option Tmp} {ty : TypeId} {pos : String} {after : Array Edge} {gd : Option (Nat × Bool)} {x y : Operand} {t : TypeId}
theorem QY {cs cs1 cs2 : List AV} {f o n : Nat} (hf : tyField P t f = some o) (hx : aev s x = some (.cp cs)) (hq : afield o (.cp cs) = some (.cp cs1)) (hc : cs1.take n = cs2) :
    OpP P ⟨dst, .fieldAddr t x f, ty, pos, after, gd⟩ s h (.cp cs2) := by
  intro S w φ η ρ hh hη hρ
  obtain ⟨v, h1, h2⟩ := Qj (dst := dst) (ty := ty) (pos := pos) (after := after) (gd := gd) hf hx hq S w φ η ρ hh hη hρ
  refine ⟨v, h1, ?_⟩
  subst hc
  cases h2 with
  | pure h =>
    cases h with
    | cp _ b off g hb hcell hr =>
      exact .pure (.cp _ b off g hb (fun j y hy => hcell j y (by rw [List.getElem?_take] at hy; split at hy; exact hy; cases hy)) (fun j y hy => hr j y (by rw [List.getElem?_take] at hy; split at hy; exact hy; cases hy)))
end
end Go.AM

namespace Go.AM
open Go
section
variable {P : Program} {F : Fr} {N : Nat} {K : St → Prop} {ops : Array Oper} {Z : List Nat} {fuel : Nat} {listed : List Bool} {s s' : Xb} {h h' : Heap} {st : St}
theorem Qy (fuel2 : Nat) (listed2 : List Bool) (st2 : St) (h : TZ P F N ops Z fuel2 listed2 K st2) (k : TZ P F N ops Z fuel2 listed2 K st2 → TZ P F N ops Z fuel listed K st) :
    TZ P F N ops Z fuel listed K st := k h
theorem Ql (ids hids : List Nat) (hk : keepO ids s = some s') (hk2 : keepO hids h = some h') (hc : s'.all (fun p => closed h' p.2) = true) (hcH : closedH h' h' = true)
    (hall : F.η.all (fun p => (lk h' p.1).isSome) = true) (k : TZ P F N ops Z fuel listed K ⟨s', h'⟩) : TZ P F N ops Z fuel listed K ⟨s, h⟩ := TZ_sub (fun φ _ _ hr => ⟨φ, hr.keepH hk hk2 hc hcH hall⟩) k
end
def TrR (x x' : AV) : Prop := (x' = .tr x ∧ (x = .nilp ∨ ∃ cs, x = .cp cs)) ∨ (x = .tr x' ∧ ∃ cs, x' = .cp cs)
theorem TrR.rep {S : Nat → Prop} {w : World} {φ : Nat → Loc} {η : Heap} {x x' : AV} {v : Value} (h : TrR x x') (hr : RepV S w φ η x v) : RepV S w φ η x' v := by
  rcases h with ⟨rfl, rfl | ⟨cs, rfl⟩⟩ | ⟨rfl, cs, rfl⟩
  · cases hr with
    | pure hr => cases hr; exact .pure (.tr _ _ .nilp)
  · cases hr with
    | pure hr =>
      cases hr with
      | cp _ b off f h1 h2 h3 => exact .pure (.tr _ _ (.cp cs b off f h1 h2 h3))
  · cases hr with
    | pure hr =>
      cases hr with
      | tr _ p h => exact .pure h
      | trm _ us h => cases h
section
variable {P : Program} {F : Fr} {N : Nat} {Q : Exit → St → Prop} {c : Code} {K : St → Prop} {ops : Array Oper} {l : List Oper} {ex : Bool} {Z : List Nat} {fuel : Nat} {listed : List Bool} {s s' : Xb} {h : Heap}
end
section
variable {P : Program} {F : Fr} {N : Nat} {K : St → Prop} {ops : Array Oper} {l : List Oper} {ex : Bool} {s s' : Xb} {h h' : Heap}
end
def FrR (y x : AV) : Prop := y = x ∨ ∃ cs n, y = .cp cs ∧ x = .cp (cs.take n)
theorem FrR.rep {S : Nat → Prop} {w : World} {φ : Nat → Loc} {η : Heap} {y x : AV} {v : Value} (h : FrR y x) (hr : RepV S w φ η y v) : RepV S w φ η x v := by
  rcases h with rfl | ⟨cs, n, rfl, rfl⟩
  · exact hr
  · cases hr with
    | pure hr =>
      cases hr with
      | cp _ b off f h1 h2 h3 =>
        exact .pure (.cp _ b off f h1 (fun j z hz => h2 j z (by rw [List.getElem?_take] at hz; split at hz; exact hz; cases hz)) (fun j z hz => h3 j z (by rw [List.getElem?_take] at hz; split at hz; exact hz; cases hz)))
end Go.AM

namespace Go.AM
open Go Go.MapKept
structure KeyOK (P : Program) (kt : TypeId) {K : Type} [DecidableEq K] (enc : K → AV) (val : K → Value) : Prop where
  rep : ∀ (S : Nat → Prop) (w : World) (k : K) (v : Value), RepT S w (enc k) v → v = val k
  mkr : ∀ (S : Nat → Prop) (w : World) (k : K), RepT S w (enc k) (val k)
  ids : ∀ k, noIds (enc k) = true
  chk : ∀ (b : Bool) (k : K) (w : World), (Instr.checkKey b 10000 kt (val k)).run P w = .ok () w
  find : ∀ (w : World) (k : K) (ks : List K) (ents : List MapEntry), ents.map (·.key) = ks.map val →
    (Instr.findKey kt (val k) ents).run P w = .ok ((kfind k ks).bind fun i => (ents[i]?).map fun x => (i, x.val)) w
  same : ∀ k, Instr.sameBits 10000 (val k) (val k) = true
section
variable {P : Program} {F : Fr} {N : Nat}
variable {K V : Type} [DecidableEq K] {encK : K → AV} {encV : V → AV} {val : K → Value} {kt et : TypeId} {f : K × V → AV}
end
section
variable {P : Program} {F : Fr} {N : Nat} {K0 : St → Prop} {ops : Array Oper} {rest : List Oper} {ex : Bool}
variable {ty : TypeId} {pos : String} {after : Array Edge} {d id : Nat} {s s' : Xb} {h h' : Heap} {x y z : Operand} {gd : Option (Nat × Bool)} {dst : Option Tmp}
variable {K V : Type} [DecidableEq K] {encK : K → AV} {encV : V → AV} {val : K → Value} {t kt et : TypeId} {f : K × V → AV}
end
section
variable {P : Program} {F : Fr} {N : Nat} {Q : Exit → St → Prop} {c : Code} {K : St → Prop} {ops : Array Oper} {l : List Oper} {ex : Bool} {s : Xb} {h h' : Heap}
end
section
variable {P : Program} {F : Fr} {N : Nat} {Q : Exit → St → Prop} {c : Code} {K : St → Prop} {ops : Array Oper} {l : List Oper} {ex : Bool} {s : Xb} {h h' : Heap}
theorem RelP.shallow {φ : Nat → Loc} {a : Act} {w : World} {id sz : Nat} {p : Bool} {E : TypeId} {es : List AV} (hr : RelP F N ⟨s, h⟩ φ a w) (hF : lk F.η id = none) (hl : lk h id = some (.arr ⟨p, true⟩ sz E es))
    (hn1 : s.all (fun q => noSub id q.2) = true) (hn2 : noSubH id h = true) (hh : sput h id (.arr ⟨p, false⟩ sz E es) = some h') : Rel F N ⟨s, h'⟩ a w := by
  obtain ⟨hsz, hlens, hone, hob⟩ := hr.heap.obj _ _ hl
  have hlk := lk_sput hh
  have h1id : lk h' id = some (.arr ⟨p, false⟩ sz E es) := by rw [hlk, if_pos rfl]
  have hown : ∀ b, (updLoc φ id { φ id with fp := [] } id).owns b → (φ id).owns b := by
    intro b hb
    rw [Qu] at hb
    rcases hb with hb | hb
    · exact .inl hb
    · simp at hb
  refine ⟨updLoc φ id { φ id with fp := [] }, hr.upd hh (updLoc_ne φ id _) (SameSys.refl w) (Nat.le_refl _) (fun _ _ _ => rfl) (fun b hb => .inr ⟨_, hl, hown b hb⟩)
    (fun o ho => by rw [hF] at ho; cases ho) (fun o ho => by rw [hl] at ho; cases ho; exact ⟨rfl, fun _ => ⟨rfl, rfl, rfl⟩⟩) (fun hS hw x v hx hv => ?_) (fun hS hw => ⟨hsz, hlens, hone, ?_⟩)⟩
  · refine hv.move (id := id) (gone := fun _ => False) hS (fun _ _ => rfl) (fun i hi _ => updLoc_ne φ id _ i hi) (fun o ho _ => by rw [Qu]; exact ⟨rfl, rfl, rfl, rfl⟩) (fun i cs _ ho => ?_) (fun i k2 sz2 E2 es2 _ ho => ?_) (fun _ h => h.elim) ?_
    · have hne : id ≠ i := fun e => by subst e; rw [hl] at ho; cases ho
      exact ⟨cs, by rw [hlk, if_neg hne]; exact ho⟩
    · by_cases hii : id = i
      · subst hii; rw [hl] at ho; cases ho; exact ⟨_, _, rfl, h1id⟩
      · exact ⟨k2, es2, rfl, by rw [hlk, if_neg hii]; exact ho⟩
    · rcases hx with ⟨i, hi⟩ | ⟨i, cs, _, hi, hxc⟩
      · exact lk_all (p := noSub id) hn1 hi
      · exact noSubH_box hn2 hi hxc
  · rw [Qu]
    rcases hob with ⟨hm, h0⟩ | ⟨hm, C, hC, h1, h2, h3, h4⟩
    · exact .inl ⟨hm, h0⟩
    · refine .inr ⟨hm, C, hC, h1, h2, h3, CellsOK.ofTrees rfl fun j x v hx hv => ?_⟩
      obtain ⟨fps, f1, f2, f3, f4, _⟩ := (show CellsOK ⟨p, true⟩ (Stab F w φ h) w (φ id) (flat es) C from h4)
      have hlt := (List.getElem?_eq_some_iff.1 hx).1
      have hp : fps[j]? = some (fps[j]'(by omega)) := by simp [f1, hlt]
      refine (f2 j x v _ hx hv hp).toTree (fun b hb => ?_)
      have hbf : b ∈ fps.flatten := List.mem_flatten.2 ⟨_, List.mem_of_getElem? hp, hb⟩
      have hbo : (φ id).owns b := .inr (f4 b hbf)
      refine ⟨hr.heap.ltO id _ b hl hbo, ?_, fun i o ho hm2 => ?_⟩
      · rcases hr.mine id _ b hl hbo with h5 | ⟨o0, h5, _⟩
        · exact .inr h5
        · rw [hF] at h5; cases h5
      · by_cases hii : id = i
        · subst hii
          rw [Qu] at hm2
          rcases hm2 with ⟨_, hm2⟩ | hm2
          · exact (List.nodup_cons.1 f3).1 (by rw [show (φ id).blk = b from hm2]; exact hbf)
          · simp at hm2
        · rw [updLoc_ne φ id _ i (Ne.symm hii)] at hm2
          rw [hlk, if_neg hii] at ho
          exact hii (hr.heap.injO id i _ o b hl ho hbo hm2)
theorem TL_shallow (id : Nat) {sz : Nat} {p : Bool} {E : TypeId} {es : List AV} (hF : lk F.η id = none) (hl : lk h id = some (.arr ⟨p, true⟩ sz E es)) (hn1 : s.all (fun q => noSub id q.2) = true) (hn2 : noSubH id h = true)
    (hh : sput h id (.arr ⟨p, false⟩ sz E es) = some h') (k : TLE ex P F N ops l K ⟨s, h'⟩) : TLE ex P F N ops l K ⟨s, h⟩ := TL_sub (fun _ _ _ hr => hr.shallow hF hl hn1 hn2 hh) k
end
end Go.AM

namespace Go.AM
open Go Go.MapKept
section
variable {P : Program} {s : Xb} {h : Heap} {dst : Option Tmp} {ty : TypeId} {pos : String} {after : Array Edge} {gd : Option (Nat × Bool)} {t : TypeId}
end
section
variable {P : Program} {F : Fr} {N : Nat} {ops : Array Oper} {Z : List Nat} {fuel : Nat} {listed : List Bool} {K : St → Prop} {s s' : Xb} {h h' : Heap}
end
section
variable {P : Program} {s : Xb} {h : Heap} {dst : Option Tmp} {ty : TypeId} {pos : String} {after : Array Edge} {gd : Option (Nat × Bool)} {t : TypeId} {x y : Operand}
end
section
variable {P : Program} {kt e : TypeId}
end
end Go.AM

namespace Go.AM
open Go
structure LibEnd (w w' : World) : Prop where
  sys : SameSys w w'
  grow : w.heap.size ≤ w'.heap.size
  frame : ∀ b, b < w.heap.size → w'.heap[b]? = w.heap[b]?
theorem LibEnd.refl (w : World) : LibEnd w w := ⟨SameSys.refl w, Nat.le_refl _, fun _ _ => rfl⟩
end Go.AM

namespace Go.AM
open Go Go.RowKit
section
variable {P : Program} {s : Xb} {h : Heap} {dst : Option Tmp} {ty : TypeId} {pos : String} {after : Array Edge} {gd : Option (Nat × Bool)}
variable {x : Operand} {t t' : TypeId}
end
section
variable {P : Program} {F : Fr} {N : Nat} {ops : Array Oper} {l rest : List Oper} {KK : St → Prop} {ex : Bool}
variable {ty t t' : TypeId} {pos : String} {after : Array Edge} {d : Nat} {s s' : Xb} {h h' : Heap} {x : Operand}
end
section
variable {P : Program} {s : Xb} {h : Heap} {dst : Option Tmp} {ty t : TypeId} {pos : String} {after : Array Edge} {gd : Option (Nat × Bool)} {x : Operand} {id : Nat}
variable {K V : Type} [DecidableEq K] {encK : K → AV} {encV : V → AV} {val : K → Value} {kt et : TypeId} {f : K × V → AV}
end
section
variable {P : Program} {W : World}
end
end Go.AM

namespace Go.AM
open Go
section
variable {F : Fr} {N : Nat} {P : Program}
variable {ops : Array Oper} {K : St → Prop}
variable {id : Nat} {s s' : Xb} {h h' : Heap}
end
end Go.AM

namespace Go.AM
end Go.AM

namespace Go.AM
open Go
section
variable {P : Program} {s : Xb} {h : Heap} {dst : Option Tmp} {ty t t' : TypeId} {pos : String} {after : Array Edge} {gd : Option (Nat × Bool)} {x : Operand}
end
section
variable {P : Program} {F : Fr} {N : Nat} {ops : Array Oper} {rest : List Oper} {KK : St → Prop}
variable {ty : TypeId} {pos : String} {after : Array Edge} {d : Nat} {s s1 s' : Xb} {h h1 h' : Heap}
end
end Go.AM

namespace Go.AM
open Go
theorem run_copy_rowN {P : Program} (w : World) (dT sT ty elem : TypeId) (g o dLen dCap : Nat) (a : Addr) (sLen sCap sz : Nat) (cur : Array Value) (t : TypeId) (cs : List Value)
    (hu : P.underlying dT = some (.slice elem)) (hs : (P.info? elem).map (·.size) = some sz)
    (hg : w.heap[g]? = some (.cells cur t (0, 0))) (hn : cs.length = Nat.min sLen dLen * sz)
    (hsrc : ∀ j v, cs[j]? = some v → w.cell? (a.add j) = some v) (hfit : o + cs.length ≤ cur.size) (h1 : ∀ v ∈ cs, v.oneCell' = true) :
    (Builtin.copy_ #[dT, sT] ty #[.slice (some ⟨g, o, none⟩) dLen dCap, .slice (some a) sLen sCap]).run P w =
      .ok (goInt (Nat.min sLen dLen)) (w.setRow g (cur.toList.take o ++ cs ++ cur.toList.drop (o + cs.length)).toArray) := by
  have hl := run_loadCells_list (P := P) w a cs hsrc
  have hst := run_storeCells_at P g o t cs 0 cur w hg (by simpa using hfit) h1
  cases hq : P.info? elem with
  | none => simp [hq] at hs
  | some i =>
    have hi : i.size = sz := by simpa [hq] using hs
    simp [Builtin.copy_, run_underlying hu, Builtin.lenOf, Builtin.firstCells, sizeOf, typeInfo, hq, hi, ← hn, hl, hst]
theorem run_overlaps_own {P : Program} (w : World) (tS tR e : TypeId) (ht : P.underlying tS = some (.slice e)) (size : Nat) (hz : ∀ w, (Go.sizeOf e).run P w = .ok size w)
    (a b : Nat) (oa ob la ca lb cb : Nat) (hne : a ≠ b) (va : Value) (hca : w.cell? ⟨a, oa, none⟩ = some va) (C : Array Value) (E : TypeId) (hb : w.heap[b]? = some (.cells C E (0, 0))) (hC : C.size ≠ 0) :
    (Extern.SlicesOverlaps.overlaps #[tS, tS] #[tR] #[.slice (some ⟨a, oa, none⟩) la ca, .slice (some ⟨b, ob, none⟩) lb cb]).run P w = .ok (.bool false) w := by
  have hnb : (a != b) = true := by simpa using hne
  have hnb' : (a == b) = false := by simpa using hne
  change Sem.run P (α := Value) (do
    let some t := (#[tS, tS] : Array TypeId)[0]? | stuck "slices.overlaps: no parameter types"
    let .slice elem ← underlying t | stuck "slices.overlaps: slice type expected"
    let size ← sizeOf elem
    match (some ⟨a, oa, none⟩ : Option Addr), (some ⟨b, ob, none⟩ : Option Addr) with
    | some a, some b =>
      if la = 0 ∨ lb = 0 ∨ size = 0 then pure (Value.bool false)
      else if a.block != b.block && (← frozen a) && (← frozen b) then unsupported .addressObserved
      else do
        if a.block != b.block then do
          noView a; noView b
          if ← mayBeOne a b then return Value.bool ((← choose (.extern "sameAddr.stringBytes" 2)) == 1)
        pure (Value.bool (a.block == b.block && a.off < b.off + lb * size && b.off < a.off + la * size))
    | _, _ => pure (Value.bool false)) w = _
  by_cases h0 : la = 0 ∨ lb = 0 ∨ size = 0
  · simp [run_underlying ht, hz, h0]
  · obtain ⟨Ca, Ea, fr, ha, hoa⟩ : ∃ Ca Ea fr, w.heap[a]? = some (.cells Ca Ea fr) ∧ oa < Ca.size := by
      simp only [World.cell?] at hca
      split at hca
      · rename_i Ca Ea fr heq
        refine ⟨Ca, Ea, fr, heq, ?_⟩
        simp only [Option.isSome_none, Bool.false_eq_true, if_false] at hca
        exact (Array.getElem?_eq_some_iff.1 hca).1
      · cases hca
    have hsa : w.shape? a = some (Ea, Ca.size) := by simp [World.shape?, ha]
    have hsb : w.shape? b = some (E, C.size) := by simp [World.shape?, hb]
    have hfb : ∀ o, w.frozen? ⟨b, o, none⟩ = false := fun o => by simp [World.frozen?, hb]
    have hCa : Ca.size ≠ 0 := by omega
    obtain ⟨k, hk⟩ : ∃ k, Ca.size = k + 1 := ⟨Ca.size - 1, by omega⟩
    obtain ⟨k', hk'⟩ : ∃ k, C.size = k + 1 := ⟨C.size - 1, by omega⟩
    rw [hk] at hsa
    rw [hk'] at hsb
    cases hfa : w.frozen? ⟨a, oa, none⟩ <;> cases hfe : w.frozen? ⟨a, k + 1, none⟩ <;>
    simp [run_underlying ht, hz, h0, hnb, hnb', frozen, noView, viewAt, mayBeOne, stringish, shape, Sem.run, hsa, hsb, hfa, hfe, hfb]
end Go.AM

namespace Go.AM
open Go
end Go.AM

namespace Go.AM
open Go
theorem LinT.one {w : World} {x : AV} {v : Value} {fp : List Nat} (h : LinT w x v fp) (ho : one x = true) : v.oneCell' = true := by
  cases h <;> first | rfl | (simp [AM.one] at ho; done)
structure DW (w : World) (xs : List AV) (us : List Value) (fps : List (List Nat)) : Prop where
  len : xs.length = us.length
  lf : fps.length = xs.length
  rep : ∀ (i : Nat) x v fp, xs[i]? = some x → us[i]? = some v → fps[i]? = some fp → LinT w x v fp
theorem DW.app {w : World} {xs ys : List AV} {us vs : List Value} {f g : List (List Nat)} (h : DW w xs us f) (k : DW w ys vs g) : DW w (xs ++ ys) (us ++ vs) (f ++ g) := by
  refine ⟨by simp [h.len, k.len], by simp [h.lf, k.lf], fun i x v fp hx hv hf => ?_⟩
  by_cases hi : i < xs.length
  · rw [List.getElem?_append_left hi] at hx
    rw [List.getElem?_append_left (by rw [← h.len]; exact hi)] at hv
    rw [List.getElem?_append_left (by rw [h.lf]; exact hi)] at hf
    exact h.rep i x v fp hx hv hf
  · rw [List.getElem?_append_right (by omega)] at hx
    rw [List.getElem?_append_right (by rw [← h.len]; omega), ← h.len] at hv
    rw [List.getElem?_append_right (by rw [h.lf]; omega), h.lf] at hf
    exact k.rep _ x v fp hx hv hf
theorem DW.take {w : World} {xs : List AV} {us : List Value} {f : List (List Nat)} (h : DW w xs us f) (n : Nat) : DW w (xs.take n) (us.take n) (f.take n) :=
  ⟨by simp [h.len], by simp [h.lf], fun i x v fp hx hv hf => by
    rw [List.getElem?_take] at hx hv hf
    split at hx
    · rename_i hi; rw [if_pos hi] at hv hf; exact h.rep i x v fp hx hv hf
    · cases hx⟩
theorem DW.drop {w : World} {xs : List AV} {us : List Value} {f : List (List Nat)} (h : DW w xs us f) (n : Nat) : DW w (xs.drop n) (us.drop n) (f.drop n) :=
  ⟨by simp [h.len], by simp [h.lf], fun i x v fp hx hv hf => by rw [List.getElem?_drop] at hx hv hf; exact h.rep _ x v fp hx hv hf⟩
theorem deep_cells {S : Nat → Prop} {w : World} {φ : Nat → Loc} {L : Heap} {id : Nat} {E : TypeId} {es : List AV} (hH : HeapOK S w φ L) (hl : lk L id = some (.arr ⟨false, true⟩ 2 E es)) {u : Value}
    (hu : RepV S w φ L (.ow id) u) : (∀ e ∈ es, e.cells.length = 2) ∧ (∀ (j : Nat) x, (flat es)[j]? = some x → one x = true) ∧
    (((φ id).mat = true ∧ u = .slice (some ⟨(φ id).blk, 0, none⟩) es.length (φ id).cap ∧ ∃ C fps, w.heap[(φ id).blk]? = some (.cells C E (0, 0)) ∧ es.length ≤ (φ id).cap ∧ (φ id).cap ≤ maxLen ∧ C.size = (φ id).cap * 2 ∧
        DW w (flat es) (C.toList.take (es.length * 2)) fps ∧ (∀ v ∈ C.toList.take (es.length * 2), v.oneCell' = true) ∧ ((φ id).blk :: fps.flatten).Nodup ∧ ∀ b ∈ fps.flatten, b ∈ (φ id).fp) ∨
      ((φ id).mat = false ∧ es = [] ∧ u = .slice (φ id).va 0 0)) := by
  obtain ⟨_, hlens, hones, hob⟩ := hH.obj id _ hl
  refine ⟨hlens, hones, ?_⟩
  rcases hu.ow_inv hl with ⟨hm, hv⟩ | ⟨hm, he, hv⟩
  · rcases hob with ⟨hf, _⟩ | ⟨_, C, hC, hle, hcm, hCs, fps, h1, h2, h3, h4, _⟩
    · rw [hm] at hf; cases hf
    · have hfl := Xa hlens
      have hCl : C.toList.length = (φ id).cap * 2 := by rw [Array.length_toList]; exact hCs
      have hDW : DW w (flat es) (C.toList.take (es.length * 2)) fps := by
        refine ⟨by rw [hfl, List.length_take, hCl]; omega, h1, fun j x v fp hx hv hf => ?_⟩
        rw [List.getElem?_take] at hv
        split at hv
        · exact h2 j x v fp hx (by simpa using hv) hf
        · cases hv
      refine .inl ⟨hm, hv, C, fps, hC, hle, hcm, hCs, hDW, fun v hv => ?_, h3, h4⟩
      obtain ⟨j, hj⟩ := List.getElem?_of_mem hv
      have hjl := (List.getElem?_eq_some_iff.1 hj).1
      rw [← hDW.len] at hjl
      exact (hDW.rep j _ v _ (List.getElem?_eq_getElem hjl) hj (List.getElem?_eq_getElem (by rw [hDW.lf]; exact hjl))).one (hones j _ (List.getElem?_eq_getElem hjl))
  · exact .inr ⟨hm, he, hv⟩
theorem RelP.relaid {F : Fr} {N : Nat} {s s1 : Xb} {h h1 h' : Heap} {id : Nat} {E : TypeId} {es es' : List AV} {φ : Nat → Loc} {a : Act} {w w' : World} {l' : Loc} {v' : Value} {cs : List Value} {fps : List (List Nat)} (gone : List Nat)
    (hr : RelP F N ⟨s, h⟩ φ a w) (hl : lk h id = some (.arr ⟨false, true⟩ 2 E es)) (hgid : id ∉ gone) (hgF : ∀ j ∈ gone, lk F.η j = none)
    (hks : killSL (id :: gone) s = some s1) (hkh : killHL (id :: gone) h = some h1) (hh : sput (dropH gone h1) id (.arr ⟨false, true⟩ 2 E es') = some h')
    (hres : AppR w w' E 2 (φ id) l' es'.length v' cs) (hlens : ∀ e ∈ es', e.cells.length = 2) (hones : ∀ (j : Nat) x, (flat es')[j]? = some x → one x = true)
    (hD : DW w (flat es') cs fps) (hnd : fps.flatten.Nodup) (hnb : (φ id).mat = true → (φ id).blk ∉ fps.flatten)
    (hfp : ∀ b ∈ fps.flatten, b ∈ (φ id).fp ∨ ∃ j o, j ∈ gone ∧ lk h j = some o ∧ (φ j).owns b) :
    ∃ φ', RelP F N ⟨s1, h'⟩ φ' a w' ∧ RepV (Stab F w' φ' h') w' φ' h' (.ow id) v' := by
  have hlt : ∀ b ∈ fps.flatten, b < w.heap.size := fun b hb => by
    rcases hfp b hb with h1 | ⟨j, o, _, h1, h2⟩
    · exact hr.heap.ltO id _ b hl (.inr h1)
    · exact hr.heap.ltO j o b h1 h2
  refine ⟨_, hr.appended gone fps.flatten (fun j => match cs[j]? with | some (.slice a n c) => (a, n, c) | _ => (none, 0, 0)) hl rfl hgid hgF hks hkh hh hres hfp hlens hones (fun C' htk hm => ?_)⟩
  have hcell : ∀ (j : Nat) x v, (flat es')[j]? = some x → C'[j]? = some v → cs[j]? = some v := by
    intro j x v hx hv
    rw [← htk, List.getElem?_take, if_pos]
    · simpa using hv
    · rw [← Xa hlens]; exact (List.getElem?_eq_some_iff.1 hx).1
  refine ⟨fps, hD.lf, fun j x v fp hx hv hf => hD.rep j x v fp hx (hcell j x v hx hv) hf, List.nodup_cons.2 ⟨fun hb => ?_, hnd⟩, fun b hb => hb, fun j x v hx hv hs => ?_⟩
  · rcases hres.go with ⟨hf, _⟩ | ⟨_, _, _, ⟨h1, h2⟩ | ⟨h1, _⟩⟩
    · rw [hm] at hf; cases hf
    · have hb' : l'.blk ∈ fps.flatten := hb
      rw [h2] at hb'; exact hnb h1 hb'
    · have := hlt _ hb
      have hb' : w.heap.size ≤ l'.blk := h1
      have h3 : l'.blk < w.heap.size := this
      omega
  · have hjl : j < fps.length := by rw [hD.lf]; exact (List.getElem?_eq_some_iff.1 hx).1
    have hc := hcell j x v hx hv
    have hl := hD.rep j x v _ hx hc (List.getElem?_eq_getElem hjl)
    show v = .slice (match cs[j]? with | some (.slice a n c) => (a, n, c) | _ => (none, 0, 0)).1 (match cs[j]? with | some (.slice a n c) => (a, n, c) | _ => (none, 0, 0)).2.1 (match cs[j]? with | some (.slice a n c) => (a, n, c) | _ => (none, 0, 0)).2.2
    rw [hc]
    generalize fps[j] = fp at hl
    cases hl <;> first | rfl | (simp [isSl] at hs; done)
end Go.AM

namespace Go.AM
open Go
section
variable {P : Program} {F : Fr} {N : Nat} {s s1 : Xb} {h h0 h1 h' : Heap} {id : Nat} {E : TypeId} {k k' : Kd} {sz : Nat} {es : List AV}
theorem RelP.renil {φ : Nat → Loc} {a : Act} {w : World} (hr : RelP F N ⟨s, h⟩ φ a w) (hl : lk h id = some (.arr k sz E es)) (hkp : k.p = false) (hkp' : k'.p = false)
    (hks : killSL [id] s = some s1) (hkh : killHL [id] h = some h0) (hh : sput h0 id (.arr k' sz E []) = some h') : RelP F N ⟨s1, h'⟩ (updLoc φ id (mkLoc 0 0 false)) a w := by
  obtain ⟨hHn, hH⟩ := killHL_spec hkh
  have hkS := killSL_spec hks
  have hrk : RelP F N ⟨s1, h0⟩ φ a w := hr.weaken (fun i x hx => (hkS i x hx).2) hHn (fun i o ho => (hH i o ho).2)
  have hlk := lk_sput hh
  have hl1 : ∃ es1, lk h0 id = some (.arr k sz E es1) := by
    cases hq : lk h0 id with
    | none => rw [(hHn id).1 hq] at hl; cases hl
    | some o =>
      obtain ⟨_, o2, ho2, hw⟩ := hH id o hq
      rw [hl] at ho2
      cases ho2
      cases o with
      | box _ => exact hw.elim
      | arr _ _ _ _ => obtain ⟨rfl, rfl, rfl, rfl⟩ := hw; exact ⟨_, rfl⟩
  obtain ⟨es1, hl1⟩ := hl1
  have h1id : lk h' id = some (.arr k' sz E []) := by rw [hlk, if_pos rfl]
  obtain ⟨hsz, _⟩ := hrk.heap.obj _ _ hl1
  refine hrk.updX (fun _ => False) h1id (fun j hj _ => by rw [hlk, if_neg (Ne.symm hj)]) (fun j _ hg => hg.elim) (fun j hg => hg.elim) (updLoc_ne φ id _) (SameSys.refl w) (Nat.le_refl _) (fun _ _ _ => rfl) (fun b hb => ?_) (fun o hcs hne => ?_)
    (fun o ho => by rw [hl1] at ho; cases ho; exact ⟨by rw [hkp, hkp'], fun hp => by rw [hkp] at hp; cases hp⟩) (fun hS hw x v hx hv => ?_) (fun hS hw => ?_)
  · rw [Qu, mkLoc_owns] at hb; cases hb.1
  · exfalso
    obtain ⟨o1, ho1, hb1⟩ := hr.keep id _ hcs
    have ho1' : lk h id = some o1 := ho1
    rw [hl] at ho1'
    cases ho1'
    have := AO.alike_box hb1
    apply hne
    rw [← this]
    simp [AO.isBox, hkp]
  · have hm : men id x = false := by
      rcases hx with ⟨i, hi⟩ | ⟨i, cs, _, hi, hxc⟩
      · exact (hkS i x hi).1 id (by simp)
      · exact (hH i _ hi).1 cs rfl x hxc id (by simp)
    exact hv.apart hS hw (updLoc_ne φ id _) (fun i cs hi ho => ⟨cs, by rw [hlk, if_neg (Ne.symm hi)]; exact ho⟩) (fun i k sz E es hi ho => by rw [hlk, if_neg (Ne.symm hi)]; exact ho) hm
  · exact ⟨hsz, fun e he => (by cases he), fun j x hx => (by simp [flat] at hx), .inl ⟨by rw [Qu], rfl⟩⟩
theorem RelP.swapNilBox {φ : Nat → Loc} {a : Act} {w : World} {bid q : Nat} {cs cs' : List AV} (hr : RelP F N ⟨s, h⟩ φ a w) (hl : lk h id = some (.arr k sz E es)) (hkp : k.p = false) (hkp' : k'.p = false)
    (hks : killSL [id] s = some s1) (hkh : killHL [id] h = some h0) (hh1 : sput h0 id (.arr k' sz E []) = some h1)
    (hb1 : lk h1 bid = some (.box cs)) (hk : cs[q]? = some .snil) (hc : cs' = cs.set q (.ow id)) (hh : sput h1 bid (.box cs') = some h') : Rel F N ⟨s1, h'⟩ a w := by
  have h2 := hr.renil hl hkp hkp' hks hkh hh1
  have hlk1 := lk_sput hh1
  have hlk := lk_sput hh
  have h1id : lk h1 id = some (.arr k' sz E []) := by rw [hlk1, if_pos rfl]
  have hne : id ≠ bid := fun e => by subst e; rw [h1id] at hb1; cases hb1
  generalize hφ : updLoc φ id (mkLoc 0 0 false) = φ' at h2
  have hloc : φ' id = mkLoc 0 0 false := by rw [← hφ, Qu]
  have hal : headsAlike φ' φ' h1 h' := by
    refine ⟨fun i cs1 hi _ => ⟨?_, rfl⟩, fun i k1 sz E1 es hi => ⟨rfl, k1, es, rfl, ?_⟩⟩
    · by_cases hid : bid = i
      · subst hid; exact ⟨_, by rw [hlk, if_pos rfl]⟩
      · exact ⟨cs1, by rw [hlk, if_neg hid]; exact hi⟩
    · have hid : bid ≠ i := fun e => by subst e; rw [hb1] at hi; cases hi
      rw [hlk, if_neg hid]; exact hi
  obtain ⟨hm, C, E', hC, hsz', hrep⟩ := h2.heap.obj _ _ hb1
  refine ⟨φ', h2.upd hh (fun _ _ => rfl) (SameSys.refl w) (Nat.le_refl _) (fun _ _ _ => rfl) (fun b hbo => .inr ⟨_, hb1, hbo⟩) (fun o1 h3 h4 => h2.fix bid o1 h3 h4) (fun o ho => by rw [hb1] at ho; cases ho; trivial)
    (fun hS hw x v _ hv => hv.mono hS hw hal) (fun hS hw => ⟨hm, C, E', hC.len (by rw [hc, List.length_set]), by rw [hc, List.length_set]; exact hsz', fun i y v hy hv => ?_⟩)⟩
  subst hc
  rw [List.getElem?_set] at hy
  split at hy
  · rename_i hki; subst hki
    split at hy
    · cases hy
      have hvn : v = .slice none 0 0 := by
        have := hrep q _ v hk hv
        cases this with
        | pure h => cases h; rfl
      subst hvn
      have := RepV.ow0 (S := Stab F w φ' h') (w := w) (φ := φ') (η := h') (id := id) (k := k') (sz := sz) (E := E) (by rw [hlk, if_neg (Ne.symm hne)]; exact h1id) (by rw [hloc])
      rw [hloc] at this
      exact this
    · cases hy
  · exact (hrep i y v hy hv).mono hS hw hal
theorem T_swapNilBox {c : Code} {Q : Exit → St → Prop} (bid q id : Nat) (k' : Kd) {cs cs' : List AV} (hl : lk h id = some (.arr k sz E es)) (hkp : k.p = false) (hkp' : k'.p = false)
    (hks : killSL [id] s = some s1) (hkh : killHL [id] h = some h0) (hh1 : sput h0 id (.arr k' sz E []) = some h1)
    (hb1 : lk h1 bid = some (.box cs)) (hk : cs[q]? = some .snil) (hc : cs' = cs.set q (.ow id)) (hh : sput h1 bid (.box cs') = some h') (g : T P F N c Q ⟨s1, h'⟩) : T P F N c Q ⟨s, h⟩ :=
  T_sub (fun _ _ _ hr => hr.swapNilBox hl hkp hkp' hks hkh hh1 hb1 hk hc hh) g
end
end Go.AM

namespace Go.AM
def szOut (c b : Nat) : Int := if c ≤ b then ((b - c : Nat) : Int) else -1
theorem szOut_ok {c b : Nat} (h : c ≤ b) : szOut c b = ((b - c : Nat) : Int) := if_pos h
theorem szOut_no {c b : Nat} (h : ¬ c ≤ b) : szOut c b = -1 := if_neg h
def SzP {α : Type} (sz : α → Int → Option Int) (c : α → Nat) (x : α) : Prop := ∀ b : Nat, b ≤ 1048576 → sz x b = some (szOut (c x) b)
theorem szW {n b : Nat} (hn : n ≤ 9223372036854775807) (hb : b ≤ 1048576) : w64 ((b : Int) - (n : Int)) = (b : Int) - (n : Int) := w64_eq (by omega)
theorem sz_flat {α : Type} {xs : List α} (hl : xs.length ≤ 9223372036854775807) {b : Nat} (hb : b ≤ 1048576) :
    (bif decide (w64 ((b : Int) - (xs.length : Int)) < 0) then some (-1 : Int) else some (w64 ((b : Int) - (xs.length : Int)))) = some (szOut xs.length b) := by
  rw [szW hl hb]
  unfold szOut
  by_cases h : xs.length ≤ b
  · rw [if_pos h, decide_eq_false (by omega)]; simp only [cond_false]; congr 1; omega
  · rw [if_neg h, decide_eq_true (by omega)]; rfl
theorem iter_sz {α : Type} {xs : List α} {c : α → Nat} {sz : α → Int → Option Int} {step : Int × Int → Option (Ctl (Int × Int) (Int ⊕ Int))}
    (hs : ∀ (n : Nat) x b, xs[n]? = some x → step (b, (n : Int)) = (sz x b).bind fun r => bif decide (r < 0) then some (.out (.inr (-1))) else some (.next (r, w64 ((n : Int) + 1))))
    (he : ∀ b, step (b, (xs.length : Int)) = some (.out (.inl b))) (hl : xs.length ≤ 9223372036854775807) (hsz : ∀ x ∈ xs, SzP sz c x) {b : Nat} (hb : b ≤ 1048576) :
    iter step ((b : Int), 0) = some (if (xs.map c).sum ≤ b then .inl ((b - (xs.map c).sum : Nat) : Int) else .inr (-1)) := by
  have key : ∀ (m n : Nat) (b : Nat), n + m = xs.length → b ≤ 1048576 →
      iter step ((b : Int), (n : Int)) = some (if ((xs.drop n).map c).sum ≤ b then .inl ((b - ((xs.drop n).map c).sum : Nat) : Int) else .inr (-1)) := by
    intro m
    induction m with
    | zero =>
      intro n b hn hb
      obtain rfl : n = xs.length := by omega
      rw [iter_out (he b)]; simp
    | succ m ih =>
      intro n b hn hb
      have hlt : n < xs.length := by omega
      have hx : xs[n]? = some xs[n] := by simp [hlt]
      have h := hs n _ b hx
      rw [hsz _ (List.getElem_mem hlt) b hb, Option.bind_some] at h
      rw [List.drop_eq_getElem_cons hlt]
      simp only [List.map_cons, List.sum_cons]
      by_cases hc : c xs[n] ≤ b
      · rw [szOut_ok hc, decide_eq_false (by omega), cond_false, w64_succ (by omega)] at h
        rw [iter_next h, ih (n + 1) (b - c xs[n]) (by omega) (by omega)]
        congr 1
        by_cases h2 : ((xs.drop (n + 1)).map c).sum ≤ b - c xs[n]
        · rw [if_pos h2, if_pos (by omega)]; congr 2; omega
        · rw [if_neg h2, if_neg (by omega)]
      · rw [szOut_no hc] at h
        rw [iter_out h, if_neg (by omega)]
  have := key xs.length 0 b (by omega) hb
  simpa using this
theorem iter_to {α : Type} {xs : List α} {z : α} {cp : α → Option α} {step : List α × Int → Option (Ctl (List α × Int) (List α))}
    (hs : ∀ (n : Nat) x ys, xs[n]? = some x → step (ys, (n : Int)) = (cp x).bind fun r => (getI ys (n : Int)).bind fun _ => some (.next (ys.set n r, w64 ((n : Int) + 1))))
    (he : ∀ ys, step (ys, (xs.length : Int)) = some (.out ys)) (hl : xs.length ≤ 1048576) (hc : ∀ x ∈ xs, cp x = some x) :
    iter step (List.replicate xs.length z, 0) = some xs := by
  have key : ∀ (m n : Nat), n + m = xs.length → iter step (xs.take n ++ List.replicate m z, (n : Int)) = some xs := by
    intro m
    induction m with
    | zero =>
      intro n hn
      obtain rfl : n = xs.length := by omega
      rw [iter_out (he _)]; simp
    | succ m ih =>
      intro n hn
      have hlt : n < xs.length := by omega
      have hx : xs[n]? = some xs[n] := by simp [hlt]
      have h := hs n _ (xs.take n ++ List.replicate (m + 1) z) hx
      have hg : getI (xs.take n ++ List.replicate (m + 1) z) (n : Int) = some z := by
        rw [getI_nat, List.getElem?_append_right (by simp; omega)]
        simp [List.getElem?_replicate]; omega
      rw [hc _ (List.getElem_mem hlt), Option.bind_some, hg, Option.bind_some, set_front hx (by omega), w64_succ (by omega)] at h
      rw [iter_next h]
      exact ih (n + 1) (by omega)
  have := key xs.length 0 (by omega)
  simpa using this
theorem iter_eq {α : Type} [DecidableEq α] {xs ys : List α} {eq : α → α → Option Bool} {step : Int → Option (Ctl Int (Unit ⊕ Bool))}
    (hs : ∀ (n : Nat) x y, xs[n]? = some x → ys[n]? = some y → step (n : Int) = (eq x y).bind fun r => bif !r then some (.out (.inr false)) else some (.next (w64 ((n : Int) + 1))))
    (he : step (xs.length : Int) = some (.out (.inl ()))) (hl : xs.length ≤ 9223372036854775807) (hle : xs.length = ys.length) (hc : ∀ x ∈ xs, ∀ y, eq x y = some (decide (x = y))) :
    iter step 0 = some (if xs = ys then .inl () else .inr false) := by
  have key : ∀ (m n : Nat), n + m = xs.length → iter step (n : Int) = some (if xs.drop n = ys.drop n then .inl () else .inr false) := by
    intro m
    induction m with
    | zero =>
      intro n hn
      obtain rfl : n = xs.length := by omega
      rw [iter_out he]; rw [if_pos (by rw [List.drop_length, hle, List.drop_length])]
    | succ m ih =>
      intro n hn
      have hlt : n < xs.length := by omega
      have hlt2 : n < ys.length := by omega
      have h := hs n xs[n] ys[n] (by simp [hlt]) (by simp [hlt2])
      rw [hc _ (List.getElem_mem hlt), Option.bind_some] at h
      rw [List.drop_eq_getElem_cons hlt, List.drop_eq_getElem_cons hlt2]
      by_cases hxy : xs[n] = ys[n]
      · rw [decide_eq_true hxy, Bool.not_true, cond_false, w64_succ (by omega)] at h
        rw [iter_next h, ih (n + 1) (by omega)]
        congr 1
        by_cases h2 : xs.drop (n + 1) = ys.drop (n + 1)
        · rw [if_pos h2, if_pos (by rw [h2, hxy])]
        · rw [if_neg h2, if_neg (fun h => h2 (List.cons.inj h).2)]
      · rw [decide_eq_false hxy] at h
        rw [iter_out h, if_neg (fun h => hxy (List.cons.inj h).1)]
  have := key xs.length 0 (by omega)
  simpa using this
def MkP {α : Type} (mk : α → Int → Option (Int × α)) (held : α → Int → Option Int) (m : α → Nat) (x : α) : Prop :=
  ∀ k : Nat, k + m x ≤ 4611686018427387904 → ∃ x', mk x k = some (((k + m x : Nat) : Int), x') ∧ held x' k = some ((k + m x : Nat) : Int)
theorem iter_mark {α : Type} {xs : List α} {m : α → Nat} {mk : α → Int → Option (Int × α)} {held : α → Int → Option Int} {step : List α × Int × Int → Option (Ctl (List α × Int × Int) (Int × List α))}
    {hstep : List α → Int × Int → Option (Ctl (Int × Int) (Int ⊕ Int))}
    (hs : ∀ (n : Nat) ys x (k : Nat), k ≤ 4611686018427387904 → ys[n]? = some x → step (ys, (k : Int), (n : Int)) = (mk x k).bind fun r => some (.next (ys.set n r.2, r.1, w64 ((n : Int) + 1))))
    (he : ∀ ys k, step (ys, k, (ys.length : Int)) = some (.out (k, ys)))
    (gs : ∀ (n : Nat) (ys : List α) x (k : Nat), k ≤ 4611686018427387904 → ys[n]? = some x → hstep ys ((k : Int), (n : Int)) = (held x k).bind fun r => bif decide (r < 0) then some (.out (.inr (-1))) else some (.next (r, w64 ((n : Int) + 1))))
    (ge : ∀ ys k, hstep ys (k, (ys.length : Int)) = some (.out (.inl k)))
    (hl : xs.length ≤ 9223372036854775807) (hm : ∀ x ∈ xs, MkP mk held m x) {k : Nat} (hk : k + (xs.map m).sum ≤ 4611686018427387904) :
    ∃ xs', iter step (xs, (k : Int), 0) = some (((k + (xs.map m).sum : Nat) : Int), xs') ∧ xs'.length = xs.length ∧ iter (hstep xs') ((k : Int), 0) = some (.inl ((k + (xs.map m).sum : Nat) : Int)) := by
  have key : ∀ (q n : Nat) (ys : List α) (k : Nat), n + q = xs.length → ys.length = xs.length → ys.drop n = xs.drop n → k + ((xs.drop n).map m).sum ≤ 4611686018427387904 →
      ∃ xs', iter step (ys, (k : Int), (n : Int)) = some (((k + ((xs.drop n).map m).sum : Nat) : Int), xs') ∧ xs'.length = xs.length ∧ xs'.take n = ys.take n ∧
        iter (hstep xs') ((k : Int), (n : Int)) = some (.inl ((k + ((xs.drop n).map m).sum : Nat) : Int)) := by
    intro q
    induction q with
    | zero =>
      intro n ys k hn hy _ hk
      obtain rfl : n = xs.length := by omega
      have h1 := he ys k
      have h2 := ge ys k
      rw [hy] at h1 h2
      refine ⟨ys, ?_, hy, rfl, ?_⟩
      · rw [iter_out h1]; simp
      · rw [iter_out h2]; simp
    | succ q ih =>
      intro n ys k hn hy hd hk
      have hlt : n < xs.length := by omega
      have hyn : ys[n]? = some xs[n] := by
        have := congrArg (fun l => l[0]?) hd
        simpa [List.getElem?_drop, hlt] using this
      rw [List.drop_eq_getElem_cons hlt] at hk ⊢
      simp only [List.map_cons, List.sum_cons] at hk ⊢
      obtain ⟨x', m1, m2⟩ := hm _ (List.getElem_mem hlt) k (by omega)
      have h := hs n ys _ k (by omega) hyn
      rw [m1, Option.bind_some, w64_succ (by omega)] at h
      obtain ⟨xs', e1, e2, e3, e4⟩ := ih (n + 1) (ys.set n x') (k + m xs[n]) (by omega) (by simpa using hy)
        (by
          have := congrArg (fun l => l.drop 1) hd
          simp only [List.drop_drop] at this
          rw [List.drop_set_of_lt (by omega)]; exact this) (by omega)
      have e5 : xs'[n]? = some x' := by
        have := congrArg (fun l => l[n]?) e3
        simp only [List.getElem?_take, Nat.lt_succ_self, if_true] at this
        rw [this, List.getElem?_set_self (by omega)]
      refine ⟨xs', ?_, e2, ?_, ?_⟩
      · rw [iter_next h, e1]; congr 2; omega
      · have := congrArg (fun l => l.take n) e3
        simp only [List.take_take, Nat.min_eq_left (Nat.le_succ n)] at this
        rw [this]
        exact List.take_set_of_le (Nat.le_refl _)
      · have g := gs n xs' x' k (by omega) e5
        rw [m2, Option.bind_some, decide_eq_false (by omega), cond_false, w64_succ (by omega)] at g
        rw [iter_next g, e4]; congr 2; omega
  obtain ⟨xs', e1, e2, _, e4⟩ := key xs.length 0 xs k (by omega) rfl rfl (by simpa using hk)
  exact ⟨xs', by simpa using e1, e2, by simpa using e4⟩
end Go.AM
namespace Go.AM
theorem dec_neg (n : Nat) : decide ((n : Int) < 0) = false := decide_eq_false (by omega)
theorem bool_beq (b : Bool) : (b == b) = true := by cases b <;> rfl
end Go.AM
