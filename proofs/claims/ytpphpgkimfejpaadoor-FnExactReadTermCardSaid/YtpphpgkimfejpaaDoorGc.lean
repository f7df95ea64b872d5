import Derived.Test.YtpphpgkimfejpaaDoorGb
import Derived.MapKept
import Derived.WideKeyRuns
import Derived.Laws.BytesArg
import Derived.Below
namespace Go.AM
open Go
section
variable {F : Fr} {N : Nat} {P : Program}
variable {ops : Array Oper} {rest : List Oper} {K : St → Prop} {ex : Bool}
variable {ty : TypeId} {pos : String} {after : Array Edge} {d id : Nat} {s s' s1 : Slots} {h h' h1 : Heap} {x y : Operand}
theorem lk_all {α : Type} {p : α → Bool} {l : List (Nat × α)} (hp : l.all (fun q => p q.2) = true) {i : Nat} {x : α} (h : lk l i = some x) : p x = true := List.all_eq_true.1 hp _ (lk_mem h)
def noSubH (id : Nat) (h : Heap) : Bool := h.all fun p => match p.2 with
  | .box cs => noSubL id cs
  | _ => true
theorem noSubH_box {h : Heap} (hp : noSubH id h = true) {i : Nat} {cs : List AV} (hl : lk h i = some (.box cs)) {x : AV} (hx : x ∈ cs) : noSub id x = true := by
  have := List.all_eq_true.1 hp _ (lk_mem hl)
  obtain ⟨j, hj⟩ := List.getElem?_of_mem hx
  exact noSubL_mem this j x hj
theorem RelP.storeD {t n off k0 sz : Nat} {k : Kd} {E : TypeId} {z e e' : AV} {es zc zy : List AV} {ids : List Nat} {φ : Nat → Loc} {a : Act} {w : World} (hr : RelP F N ⟨s, h⟩ φ a w)
    (hs : tySize P t = some n) (hx : aev s x = some (.ptr id k0 off)) (hl : lk h id = some (.arr k sz E es)) (hk : k.d = true) (he : es[k0]? = some e)
    (hy : aev s y = some z) (hj : isJunk z = false) (hc : cellsO z = some zc) (hn : zc.length = n) (hab : absL h zc = some (zy, ids)) (hnd : ids.Nodup) (hid : id ∉ ids) (hgF : ∀ j ∈ ids, lk F.η j = none)
    (he' : e'.cells = e.cells.take off ++ zy ++ e.cells.drop (off + zy.length)) (hoff : off + zy.length ≤ sz)
    (hks : killSL ids s = some s1) (hkh : killHL ids h = some h1) (hh : sput (dropH ids h1) id (.arr k sz E (es.set k0 e')) = some h')
    (hpin : (k.p = false ∧ s1.all (fun q => noSub id q.2) = true ∧ noSubH id h1 = true) ∨ (ids = [] ∧ zy.all flat1 = true)) :
    ∃ w', (execOp a.eval ⟨none, .store t x y, ty, pos, after, none⟩).run P w = .ok .skip w' ∧ Rel F N ⟨s1, h'⟩ a w' := by
  obtain ⟨hsz, hlens, hones, hob⟩ := hr.heap.obj _ _ hl
  have hek : e.cells.length = sz := hlens e (List.mem_of_getElem? he)
  have hk0 := (List.getElem?_eq_some_iff.1 he).1
  rcases hob with ⟨_, rfl⟩ | ⟨hm, C, hC, hle, hcm, hCs, hrep⟩
  · simp at he
  have hzv := aev_rep hr hy
  have hcells := hzv.cells hc (fun u hu => by subst hu; cases hj)
  have hvs : (a.eval y).cells.size = n := by rw [← hn]; simpa using hcells.1.symm
  obtain ⟨hyl, hyone, nf, hnl, hlin, hnnd, hnown⟩ := absL_rep hr.heap hcells hab hnd
  have hptr : a.eval x = .pointer (some ⟨(φ id).blk, k0 * sz + off, none⟩) := by
    have := aev_rep hr hx
    generalize a.eval x = v at this
    cases this with
    | pure h => cases h
    | box h _ => rw [hl] at h; cases h
    | elt h _ => rw [hl] at h; cases h; rfl
  have h1c : ∀ u ∈ (a.eval y).cells.toList, u.oneCell' = true := by
    intro u hu
    obtain ⟨i, hi⟩ := List.getElem?_of_mem hu
    have hlt := (List.getElem?_eq_some_iff.1 hi).1
    have hil : i < zy.length := by rw [hyl, hcells.1]; exact hlt
    have hp : nf[i]? = some (nf[i]'(by omega)) := by simp [hnl, hil]
    exact (hlin i zy[i] u _ (by simp [hil]) hi hp).tree.one (hyone _ (List.getElem_mem hil))
  have hcapsz : k0 * sz + sz ≤ (φ id).cap * sz := by
    rw [← Nat.succ_mul]; exact Nat.mul_le_mul_right _ (by omega)
  have hnz : zy.length = n := by rw [hyl, hn]
  have hrun := run_storeAt (P := P) (E := E) hs hvs hC (off := k0 * sz + off) (by rw [hCs]; omega) h1c
  refine ⟨_, by rw [exec_store, hptr]; simp only [Sem.run_bind, hrun, Result.andThen_ok, Sem.run_pure]; rfl, ?_⟩
  obtain ⟨hHn, hH⟩ := killHL_spec hkh
  have hkS := killSL_spec hks
  have hrk : RelP F N ⟨s1, h1⟩ φ a w := hr.weaken (fun i x hx => (hkS i x hx).2) hHn (fun i o ho => (hH i o ho).2)
  have hl1 : lk h1 id = some (.arr k sz E es) := by
    cases hq : lk h1 id with
    | none => rw [(hHn id).1 hq] at hl; cases hl
    | some o =>
      obtain ⟨_, o2, ho2, hw⟩ := hH id o hq
      rw [hl] at ho2
      cases ho2
      cases o with
      | box _ => exact hw.elim
      | arr _ _ _ _ => obtain ⟨rfl, rfl, rfl, rfl⟩ := hw; rfl
  have hh1h : ∀ {j o}, lk h1 j = some o → ∃ o', lk h j = some o' := fun {j o} e => by obtain ⟨_, o', ho', _⟩ := hH j o e; exact ⟨o', ho'⟩
  have hhh1 : ∀ {j o}, lk h j = some o → ∃ o', lk h1 j = some o' := fun {j o} e => by
    cases hq : lk h1 j with
    | none => rw [(hHn j).1 hq] at e; cases e
    | some o' => exact ⟨o', rfl⟩
  have hSk : ∀ b, Stab F w φ h b → Stab F w φ h1 b := fun b hb => ⟨hb.1, hb.2.1, fun i o ho hm => by
    obtain ⟨o1, ho1⟩ := hh1h ho
    exact hb.2.2 i o1 ho1 hm⟩
  have hlk := lk_sput hh
  have hdrop := @lk_dropH ids h1
  have h1id : lk h' id = some (.arr k sz E (es.set k0 e')) := by rw [hlk, if_pos rfl]
  -- the new place
  let l' : Loc := { φ id with
    fp := (φ id).fp ++ ids.flatMap (fun i => (φ i).all),
    sv := fun j => if k0 * sz + off ≤ j ∧ ((zy[j - (k0 * sz + off)]?).map isSl).getD false = true then comps (((a.eval y).cells.toList[j - (k0 * sz + off)]?).getD undef) else (φ id).sv j }
  have hfl' : ids = [] → zy.all flat1 = true → l' = φ id := by
    intro h1 h2
    have e1 : l'.sv = (φ id).sv := by
      funext j
      show (if _ then _ else _) = _
      rw [if_neg]
      rintro ⟨_, h4⟩
      cases hz : zy[j - (k0 * sz + off)]? with
      | none => rw [hz] at h4; cases h4
      | some q =>
        rw [hz] at h4
        have := List.all_eq_true.1 h2 q (List.mem_of_getElem? hz)
        cases q <;> first | (simp [flat1] at this; done) | (simp [isSl] at h4)
    have e2 : l'.fp = (φ id).fp := by show _ ++ _ = _; rw [h1]; simp
    show ({ φ id with fp := l'.fp, sv := l'.sv } : Loc) = φ id
    rw [e1, e2]
  have hnew := CellsOK.put (l' := l') (vs := (a.eval y).cells.toList) (nf := nf) hk hrep hsz hlens he he' hoff (by rw [hCs]; exact Nat.mul_le_mul_right _ hle) (by rw [Array.length_toList, hvs, hnz]) hnl hlin hnnd
    (fun b hb => by
      obtain ⟨i, hi, o, ho, hw⟩ := hnown b hb
      have hne : i ≠ id := fun e => hid (e ▸ hi)
      exact ⟨fun e => hne (hr.heap.injO i id o _ b ho hl hw (.inl ⟨hm, e.symm⟩)), fun e => hne (hr.heap.injO i id o _ b ho hl hw (.inr e))⟩)
    rfl (fun b hb => List.mem_append.2 (.inl hb)) (fun b hb => by
      obtain ⟨i, hi, o, ho, hw⟩ := hnown b hb
      exact List.mem_append.2 (.inr (List.mem_flatMap.2 ⟨i, hi, Loc.mem_all.2 hw⟩)))
    (fun j hj => by
      show (if _ then _ else _) = _
      rw [if_neg]
      rintro ⟨h3, h4⟩
      rcases hj with hj | hj
      · omega
      · rw [List.getElem?_eq_none (by omega)] at h4; cases h4)
    (fun i c v hc hv hsl => by
      show (if _ then _ else _) = _
      rw [Nat.add_sub_cancel_left, hc, hv, if_pos ⟨by omega, hsl⟩]
      rfl)
  rw [Array.length_toList, hvs] at hnew
  have he'k : e'.cells.length = sz := by rw [he']; simp; omega
  refine ⟨updLoc φ id l', hrk.updX (fun j => j ∈ ids) h1id (fun j hj hg => by rw [hlk, if_neg (Ne.symm hj), hdrop, if_neg hg]) (fun j hj hg => by rw [hlk, if_neg (Ne.symm hj), hdrop, if_pos hg])
      (fun j hg => ⟨fun e => hid (e ▸ hg), hgF j hg⟩) (updLoc_ne φ id _) (setRow_sys _ _ _) (by simp) (fun b _ hb => setRow_other _ _ _ _ (fun e => hb _ hl1 (.inl ⟨hm, e.symm⟩))) (fun b hb => ?_) (fun o ho hne => ?_)
      (fun o ho => by rw [hl1] at ho; cases ho; exact ⟨rfl, fun _ => ⟨rfl, rfl, by simp⟩⟩) (fun hS hw x v hx hv => ?_) (fun hS hw => ?_)⟩
  · rw [updLoc_same] at hb
    rcases hb with hb | hb
    · exact .inr (.inl ⟨_, hl1, .inl hb⟩)
    · rcases List.mem_append.1 hb with hb | hb
      · exact .inr (.inl ⟨_, hl1, .inr hb⟩)
      · obtain ⟨i, hi, hb⟩ := List.mem_flatMap.1 hb
        have hown := Loc.mem_all.1 hb
        -- an object that is named is there
        have : ∃ o, lk h i = some o := by
          have hq : ∀ {zc zy : List AV} {ids : List Nat}, absL h zc = some (zy, ids) → ∀ i ∈ ids, ∃ o, lk h i = some o := by
            intro zc
            induction zc with
            | nil => intro zy ids e i hi; cases e; simp at hi
            | cons c r ih =>
              intro zy ids e i hi
              unfold absL at e
              cases hx : absC h c with
              | none => simp [hx] at e
              | some p =>
                obtain ⟨y, i1⟩ := p
                simp only [hx] at e
                cases hr : absL h r with
                | none => simp [hr] at e
                | some q =>
                  obtain ⟨ys', is⟩ := q
                  simp only [hr, Option.some.injEq, Prod.mk.injEq] at e
                  obtain ⟨_, rfl⟩ := e
                  rcases List.mem_append.1 hi with hi | hi
                  · unfold absC at hx
                    split at hx
                    · split at hx
                      · rename_i hl; cases hx; simp at hi; subst hi; exact ⟨_, hl⟩
                      · cases hx
                    · cases hb : flat1 c || isSnil c with
                      | false => rw [hb] at hx; cases hx
                      | true => rw [hb] at hx; cases hx; simp at hi
                  · exact ih hr i hi
          exact hq hab i hi
        obtain ⟨o, ho⟩ := this
        obtain ⟨o', ho'⟩ := hhh1 ho
        exact .inr (.inr ⟨i, o', hi, ho', hown⟩)
  · rw [updLoc_same]
    rcases hpin with ⟨hp, _, _⟩ | ⟨h2, h3⟩
    · exfalso
      obtain ⟨o1, ho1, hb1⟩ := hr.keep id _ ho
      have ho1' : lk h id = some o1 := ho1
      rw [hl] at ho1'
      cases ho1'
      have := AO.alike_box hb1
      apply hne
      rw [← this]
      simp [AO.isBox, hp]
    · rw [hfl' h2 h3]; exact hr.fix id _ ho hne
  · have hm : ∀ i ∈ ids, men i x = false := by
      rcases hx with ⟨i, hi⟩ | ⟨i, cs, _, hi, hxc⟩
      · exact (hkS i x hi).1
      · intro m hm; exact (hH i _ hi).1 cs rfl x hxc m hm
    have hbx : ∀ i cs, ¬ i ∈ ids → lk h1 i = some (.box cs) → ∃ cs', lk h' i = some (.box cs') := by
      intro i cs hg ho
      have hne : id ≠ i := fun e => by subst e; rw [hl1] at ho; cases ho
      exact ⟨cs, by rw [hlk, if_neg hne, hdrop, if_neg hg]; exact ho⟩
    have har : ∀ i k2 sz2 E2 es2, ¬ i ∈ ids → lk h1 i = some (.arr k2 sz2 E2 es2) → ∃ k' es', es'.length = es2.length ∧ lk h' i = some (.arr k' sz2 E2 es') := by
      intro i k2 sz2 E2 es2 hg ho
      by_cases hii : id = i
      · subst hii
        rw [hl1] at ho
        cases ho
        exact ⟨_, _, by simp, h1id⟩
      · exact ⟨k2, es2, rfl, by rw [hlk, if_neg hii, hdrop, if_neg hg]; exact ho⟩
    rcases hpin with ⟨_, h2, h3⟩ | ⟨h2, h3⟩
    · refine hv.move (id := id) (gone := fun j => j ∈ ids) hS hw (fun i hi _ => updLoc_ne φ id _ i hi) (fun o ho hg => by rw [updLoc_same]; exact ⟨rfl, rfl, rfl, rfl⟩) hbx har hm ?_
      rcases hx with ⟨i, hi⟩ | ⟨i, cs, _, hi, hxc⟩
      · exact lk_all (p := noSub id) h2 hi
      · exact noSubH_box h3 hi hxc
    · rw [hfl' h2 h3] at hS ⊢
      have hfe : updLoc φ id (φ id) = φ := by funext i; by_cases hi : i = id <;> simp [updLoc, hi]
      rw [hfe] at hS ⊢
      subst h2
      exact hv.mono hS hw ⟨fun i cs ho _ => ⟨hbx i cs (by simp) ho, rfl⟩, fun i k2 sz2 E2 es2 ho => by
        obtain ⟨k', es', q1, q2⟩ := har i k2 sz2 E2 es2 (by simp) ho
        exact ⟨rfl, k', es', q1, q2⟩⟩
  · refine ⟨hsz, ?_, ?_, .inr ⟨by rw [updLoc_same]; exact hm, _, by rw [updLoc_same]; exact setRow_heap _ _ _ _ _ _ hC, by rw [updLoc_same]; simpa using hle, by rw [updLoc_same]; exact hcm, ?_, ?_⟩⟩
    · intro u hu
      rcases List.mem_or_eq_of_mem_set hu with hu | rfl
      · exact hlens u hu
      · exact he'k
    · intro j c hcj
      rcases flat_set hsz hlens he he' hoff hcj with ⟨i, _, hi⟩ | ⟨hi, _⟩
      · exact hyone c (List.mem_of_getElem? hi)
      · exact hones j c hi
    · rw [updLoc_same]
      show _ = (φ id).cap * sz
      simp [hvs]; omega
    · rw [updLoc_same]
      have hnewS : CellsOK k (Stab F w φ h) w l' (flat (es.set k0 e')) (C.toList.take (k0 * sz + off) ++ (a.eval y).cells.toList ++ C.toList.drop (k0 * sz + off + n)).toArray := hnew
      refine hnewS.mono (fun b hb => hS b (hSk b hb)) (fun b hb => hw b (hSk b hb)) (fun b _ hne => setRow_other _ _ _ _ (fun e => hne e)) rfl
theorem TL_storeF {t n off k0 sz : Nat} {p : Bool} {E : TypeId} {z : AV} {es es' ec zc ec' : List AV} (hs : tySize P t = some n) (hx : aev s x = some (.ptr id k0 off))
    (hl : lk h id = some (.arr ⟨p, true⟩ sz E es)) {e e' : AV} (he : es[k0]? = some e) (hec : cellsO e = some ec) (hy : aev s y = some z) (hj : isJunk z = false) (hc : cellsO z = some zc) (hn : Nat.beq zc.length n = true)
    (hfl : zc.all flat1 = true) (hset : setO ec off zc = some ec') (hec' : cellsO e' = some ec') (hes : es' = es.set k0 e')
    (hh : sput h id (.arr ⟨p, true⟩ sz E es') = some h') (k : TL P F N ops rest K ⟨s, h'⟩) :
    TL P F N ops (⟨none, .store t x y, ty, pos, after, none⟩ :: rest) K ⟨s, h⟩ := by
  refine TL_skip rfl rfl (fun φ a w hr => ?_) k
  subst hes
  obtain rfl := cellsO_eq hec
  obtain hee := cellsO_eq hec'
  obtain ⟨rfl, hlen⟩ := setO_eq hset
  have hek : e.cells.length = sz := (hr.heap.obj _ _ hl).2.1 _ (List.mem_of_getElem? he)
  have hab : absL h zc = some (zc, []) := by
    clear hset hec' hee hc hn hlen
    induction zc with
    | nil => rfl
    | cons c r ih =>
      simp only [List.all_cons, Bool.and_eq_true] at hfl
      have hcc : absC h c = some (c, []) := by cases c <;> first | rfl | (have := hfl.1; simp [flat1] at this)
      unfold absL
      rw [hcc, ih hfl.2]
      rfl
  exact hr.storeD hs hx hl rfl he hy hj hc ((beq_iff _ _).1 hn) hab (by simp) (by simp) (by simp) hee.symm (by omega) (by rfl) (by rfl) (by
    have : dropH [] h = h := by
      have : ∀ h : Heap, dropH [] h = h := by
        intro h
        induction h with
        | nil => rfl
        | cons p r ih => obtain ⟨k, o⟩ := p; simp [dropH, ih]
      exact this h
    rw [this]; exact hh) (.inr ⟨rfl, hfl⟩)
end
end Go.AM

namespace Go.AM
open Go
section
variable {F : Fr} {N : Nat} {P : Program}
variable {ops : Array Oper} {rest : List Oper} {K : St → Prop} {ex : Bool}
variable {ty : TypeId} {pos : String} {after : Array Edge} {d id : Nat} {s s' s1 : Slots} {h h' h1 : Heap} {x y : Operand}
end
end Go.AM

namespace Go.AM
open Go
def nilLike : AV → Prop
  | .snil => True
  | .sl _ es => es = []
  | _ => False
def cR : AV → AV → Prop
  | .snil, y => nilLike y
  | x, y => flat1 x = true ∧ y = x
def cellsR : List AV → List AV → Prop
  | [], [] => True
  | x :: r, y :: s => cR x y ∧ cellsR r s
  | _, _ => False
structure ElR (es es' : List AV) : Prop where
  len : es'.length = es.length
  el : ∀ (i : Nat) e e', es[i]? = some e → es'[i]? = some e' → cellsR e.cells e'.cells
theorem ElR.map {α : Type} {f g : α → AV} (h : ∀ x, cellsR (f x).cells (g x).cells) (xs : List α) : ElR (xs.map f) (xs.map g) := by
  refine ⟨by simp, fun i e e' he he' => ?_⟩
  rw [List.getElem?_map] at he he'
  cases hx : xs[i]? with
  | none => rw [hx] at he; cases he
  | some x => rw [hx] at he he'; cases he; cases he'; exact h x
theorem ElR.rep {α : Type} {z : AV} {g : α → AV} {x : α} (h : cellsR z.cells (g x).cells) (n : Nat) : ElR (List.replicate n z) ((List.replicate n x).map g) := by
  refine ⟨by simp, fun i e e' he he' => ?_⟩
  have h1 := List.mem_of_getElem? he
  have h2 := List.mem_of_getElem? he'
  rw [(List.mem_replicate.1 h1).2]
  rw [List.map_replicate] at h2
  rw [(List.mem_replicate.1 h2).2]
  exact h
theorem ElR.nil : ElR [] [] := ⟨rfl, fun i e e' he => by simp at he⟩
theorem ElR.cons {e e' : AV} {es es' : List AV} (h : cellsR e.cells e'.cells) (k : ElR es es') : ElR (e :: es) (e' :: es') := by
  refine ⟨by simp [k.len], fun i a b ha hb => ?_⟩
  cases i with
  | zero => simp at ha hb; subst ha hb; exact h
  | succ i => simp at ha hb; exact k.el i a b ha hb
theorem cellsR_get : ∀ {a b : List AV}, cellsR a b → b.length = a.length ∧ ∀ (i : Nat) x y, a[i]? = some x → b[i]? = some y → cR x y := by
  intro a
  induction a with
  | nil => intro b h; cases b with
    | nil => exact ⟨rfl, fun i x y hx => by simp at hx⟩
    | cons y s => exact h.elim
  | cons x r ih =>
    intro b h
    cases b with
    | nil => exact h.elim
    | cons y s =>
      obtain ⟨h1, h2⟩ := ih h.2
      refine ⟨by simp [h1], fun i u v hu hv => ?_⟩
      cases i with
      | zero => simp at hu hv; subst hu hv; exact h.1
      | succ i => simp at hu hv; exact h2 i u v hu hv
theorem ElR.flat {es es' : List AV} {sz : Nat} (h : ElR es es') (hsz : 0 < sz) (hl : ∀ e ∈ es, e.cells.length = sz) :
    (∀ e ∈ es', e.cells.length = sz) ∧ ∀ (j : Nat) y, (AM.flat es')[j]? = some y → ∃ x, (AM.flat es)[j]? = some x ∧ cR x y := by
  have hl' : ∀ e ∈ es', e.cells.length = sz := by
    intro e' he'
    obtain ⟨i, hi⟩ := List.getElem?_of_mem he'
    have hlt := (List.getElem?_eq_some_iff.1 hi).1
    obtain ⟨e, he⟩ : ∃ e, es[i]? = some e := ⟨es[i]'(by rw [← h.len]; exact hlt), by simp⟩
    rw [(cellsR_get (h.el i e e' he hi)).1]
    exact hl e (List.mem_of_getElem? he)
  refine ⟨hl', fun j y hy => ?_⟩
  obtain ⟨q, r, e', rfl, hr, hq, he', hc⟩ := flat_get_inv hsz hl' hy
  obtain ⟨e, he⟩ : ∃ e, es[q]? = some e := ⟨es[q]'(by rw [← h.len]; exact hq), by simp⟩
  have hR := cellsR_get (h.el q e e' he he')
  have hrl : r < e.cells.length := by rw [hl e (List.mem_of_getElem? he)]; exact hr
  have hx : e.cells[r]? = some (e.cells[r]) := by simp [hrl]
  exact ⟨_, by rw [flat_get hl he hr]; exact hx, hR.2 r _ y hx hc⟩
theorem cR_one {x y : AV} (h : cR x y) (hx : one x = true) : one y = true := by
  cases x with
  | snil => cases y <;> first | rfl | exact h.elim
  | _ => first | (obtain ⟨_, rfl⟩ := h; exact hx)
section
variable {F : Fr} {N : Nat} {P : Program}
variable {ops : Array Oper} {l : List Oper} {K : St → Prop} {ex : Bool} {c : Code} {Q : Exit → St → Prop}
variable {id sz : Nat} {s : Slots} {h h' : Heap} {k k' : Kd} {E : TypeId} {es es' : List AV}
theorem RelP.reread {φ : Nat → Loc} {a : Act} {w : World} (hr : RelP F N ⟨s, h⟩ φ a w) (hF : lk F.η id = none) (hl : lk h id = some (.arr k sz E es)) (sv : Nat → Option Addr × Nat × Nat)
    (hns : (s.all (fun q => noSub id q.2) = true ∧ noSubH id h = true) ∨ sv = (φ id).sv)
    (hlen : es'.length = es.length) (hlens : ∀ e ∈ es', e.cells.length = sz) (hone : ∀ (j : Nat) x, (flat es')[j]? = some x → one x = true)
    (hcells : ∀ C, CellsOK k (Stab F w φ h) w (φ id) (flat es) C → (flat es).length ≤ C.size → CellsOK k' (Stab F w φ h) w { φ id with sv := sv } (flat es') C)
    (hh : sput h id (.arr k' sz E es') = some h') : Rel F N ⟨s, h'⟩ a w := by
  obtain ⟨hsz, hlens0, hones, hob⟩ := hr.heap.obj _ _ hl
  have hlk := lk_sput hh
  have hnoF : ∀ o, lk F.η id ≠ some o := fun o ho => by rw [hF] at ho; cases ho
  have h1id : lk h' id = some (.arr k' sz E es') := by rw [hlk, if_pos rfl]
  refine ⟨updLoc φ id { φ id with sv := sv }, ?_⟩
  have hbx : ∀ i cs, lk h i = some (.box cs) → ∃ cs', lk h' i = some (.box cs') := by
    intro i cs ho
    have hne : id ≠ i := fun e => by subst e; rw [hl] at ho; cases ho
    exact ⟨cs, by rw [hlk, if_neg hne]; exact ho⟩
  have har : ∀ i k2 sz2 E2 es2, lk h i = some (.arr k2 sz2 E2 es2) → ∃ k' es', es'.length = es2.length ∧ lk h' i = some (.arr k' sz2 E2 es') := by
    intro i k2 sz2 E2 es2 ho
    by_cases hii : id = i
    · subst hii
      rw [hl] at ho
      cases ho
      exact ⟨_, _, hlen, h1id⟩
    · exact ⟨k2, es2, rfl, by rw [hlk, if_neg hii]; exact ho⟩
  -- as 'upd' asks that the kind be kept, the relation is written out
  have hS : ∀ b, Stab F w φ h b → Stab F w (updLoc φ id { φ id with sv := sv }) h' b := by
    intro b hb
    refine ⟨hb.1, hb.2.1, fun i o ho hm => ?_⟩
    by_cases hi : id = i
    · subst hi; rw [updLoc_same] at hm; exact hb.2.2 id _ hl hm
    · rw [updLoc_ne φ id _ i (Ne.symm hi)] at hm
      rw [hlk, if_neg hi] at ho
      exact hb.2.2 i o ho hm
  have hV : ∀ {x v}, ((∃ i, lk s i = some x) ∨ ∃ i cs, lk h i = some (.box cs) ∧ x ∈ cs) → RepV (Stab F w φ h) w φ h x v →
      RepV (Stab F w (updLoc φ id { φ id with sv := sv }) h') w (updLoc φ id { φ id with sv := sv }) h' x v := by
    intro x v hx hv
    rcases hns with ⟨n1, n2⟩ | hn
    · refine hv.move (id := id) (gone := fun _ => False) hS (fun _ _ => rfl) (fun i hi _ => updLoc_ne φ id _ i hi) (fun o ho _ => by rw [updLoc_same]; exact ⟨rfl, rfl, rfl, rfl⟩) (fun i cs _ ho => hbx i cs ho)
        (fun i k2 sz2 E2 es2 _ ho => har i k2 sz2 E2 es2 ho) (fun _ h => h.elim) ?_
      rcases hx with ⟨i, hi⟩ | ⟨i, cs, hi, hxc⟩
      · exact lk_all (p := noSub id) n1 hi
      · exact noSubH_box n2 hi hxc
    · have hfe : updLoc φ id { φ id with sv := sv } = φ := by funext i; by_cases hi : i = id <;> simp [updLoc, hi, hn]
      rw [hfe] at hS ⊢
      exact hv.mono hS (fun _ _ => rfl) ⟨fun i cs ho _ => ⟨hbx i cs ho, rfl⟩, fun i k2 sz2 E2 es2 ho => by
        obtain ⟨k', es', q1, q2⟩ := har i k2 sz2 E2 es2 ho
        exact ⟨rfl, k', es', q1, q2⟩⟩
  have howns : ∀ i b, (updLoc φ id { φ id with sv := sv } i).owns b ↔ (φ i).owns b := by
    intro i b
    by_cases hi : i = id
    · subst hi; rw [updLoc_same]; exact Iff.rfl
    · rw [updLoc_ne φ id _ i hi]
  have hold : ∀ i o, lk h' i = some o → ∃ o', lk h i = some o' := by
    intro i o ho
    by_cases hi : id = i
    · subst hi; exact ⟨_, hl⟩
    · rw [hlk, if_neg hi] at ho; exact ⟨o, ho⟩
  refine ⟨hr.size, hr.defers, hr.sys, hr.grow, ⟨fun i o ho => ?_, fun i j oi oj b hi hj hmi hmj => ?_, fun b hb => hb.1, fun i o b ho hm hst => hst.2.2 i o ho hm, fun i o b ho hm => ?_⟩,
    fun i x hx => ?_, fun i o b ho hm => ?_, fun i o hi hb => ?_, fun i o hi => ?_, hr.frame⟩
  · simp only at ho
    by_cases hi : id = i
    · subst hi
      rw [h1id] at ho
      cases ho
      refine ⟨hsz, hlens, hone, ?_⟩
      rw [updLoc_same]
      rcases hob with ⟨hm, rfl⟩ | ⟨hm, C, hC, h1, h2, h3, h4⟩
      · exact .inl ⟨hm, List.eq_nil_of_length_eq_zero (by simpa using hlen)⟩
      · refine .inr ⟨hm, C, hC, by rw [hlen]; exact h1, h2, h3, (hcells C h4 ?_).mono hS (fun _ _ => rfl) (fun _ _ _ => rfl) rfl⟩
        rw [flat_length hlens0, h3]; exact Nat.mul_le_mul_right _ h1
    · rw [hlk, if_neg hi] at ho
      have hok := hr.heap.obj i o ho
      cases o with
      | box cs =>
        obtain ⟨hm, C, E, hC, hsz, hrep⟩ := hok
        refine ⟨by rw [updLoc_ne φ id _ i (Ne.symm hi)]; exact hm, C, E, by rw [updLoc_ne φ id _ i (Ne.symm hi)]; exact hC, hsz, fun j x v hx hv => hV (.inr ⟨i, cs, ho, List.mem_of_getElem? hx⟩) (hrep j x v hx hv)⟩
      | arr k2 sz2 E2 es2 =>
        obtain ⟨q0, q1, q2, q3⟩ := hok
        refine ⟨q0, q1, q2, ?_⟩
        rw [updLoc_ne φ id _ i (Ne.symm hi)]
        rcases q3 with q3 | ⟨hm, C, hC, h1, h2, h3, h4⟩
        · exact .inl q3
        · exact .inr ⟨hm, C, hC, h1, h2, h3, h4.mono hS (fun _ _ => rfl) (fun _ _ _ => rfl) rfl⟩
  · obtain ⟨o1, ho1⟩ := hold i oi hi
    obtain ⟨o2, ho2⟩ := hold j oj hj
    exact hr.heap.injO i j o1 o2 b ho1 ho2 ((howns i b).1 hmi) ((howns j b).1 hmj)
  · obtain ⟨o1, ho1⟩ := hold i o ho
    exact hr.heap.ltO i o1 b ho1 ((howns i b).1 hm)
  · obtain ⟨v, hv, hrep⟩ := hr.slots i x hx
    exact ⟨v, hv, hV (.inl ⟨i, hx⟩) hrep⟩
  · obtain ⟨o1, ho1⟩ := hold i o ho
    exact hr.mine i o1 b ho1 ((howns i b).1 hm)
  · have hne : i ≠ id := fun e => by subst e; exact hnoF o hi
    rw [updLoc_ne φ id _ i hne]
    exact hr.fix i o hi hb
  · have hne : id ≠ i := fun e => by subst e; exact hnoF o hi
    obtain ⟨o', ho', hb⟩ := hr.keep i o hi
    exact ⟨o', by simp only; rw [hlk, if_neg hne]; exact ho', hb⟩
theorem RelP.deepen {p p' : Bool} {φ : Nat → Loc} {a : Act} {w : World} (hr : RelP F N ⟨s, h⟩ φ a w) (hF : lk F.η id = none) (hl : lk h id = some (.arr ⟨p, false⟩ sz E es)) (he : ElR es es')
    (hn1 : s.all (fun q => noSub id q.2) = true) (hn2 : noSubH id h = true) (hh : sput h id (.arr ⟨p', true⟩ sz E es') = some h') : Rel F N ⟨s, h'⟩ a w := by
  obtain ⟨hsz, hlens0, hones, hob⟩ := hr.heap.obj _ _ hl
  obtain ⟨h1, h2⟩ := he.flat hsz hlens0
  refine hr.reread hF hl (fun _ => (none, 0, 0)) (.inl ⟨hn1, hn2⟩) he.len h1 (fun j y hy => ?_) (fun C hC hle => ?_) hh
  · obtain ⟨x, hx, hR⟩ := h2 j y hy
    exact cR_one hR (hones j x hx)
  · have hC' := hC.trees rfl
    have key : ∀ (j : Nat) y v, (flat es')[j]? = some y → C[j]? = some v → LinT w y v [] ∧ (isSl y = true → v = .slice none 0 0) := by
      intro j y v hy hv
      obtain ⟨x, hx, hR⟩ := h2 j y hy
      have ht := hC' j x v hx hv
      cases x with
      | snil =>
        cases ht
        cases y with
        | snil => exact ⟨.snil, fun _ => rfl⟩
        | sl n es => have hR' : es = [] := hR; subst hR'; exact ⟨.sl0 _ _, fun _ => rfl⟩
        | _ => exact hR.elim
      | int _ _ => obtain ⟨_, rfl⟩ := hR; exact ⟨ht.lin rfl, fun h => by simp [isSl] at h⟩
      | bool _ => obtain ⟨_, rfl⟩ := hR; exact ⟨ht.lin rfl, fun h => by simp [isSl] at h⟩
      | str _ => obtain ⟨_, rfl⟩ := hR; exact ⟨ht.lin rfl, fun h => by simp [isSl] at h⟩
      | _ => obtain ⟨h3, _⟩ := hR; simp [flat1] at h3
    refine ⟨List.replicate (flat es').length [], by simp, fun j y v fp hy hv hp => ?_, ?_, fun b hb => by simp at hb, fun j y v hy hv hs => (key j y v hy hv).2 hs⟩
    · have := (List.mem_replicate.1 (List.mem_of_getElem? hp)).2
      subst this
      exact (key j y v hy hv).1
    · simp
theorem RelP.pin {k k' : Kd} {φ : Nat → Loc} {a : Act} {w : World} (hr : RelP F N ⟨s, h⟩ φ a w) (hF : lk F.η id = none) (hl : lk h id = some (.arr k sz E es)) (hd : k'.d = k.d)
    (hh : sput h id (.arr k' sz E es) = some h') : Rel F N ⟨s, h'⟩ a w := by
  obtain ⟨hsz, hlens0, hones, hob⟩ := hr.heap.obj _ _ hl
  refine hr.reread hF hl (φ id).sv (.inr rfl) rfl hlens0 hones (fun C hC hle => ?_) hh
  unfold CellsOK at *
  rw [hd]
  exact hC
theorem RelP.nils {p : Bool} {φ : Nat → Loc} {a : Act} {w : World} (hr : RelP F N ⟨s, h⟩ φ a w) (hF : lk F.η id = none) (hl : lk h id = some (.arr ⟨p, false⟩ sz E es)) (he : ElR es es')
    (hh : sput h id (.arr ⟨p, false⟩ sz E es') = some h') : Rel F N ⟨s, h'⟩ a w := by
  obtain ⟨hsz, hlens0, hones, hob⟩ := hr.heap.obj _ _ hl
  obtain ⟨h1, h2⟩ := he.flat hsz hlens0
  refine hr.reread hF hl (φ id).sv (.inr rfl) he.len h1 (fun j y hy => ?_) (fun C hC hle => CellsOK.ofTrees rfl fun j y v hy hv => ?_) hh
  · obtain ⟨x, hx, hR⟩ := h2 j y hy
    exact cR_one hR (hones j x hx)
  · obtain ⟨x, hx, hR⟩ := h2 j y hy
    have ht := hC.trees rfl j x v hx hv
    cases x with
    | snil =>
      cases ht
      cases y with
      | snil => exact .snil
      | sl n es => have hR' : es = [] := hR; subst hR'; exact .sl0 _ _ _ (fun _ => rfl)
      | _ => exact hR.elim
    | int _ _ => obtain ⟨_, rfl⟩ := hR; exact ht
    | bool _ => obtain ⟨_, rfl⟩ := hR; exact ht
    | str _ => obtain ⟨_, rfl⟩ := hR; exact ht
    | _ => obtain ⟨h3, _⟩ := hR; simp [flat1] at h3
theorem T_deepen (id : Nat) {p p' : Bool} (es' : List AV) (hF : lk F.η id = none) (hl : lk h id = some (.arr ⟨p, false⟩ sz E es)) (he : ElR es es')
    (hn1 : s.all (fun q => noSub id q.2) = true) (hn2 : noSubH id h = true) (hh : sput h id (.arr ⟨p', true⟩ sz E es') = some h') (q : T P F N c Q ⟨s, h'⟩) : T P F N c Q ⟨s, h⟩ := T_sub (fun _ _ _ hr => hr.deepen hF hl he hn1 hn2 hh) q
theorem TL_deepen (id : Nat) {p p' : Bool} (es' : List AV) (hF : lk F.η id = none) (hl : lk h id = some (.arr ⟨p, false⟩ sz E es)) (he : ElR es es')
    (hn1 : s.all (fun q => noSub id q.2) = true) (hn2 : noSubH id h = true) (hh : sput h id (.arr ⟨p', true⟩ sz E es') = some h') (q : TLE ex P F N ops l K ⟨s, h'⟩) : TLE ex P F N ops l K ⟨s, h⟩ := TL_sub (fun _ _ _ hr => hr.deepen hF hl he hn1 hn2 hh) q
theorem TL_pin (id : Nat) {k k' : Kd} (hF : lk F.η id = none) (hl : lk h id = some (.arr k sz E es)) (hd : k'.d = k.d)
    (hh : sput h id (.arr k' sz E es) = some h') (q : TLE ex P F N ops l K ⟨s, h'⟩) : TLE ex P F N ops l K ⟨s, h⟩ := TL_sub (fun _ _ _ hr => hr.pin hF hl hd hh) q
theorem TL_nils (id : Nat) {p : Bool} (es' : List AV) (hF : lk F.η id = none) (hl : lk h id = some (.arr ⟨p, false⟩ sz E es)) (he : ElR es es')
    (hh : sput h id (.arr ⟨p, false⟩ sz E es') = some h') (q : TLE ex P F N ops l K ⟨s, h'⟩) : TLE ex P F N ops l K ⟨s, h⟩ := TL_sub (fun _ _ _ hr => hr.nils hF hl he hh) q
end
end Go.AM

namespace Go.AM
open Go
section
variable {F : Fr} {N : Nat} {P : Program}
variable {ops : Array Oper} {rest : List Oper} {K : St → Prop}
variable {ty : TypeId} {pos : String} {after : Array Edge} {d id : Nat} {s s' : Slots} {h h' : Heap}
end
end Go.AM


namespace Go.AM
inductive Ctl (σ τ : Type) where
  | next (s : σ)
  | out (t : τ)
def forL {α σ τ : Type} (step : Nat → α → σ → Option (Ctl σ τ)) (fin : σ → τ) : Nat → List α → σ → Option τ
  | _, [], s => some (fin s)
  | n, x :: r, s => match step n x s with
    | none => none
    | some (.next s') => forL step fin (n + 1) r s'
    | some (.out t) => some t
def iterN {σ τ : Type} (step : σ → Option (Ctl σ τ)) : Nat → σ → Option τ
  | 0, _ => none
  | n + 1, s => match step s with
    | none => none
    | some (.next s') => iterN step n s'
    | some (.out t) => some t
theorem iterN_mono {σ τ : Type} {step : σ → Option (Ctl σ τ)} : ∀ {n m : Nat} {s : σ} {t : τ}, n ≤ m → iterN step n s = some t → iterN step m s = some t := by
  intro n
  induction n with
  | zero => intro m s t _ h; cases h
  | succ n ih =>
    intro m s t hm h
    obtain ⟨k, rfl⟩ : ∃ k, m = k + 1 := ⟨m - 1, by omega⟩
    unfold iterN at h ⊢
    cases hs : step s with
    | none => rw [hs] at h; cases h
    | some c =>
      rw [hs] at h
      cases c with
      | next s' => exact ih (by omega) h
      | out t' => exact h
open Classical in
noncomputable def iter {σ τ : Type} (step : σ → Option (Ctl σ τ)) (s : σ) : Option τ :=
  if h : ∃ t, ∃ n, iterN step n s = some t then some (Classical.choose h) else none
theorem iter_iff {σ τ : Type} {step : σ → Option (Ctl σ τ)} {s : σ} {t : τ} : iter step s = some t ↔ ∃ n, iterN step n s = some t := by
  unfold iter
  constructor
  · intro h
    split at h
    · rename_i hex
      cases h
      exact Classical.choose_spec hex
    · cases h
  · rintro ⟨n, hn⟩
    have hex : ∃ t, ∃ n, iterN step n s = some t := ⟨t, n, hn⟩
    rw [dif_pos hex]
    obtain ⟨m, hm⟩ := Classical.choose_spec hex
    have h1 := iterN_mono (Nat.le_max_left n m) hn
    have h2 := iterN_mono (Nat.le_max_right n m) hm
    rw [h1] at h2
    exact congrArg some (Option.some.inj h2).symm
theorem iter_next {σ τ : Type} {step : σ → Option (Ctl σ τ)} {s s' : σ} (h : step s = some (.next s')) : iter step s = iter step s' := by
  have key : ∀ t, iter step s = some t ↔ iter step s' = some t := by
    intro t
    rw [iter_iff, iter_iff]
    constructor
    · rintro ⟨n, hn⟩
      cases n with
      | zero => cases hn
      | succ n => unfold iterN at hn; rw [h] at hn; exact ⟨n, hn⟩
    · rintro ⟨n, hn⟩
      exact ⟨n + 1, by unfold iterN; rw [h]; exact hn⟩
  cases h1 : iter step s with
  | some t => exact ((key t).1 h1).symm
  | none =>
    cases h2 : iter step s' with
    | none => rfl
    | some t => rw [(key t).2 h2] at h1; cases h1
theorem iter_out {σ τ : Type} {step : σ → Option (Ctl σ τ)} {s : σ} {t : τ} (h : step s = some (.out t)) : iter step s = some t :=
  iter_iff.2 ⟨1, by unfold iterN; rw [h]⟩
theorem iter_none {σ τ : Type} {step : σ → Option (Ctl σ τ)} {s : σ} (h : step s = none) : iter step s = none := by
  cases h1 : iter step s with
  | none => rfl
  | some t =>
    obtain ⟨n, hn⟩ := iter_iff.1 h1
    cases n with
    | zero => cases hn
    | succ n => unfold iterN at hn; rw [h] at hn; cases hn
theorem bindS {α β : Type} {m : Option α} {f : α → Option β} {r : β} (h : m.bind f = some r) : ∃ a, m = some a ∧ f a = some r := by
  cases m with
  | none => cases h
  | some a => exact ⟨a, rfl, h⟩
theorem condT {α : Type} {b : Bool} {x y z : α} (hb : b = true) (h : cond b x y = z) : x = z := by rw [hb] at h; exact h
theorem condF {α : Type} {b : Bool} {x y z : α} (hb : b = false) (h : cond b x y = z) : y = z := by rw [hb] at h; exact h
def w64 (n : Int) : Int := (n + 9223372036854775808) % 18446744073709551616 - 9223372036854775808
theorem w64_eq {n : Int} (h : -9223372036854775808 ≤ n ∧ n ≤ 9223372036854775807) : w64 n = n := by unfold w64; omega
def getI {α : Type} (xs : List α) (i : Int) : Option α := bif decide (0 ≤ i) then xs[i.toNat]? else none
theorem getI_spec {α : Type} {xs : List α} {i : Int} {x : α} (h : getI xs i = some x) : i = (i.toNat : Int) ∧ xs[i.toNat]? = some x := by
  unfold getI at h
  by_cases h0 : 0 ≤ i
  · simp [h0] at h; exact ⟨by omega, h⟩
  · simp [h0] at h
theorem getI_nat {α : Type} {xs : List α} {n : Nat} : getI xs (n : Int) = xs[n]? := by simp [getI]
theorem getI_lt {α : Type} {xs : List α} {i : Int} {x : α} (h : getI xs i = some x) : i.toNat < xs.length := (List.getElem?_eq_some_iff.1 (getI_spec h).2).1
def sliceI {α : Type} (xs : List α) (l u : Int) : Option (List α) := bif decide (0 ≤ l) && decide (l ≤ u) && decide (u ≤ xs.length) then some ((xs.drop l.toNat).take (u.toNat - l.toNat)) else none
theorem sliceI_spec {α : Type} {xs ys : List α} {l u : Int} (h : sliceI xs l u = some ys) : l = (l.toNat : Int) ∧ u = (u.toNat : Int) ∧ l.toNat ≤ u.toNat ∧ u.toNat ≤ xs.length ∧ ys = (xs.drop l.toNat).take (u.toNat - l.toNat) := by
  unfold sliceI at h
  by_cases h0 : (decide (0 ≤ l) && decide (l ≤ u) && decide (u ≤ xs.length)) = true
  · rw [h0, cond_true] at h
    simp only [Bool.and_eq_true, decide_eq_true_eq] at h0
    cases h
    exact ⟨by omega, by omega, by omega, by omega, rfl⟩
  · rw [Bool.eq_false_iff.2 h0] at h; cases h
def makeI (n : Int) (bz : Nat) : Option Nat := bif decide (0 ≤ n) && decide (n.toNat * bz ≤ 281474976710656) then some n.toNat else none
theorem makeI_spec {n : Int} {bz k : Nat} (h : makeI n bz = some k) : n = (k : Int) ∧ k * bz ≤ 281474976710656 := by
  unfold makeI at h
  by_cases h0 : (decide (0 ≤ n) && decide (n.toNat * bz ≤ 281474976710656)) = true
  · rw [h0, cond_true] at h
    simp only [Bool.and_eq_true, decide_eq_true_eq] at h0
    cases h
    exact ⟨by omega, h0.2⟩
  · rw [Bool.eq_false_iff.2 h0] at h; cases h
def capI (n bz : Nat) : Option Unit := bif decide (n * bz ≤ 140737488355328) then some () else none
theorem capI_spec {n bz : Nat} {u : Unit} (h : capI n bz = some u) : n * bz ≤ 140737488355328 := by
  unfold capI at h
  by_cases h0 : n * bz ≤ 140737488355328
  · exact h0
  · simp [h0] at h
def strI (n : Nat) : Option Unit := bif decide (n ≤ 9223372036854775807) then some () else none
theorem strI_spec {n : Nat} {u : Unit} (h : strI n = some u) : n ≤ 9223372036854775807 := by
  unfold strI at h
  by_cases h0 : n ≤ 9223372036854775807
  · exact h0
  · simp [h0] at h
end Go.AM

namespace Go.AM
open Go
def CtlOK {σ τ : Type} (R : σ → Prop) (K : τ → Prop) : Ctl σ τ → Prop
  | .next s => R s
  | .out t => K t
section
variable {P : Program} {F : Fr} {N : Nat} {Q : Exit → St → Prop} {st : St} {c : Code}
theorem TR_forL {α σ τ : Type} (xs : List α) (step : Nat → α → σ → Option (Ctl σ τ)) (fin : σ → τ) (inv : Nat → σ → St) (K : τ → Prop) {s0 : σ} {t : τ} (hl : forL step fin 0 xs s0 = some t) (hk : K t)
    (hend : ∀ s, K (fin s) → T P F N c (Post.seq (TR P F N c Q) Q) (inv xs.length s))
    (hbody : ∀ n x s ctl, xs[n]? = some x → n < xs.length → step n x s = some ctl → CtlOK (fun s' => ∀ st, st = inv (n + 1) s' → TR P F N c Q st) K ctl → T P F N c (Post.seq (TR P F N c Q) Q) (inv n s)) :
    TR P F N c Q (inv 0 s0) := by
  have key : ∀ (r : List α) (n : Nat) (s : σ), xs.drop n = r → n ≤ xs.length → forL step fin n r s = some t → TR P F N c Q (inv n s) := by
    intro r
    induction r with
    | nil =>
      intro n s hd hn h
      have : n = xs.length := by have := congrArg List.length hd; simp at this; omega
      subst this
      cases h
      exact TR_step (hend s hk)
    | cons x r ih =>
      intro n s hd hn h
      have hx : xs[n]? = some x := by
        have : (xs.drop n)[0]? = some x := by rw [hd]; rfl
        simpa using this
      have hlt := (List.getElem?_eq_some_iff.1 hx).1
      have hd' : xs.drop (n + 1) = r := by rw [← List.drop_drop, hd]; rfl
      unfold forL at h
      cases hs : step n x s with
      | none => rw [hs] at h; cases h
      | some ctl =>
        rw [hs] at h
        refine TR_step (hbody n x s ctl hx hlt hs ?_)
        cases ctl with
        | next s' => rintro st rfl; exact ih (n + 1) s' hd' (by omega) h
        | out t' => cases h; exact hk
  exact key xs 0 s0 (by simp) (by omega) hl
theorem TR_iter {σ τ : Type} (step : σ → Option (Ctl σ τ)) (inv : σ → St) (K : τ → Prop) {s0 : σ} {t : τ} (hl : iter step s0 = some t) (hk : K t)
    (hbody : ∀ s ctl, step s = some ctl → CtlOK (fun s' => ∀ st, st = inv s' → TR P F N c Q st) K ctl → T P F N c (Post.seq (TR P F N c Q) Q) (inv s)) :
    TR P F N c Q (inv s0) := by
  obtain ⟨n, hn⟩ := iter_iff.1 hl
  have key : ∀ (n : Nat) (s : σ), iterN step n s = some t → TR P F N c Q (inv s) := by
    intro n
    induction n with
    | zero => intro s h; cases h
    | succ n ih =>
      intro s h
      unfold iterN at h
      cases hs : step s with
      | none => rw [hs] at h; cases h
      | some ctl =>
        rw [hs] at h
        refine TR_step (hbody s ctl hs ?_)
        cases ctl with
        | next s' => rintro st rfl; exact ih s' h
        | out t' => cases h; exact hk
  exact key n s0 hn
variable {ops : Array Oper} {l : List Oper} {KK : St → Prop} {ex : Bool} {s s' : Slots} {h h' : Heap}
theorem TL_fact {p : Prop} (hp : ∀ φ a w, RelP F N st φ a w → p) (k : p → TLE ex P F N ops l KK st) : TLE ex P F N ops l KK st :=
  fun a w R hr hQ => by obtain ⟨φ, h1⟩ := hr; exact k (hp φ a w h1) a w R ⟨φ, h1⟩ hQ
theorem RelP.slLen {φ : Nat → Loc} {a : Act} {w : World} {i sz : Nat} {es : List AV} (hi : lk st.s i = some (.sl sz es)) (hr : RelP F N st φ a w) : es.length ≤ 9223372036854775807 := by
  obtain ⟨v, _, hv⟩ := hr.slots i _ hi
  exact sl_length hv
theorem RelP.owLen {φ : Nat → Loc} {a : Act} {w : World} {id sz : Nat} {k : Kd} {E : TypeId} {es : List AV} (hl : lk st.h id = some (.arr k sz E es)) (hr : RelP F N st φ a w) : es.length ≤ 9223372036854775807 := by
  obtain ⟨_, _, _, hob⟩ := hr.heap.obj _ _ hl
  rcases hob with ⟨_, rfl⟩ | ⟨_, C, _, h1, h2, _⟩
  · simp
  · simp only [maxLen] at h2; omega
structure FrozenB (S S' : Nat → Prop) (w : World) (φ : Nat → Loc) (h h' : Heap) (id : Nat) (bs : List AV) : Prop where
  ok : HeapOK S w φ h
  obj : lk h id = some (.box bs)
  pure : noIdsL bs = true
  nm : isMapLen bs.length = false
  mono : ∀ b, S b → S' b
  blk : S' (φ id).blk
  arr : ∀ i k sz E es, i ≠ id → lk h i = some (.arr k sz E es) → lk h' i = some (.arr k sz E es)
  box : ∀ i cs, i ≠ id → lk h i = some (.box cs) → ∃ cs', lk h' i = some (.box cs')
end
end Go.AM

namespace Go.AM
open Go
def renSl (ρ : List (Nat × Nat)) : Slots → Option Slots
  | [] => some []
  | (k, x) :: r => match renO ρ x with
    | some y => match renSl ρ r with
      | some l => some ((k, y) :: l)
      | none => none
    | none => none
theorem renSl_spec {ρ : List (Nat × Nat)} : ∀ {s s' : Slots}, renSl ρ s = some s' → ∀ i y, lk s' i = some y → ∃ x, lk s i = some x ∧ Ren (fun i j => lk ρ i = some j) x y := by
  intro s
  induction s with
  | nil => intro s' e i y hy; cases e; cases hy
  | cons p s ih =>
    obtain ⟨k, x⟩ := p
    intro s' e i y hy
    unfold renSl at e
    cases hx : renO ρ x with
    | none => simp [hx] at e
    | some z =>
      simp only [hx] at e
      cases hr : renSl ρ s with
      | none => simp [hr] at e
      | some l =>
        simp only [hr, Option.some.injEq] at e
        subst e
        rw [lk_cons] at hy ⊢
        split at hy
        · cases hy; rename_i hk; rw [if_pos hk]; exact ⟨x, rfl, renO_spec x y hx⟩
        · rename_i hk; rw [if_neg hk]; exact ih hr i y hy
section
variable {P : Program} {F : Fr} {N : Nat} {Q : Exit → St → Prop} {st : St} {c : Code}
variable {ops : Array Oper} {l : List Oper} {KK : St → Prop} {ex : Bool} {s s' : Slots} {h h' : Heap}
theorem RelP.ren {ρ : List (Nat × Nat)} {φ : Nat → Loc} {a : Act} {w : World} (hr : RelP F N ⟨s, h⟩ φ a w) (hinj : injB ρ = true) (hs : renSl ρ s = some s') (hh : renH ρ h = some h')
    (hF : F.η.all (fun p => match lk ρ p.1 with | some j => Nat.beq j p.1 | none => false) = true) : Rel F N ⟨s', h'⟩ a w := by
  obtain ⟨r1, r2⟩ := renH_spec hinj hh
  have hFe : ∀ i o, lk F.η i = some o → lk ρ i = some i := by
    intro i o ho
    have := List.all_eq_true.1 hF _ (lk_mem ho)
    simp only at this
    cases hl : lk ρ i with
    | none => rw [hl] at this; cases this
    | some j => rw [hl] at this; rw [(beq_iff _ _).1 this]
  have hplace : ∃ φ' : Nat → Loc, ∀ i j, lk ρ i = some j → φ' j = φ i := by
    classical
    refine ⟨fun j => if h : ∃ i, lk ρ i = some j then φ (Classical.choose h) else φ j, fun i j e => ?_⟩
    have hex : ∃ i, lk ρ i = some j := ⟨i, e⟩
    show (if h : ∃ i, lk ρ i = some j then φ (Classical.choose h) else φ j) = φ i
    rw [dif_pos hex, injB_inj hinj (Classical.choose_spec hex) e]
  obtain ⟨φ', hφ⟩ := hplace
  have hS : ∀ b, Stab F w φ h b → Stab F w φ' h' b := by
    intro b hb
    refine ⟨hb.1, hb.2.1, fun j o ho hm => ?_⟩
    obtain ⟨i, o', e1, e2, _⟩ := r2 j o ho
    rw [hφ i j e1] at hm
    exact hb.2.2 i o' e2 hm
  have hR : ∀ {x y v}, Ren (fun i j => lk ρ i = some j) x y → RepV (Stab F w φ h) w φ h x v → RepV (Stab F w φ' h') w φ' h' y v := fun hxy hv =>
    hv.ren hS (fun _ _ => rfl) (fun i j e => by
      refine ⟨fun _ _ => hφ i j e, fun k sz E es ho => ?_, fun cs ho => ?_⟩
      · obtain ⟨j', o', e1, e2, e3⟩ := r1 i _ ho
        rw [e] at e1; cases e1
        cases o' with
        | box _ => exact e3.elim
        | arr _ _ _ _ => obtain ⟨rfl, rfl, rfl, rfl⟩ := e3; exact ⟨_, _, rfl, e2⟩
      · obtain ⟨j', o', e1, e2, e3⟩ := r1 i _ ho
        rw [e] at e1; cases e1
        cases o' with
        | box cs' => exact ⟨cs', e2⟩
        | arr _ _ _ _ => exact e3.elim) hxy
  refine ⟨φ', hr.size, hr.defers, hr.sys, hr.grow, ⟨fun j o ho => ?_, fun i j oi oj b hi hj hmi hmj => ?_, fun b hb => hb.1, fun i o b ho hm hst => hst.2.2 i o ho hm, fun j o b ho hm => ?_⟩,
    fun i x hx => ?_, fun j o b ho hm => ?_, fun i o hi hb => ?_, fun i o hi => ?_, hr.frame⟩
  · obtain ⟨i, o', e1, e2, e3⟩ := r2 j o ho
    have hok := hr.heap.obj i o' e2
    cases o' with
    | box cs =>
      cases o with
      | arr _ _ _ _ => exact e3.elim
      | box cs' =>
        obtain ⟨hm, C, E, hC, hsz, hrep⟩ := hok
        refine ⟨by rw [hφ i j e1]; exact hm, C, E, by rw [hφ i j e1]; exact hC.len e3.1.symm, by rw [hsz]; exact e3.1, fun n y v hy hv => ?_⟩
        obtain ⟨x, hx⟩ : ∃ x, cs[n]? = some x := ⟨cs[n]'(by rw [e3.1]; exact (List.getElem?_eq_some_iff.1 hy).1), by simp⟩
        exact hR (e3.2 n x y hx hy) (hrep n x v hx hv)
    | arr k sz E es =>
      cases o with
      | box _ => exact e3.elim
      | arr _ _ _ _ =>
        obtain ⟨rfl, rfl, rfl, rfl⟩ := e3
        obtain ⟨h0, hl, hone, hob⟩ := hok
        refine ⟨h0, hl, hone, ?_⟩
        rw [hφ i j e1]
        rcases hob with hob | ⟨hm, C, hC, h1, h2, h3, h4⟩
        · exact .inl hob
        · exact .inr ⟨hm, C, hC, h1, h2, h3, h4.mono hS (fun _ _ => rfl) (fun _ _ _ => rfl) rfl⟩
  · obtain ⟨i1, o1, e1, e2, _⟩ := r2 i oi hi
    obtain ⟨i2, o2, f1, f2, _⟩ := r2 j oj hj
    rw [hφ i1 i e1] at hmi
    rw [hφ i2 j f1] at hmj
    have := hr.heap.injO i1 i2 o1 o2 b e2 f2 hmi hmj
    subst this
    rw [e1] at f1
    cases f1
    rfl
  · obtain ⟨i, o', e1, e2, _⟩ := r2 j o ho
    rw [hφ i j e1] at hm
    exact hr.heap.ltO i o' b e2 hm
  · obtain ⟨y, hy, hxy⟩ := renSl_spec hs i x hx
    obtain ⟨v, hv, hrep⟩ := hr.slots i y hy
    exact ⟨v, hv, hR hxy hrep⟩
  · obtain ⟨i, o', e1, e2, _⟩ := r2 j o ho
    rw [hφ i j e1] at hm
    rcases hr.mine i o' b e2 hm with h1 | ⟨o0, h1, h2⟩
    · exact .inl h1
    · right
      have := hFe i o0 h1
      rw [e1] at this
      cases this
      exact ⟨o0, h1, h2⟩
  · rw [hφ i i (hFe i o hi)]; exact hr.fix i o hi hb
  · obtain ⟨o', ho', hal⟩ := hr.keep i o hi
    obtain ⟨j, o2, e1, e2, e3⟩ := r1 i o' ho'
    rw [hFe i o hi] at e1
    cases e1
    refine ⟨o2, e2, AO.alike_trans hal ?_⟩
    cases o' <;> cases o2 <;> first | trivial | exact e3.elim | (obtain ⟨rfl, rfl, rfl, rfl⟩ := e3; exact AO.alike_refl _)
theorem T_ren (ρ : List (Nat × Nat)) (hinj : injB ρ = true) (hs : renSl ρ s = some s') (hh : renH ρ h = some h')
    (hF : F.η.all (fun p => match lk ρ p.1 with | some j => Nat.beq j p.1 | none => false) = true) (k : T P F N c Q ⟨s', h'⟩) : T P F N c Q ⟨s, h⟩ := T_sub (fun _ _ _ hr => hr.ren hinj hs hh hF) k
theorem T_join {ι : Type} {x y : Code} (J : ι → St) (M : ι → Prop) (hrest : ∀ i, M i → T P F N y Q (J i))
    (hfirst : (∀ i, M i → T P F N y Q (J i)) → T P F N x (Post.seq (T P F N y Q) Q) st) : T P F N (.seq x y) Q st := T_seq (hfirst hrest)
theorem TL_join {ι : Type} (n : Nat) (J : ι → St) (M : ι → Prop) (hrest : ∀ i, M i → TLE ex P F N ops (l.drop n) KK (J i))
    (hfirst : (∀ i, M i → TLE ex P F N ops (l.drop n) KK (J i)) → TLE ex P F N ops l KK st) : TLE ex P F N ops l KK st := hfirst hrest
end
theorem wrap_w64 (n : Int) : IntKind.i64.wrap n = w64 n := by
  rw [IntKind.wrap_i64]
  unfold w64
  omega
section
variable {P : Program} {s s' s1 : Slots} {h h' h1 : Heap} {dst : Option Tmp} {ty : TypeId} {pos : String} {after : Array Edge} {gd : Option (Nat × Bool)} {x y : Operand} {t : TypeId}
theorem op_lenT {sz n : Nat} {es : List AV} {e : TypeId} (hu : P.underlying t = some (.slice e)) (hx : aev s x = some (.sl sz es)) (hn : es.length = n) :
    OpP P ⟨dst, .call ⟨.builtin .len, #[x], #[t]⟩, ty, pos, after, gd⟩ s h (.int .i64 (n : Int)) := by subst hn; exact op_len_sl hu hx
theorem op_lenO {id sz n : Nat} {k : Kd} {E : TypeId} {es : List AV} {e : TypeId} (hu : P.underlying t = some (.slice e)) (hx : aev s x = some (.ow id)) (hl : lk h id = some (.arr k sz E es)) (hn : es.length = n) :
    OpP P ⟨dst, .call ⟨.builtin .len, #[x], #[t]⟩, ty, pos, after, gd⟩ s h (.int .i64 (n : Int)) := by subst hn; exact op_len_ow hu hx hl
theorem op_indexT {α : Type} {f : α → AV} {sz : Nat} {E : TypeId} {a : List α} {v : α} {cs : List AV} {k : IntKind} {i : Int} (ht : tyElem P t = some (E, sz))
    (hx : aev s x = some (.sl sz (a.map f))) (hy : aev s y = some (.int k i)) (hg : getI a i = some v) (hc : cellsO (f v) = some cs) :
    OpP P ⟨dst, .indexAddr t x y, ty, pos, after, gd⟩ s h (.cp cs) :=
  op_index_sl ht hx hy (getI_spec hg).1 (get_map (getI_spec hg).2) hc
theorem op_indexO {α : Type} {f : α → AV} {id sz : Nat} {kd : Kd} {E E' : TypeId} {a : List α} {v : α} {k : IntKind} {i : Int} (ht : tyElem P t = some (E, sz))
    (hx : aev s x = some (.ow id)) (hl : lk h id = some (.arr kd sz E' (a.map f))) (hy : aev s y = some (.int k i)) (hg : getI a i = some v) :
    OpP P ⟨dst, .indexAddr t x y, ty, pos, after, gd⟩ s h (.ptr id i.toNat 0) :=
  op_index_ow ht hx hl hy (getI_spec hg).1 (by simpa using getI_lt hg)
theorem op_indexST {c : List UInt8} {u : UInt8} {k : IntKind} {i : Int} (ht : P.underlying t = some .string) (hx : aev s x = some (.str c)) (hy : aev s y = some (.int k i))
    (hg : getI c i = some u) : OpP P ⟨dst, .index t x y, ty, pos, after, gd⟩ s h (.int .u8 (u.toNat : Int)) := op_indexS ht hx hy (getI_spec hg).1 (getI_spec hg).2
theorem op_addW {t' : TypeId} {a b : Int} (hx : aev s x = some (.int .i64 a)) (hy : aev s y = some (.int .i64 b)) : OpP P ⟨dst, .binOp .add t x y t', ty, pos, after, gd⟩ s h (.int .i64 (w64 (a + b))) := by
  rw [← wrap_w64]; exact op_add hx hy
theorem op_subW {t' : TypeId} {a b : Int} (hx : aev s x = some (.int .i64 a)) (hy : aev s y = some (.int .i64 b)) : OpP P ⟨dst, .binOp .sub t x y t', ty, pos, after, gd⟩ s h (.int .i64 (w64 (a - b))) := by
  rw [← wrap_w64]; exact op_sub hx hy
theorem op_mulW {t' : TypeId} {a b : Int} (hx : aev s x = some (.int .i64 a)) (hy : aev s y = some (.int .i64 b)) : OpP P ⟨dst, .binOp .mul t x y t', ty, pos, after, gd⟩ s h (.int .i64 (w64 (a * b))) := by
  rw [← wrap_w64]; exact op_mul hx hy
theorem op_negW {a : Int} (hx : aev s x = some (.int .i64 a)) : OpP P ⟨dst, .unOp .neg t x, ty, pos, after, gd⟩ s h (.int .i64 (w64 (0 - a))) := by
  rw [← wrap_w64]; exact op_neg hx
theorem op_addN {t' : TypeId} {n : Nat} (hx : aev s x = some (.int .i64 (n : Int))) (hy : aev s y = some (.int .i64 1)) (hf : n < 9223372036854775807) :
    OpP P ⟨dst, .binOp .add t x y t', ty, pos, after, gd⟩ s h (.int .i64 ((n + 1 : Nat) : Int)) := op_add64 hx hy (by omega)
theorem op_loadT1 {α : Type} {f : α → AV} {id k off sz : Nat} {p : Bool} {E : TypeId} {a : List α} {v : α} {c : AV} {cs r : List AV} (ha : tyAgg P t = some false) (hx : aev s x = some (.ptr id k off))
    (hl : lk h id = some (.arr ⟨p, false⟩ sz E (a.map f))) (hg : a[k]? = some v) (hc : cellsO (f v) = some cs) (hd : dropO cs off = some (c :: r)) :
    OpP P ⟨dst, .load t x, ty, pos, after, gd⟩ s h c := op_load_arr1 ha hx hl (get_map hg) hc hd
theorem op_loadD1 {α : Type} {f : α → AV} {id k off sz n : Nat} {p : Bool} {E : TypeId} {a : List α} {v : α} {c c' : AV} {cs r : List AV} (ha : tyAgg P t = some false) (hx : aev s x = some (.ptr id k off))
    (hl : lk h id = some (.arr ⟨p, true⟩ sz E (a.map f))) (hg : a[k]? = some v) (hc : cellsO (f v) = some cs) (hd : dropO cs off = some (c :: r)) (hn : n = k * sz + off) (hcc : dcell id n c = c') :
    OpP P ⟨dst, .load t x, ty, pos, after, gd⟩ s h c' := op_load_arrD1 ha hx hl (get_map hg) hc hd hn hcc
theorem op_sliceT {α : Type} {f : α → AV} {sz l u : Nat} {E : TypeId} {a b : List α} {lo hi : Option Operand} (ht : tyElem P t = some (E, sz))
    (hx : aev s x = some (.sl sz (a.map f))) (hb : Bnds s (a.map f).length lo hi l u) (hlu : l ≤ u) (hu : u ≤ a.length) (he : b = (a.drop l).take (u - l)) :
    OpP P ⟨dst, .slice t x lo hi none, ty, pos, after, gd⟩ s h (.sl sz (b.map f)) := by
  subst he
  rw [List.map_take, List.map_drop]
  exact op_slice_sl ht hx hb hlu (by simpa using hu)
end
end Go.AM

namespace Go.AM
open Go
mutual
def NilR : AV → AV → Prop
  | .snil, y => y = .snil ∨ ∃ n, y = .sl n []
  | .agg xs, y => ∃ ys, y = .agg ys ∧ NilRL xs ys
  | .tup xs, y => ∃ ys, y = .tup ys ∧ NilRL xs ys
  | .cp xs, y => ∃ ys, y = .cp ys ∧ NilRL xs ys
  | .fn f as bs, y => ∃ ys zs, y = .fn f ys zs ∧ NilRL as ys ∧ NilRL bs zs
  | .int k n, y => y = .int k n
  | .bool b, y => y = .bool b
  | .str b, y => y = .str b
  | .sl n es, y => y = .sl n es
  | .nilp, y => y = .nilp ∨ y = .tr .nilp
  | .tr x, y => y = .tr x
  | .nilf, y => y = .nilf
  | .ptr i k o, y => y = .ptr i k o
  | .ow i, y => y = .ow i
  | .mp i, y => y = .mp i
  | .sub i n, y => y = .sub i n
  | .win i n, y => y = .win i n
  | .junk, y => y = .junk
def NilRL : List AV → List AV → Prop
  | [], ys => ys = []
  | x :: r, ys => ∃ y s, ys = y :: s ∧ NilR x y ∧ NilRL r s
end
mutual
theorem NilR_T {S : Nat → Prop} {w : World} : ∀ (x y : AV) (v : Value), NilR x y → RepT S w x v → RepT S w y v
  | .snil, y, v, h, hv => by
    simp only [NilR] at h
    cases hv
    rcases h with rfl | ⟨n, rfl⟩
    · exact .snil
    · exact .sl0 _ _ _ (fun _ => rfl)
  | .agg xs, y, v, h, hv => by
    simp only [NilR] at h
    obtain ⟨ys, rfl, hl⟩ := h
    cases hv with
    | agg _ vs h1 h2 => obtain ⟨h3, h4⟩ := NilRL_T xs ys hl; exact .agg ys vs (by rw [h3]; exact h1) (fun i y v hy hv => h4 i y v hy (fun x hx => h2 i x v hx hv))
  | .tup xs, y, v, h, hv => by
    simp only [NilR] at h
    obtain ⟨ys, rfl, hl⟩ := h
    cases hv with
    | tup _ vs h1 h2 => obtain ⟨h3, h4⟩ := NilRL_T xs ys hl; exact .tup ys vs (by rw [h3]; exact h1) (fun i y v hy hv => h4 i y v hy (fun x hx => h2 i x v hx hv))
  | .cp xs, y, v, h, hv => by
    simp only [NilR] at h
    obtain ⟨ys, rfl, hl⟩ := h
    cases hv with
    | cp _ b off f hb h1 h2 =>
      obtain ⟨h3, h4⟩ := NilRL_T xs ys hl
      have hx : ∀ (j : Nat) y, ys[j]? = some y → ∃ x, xs[j]? = some x := fun j y hy => ⟨xs[j]'(by rw [← h3]; exact (List.getElem?_eq_some_iff.1 hy).1), by simp⟩
      exact .cp ys b off f hb (fun j y hy => by obtain ⟨x, hx⟩ := hx j y hy; exact h1 j x hx) (fun j y hy => h4 j y _ hy (fun x hx => h2 j x hx))
  | .fn f as bs, y, v, h, hv => by
    simp only [NilR] at h
    obtain ⟨ys, zs, rfl, hl1, hl2⟩ := h
    cases hv with
    | fn _ _ _ us ws h1 h2 h3 h4 =>
      obtain ⟨g1, g2⟩ := NilRL_T as ys hl1
      obtain ⟨g3, g4⟩ := NilRL_T bs zs hl2
      exact .fn f ys zs us ws (by rw [g1]; exact h1) (by rw [g3]; exact h2) (fun i y v hy hv => g2 i y v hy (fun x hx => h3 i x v hx hv)) (fun i y v hy hv => g4 i y v hy (fun x hx => h4 i x v hx hv))
  | .int k n, y, v, h, hv => by simp only [NilR] at h; subst h; exact hv
  | .bool b, y, v, h, hv => by simp only [NilR] at h; subst h; exact hv
  | .str b, y, v, h, hv => by simp only [NilR] at h; subst h; exact hv
  | .sl n es, y, v, h, hv => by simp only [NilR] at h; subst h; exact hv
  | .nilp, y, v, h, hv => by
    simp only [NilR] at h
    rcases h with rfl | rfl
    · exact hv
    · cases hv; exact .tr _ _ .nilp
  | .tr _, y, v, h, hv => by simp only [NilR] at h; subst h; exact hv
  | .nilf, y, v, h, hv => by simp only [NilR] at h; subst h; exact hv
  | .ptr i k o, y, v, h, hv => by simp only [NilR] at h; subst h; exact hv
  | .ow i, y, v, h, hv => by simp only [NilR] at h; subst h; exact hv
  | .mp i, y, v, h, hv => by simp only [NilR] at h; subst h; exact hv
  | .sub i n, y, v, h, hv => by simp only [NilR] at h; subst h; exact hv
  | .win i n, y, v, h, hv => by simp only [NilR] at h; subst h; exact hv
  | .junk, y, v, h, hv => by simp only [NilR] at h; subst h; exact hv
theorem NilRL_T {S : Nat → Prop} {w : World} : ∀ (xs ys : List AV), NilRL xs ys → ys.length = xs.length ∧
    ∀ (i : Nat) y v, ys[i]? = some y → (∀ x, xs[i]? = some x → RepT S w x v) → RepT S w y v
  | [], ys, h => by simp only [NilRL] at h; subst h; exact ⟨rfl, fun i y v hy => by simp at hy⟩
  | x :: r, ys, h => by
    simp only [NilRL] at h
    obtain ⟨y, s, rfl, h1, h2⟩ := h
    obtain ⟨h3, h4⟩ := NilRL_T (S := S) (w := w) r s h2
    refine ⟨by simp [h3], fun i b v hb hv => ?_⟩
    cases i with
    | zero => simp at hb; subst hb; exact NilR_T x y v h1 (hv x (by simp))
    | succ i => simp at hb; exact h4 i b v hb (fun x hx => hv x (by simpa using hx))
end
mutual
theorem NilR_V {S : Nat → Prop} {w : World} {φ : Nat → Loc} {η : Heap} : ∀ (x y : AV) (v : Value), NilR x y → RepV S w φ η x v → RepV S w φ η y v
  | .agg xs, y, v, h, hv => by
    simp only [NilR] at h
    obtain ⟨ys, rfl, hl⟩ := h
    obtain ⟨vs, rfl, h1, h2⟩ := hv.agg_inv
    obtain ⟨h3, h4⟩ := NilRL_V (S := S) (w := w) (φ := φ) (η := η) xs ys hl
    exact .agg ys vs (by rw [h3]; exact h1) (fun i y v hy hv => h4 i y v hy (fun x hx => h2 i x v hx hv))
  | .tup xs, y, v, h, hv => by
    simp only [NilR] at h
    obtain ⟨ys, rfl, hl⟩ := h
    obtain ⟨vs, rfl, h1, h2⟩ := hv.tup_inv
    obtain ⟨h3, h4⟩ := NilRL_V (S := S) (w := w) (φ := φ) (η := η) xs ys hl
    exact .tup ys vs (by rw [h3]; exact h1) (fun i y v hy hv => h4 i y v hy (fun x hx => h2 i x v hx hv))
  | .fn f as bs, y, v, h, hv => by
    simp only [NilR] at h
    obtain ⟨ys, zs, rfl, hl1, hl2⟩ := h
    obtain ⟨us, ws, rfl, h1, h2, h3, h4⟩ := hv.fn_inv
    obtain ⟨g1, g2⟩ := NilRL_V (S := S) (w := w) (φ := φ) (η := η) as ys hl1
    obtain ⟨g3, g4⟩ := NilRL_V (S := S) (w := w) (φ := φ) (η := η) bs zs hl2
    exact .fn f ys zs us ws (by rw [g1]; exact h1) (by rw [g3]; exact h2) (fun i y v hy hv => g2 i y v hy (fun x hx => h3 i x v hx hv)) (fun i y v hy hv => g4 i y v hy (fun x hx => h4 i x v hx hv))
  | .snil, y, v, h, hv => by cases hv with | pure hv => exact .pure (NilR_T _ _ _ h hv)
  | .cp xs, y, v, h, hv => by cases hv with | pure hv => exact .pure (NilR_T _ _ _ h hv)
  | .int k n, y, v, h, hv => by simp only [NilR] at h; subst h; exact hv
  | .bool b, y, v, h, hv => by simp only [NilR] at h; subst h; exact hv
  | .str b, y, v, h, hv => by simp only [NilR] at h; subst h; exact hv
  | .sl n es, y, v, h, hv => by simp only [NilR] at h; subst h; exact hv
  | .nilp, y, v, h, hv => by
    simp only [NilR] at h
    rcases h with rfl | rfl
    · exact hv
    · cases hv with
      | pure hv => cases hv; exact .pure (.tr _ _ .nilp)
  | .tr _, y, v, h, hv => by simp only [NilR] at h; subst h; exact hv
  | .nilf, y, v, h, hv => by simp only [NilR] at h; subst h; exact hv
  | .ptr i k o, y, v, h, hv => by simp only [NilR] at h; subst h; exact hv
  | .ow i, y, v, h, hv => by simp only [NilR] at h; subst h; exact hv
  | .mp i, y, v, h, hv => by simp only [NilR] at h; subst h; exact hv
  | .sub i n, y, v, h, hv => by simp only [NilR] at h; subst h; exact hv
  | .win i n, y, v, h, hv => by simp only [NilR] at h; subst h; exact hv
  | .junk, y, v, h, hv => by simp only [NilR] at h; subst h; exact hv
theorem NilRL_V {S : Nat → Prop} {w : World} {φ : Nat → Loc} {η : Heap} : ∀ (xs ys : List AV), NilRL xs ys → ys.length = xs.length ∧
    ∀ (i : Nat) y v, ys[i]? = some y → (∀ x, xs[i]? = some x → RepV S w φ η x v) → RepV S w φ η y v
  | [], ys, h => by simp only [NilRL] at h; subst h; exact ⟨rfl, fun i y v hy => by simp at hy⟩
  | x :: r, ys, h => by
    simp only [NilRL] at h
    obtain ⟨y, s, rfl, h1, h2⟩ := h
    obtain ⟨h3, h4⟩ := NilRL_V (S := S) (w := w) (φ := φ) (η := η) r s h2
    refine ⟨by simp [h3], fun i b v hb hv => ?_⟩
    cases i with
    | zero => simp at hb; subst hb; exact NilR_V x y v h1 (hv x (by simp))
    | succ i => simp at hb; exact h4 i b v hb (fun x hx => hv x (by simpa using hx))
end
theorem ACallF.nil {F : Fr} {P : Program} {f : FuncId} {xs ys : List AV} {L L' : Heap} {r : AV} (hc : ACallF F P f xs L r L') (hn : NilRL ys xs) : ACallF F P f ys L r L' := by
  intro w S φ vs hK hH hvs
  obtain ⟨h1, h2⟩ := NilRL_V (S := S) (w := w) (φ := φ) (η := L) ys xs hn
  exact hc w S φ vs hK hH ⟨by rw [h1]; exact hvs.1, fun i x v hx hv => h2 i x v hx (fun y hy => hvs.2 i y v hy hv)⟩
section
variable {P : Program} {F : Fr} {N : Nat} {Q : Exit → St → Prop} {st : St} {c : Code}
variable {ops : Array Oper} {l : List Oper} {KK : St → Prop} {ex : Bool} {s s' : Slots} {h h' : Heap}
theorem RelP.ownNilBox {φ : Nat → Loc} {a : Act} {w : World} {bid k id sz : Nat} {kd : Kd} {E : TypeId} {cs cs' : List AV} {h1 : Heap} (hr : RelP F N ⟨s, h⟩ φ a w) (hb : lk h bid = some (.box cs)) (hk : cs[k]? = some .snil)
    (hl : lk h id = none) (hsz : 0 < sz) (hh1 : sput h id (.arr kd sz E []) = some h1) (hc : cs' = cs.set k (.ow id)) (hh : sput h1 bid (.box cs') = some h') : Rel F N ⟨s, h'⟩ a w := by
  have h2 := hr.newNil none hl hh1 hsz
  have hlk1 := lk_sput hh1
  have hlk := lk_sput hh
  have hne : id ≠ bid := fun e => by subst e; rw [hl] at hb; cases hb
  have hb1 : lk h1 bid = some (.box cs) := by rw [hlk1, if_neg hne]; exact hb
  have h1id : lk h1 id = some (.arr kd sz E []) := by rw [hlk1, if_pos rfl]
  generalize hφ : updLoc φ id { mkLoc 0 0 false with va := none } = φ' at h2
  have hloc : φ' id = mkLoc 0 0 false := by rw [← hφ, updLoc_same]
  have hal : headsAlike φ' φ' h1 h' := by
    refine ⟨fun i cs1 hi _ => ⟨?_, rfl⟩, fun i k1 sz E1 es hi => ⟨rfl, k1, es, rfl, ?_⟩⟩
    · by_cases hid : bid = i
      · subst hid; exact ⟨_, by rw [hlk, if_pos rfl]⟩
      · exact ⟨cs1, by rw [hlk, if_neg hid]; exact hi⟩
    · have hid : bid ≠ i := fun e => by subst e; rw [hb1] at hi; cases hi
      rw [hlk, if_neg hid]; exact hi
  obtain ⟨hm, C, E', hC, hsz', hrep⟩ := h2.heap.obj _ _ hb1
  refine ⟨φ', h2.upd hh (fun _ _ => rfl) (SameSys.refl w) (Nat.le_refl _) (fun _ _ _ => rfl) (fun b hbo => .inr ⟨_, hb1, hbo⟩) (fun o1 h3 h4 => h2.fix bid o1 h3 h4) (fun o ho => by rw [hb1] at ho; cases ho; trivial)
    (fun hS hw x v _ hv => hv.mono hS hw hal) (fun hS hw => ⟨hm, C, E', hC.len (by rw [hc, List.length_set]), by rw [hc, List.length_set]; exact hsz', fun i y v hy hv => ?_⟩)⟩
  subst hc
  rw [List.getElem?_set] at hy
  split at hy
  · rename_i hki; subst hki
    split at hy
    · cases hy
      have hvn : v = .slice none 0 0 := by
        have := hrep k _ v hk hv
        cases this with
        | pure h => cases h; rfl
      subst hvn
      have := RepV.ow0 (S := Stab F w φ' h') (w := w) (φ := φ') (η := h') (id := id) (k := kd) (sz := sz) (E := E) (by rw [hlk, if_neg (Ne.symm hne)]; exact h1id) (by rw [hloc])
      rw [hloc] at this
      exact this
    · cases hy
  · exact (hrep i y v hy hv).mono hS hw hal
theorem T_ownNilBox (bid k id : Nat) {sz : Nat} (kd : Kd) (E : TypeId) {cs cs' : List AV} {h1 : Heap} (hb : lk h bid = some (.box cs)) (hk : cs[k]? = some .snil)
    (hl : lk h id = none) (hsz : Nat.blt 0 sz = true) (hh1 : sput h id (.arr kd sz E []) = some h1) (hc : cs' = cs.set k (.ow id)) (hh : sput h1 bid (.box cs') = some h') (q : T P F N c Q ⟨s, h'⟩) : T P F N c Q ⟨s, h⟩ :=
  T_sub (fun _ _ _ hr => hr.ownNilBox hb hk hl (Nat.le_of_ble_eq_true hsz) hh1 hc hh) q
theorem TR_forL2 {α σ τ : Type} (xs : List α) (step : Nat → α → σ → Option (Ctl σ τ)) (fin : σ → τ) (inv : Nat → σ → St) (E : τ → Exit) (J : τ → St) (K : τ → Prop) {s0 : σ} {t : τ} (hl : forL step fin 0 xs s0 = some t) (hk : K t)
    (hex : ∀ t, K t → Q (E t) (J t))
    (hend : (∀ t, K t → Q (E t) (J t)) → ∀ s, K (fin s) → T P F N c (Post.seq (TR P F N c Q) Q) (inv xs.length s))
    (hbody : (∀ t, K t → Q (E t) (J t)) → ∀ n x s ctl, xs[n]? = some x → n < xs.length → step n x s = some ctl → CtlOK (fun s' => ∀ st, st = inv (n + 1) s' → TR P F N c Q st) K ctl → T P F N c (Post.seq (TR P F N c Q) Q) (inv n s)) :
    TR P F N c Q (inv 0 s0) := TR_forL xs step fin inv K hl hk (hend hex) (hbody hex)
theorem TR_iter2 {σ τ : Type} (step : σ → Option (Ctl σ τ)) (inv : σ → St) (E : τ → Exit) (J : τ → St) (K : τ → Prop) {s0 : σ} {t : τ} (hl : iter step s0 = some t) (hk : K t)
    (hex : ∀ t, K t → Q (E t) (J t))
    (hbody : (∀ t, K t → Q (E t) (J t)) → ∀ s ctl, step s = some ctl → CtlOK (fun s' => ∀ st, st = inv s' → TR P F N c Q st) K ctl → T P F N c (Post.seq (TR P F N c Q) Q) (inv s)) :
    TR P F N c Q (inv s0) := TR_iter step inv K hl hk (hbody hex)
theorem someI {α : Type} {a b : α} (h : some a = some b) : a = b := Option.some.inj h
theorem CtlOK_out {σ τ : Type} {R : σ → Prop} {K : τ → Prop} {t : τ} (h : CtlOK R K (.out t)) : K t := h
theorem CtlOK_next {σ τ : Type} {R : σ → Prop} {K : τ → Prop} {s : σ} (h : CtlOK R K (.next s)) : R s := h
end
end Go.AM

namespace Go.AM
open Go
section
variable {P : Program} {s s' s1 : Slots} {h h' h1 : Heap} {dst : Option Tmp} {ty : TypeId} {pos : String} {after : Array Edge} {gd : Option (Nat × Bool)} {x y : Operand} {t t' : TypeId}
theorem op_quoC {a b : Int} (hx : aev s x = some (.int .i64 a)) (hy : aev s y = some (.int .i64 b)) (hb : b ≠ 0) : OpP P ⟨dst, .binOp .quo t x y t', ty, pos, after, gd⟩ s h (.int .i64 (w64 (a.tdiv b))) := by
  rw [← wrap_w64]; exact op_quo hx hy hb
theorem op_convW {k : IntKind} {a : Int} (hu : ∃ d, P.underlying t = some d) (hu' : P.underlying t' = some (.int .i64)) (hx : aev s x = some (.int k a)) :
    OpP P ⟨dst, .convert t t' x, ty, pos, after, gd⟩ s h (.int .i64 (w64 a)) := by
  rw [← wrap_w64]; exact op_conv hu hu' hx
def BndI (s : Slots) (len : Nat) (lo hi : Option Operand) (l u : Int) : Prop :=
  (match lo with
   | none => l = 0
   | some y => ∃ k, aev s y = some (.int k l)) ∧
  (match hi with
   | none => u = (len : Int)
   | some y => ∃ k, aev s y = some (.int k u))
theorem BndI.bnds {α : Type} {xs ys : List α} {n : Nat} {lo hi : Option Operand} {l u : Int} (hb : BndI s n lo hi l u) (hs : sliceI xs l u = some ys) : Bnds s n lo hi l.toNat u.toNat := by
  obtain ⟨h1, h2, _⟩ := sliceI_spec hs
  refine ⟨?_, ?_⟩
  · have := hb.1
    cases lo with
    | none => simp only at this ⊢; subst this; rfl
    | some y => obtain ⟨k, hk⟩ := this; exact ⟨k, by rw [← h1]; exact hk⟩
  · have := hb.2
    cases hi with
    | none => simp only at this ⊢; subst this; simp
    | some y => obtain ⟨k, hk⟩ := this; exact ⟨k, by rw [← h2]; exact hk⟩
theorem op_sliceI {α : Type} {f : α → AV} {sz : Nat} {E : TypeId} {a b : List α} {lo hi : Option Operand} {l u : Int} (ht : tyElem P t = some (E, sz))
    (hx : aev s x = some (.sl sz (a.map f))) (hb : BndI s a.length lo hi l u) (hs : sliceI a l u = some b) :
    OpP P ⟨dst, .slice t x lo hi none, ty, pos, after, gd⟩ s h (.sl sz (b.map f)) := by
  obtain ⟨h1, h2, h3, h4, h5⟩ := sliceI_spec hs
  exact op_sliceT ht hx (by rw [List.length_map]; exact hb.bnds hs) h3 h4 h5
end
section
variable {P : Program} {F : Fr} {N : Nat} {ops : Array Oper} {rest : List Oper} {K : St → Prop}
variable {ty : TypeId} {pos : String} {after : Array Edge} {d id : Nat} {s s' s1 : Slots} {h h' h1 : Heap} {x y : Operand}
theorem TL_appendT {α : Type} {f : α → AV} {t E : TypeId} {sz bz : Nat} {zv : Value} {z : AV} {a b : List α}
    (ht : tyElem P t = some (E, sz)) (hz : tyZero P E = some (zv, sz, bz)) (hzs : Nat.beq zv.cells.size sz = true)
    (hsz : Nat.blt 0 sz = true) (hb : Nat.blt 0 bz = true) (hx : aev s x = some (.ow id)) (hl : lk h id = some (.arr ⟨false, false⟩ sz E (a.map f))) (hy : aev s y = some z) (hsrc : asrc h sz z = some (b.map f))
    (hbig : (a.length + b.length) * bz ≤ 140737488355328)
    (hks : killSL [id] s = some s1) (hkh : killHL [id] h = some h1) (hh : sput (dropH [] h1) id (.arr ⟨false, false⟩ sz E ((a ++ b).map f)) = some h') (hN : Nat.blt d N = true) (hs : sput s1 d (.ow id) = some s')
    (k : TL P F N ops rest K ⟨s', h'⟩) : TL P F N ops (⟨some d, .call ⟨.builtin .append, #[x, y], #[t, t]⟩, ty, pos, after, none⟩ :: rest) K ⟨s, h⟩ :=
  TL_append ht hz hzs hsz hb hx hl hy hsrc (by simpa using hbig) hks hkh (by rw [← List.map_append]; exact hh) hN hs k
theorem TL_storeT {α : Type} {f : α → AV} {t n sz k0 off : Nat} {p : Bool} {E : TypeId} {z : AV} {a : List α} {v : α} {ec zc ec' : List AV} (hs : tySize P t = some n) (hx : aev s x = some (.ptr id k0 off))
    (hl : lk h id = some (.arr ⟨p, false⟩ sz E (a.map f))) (hg : a[k0]? = some v) {v' : α} (hec : cellsO (f v) = some ec) (hy : aev s y = some z) (hj : isJunk z = false) (hnoi : noIds z = true) (hc : cellsO z = some zc)
    (hn : Nat.beq zc.length n = true) (hone : zc.all one = true) (hset : setO ec off zc = some ec') (hec' : cellsO (f v') = some ec')
    (hh : sput h id (.arr ⟨p, false⟩ sz E ((a.set k0 v').map f)) = some h') (k : TL P F N ops rest K ⟨s, h'⟩) :
    TL P F N ops (⟨none, .store t x y, ty, pos, after, none⟩ :: rest) K ⟨s, h⟩ := by
  refine TL_skip rfl rfl (fun φ a' w hr => ?_) k
  obtain rfl := cellsO_eq hec
  have hee := cellsO_eq hec'
  obtain ⟨rfl, hlen⟩ := setO_eq hset
  have he := get_map (f := f) hg
  have hek : (f v).cells.length = sz := (hr.heap.obj _ _ hl).2.1 _ (List.mem_of_getElem? he)
  rw [List.map_set] at hh
  exact hr.storeArr hs hx hl he hy hj hnoi hc ((beq_iff _ _).1 hn) hone hee.symm (by omega) hh
theorem TL_storeFT {α : Type} {f : α → AV} {t n sz k0 off : Nat} {p : Bool} {E : TypeId} {z : AV} {a : List α} {v : α} {ec zc ec' : List AV} (hs : tySize P t = some n) (hx : aev s x = some (.ptr id k0 off))
    (hl : lk h id = some (.arr ⟨p, true⟩ sz E (a.map f))) (hg : a[k0]? = some v) {v' : α} (hec : cellsO (f v) = some ec) (hy : aev s y = some z) (hj : isJunk z = false) (hc : cellsO z = some zc) (hn : Nat.beq zc.length n = true)
    (hfl : zc.all flat1 = true) (hset : setO ec off zc = some ec') (hec' : cellsO (f v') = some ec')
    (hh : sput h id (.arr ⟨p, true⟩ sz E ((a.set k0 v').map f)) = some h') (k : TL P F N ops rest K ⟨s, h'⟩) :
    TL P F N ops (⟨none, .store t x y, ty, pos, after, none⟩ :: rest) K ⟨s, h⟩ :=
  TL_storeF hs hx hl (get_map hg) hec hy hj hc hn hfl hset hec' (List.map_set) hh k
end
end Go.AM
namespace Go.AM
open Go
def tyPlaces (P : Program) (t : TypeId) : Option (List (Nat × Nat)) :=
  match P.underlying t with
  | some (.struct fs) => fs.toList.mapM fun f => (tySize P f.type).map fun n => (f.offset, n)
  | _ => none
theorem run_places {P : Program} : ∀ (l : List Field) (r : List (Nat × Nat)) (w : World), (l.mapM fun f => (tySize P f.type).map fun n => (f.offset, n)) = some r →
    (l.mapM (fun f => do pure (f.offset, ← sizeOf f.type)) : Sem (List (Nat × Nat))).run P w = .ok r w := by
  intro l
  induction l with
  | nil => intro r w h; simp at h; subst h; rfl
  | cons f l ih =>
    intro r w h
    rw [List.mapM_cons] at h ⊢
    cases hf : tySize P f.type with
    | none => rw [hf] at h; cases h
    | some n =>
      rw [hf] at h
      cases hl : (l.mapM fun f => (tySize P f.type).map fun n => (f.offset, n)) with
      | none => simp [hl] at h
      | some r' =>
        simp [hl] at h
        subst h
        simp only [Sem.run_bind, run_size hf, Result.andThen_ok, Sem.run_pure, ih r' w hl]
section
variable {P : Program} {s : Slots} {h : Heap} {dst : Option Tmp} {ty : TypeId} {pos : String} {after : Array Edge} {gd : Option (Nat × Bool)} {t : TypeId}
theorem op_buildP {places : List (Nat × Nat)} {zv : Value} {n b : Nat} {z : AV} {zc r : List AV} {parts : Array (Nat × Operand)} {ps : List (Nat × AV)}
    (hp : tyPlaces P t = some places) (hz : tyZero P t = some (zv, n, b)) (hc : cav zv = some z) (hj : isJunk z = false) (hzc : cellsO z = some zc)
    (ha : aevB s parts.toList = some ps) (hf : bfill places zc ps = some r) : OpP P ⟨dst, .build t parts, ty, pos, after, gd⟩ s h (.agg r) := by
  unfold tyPlaces at hp
  split at hp
  · rename_i fs hu
    refine op_build (places := places.toArray) hu (fun w => ?_) hz hc hj hzc ha (by simpa using hf)
    have := run_places fs.toList places w hp
    rw [Array.mapM_eq_mapM_toList]
    show ((List.mapM (fun f => do pure (f.offset, ← sizeOf f.type)) fs.toList : Sem (List (Nat × Nat))) >>= fun l => pure l.toArray).run P w = _
    rw [Sem.run_bind, this]
    rfl
  · cases hp
end
end Go.AM

namespace Go.AM
theorem iter_inv {σ τ : Type} {step : σ → Option (Ctl σ τ)} (I : σ → Prop) (μ : σ → Nat) (Q : τ → Prop)
    (h : ∀ s, I s → (∃ s', step s = some (.next s') ∧ I s' ∧ μ s' < μ s) ∨ ∃ t, step s = some (.out t) ∧ Q t) : ∀ {s : σ}, I s → ∃ t, iter step s = some t ∧ Q t := by
  have key : ∀ (n : Nat) (s : σ), μ s < n → I s → ∃ t, iter step s = some t ∧ Q t := by
    intro n
    induction n with
    | zero => intro s h0; omega
    | succ n ih =>
      intro s hn hI
      rcases h s hI with ⟨s', h1, h2, h3⟩ | ⟨t, h1, h2⟩
      · rw [iter_next h1]; exact ih s' (by omega) h2
      · exact ⟨t, iter_out h1, h2⟩
  exact fun {s} hI => key _ s (Nat.lt_succ_self _) hI
theorem forL_inv' {α σ τ : Type} {step : Nat → α → σ → Option (Ctl σ τ)} {fin : σ → τ} (I : Nat → σ → Prop) (Q : τ → Prop) : ∀ (xs : List α) (k : Nat) (s : σ),
    (∀ n x s, xs[n]? = some x → I (k + n) s → (∃ s', step (k + n) x s = some (.next s') ∧ I (k + n + 1) s') ∨ ∃ t, step (k + n) x s = some (.out t) ∧ Q t) →
    (∀ s, I (k + xs.length) s → Q (fin s)) → I k s → ∃ t, forL step fin k xs s = some t ∧ Q t := by
  intro xs
  induction xs with
  | nil => intro k s _ hf hI; exact ⟨_, rfl, hf s hI⟩
  | cons x r ih =>
    intro k s h hf hI
    rcases h 0 x s rfl hI with ⟨s', h1, h2⟩ | ⟨t, h1, h2⟩
    · have e : forL step fin k (x :: r) s = forL step fin (k + 1) r s' := by simp only [Nat.add_zero] at h1; simp [forL, h1]
      rw [e]
      refine ih (k + 1) s' (fun n y s2 hy hI2 => ?_) (fun s2 hI2 => hf s2 ?_) h2
      · have := h (n + 1) y s2 (by simpa using hy) (by rw [show k + (n + 1) = k + 1 + n by omega]; exact hI2)
        rw [show k + (n + 1) = k + 1 + n by omega] at this
        exact this
      · rw [show k + (x :: r).length = k + 1 + r.length by simp; omega]; exact hI2
    · exact ⟨t, by simp only [Nat.add_zero] at h1; simp [forL, h1], h2⟩
theorem forL_inv {α σ τ : Type} {step : Nat → α → σ → Option (Ctl σ τ)} {fin : σ → τ} {xs : List α} (I : Nat → σ → Prop) (Q : τ → Prop)
    (h : ∀ n x s, xs[n]? = some x → I n s → (∃ s', step n x s = some (.next s') ∧ I (n + 1) s') ∨ ∃ t, step n x s = some (.out t) ∧ Q t)
    (hf : ∀ s, I xs.length s → Q (fin s)) {s : σ} (hI : I 0 s) : ∃ t, forL step fin 0 xs s = some t ∧ Q t :=
  forL_inv' I Q xs 0 s (fun n x s hx hI => by simp only [Nat.zero_add] at *; exact h n x s hx hI) (fun s hI => hf s (by simpa using hI)) hI
theorem iter_for' {α ρ σ τ : Type} {step : σ → Option (Ctl σ τ)} (st : Nat → ρ → σ) (body : Nat → α → ρ → Option (Ctl ρ τ)) (fin : ρ → τ) : ∀ (xs : List α) (k : Nat) (r : ρ),
    (∀ n x r, xs[n]? = some x → step (st (k + n) r) = (body (k + n) x r).map fun c => match c with | .next r' => .next (st (k + n + 1) r') | .out t => .out t) →
    (∀ r, step (st (k + xs.length) r) = some (.out (fin r))) → iter step (st k r) = forL body fin k xs r := by
  intro xs
  induction xs with
  | nil => intro k r _ he; exact iter_out (he r)
  | cons x xs ih =>
    intro k r hs he
    have h0 := hs 0 x r rfl
    simp only [Nat.add_zero] at h0
    unfold forL
    cases hb : body k x r with
    | none => rw [hb] at h0; exact iter_none h0
    | some c =>
      rw [hb] at h0
      cases c with
      | next r' =>
        rw [iter_next h0]
        refine ih (k + 1) r' (fun n y r2 hy => ?_) (fun r2 => ?_)
        · have := hs (n + 1) y r2 (by simpa using hy)
          rw [show k + (n + 1) = k + 1 + n by omega] at this
          exact this
        · have := he r2
          rw [show k + (x :: xs).length = k + 1 + xs.length by simp; omega] at this
          exact this
      | out t => exact iter_out h0
theorem iter_for {α ρ σ τ : Type} {step : σ → Option (Ctl σ τ)} (xs : List α) (st : Nat → ρ → σ) (body : Nat → α → ρ → Option (Ctl ρ τ)) (fin : ρ → τ)
    (hs : ∀ n x r, xs[n]? = some x → step (st n r) = (body n x r).map fun c => match c with | .next r' => .next (st (n + 1) r') | .out t => .out t)
    (he : ∀ r, step (st xs.length r) = some (.out (fin r))) (r : ρ) : iter step (st 0 r) = forL body fin 0 xs r :=
  iter_for' st body fin xs 0 r (fun n x r hx => by rw [Nat.zero_add]; exact hs n x r hx) (fun r => by rw [Nat.zero_add]; exact he r)
theorem forL_all {α τ : Type} {body : Nat → α → Unit → Option (Ctl Unit τ)} {fin : Unit → τ} {f : τ} (p : α → Bool) : ∀ (xs : List α) (k : Nat),
    (∀ n, ∀ x ∈ xs, body n x () = bif p x then some (.next ()) else some (.out f)) → forL body fin k xs () = some (bif xs.all p then fin () else f) := by
  intro xs
  induction xs with
  | nil => intro k _; rfl
  | cons x xs ih =>
    intro k h
    have h0 := h k x (by simp)
    unfold forL
    cases hp : p x with
    | true => rw [hp] at h0; rw [h0]; simp only [cond_true, List.all_cons, hp, Bool.true_and]; exact ih (k + 1) (fun n y hy => h n y (by simp [hy]))
    | false => rw [hp] at h0; rw [h0]; simp [hp]
def wu (b : Nat) (n : Int) : Int := n % 2 ^ b
def w32 (n : Int) : Int := (n + 2147483648) % 4294967296 - 2147483648
theorem w32_eq {n : Int} (h : -2147483648 ≤ n ∧ n ≤ 2147483647) : w32 n = n := by unfold w32; omega
theorem getI_some {α : Type} {xs : List α} {n : Nat} {x : α} (h : xs[n]? = some x) : getI xs (n : Int) = some x := by rw [getI_nat, h]
theorem w64_succ {n : Nat} (h : n < 9223372036854775807) : w64 ((n : Int) + 1) = ((n + 1 : Nat) : Int) := by rw [w64_eq (by omega)]; omega
theorem w64_pred {n : Nat} (h : 0 < n) (h2 : n ≤ 9223372036854775807) : w64 ((n : Int) - 1) = ((n - 1 : Nat) : Int) := by rw [w64_eq (by omega)]; omega
theorem get_lt {α : Type} {xs : List α} {n : Nat} {x : α} (h : xs[n]? = some x) : n < xs.length := (List.getElem?_eq_some_iff.1 h).1
theorem makeI_some {n : Nat} {bz : Nat} (h : n * bz ≤ 281474976710656) : makeI (n : Int) bz = some n := by simp [makeI, h]
theorem capI_some {n bz : Nat} (h : n * bz ≤ 140737488355328) : capI n bz = some () := by simp [capI, h]
theorem strI_some {n : Nat} (h : n ≤ 9223372036854775807) : strI n = some () := by simp [strI, h]
theorem sliceI_some {α : Type} {xs : List α} {l u : Nat} (h1 : l ≤ u) (h2 : u ≤ xs.length) : sliceI xs (l : Int) (u : Int) = some ((xs.drop l).take (u - l)) := by
  simp [sliceI, h1, h2]
theorem dec_lt {a b : Nat} (h : a < b) : decide ((a : Int) < (b : Int)) = true := decide_eq_true (by omega)
theorem dec_not_lt {a b : Nat} (h : ¬ a < b) : decide ((a : Int) < (b : Int)) = false := decide_eq_false (by omega)
theorem dec_self {a : Nat} : decide ((a : Int) < (a : Int)) = false := decide_eq_false (by omega)
def kfind {K : Type} [DecidableEq K] (k : K) : List K → Option Nat
  | [] => none
  | a :: r => if a = k then some 0 else (kfind k r).map (· + 1)
end Go.AM

namespace Go.AM
open Go
section
variable {P : Program} {dst : Option Tmp} {x y : Operand} {t ty : TypeId} {pos : String} {after : Array Edge} {gd : Option (Nat × Bool)} {s : Slots} {h : Heap} {k k' : IntKind} {a b : Int} {tys : Array TypeId}
theorem exec_max (ρ : Operand → Value) : execOp ρ ⟨dst, .call ⟨.builtin .max, #[x, y], tys⟩, ty, pos, after, gd⟩ = (do pure (.value (← Builtin.max_ tys ty #[ρ x, ρ y]))) := by
  rw [BigFrame.execOp_builtin]
  simp only [List.map_toArray, List.map_cons, List.map_nil]
  rfl
theorem op_max (hx : aev s x = some (.int k a)) (hy : aev s y = some (.int k' b)) : OpP P ⟨dst, .call ⟨.builtin .max, #[x, y], tys⟩, ty, pos, after, gd⟩ s h (.int k (max a b)) := by
  intro S w φ η ρ hh _ hρ
  have h1 := (hρ _ _ hx).int_inv
  have h2 := (hρ _ _ hy).int_inv
  refine ⟨.int k (max a b), fun w _ => ?_, .pure (.int _ _)⟩
  have e : max a b = if b > a then b else a := by
    by_cases hab : b > a
    · rw [if_pos hab]; omega
    · rw [if_neg hab]; omega
  rw [exec_max, h1, h2, e]
  rfl
theorem wrap_u8 (n : Int) : IntKind.u8.wrap n = wu 8 n := rfl
theorem wrap_i32 (n : Int) : IntKind.i32.wrap n = w32 n := by
  unfold w32
  by_cases h : n % 4294967296 ≥ 2147483648
  · have e : IntKind.i32.wrap n = n % 4294967296 - 4294967296 := by unfold IntKind.wrap; simp [IntKind.signed, IntKind.bits, h]
    rw [e]; omega
  · have e : IntKind.i32.wrap n = n % 4294967296 := by unfold IntKind.wrap; simp [IntKind.signed, IntKind.bits]; omega
    rw [e]; omega
section
variable {t' : TypeId} {W : Int → Int}
theorem op_subK (hw : ∀ n, k.wrap n = W n) (hx : aev s x = some (.int k a)) (hy : aev s y = some (.int k b)) : OpP P ⟨dst, .binOp .sub t x y t', ty, pos, after, gd⟩ s h (.int k (W (a - b))) := by
  rw [← hw]; exact op_sub hx hy
theorem op_convK {t2 : TypeId} (hw : ∀ n, k.wrap n = W n) (h1 : ∃ d, P.underlying t = some d) (h2 : P.underlying t2 = some (.int k)) (hx : aev s x = some (.int k' a)) :
    OpP P ⟨dst, .convert t t2 x, ty, pos, after, gd⟩ s h (.int k (W a)) := by
  rw [← hw]; exact op_conv h1 h2 hx
end
end
end Go.AM

namespace Go.AM
open Go
section
variable {S : Nat → Prop} {w : World} {φ : Nat → Loc} {h : Heap}
end
section
variable {P : Program} {F : Fr} {N : Nat} {ops : Array Oper} {l rest : List Oper} {K : St → Prop} {ex : Bool}
variable {ty : TypeId} {pos : String} {after : Array Edge} {d : Nat} {s s' : Slots} {h h' : Heap}
end
end Go.AM

namespace Go.AM
open Go
section
variable {P : Program} {F : Fr} {N : Nat} {ops : Array Oper} {l rest : List Oper} {K : St → Prop} {ex : Bool}
variable {ty : TypeId} {pos : String} {after : Array Edge} {d : Nat} {s s1 s' : Slots} {h h1 h' : Heap} {x : Operand} {id : Nat}
theorem CellsOK.front {k : Kd} {S : Nat → Prop} {w : World} {l : Loc} {xs ys : List AV} {C C' : Array Value} (hc : CellsOK k S w l xs C) (hx : ∀ (j : Nat) c, ys[j]? = some c → xs[j]? = some c)
    (hl : ys.length ≤ xs.length) (hC : ∀ (j : Nat) v, j < ys.length → C'[j]? = some v → C[j]? = some v) : CellsOK k S w l ys C' := by
  unfold CellsOK at hc ⊢
  cases hk : k.d with
  | false =>
    rw [hk] at hc
    exact fun j x v hx' hv => hc j x v (hx j x hx') (hC j v (List.getElem?_eq_some_iff.1 hx').1 hv)
  | true =>
    rw [hk] at hc
    obtain ⟨fps, h1, h2, h3, h4, h5⟩ := hc
    refine ⟨fps.take ys.length, by simp; omega, fun j x v fp hx' hv hf => ?_, ?_, fun b hb => ?_, fun j x v hx' hv hs => ?_⟩
    · have hj := (List.getElem?_eq_some_iff.1 hx').1
      rw [List.getElem?_take, if_pos hj] at hf
      exact h2 j x v fp (hx j x hx') (hC j v hj hv) hf
    · rw [List.nodup_cons] at h3 ⊢
      have hsub : (fps.take ys.length).flatten.Sublist fps.flatten := by
        have : fps = fps.take ys.length ++ fps.drop ys.length := (List.take_append_drop _ _).symm
        rw [show fps.flatten = (fps.take ys.length).flatten ++ (fps.drop ys.length).flatten by rw [← List.flatten_append, ← this]]
        exact List.sublist_append_left _ _
      exact ⟨fun hm => h3.1 (hsub.subset hm), h3.2.sublist hsub⟩
    · refine h4 b ?_
      obtain ⟨l', hl', hb'⟩ := List.mem_flatten.1 hb
      exact List.mem_flatten.2 ⟨l', List.mem_of_mem_take hl', hb'⟩
    · exact h5 j x v (hx j x hx') (hC j v (List.getElem?_eq_some_iff.1 hx').1 hv) hs
theorem TL_take {α : Type} {f : α → AV} {t E E2 : TypeId} {sz : Nat} {dd : Bool} {a b : List α} {lo hi : Option Operand} {u : Int}
    (ht : tyElem P t = some (E2, sz)) (hx : aev s x = some (.ow id)) (hl : lk h id = some (.arr ⟨false, dd⟩ sz E (a.map f))) (hb : BndI s a.length lo hi 0 u) (hsl : sliceI a 0 u = some b)
    (hks : killSL [id] s = some s1) (hkh : killHL [id] h = some h1) (hh : sput (dropH [] h1) id (.arr ⟨false, dd⟩ sz E (b.map f)) = some h') (hN : Nat.blt d N = true) (hs : sput s1 d (.ow id) = some s')
    (k : TL P F N ops rest K ⟨s', h'⟩) : TL P F N ops (⟨some d, .slice t x lo hi none, ty, pos, after, none⟩ :: rest) K ⟨s, h⟩ := by
  refine TL_val rfl (fun φ act w hr => ?_) k
  obtain ⟨q1, q2, q3, q4, q5⟩ := sliceI_spec hsl
  have hbn := hb.bnds hsl
  obtain ⟨hsz0, hlens, hones, hob⟩ := hr.heap.obj _ _ hl
  have hX := hr.appX hx hl
  have hblen : b.length = u.toNat := by rw [q5]; simp at q4 ⊢; omega
  have hbt : b.map f = (a.map f).take u.toNat := by rw [q5, List.map_take]; simp
  have hbl : ∀ (j : Nat) c, (flat (b.map f))[j]? = some c → (flat (a.map f))[j]? = some c := by
    intro j c hc
    have : flat (a.map f) = flat (b.map f) ++ flat ((a.map f).drop u.toNat) := by
      rw [← flat_app, hbt, List.take_append_drop]
    rw [this, List.getElem?_append_left (List.getElem?_eq_some_iff.1 hc).1]; exact hc
  have hlens' : ∀ e ∈ b.map f, e.cells.length = sz := fun e he => hlens e (by rw [hbt] at he; exact List.mem_of_mem_take he)
  have hfb := flat_length hlens'
  have hfa := flat_length hlens
  suffices hfin : ∃ v' cs, (Instr.sliceAt t (act.eval x) (lo.map act.eval) (hi.map act.eval) none).run P w = .ok v' w ∧ AppR w w E sz (φ id) (φ id) (b.map f).length v' cs ∧
      (∀ C' : Array Value, C'.toList.take ((b.map f).length * sz) = cs → (φ id).mat = true → CellsOK ⟨false, dd⟩ (Stab F w φ h) w (φ id) (flat (b.map f)) C') by
    obtain ⟨v', cs, hrun, hres, hcells⟩ := hfin
    obtain ⟨hr', hv'⟩ := hr.appended [] (φ id).fp (φ id).sv hl rfl (by simp) (by simp) hks hkh hh hres (fun b hb => .inl hb) hlens' (fun j c hc => hones j c (hbl j c hc)) hcells
    exact ⟨v', w, (fun h => nomatch h), by rw [exec_slice]; simp only [Option.map_none, Sem.run_bind, hrun, Result.andThen_ok, Sem.run_pure], _, hr'.put (Nat.le_of_ble_eq_true hN) hs hv'⟩
  rcases hX.go with ⟨hm, hxv, C, hC, hle, hcm, hCs, _⟩ | ⟨hm, h0, _, hxv⟩
  · have hbr := run_bounds w (P := P) (isS := true) (cap := (φ id).cap) (fun y z hy => aev_rep hr hy) hbn (by omega) (by simp at hle; omega)
    have hrun : (Instr.sliceAt t (act.eval x) (lo.map act.eval) (hi.map act.eval) none).run P w = .ok (.slice (some ⟨(φ id).blk, 0, none⟩) (b.map f).length (φ id).cap) w := by
      rw [hxv, List.length_map, run_slice_slice ht hbr]
      have e0 : (if (φ id).cap = (0 : Int).toNat then some (⟨(φ id).blk, 0, none⟩ : Addr) else (some (⟨(φ id).blk, 0, none⟩ : Addr)).map (·.add ((0 : Int).toNat * sz))) = some ⟨(φ id).blk, 0, none⟩ := by
        split
        · rfl
        · simp [Addr.add]
      rw [e0]
      simp [hblen]
    refine ⟨_, C.toList.take ((b.map f).length * sz), hrun, ⟨SameSys.refl w, Nat.le_refl _, fun _ _ _ => rfl, rfl, rfl, .inr ⟨hm, rfl, ⟨C, hC, by simp at hle ⊢; omega, hcm, hCs, rfl⟩, .inl ⟨hm, rfl⟩⟩⟩, fun C' hC' _ => ?_⟩
    rcases hob with ⟨hf, _⟩ | ⟨_, C0, hC0, _, _, _, hrep⟩
    · rw [hm] at hf; cases hf
    · rw [hC] at hC0
      cases hC0
      refine hrep.front hbl (by rw [hfb, hfa]; exact Nat.mul_le_mul_right _ (by rw [List.length_map, List.length_map, hblen]; exact q4)) (fun j v hj hv => ?_)
      rw [hfb] at hj
      have h1 : (C'.toList.take ((b.map f).length * sz))[j]? = some v := by rw [List.getElem?_take, if_pos hj]; simpa using hv
      rw [hC', List.getElem?_take, if_pos hj] at h1
      simpa using h1
  · have hbr := run_bounds w (P := P) (isS := true) (cap := 0) (fun y z hy => aev_rep hr hy) hbn (by omega) (by rw [List.length_map] at h0; omega)
    have hb0 : (b.map f).length = 0 := by rw [List.length_map] at h0 ⊢; omega
    have hrun : (Instr.sliceAt t (act.eval x) (lo.map act.eval) (hi.map act.eval) none).run P w = .ok (.slice (φ id).va 0 0) w := by
      have h0' : a.length = 0 := by rw [List.length_map] at h0; exact h0
      rw [hxv]
      rw [h0'] at hbr
      rw [run_slice_slice ht hbr]
      simp
      omega
    refine ⟨_, [], hrun, ⟨SameSys.refl w, Nat.le_refl _, fun _ _ _ => rfl, rfl, rfl, .inl ⟨hm, hm, hb0, rfl, rfl⟩⟩, fun C' _ hm' => ?_⟩
    rw [hm] at hm'; cases hm'
end
end Go.AM

namespace Go.AM
open Go
section
variable {P : Program} {F : Fr} {N : Nat} {ops : Array Oper} {l rest : List Oper} {K : St → Prop} {ex : Bool}
variable {ty t t' : TypeId} {pos : String} {after : Array Edge} {d : Nat} {s s1 s2 : Slots} {h : Heap} {x y : Operand}
end
end Go.AM

namespace Go.AM
open Go
section
variable {P : Program} {s : Slots} {h : Heap} {dst : Option Tmp} {ty : TypeId} {pos : String} {after : Array Edge} {gd : Option (Nat × Bool)} {x y : Operand} {t : TypeId}
end
end Go.AM

namespace Go.AM
open Go
section
variable {P : Program} {s : Slots} {h : Heap} {dst : Option Tmp} {ty : TypeId} {pos : String} {after : Array Edge} {gd : Option (Nat × Bool)} {x y : Operand} {t : TypeId}
theorem op_fieldAddrC {cs cs1 cs2 : List AV} {f o n : Nat} (hf : tyField P t f = some o) (hx : aev s x = some (.cp cs)) (hq : afield o (.cp cs) = some (.cp cs1)) (hc : cs1.take n = cs2) :
    OpP P ⟨dst, .fieldAddr t x f, ty, pos, after, gd⟩ s h (.cp cs2) := by
  intro S w φ η ρ hh hη hρ
  obtain ⟨v, h1, h2⟩ := op_fieldAddr (dst := dst) (ty := ty) (pos := pos) (after := after) (gd := gd) hf hx hq S w φ η ρ hh hη hρ
  refine ⟨v, h1, ?_⟩
  subst hc
  cases h2 with
  | pure h =>
    cases h with
    | cp _ b off g hb hcell hr =>
      exact .pure (.cp _ b off g hb (fun j y hy => hcell j y (by rw [List.getElem?_take] at hy; split at hy; exact hy; cases hy)) (fun j y hy => hr j y (by rw [List.getElem?_take] at hy; split at hy; exact hy; cases hy)))
end
end Go.AM

namespace Go.AM
open Go
section
variable {P : Program} {F : Fr} {N : Nat} {K : St → Prop} {ops : Array Oper} {Z : List Nat} {fuel : Nat} {listed : List Bool} {s s' : Slots} {h h' : Heap} {st : St}
end
def TrR (x x' : AV) : Prop := (x' = .tr x ∧ (x = .nilp ∨ ∃ cs, x = .cp cs)) ∨ (x = .tr x' ∧ ∃ cs, x' = .cp cs)
theorem TrR.rep {S : Nat → Prop} {w : World} {φ : Nat → Loc} {η : Heap} {x x' : AV} {v : Value} (h : TrR x x') (hr : RepV S w φ η x v) : RepV S w φ η x' v := by
  rcases h with ⟨rfl, rfl | ⟨cs, rfl⟩⟩ | ⟨rfl, cs, rfl⟩
  · cases hr with
    | pure hr => cases hr; exact .pure (.tr _ _ .nilp)
  · cases hr with
    | pure hr =>
      cases hr with
      | cp _ b off f h1 h2 h3 => exact .pure (.tr _ _ (.cp cs b off f h1 h2 h3))
  · cases hr with
    | pure hr =>
      cases hr with
      | tr _ p h => exact .pure h
      | trm _ us h => cases h
section
variable {P : Program} {F : Fr} {N : Nat} {Q : Exit → St → Prop} {c : Code} {K : St → Prop} {ops : Array Oper} {l : List Oper} {ex : Bool} {Z : List Nat} {fuel : Nat} {listed : List Bool} {s s' : Slots} {h : Heap}
end
section
variable {P : Program} {F : Fr} {N : Nat} {K : St → Prop} {ops : Array Oper} {l : List Oper} {ex : Bool} {s s' : Slots} {h h' : Heap}
end
def FrR (y x : AV) : Prop := y = x ∨ ∃ cs n, y = .cp cs ∧ x = .cp (cs.take n)
def FrRL : List AV → List AV → Prop
  | [], xs => xs = []
  | y :: r, xs => ∃ x s, xs = x :: s ∧ FrR y x ∧ FrRL r s
theorem FrRL_get : ∀ {ys xs : List AV}, FrRL ys xs → xs.length = ys.length ∧ ∀ (i : Nat) y x, ys[i]? = some y → xs[i]? = some x → FrR y x := by
  intro ys
  induction ys with
  | nil => intro xs h; unfold FrRL at h; subst h; exact ⟨rfl, fun i y x hy => by simp at hy⟩
  | cons z r ih =>
    intro xs h
    unfold FrRL at h
    obtain ⟨x, s, rfl, h1, h2⟩ := h
    obtain ⟨h3, h4⟩ := ih h2
    refine ⟨by simp [h3], fun i y x' hy hx => ?_⟩
    cases i with
    | zero => simp at hy hx; subst hy; subst hx; exact h1
    | succ i => simp at hy hx; exact h4 i y x' hy hx
theorem FrR.rep {S : Nat → Prop} {w : World} {φ : Nat → Loc} {η : Heap} {y x : AV} {v : Value} (h : FrR y x) (hr : RepV S w φ η y v) : RepV S w φ η x v := by
  rcases h with rfl | ⟨cs, n, rfl, rfl⟩
  · exact hr
  · cases hr with
    | pure hr =>
      cases hr with
      | cp _ b off f h1 h2 h3 =>
        exact .pure (.cp _ b off f h1 (fun j z hz => h2 j z (by rw [List.getElem?_take] at hz; split at hz; exact hz; cases hz)) (fun j z hz => h3 j z (by rw [List.getElem?_take] at hz; split at hz; exact hz; cases hz)))
theorem ACallF.front {F : Fr} {P : Program} {f : FuncId} {xs ys : List AV} {L L' : Heap} {r : AV} (hc : ACallF F P f xs L r L') (hn : FrRL ys xs) : ACallF F P f ys L r L' := by
  intro w S φ vs hK hH hvs
  obtain ⟨h1, h2⟩ := FrRL_get hn
  refine hc w S φ vs hK hH ⟨by rw [h1]; exact hvs.1, fun i x v hx hv => ?_⟩
  have hy : i < ys.length := by rw [← h1]; exact (List.getElem?_eq_some_iff.1 hx).1
  exact (h2 i _ x (List.getElem?_eq_getElem hy) hx).rep (hvs.2 i _ v (List.getElem?_eq_getElem hy) hv)
end Go.AM

namespace Go.AM
open Go Go.MapKept
structure KeyOK (P : Program) (kt : TypeId) {K : Type} [DecidableEq K] (enc : K → AV) (val : K → Value) : Prop where
  rep : ∀ (S : Nat → Prop) (w : World) (k : K) (v : Value), RepT S w (enc k) v → v = val k
  mkr : ∀ (S : Nat → Prop) (w : World) (k : K), RepT S w (enc k) (val k)
  ids : ∀ k, noIds (enc k) = true
  chk : ∀ (b : Bool) (k : K) (w : World), (Instr.checkKey b 10000 kt (val k)).run P w = .ok () w
  find : ∀ (w : World) (k : K) (ks : List K) (ents : List MapEntry), ents.map (·.key) = ks.map val →
    (Instr.findKey kt (val k) ents).run P w = .ok ((kfind k ks).bind fun i => (ents[i]?).map fun x => (i, x.val)) w
  same : ∀ k, Instr.sameBits 10000 (val k) (val k) = true
section
variable {P : Program} {F : Fr} {N : Nat}
variable {K V : Type} [DecidableEq K] {encK : K → AV} {encV : V → AV} {val : K → Value} {kt et : TypeId} {f : K × V → AV}
end
section
variable {P : Program} {F : Fr} {N : Nat} {K0 : St → Prop} {ops : Array Oper} {rest : List Oper} {ex : Bool}
variable {ty : TypeId} {pos : String} {after : Array Edge} {d id : Nat} {s s' : Slots} {h h' : Heap} {x y z : Operand} {gd : Option (Nat × Bool)} {dst : Option Tmp}
variable {K V : Type} [DecidableEq K] {encK : K → AV} {encV : V → AV} {val : K → Value} {t kt et : TypeId} {f : K × V → AV}
end
section
variable {P : Program} {F : Fr} {N : Nat} {Q : Exit → St → Prop} {c : Code} {K : St → Prop} {ops : Array Oper} {l : List Oper} {ex : Bool} {s : Slots} {h h' : Heap}
end
section
variable {P : Program} {F : Fr} {N : Nat} {Q : Exit → St → Prop} {c : Code} {K : St → Prop} {ops : Array Oper} {l : List Oper} {ex : Bool} {s : Slots} {h h' : Heap}
end
end Go.AM

namespace Go.AM
open Go Go.MapKept
section
variable {P : Program} {s : Slots} {h : Heap} {dst : Option Tmp} {ty : TypeId} {pos : String} {after : Array Edge} {gd : Option (Nat × Bool)} {t : TypeId}
end
section
variable {P : Program} {F : Fr} {N : Nat} {ops : Array Oper} {Z : List Nat} {fuel : Nat} {listed : List Bool} {K : St → Prop} {s s' : Slots} {h h' : Heap}
end
section
variable {P : Program} {s : Slots} {h : Heap} {dst : Option Tmp} {ty : TypeId} {pos : String} {after : Array Edge} {gd : Option (Nat × Bool)} {t : TypeId} {x y : Operand}
end
section
variable {P : Program} {kt e : TypeId}
end
end Go.AM

namespace Go.AM
open Go
structure LibEnd (w w' : World) : Prop where
  sys : SameSys w w'
  grow : w.heap.size ≤ w'.heap.size
  frame : ∀ b, b < w.heap.size → w'.heap[b]? = w.heap[b]?
theorem LibEnd.refl (w : World) : LibEnd w w := ⟨SameSys.refl w, Nat.le_refl _, fun _ _ => rfl⟩
theorem ACall.lib {P : Program} {f : FuncId} {args : List AV} {vals : Array Value} {r : AV} {v : Value} (ha : ∀ (S : Nat → Prop) (w : World) (φ : Nat → Loc) (us : Array Value), PW S w φ [] args us.toList → us = vals)
    (hr : ∀ (S : Nat → Prop) (w : World), RepT S w r v) (hc : ∀ w, Calls P f vals w fun e w' => e = .returned v ∧ LibEnd w w') : ACall P f args [] r [] := by
  intro w S φ vs hH hvs
  obtain rfl := ha S w φ vs hvs
  refine (hc w).mono (fun e w' h => ⟨v, φ, h.1, ?_⟩)
  obtain ⟨he, hl⟩ := h
  exact { sys := hl.sys, grow := hl.grow, heap := HeapOK.nil φ (fun b hb => hb.1), val := .pure (hr _ _), mine := (fun id o b ho => by cases ho), fix := (fun id o ho => by cases ho), keep := (fun id o ho => by cases ho)
          frame := fun b hb _ => hl.frame b hb }
theorem args_ints {a b : Int} {S : Nat → Prop} {w : World} {φ : Nat → Loc} {us : Array Value} (h : PW S w φ [] [.int .i64 a, .int .i64 b] us.toList) : us = #[.int .i64 a, .int .i64 b] := by
  obtain ⟨h1, h2⟩ := h
  simp only [List.length_cons, List.length_nil, Array.length_toList] at h1
  apply Array.ext
  · simpa using h1.symm
  · intro i hi hi2
    have : i = 0 ∨ i = 1 := by simp at hi2; omega
    rcases this with rfl | rfl
    · exact (h2 0 (.int .i64 a) us[0] rfl (by simp)).int_inv
    · exact (h2 1 (.int .i64 b) us[1] rfl (by simp)).int_inv
end Go.AM

namespace Go.AM
open Go Go.RowKit
section
variable {P : Program} {s : Slots} {h : Heap} {dst : Option Tmp} {ty : TypeId} {pos : String} {after : Array Edge} {gd : Option (Nat × Bool)}
variable {x : Operand} {t t' : TypeId}
end
section
variable {P : Program} {F : Fr} {N : Nat} {ops : Array Oper} {l rest : List Oper} {KK : St → Prop} {ex : Bool}
variable {ty t t' : TypeId} {pos : String} {after : Array Edge} {d : Nat} {s s' : Slots} {h h' : Heap} {x : Operand}
theorem TL_convBS {src dst e : TypeId} {xs : List AV} {ns : List Int} (hs1 : P.underlying src = some (.slice e)) (he : P.underlying e = some (.int .u8)) (hd : P.underlying dst = some .string)
    (hx : aev s x = some (.sl 1 xs)) (hxs : xs = ns.map fun n => .int .u8 n) (hN : Nat.blt d N = true) (hs : sput s d (.str (ns.map fun n => UInt8.ofNat n.toNat)) = some s')
    (k : TLE ex P F N ops rest KK ⟨s', h⟩) : TLE ex P F N ops (⟨some d, .convert src dst x, ty, pos, after, none⟩ :: rest) KK ⟨s, h⟩ := by
  intro a w R hr hQ
  obtain ⟨φ, hp⟩ := hr
  have hv := (aev_rep hp hx).tree rfl
  have hrun : (execOp a.eval ⟨some d, .convert src dst x, ty, pos, after, none⟩).run P w = .ok (.value (.string ⟨(ns.map fun n => UInt8.ofNat n.toNat).toArray⟩)) w := by
    show (do pure (.value (← convert src dst (a.eval x))) : Sem Next).run P w = _
    have key : (convert src dst (a.eval x)).run P w = .ok (.string (strOfNums ns)) w := by
      generalize a.eval x = v at hv
      cases hv with
      | sl0 _ ad cap _ =>
        obtain rfl : ns = [] := by cases ns with | nil => rfl | cons a b => simp at hxs
        cases ad with
        | none => exact run_convert_bytes_nil w src e hs1 he 0 cap dst hd
        | some ad =>
          rw [run_convert_bytes_string w src dst e _ 0 cap hs1 he hd, run_bytesToString w ad 0 cap [] (by simp [loadCells]; rfl)]
          rfl
      | sl _ _ b off cap f hne hb hc hm hsz hlen hone hcell hrep =>
        subst hxs
        have hfl : flat (ns.map fun n => AV.int .u8 n) = ns.map fun n => AV.int .u8 n := by
          unfold flat
          clear hne hc hlen hone hcell hrep hx hs
          induction ns with
          | nil => rfl
          | cons a r ih => simp only [List.map_cons, List.flatMap_cons, ih]; rfl
        refine run_convert_bytes_arg w src e hs1 he b off _ cap ns (by simp) (fun i hi => ?_) dst hd
        have hi' : i < ns.length := by simpa using hi
        have hz : (flat (ns.map fun n => AV.int .u8 n))[i]? = some (.int .u8 (ns.getD i 0)) := by
          rw [hfl]; simp [List.getD, List.getElem?_eq_getElem hi']
        rw [hcell i _ hz]
        have := hrep i _ hz
        cases h : f i <;> rw [h] at this <;> cases this
        rfl
    simp only [Sem.run_bind, key, Result.andThen_ok, Sem.run_pure]
    rfl
  refine wpList_plain rfl fun K' hK' => ?_
  unfold Oper.wp
  rw [hrun]
  exact hK' _ _ (k _ _ R ⟨φ, hp.put (Nat.le_of_ble_eq_true hN) hs (.pure (.str _))⟩ (fun st' a' w'' hk hr'' he => hQ st' a' w'' hk hr'' he))
end
section
variable {P : Program} {s : Slots} {h : Heap} {dst : Option Tmp} {ty t : TypeId} {pos : String} {after : Array Edge} {gd : Option (Nat × Bool)} {x : Operand} {id : Nat}
variable {K V : Type} [DecidableEq K] {encK : K → AV} {encV : V → AV} {val : K → Value} {kt et : TypeId} {f : K × V → AV}
end
section
variable {P : Program} {W : World}
theorem law_callsG {g : Glob} {f : FuncId} {xs : List AV} {vs : Array Value} (hc : ACallG g P f xs [] (.bool true) []) (hg : g.G W) (hB : ∀ b ∈ g.B, b < W.heap.size) (hl : xs.length = vs.size)
    (hr : ∀ (i : Nat) x v, xs[i]? = some x → vs[i]? = some v → RepT (fun b => b < W.heap.size) W x v) :
    Calls P f vs W fun e w' => e = .returned (.bool true) ∧ Below W.heap.size W w' := by
  refine (hc W (fun b => b < W.heap.size) (fun _ => mkLoc 0 0 false) vs ⟨hB, hg⟩ (HeapOK.nil _ (fun b hb => hb)) ⟨by simpa using hl, fun i x v hx hv => .pure (hr i x v hx (by simpa using hv))⟩).mono ?_
  rintro e w' ⟨v, φ', rfl, hret⟩
  have := hret.val.bool_inv
  subst this
  exact ⟨rfl, hret.sys.os, hret.sys.tape, hret.sys.output, hret.grow, fun b hb => hret.frame b hb (fun ⟨id, o, ho, _⟩ => by cases ho)⟩
theorem ACallG.lib {g : Glob} {f : FuncId} {args : List AV} {r : AV} 
    (hc : ∀ (w : World) (S : Nat → Prop) (φ : Nat → Loc) (vals : Array Value), g.G w → (∀ b, S b → b < w.heap.size) → PW S w φ [] args vals.toList →
      Calls P f vals w fun e w' => ∃ v, e = .returned v ∧ LibEnd w w' ∧ RepT (fun b => b < w'.heap.size ∧ (S b ∨ w.heap.size ≤ b)) w' r v) : ACallG g P f args [] r [] := by
  intro w S φ vs hG hH hvs
  refine (hc w S φ vs hG.2 hH.free hvs).mono (fun e w' h => ?_)
  obtain ⟨v, he, hl, hr⟩ := h
  exact ⟨v, φ, he, ⟨hl.sys, hl.grow, HeapOK.nil φ (fun b hb => hb.1), .pure (hr.mono (fun b hb => ⟨hb.1, hb.2, fun id o ho => (by cases ho)⟩) (fun _ _ => rfl)), (fun id o b ho => (by cases ho)), (fun id o ho => (by cases ho)), (fun id o ho => (by cases ho)), fun b hb _ => hl.frame b hb⟩⟩
end
end Go.AM

namespace Go.AM
open Go
section
variable {F : Fr} {N : Nat} {P : Program}
variable {ops : Array Oper} {K : St → Prop}
variable {id : Nat} {s s' : Slots} {h h' : Heap}
end
end Go.AM

namespace Go.AM
def runeI (n : Int) : Option (List UInt8) := if 0 ≤ n ∧ n < 128 then some [UInt8.ofNat n.toNat] else none
theorem runeI_spec {a : Int} {y : List UInt8} (h : runeI a = some y) : 0 ≤ a ∧ a < 128 ∧ y = [UInt8.ofNat a.toNat] := by
  unfold runeI at h
  by_cases hc : 0 ≤ a ∧ a < 128
  · rw [if_pos hc] at h; cases h; exact ⟨hc.1, hc.2, rfl⟩
  · rw [if_neg hc] at h; cases h
end Go.AM

namespace Go.AM
open Go
section
variable {P : Program} {s : Slots} {h : Heap} {dst : Option Tmp} {ty t t' : TypeId} {pos : String} {after : Array Edge} {gd : Option (Nat × Bool)} {x : Operand}
theorem encode_ascii {a : Int} (h0 : 0 ≤ a) (h1 : a < 128) : Utf8.encode a = ⟨#[UInt8.ofNat a.toNat]⟩ := by
  have hv : Utf8.valid a = true := by unfold Utf8.valid; simp; omega
  unfold Utf8.encode
  simp only [hv, if_true]
  rw [if_pos (by omega)]
theorem op_convRune {k : IntKind} {a : Int} {y : List UInt8} (hu : ∃ d, P.underlying t = some d) (hu' : P.underlying t' = some .string) (hx : aev s x = some (.int k a)) (hy : runeI a = some y) :
    OpP P ⟨dst, .convert t t' x, ty, pos, after, gd⟩ s h (.str y) := by
  intro S w φ η ρ hh _ hρ
  obtain ⟨h0, h1, rfl⟩ := runeI_spec hy
  have hv := (hρ _ _ hx).int_inv
  obtain ⟨dd, hd⟩ := hu
  refine ⟨.string ⟨#[UInt8.ofNat a.toNat]⟩, fun w _ => ?_, .pure (.str _)⟩
  show (do pure (.value (← convert t t' (ρ x))) : Sem Next).run P w = _
  have : (convert t t' (.int k a)).run P w = .ok (.string ⟨#[UInt8.ofNat a.toNat]⟩) w := by
    unfold convert
    simp only [Sem.run_bind, run_underlying hd, run_underlying hu', Result.andThen_ok]
    unfold Conv.intToString
    rw [encode_ascii h0 h1]
    rfl
  rw [hv]
  simp only [Sem.run_bind, this, Result.andThen_ok, Sem.run_pure]
end
section
variable {P : Program} {F : Fr} {N : Nat} {ops : Array Oper} {rest : List Oper} {KK : St → Prop}
variable {ty : TypeId} {pos : String} {after : Array Edge} {d : Nat} {s s1 s' : Slots} {h h1 h' : Heap}
theorem TL_callVO {f : FuncId} {g : Operand} {args : Array Operand} {tys : Array TypeId} {zs fs cs us xs : List AV} {L L' Lc Lc' : Heap} {r r' : AV} (ρ ρn : List (Nat × Nat)) (ks : List Nat) (hg : aev s g = some (.fn (.func f) fs cs))
    (hc : ACallF F P f xs L r L') (hcall : ∀ args w, (callFunc f args).run P w = .ok (.enter f args) w) (hz : aevL s args.toList = some zs) (hu : fs ++ zs ++ cs = us)
    (hinj : injB (ρ ++ ρn) = true) (hxs : renL ρ xs = some us) (hL : renH ρ L = some Lc) (hdom : ρ.all (fun p => (lk L p.1).isSome) = true) (hsub : SubH Lc h)
    (hL' : renH (ρ ++ ρn) L' = some Lc') (hdom' : (ρ ++ ρn).all (fun p => (lk L' p.1).isSome) = true) (hkeys : keysB Lc' = true)
    (hfresh : ρn.all (fun p => (lk h p.2).isNone) = true) (hr' : renO (ρ ++ ρn) r = some r')
    (hks : Lc.all (fun p => p.2.fixed || ks.contains p.1) = true)
    (hs1 : killSL ks s = some s1) (hh1 : killHL ks h = some h1) (hh' : putAll h1 Lc' = some h') (hN : Nat.blt d N = true) (hs : sput s1 d r' = some s')
    (k : TL P F N ops rest KK ⟨s', h'⟩) : TL P F N ops (⟨some d, .call ⟨.value g, args, tys⟩, ty, pos, after, none⟩ :: rest) KK ⟨s, h⟩ := by
  intro a w R hr hQ
  obtain ⟨φ, hr⟩ := hr
  obtain ⟨as, bs, hgv, a1, b1, a2, b2⟩ := (aev_rep hr hg).fn_inv
  refine wpList_plain rfl fun K' hK' => ?_
  unfold Oper.wp
  rw [exec_callV (o := ⟨some d, .call ⟨.value g, args, tys⟩, ty, pos, after, none⟩) rfl hgv hcall]
  obtain ⟨g1, g2⟩ := aevL_rep (fun y z hy => aev_rep hr hy) hz
  have hpw : PW (Stab F w φ h) w φ h (fs ++ zs ++ cs) (as ++ args.map a.eval ++ bs).toList := by
    simp only [Array.toList_append]
    exact PW.append (PW.append ⟨by simpa using a1, fun i x v hx hv => a2 i x v hx (by simpa using hv)⟩ ⟨by simpa using g1, fun i x v hx hv => g2 i x v hx (by simpa using hv)⟩)
      ⟨by simpa using b1, fun i x v hx hv => b2 i x v hx (by simpa using hv)⟩
  rw [hu] at hpw
  refine (hr.call hc hinj hpw hxs hL hdom hsub hL' hdom' hkeys hfresh hr' hks hs1 hh1 hh').mono ?_
  rintro e w' ⟨v, φ', rfl, hr2, hv, _⟩
  exact hK' _ _ (k _ _ R ⟨φ', hr2.put (Nat.le_of_ble_eq_true hN) hs hv⟩ (fun st' a' w'' hk hr'' _ => hQ st' a' w'' hk hr'' (fun h => nomatch h)))
end
end Go.AM

namespace Go.AM
theorem iter_eq {α : Type} [DecidableEq α] {xs ys : List α} {eq : α → α → Option Bool} {step : Int → Option (Ctl Int (Unit ⊕ Bool))}
    (hs : ∀ (n : Nat) x y, xs[n]? = some x → ys[n]? = some y → step (n : Int) = (eq x y).bind fun r => bif !r then some (.out (.inr false)) else some (.next (w64 ((n : Int) + 1))))
    (he : step (xs.length : Int) = some (.out (.inl ()))) (hl : xs.length ≤ 9223372036854775807) (hle : xs.length = ys.length) (hc : ∀ x ∈ xs, ∀ y, eq x y = some (decide (x = y))) :
    iter step 0 = some (if xs = ys then .inl () else .inr false) := by
  have key : ∀ (m n : Nat), n + m = xs.length → iter step (n : Int) = some (if xs.drop n = ys.drop n then .inl () else .inr false) := by
    intro m
    induction m with
    | zero =>
      intro n hn
      obtain rfl : n = xs.length := by omega
      rw [iter_out he]; rw [if_pos (by rw [List.drop_length, hle, List.drop_length])]
    | succ m ih =>
      intro n hn
      have hlt : n < xs.length := by omega
      have hlt2 : n < ys.length := by omega
      have h := hs n xs[n] ys[n] (by simp [hlt]) (by simp [hlt2])
      rw [hc _ (List.getElem_mem hlt), Option.bind_some] at h
      rw [List.drop_eq_getElem_cons hlt, List.drop_eq_getElem_cons hlt2]
      by_cases hxy : xs[n] = ys[n]
      · rw [decide_eq_true hxy, Bool.not_true, cond_false, w64_succ (by omega)] at h
        rw [iter_next h, ih (n + 1) (by omega)]
        congr 1
        by_cases h2 : xs.drop (n + 1) = ys.drop (n + 1)
        · rw [if_pos h2, if_pos (by rw [h2, hxy])]
        · rw [if_neg h2, if_neg (fun h => h2 (List.cons.inj h).2)]
      · rw [decide_eq_false hxy] at h
        rw [iter_out h, if_neg (fun h => hxy (List.cons.inj h).1)]
  have := key xs.length 0 (by omega)
  simpa using this
def MkP {α : Type} (mk : α → Int → Option (Int × α)) (held : α → Int → Option Int) (m : α → Nat) (x : α) : Prop :=
  ∀ k : Nat, k + m x ≤ 4611686018427387904 → ∃ x', mk x k = some (((k + m x : Nat) : Int), x') ∧ held x' k = some ((k + m x : Nat) : Int)
theorem iter_mark {α : Type} {xs : List α} {m : α → Nat} {mk : α → Int → Option (Int × α)} {held : α → Int → Option Int} {step : List α × Int × Int → Option (Ctl (List α × Int × Int) (Int × List α))}
    {hstep : List α → Int × Int → Option (Ctl (Int × Int) (Int ⊕ Int))}
    (hs : ∀ (n : Nat) ys x (k : Nat), k ≤ 4611686018427387904 → ys[n]? = some x → step (ys, (k : Int), (n : Int)) = (mk x k).bind fun r => some (.next (ys.set n r.2, r.1, w64 ((n : Int) + 1))))
    (he : ∀ ys k, step (ys, k, (ys.length : Int)) = some (.out (k, ys)))
    (gs : ∀ (n : Nat) (ys : List α) x (k : Nat), k ≤ 4611686018427387904 → ys[n]? = some x → hstep ys ((k : Int), (n : Int)) = (held x k).bind fun r => bif decide (r < 0) then some (.out (.inr (-1))) else some (.next (r, w64 ((n : Int) + 1))))
    (ge : ∀ ys k, hstep ys (k, (ys.length : Int)) = some (.out (.inl k)))
    (hl : xs.length ≤ 9223372036854775807) (hm : ∀ x ∈ xs, MkP mk held m x) {k : Nat} (hk : k + (xs.map m).sum ≤ 4611686018427387904) :
    ∃ xs', iter step (xs, (k : Int), 0) = some (((k + (xs.map m).sum : Nat) : Int), xs') ∧ xs'.length = xs.length ∧ iter (hstep xs') ((k : Int), 0) = some (.inl ((k + (xs.map m).sum : Nat) : Int)) := by
  have key : ∀ (q n : Nat) (ys : List α) (k : Nat), n + q = xs.length → ys.length = xs.length → ys.drop n = xs.drop n → k + ((xs.drop n).map m).sum ≤ 4611686018427387904 →
      ∃ xs', iter step (ys, (k : Int), (n : Int)) = some (((k + ((xs.drop n).map m).sum : Nat) : Int), xs') ∧ xs'.length = xs.length ∧ xs'.take n = ys.take n ∧
        iter (hstep xs') ((k : Int), (n : Int)) = some (.inl ((k + ((xs.drop n).map m).sum : Nat) : Int)) := by
    intro q
    induction q with
    | zero =>
      intro n ys k hn hy _ hk
      obtain rfl : n = xs.length := by omega
      have h1 := he ys k
      have h2 := ge ys k
      rw [hy] at h1 h2
      refine ⟨ys, ?_, hy, rfl, ?_⟩
      · rw [iter_out h1]; simp
      · rw [iter_out h2]; simp
    | succ q ih =>
      intro n ys k hn hy hd hk
      have hlt : n < xs.length := by omega
      have hyn : ys[n]? = some xs[n] := by
        have := congrArg (fun l => l[0]?) hd
        simpa [List.getElem?_drop, hlt] using this
      rw [List.drop_eq_getElem_cons hlt] at hk ⊢
      simp only [List.map_cons, List.sum_cons] at hk ⊢
      obtain ⟨x', m1, m2⟩ := hm _ (List.getElem_mem hlt) k (by omega)
      have h := hs n ys _ k (by omega) hyn
      rw [m1, Option.bind_some, w64_succ (by omega)] at h
      obtain ⟨xs', e1, e2, e3, e4⟩ := ih (n + 1) (ys.set n x') (k + m xs[n]) (by omega) (by simpa using hy)
        (by
          have := congrArg (fun l => l.drop 1) hd
          simp only [List.drop_drop] at this
          rw [List.drop_set_of_lt (by omega)]; exact this) (by omega)
      have e5 : xs'[n]? = some x' := by
        have := congrArg (fun l => l[n]?) e3
        simp only [List.getElem?_take, Nat.lt_succ_self, if_true] at this
        rw [this, List.getElem?_set_self (by omega)]
      refine ⟨xs', ?_, e2, ?_, ?_⟩
      · rw [iter_next h, e1]; congr 2; omega
      · have := congrArg (fun l => l.take n) e3
        simp only [List.take_take, Nat.min_eq_left (Nat.le_succ n)] at this
        rw [this]
        exact List.take_set_of_le (Nat.le_refl _)
      · have g := gs n xs' x' k (by omega) e5
        rw [m2, Option.bind_some, decide_eq_false (by omega), cond_false, w64_succ (by omega)] at g
        rw [iter_next g, e4]; congr 2; omega
  obtain ⟨xs', e1, e2, _, e4⟩ := key xs.length 0 xs k (by omega) rfl rfl (by simpa using hk)
  exact ⟨xs', by simpa using e1, e2, by simpa using e4⟩
end Go.AM
namespace Go.AM
theorem dec_neg (n : Nat) : decide ((n : Int) < 0) = false := decide_eq_false (by omega)
theorem bool_beq (b : Bool) : (b == b) = true := by cases b <;> rfl
end Go.AM
