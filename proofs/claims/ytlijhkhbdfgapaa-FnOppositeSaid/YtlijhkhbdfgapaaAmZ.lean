/- Rules for owned arrays: stores, literals, other readings of the same, calls on a part. -/
import Derived.Test.YtlijhkhbdfgapaaAmY
namespace Go.AM
open Go

section
variable {F : Fr} {N : Nat} {P : Program}
variable {ops : Array Oper} {rest : List Oper} {K : St → Prop} {ex : Bool}
variable {ty : TypeId} {pos : String} {after : Array Edge} {d id : Nat} {s s' s1 : Slots} {h h' h1 : Heap} {x y : Operand}

theorem lk_all {α : Type} {p : α → Bool} {l : List (Nat × α)} (hp : l.all (fun q => p q.2) = true) {i : Nat} {x : α} (h : lk l i = some x) : p x = true := List.all_eq_true.1 hp _ (lk_mem h)

def noSubH (id : Nat) (h : Heap) : Bool := h.all fun p => match p.2 with
  | .box cs => noSubL id cs
  | _ => true
theorem noSubH_box {h : Heap} (hp : noSubH id h = true) {i : Nat} {cs : List AV} (hl : lk h i = some (.box cs)) {x : AV} (hx : x ∈ cs) : noSub id x = true := by
  have := List.all_eq_true.1 hp _ (lk_mem hl)
  obtain ⟨j, hj⟩ := List.getElem?_of_mem hx
  exact noSubL_mem this j x hj

theorem nodupB {ids : List Nat} (h : (ids.all fun i => (ids.filter (fun j => Nat.beq i j)).length == 1) = true) : ids.Nodup := by
  rw [List.nodup_iff_count]
  intro a
  by_cases ha : a ∈ ids
  · have := List.all_eq_true.1 h a ha
    rw [List.count_eq_length_filter]
    have e : ids.filter (fun j => Nat.beq a j) = ids.filter (fun j => j == a) := by
      congr 1; funext j
      cases hb : Nat.beq a j with
      | true => have := (beq_iff _ _).1 hb; subst this; simp
      | false =>
        have : j ≠ a := fun e => by subst e; rw [Nat.beq_refl] at hb; cases hb
        simp [this]
    rw [e] at this
    have := eq_of_beq this
    omega
  · rw [List.count_eq_zero.2 ha]; omega

/-- No name twice, as a Bool that is reckoned. -/
def nodupL : List Nat → Bool
  | [] => true
  | i :: r => !(r.any fun j => Nat.beq i j) && nodupL r
theorem nodupL_spec : ∀ {l : List Nat}, nodupL l = true → l.Nodup := by
  intro l
  induction l with
  | nil => intro _; simp
  | cons i r ih =>
    intro h
    simp only [nodupL, Bool.and_eq_true, Bool.not_eq_true'] at h
    rw [List.nodup_cons]
    refine ⟨fun hm => ?_, ih h.2⟩
    have : (r.any fun j => Nat.beq i j) = true := List.any_eq_true.2 ⟨i, hm, Nat.beq_refl i⟩
    rw [this] at h
    cases h.1

theorem storeD_loc (w : World) (l : Loc) : ({ l with fp := l.fp ++ ([] : List Nat).flatMap (fun _ => []), sv := l.sv } : Loc) = l := by simp

/-- A store into an owned array. -/
theorem RelP.storeD {t n off k0 sz : Nat} {k : Kd} {E : TypeId} {z e e' : AV} {es zc zy : List AV} {ids : List Nat} {φ : Nat → Loc} {a : Act} {w : World} (hr : RelP F N ⟨s, h⟩ φ a w)
    (hs : tySize P t = some n) (hx : aev s x = some (.ptr id k0 off)) (hl : lk h id = some (.arr k sz E es)) (hk : k.d = true) (he : es[k0]? = some e)
    (hy : aev s y = some z) (hj : isJunk z = false) (hc : cellsO z = some zc) (hn : zc.length = n) (hab : absL h zc = some (zy, ids)) (hnd : ids.Nodup) (hid : id ∉ ids) (hgF : ∀ j ∈ ids, lk F.η j = none)
    (he' : e'.cells = e.cells.take off ++ zy ++ e.cells.drop (off + zy.length)) (hoff : off + zy.length ≤ sz)
    (hks : killSL ids s = some s1) (hkh : killHL ids h = some h1) (hh : sput (dropH ids h1) id (.arr k sz E (es.set k0 e')) = some h')
    (hpin : (k.p = false ∧ s1.all (fun q => noSub id q.2) = true ∧ noSubH id h1 = true) ∨ (ids = [] ∧ zy.all flat1 = true)) :
    ∃ w', (execOp a.eval ⟨none, .store t x y, ty, pos, after, none⟩).run P w = .ok .skip w' ∧ Rel F N ⟨s1, h'⟩ a w' := by
  obtain ⟨hsz, hlens, hones, hob⟩ := hr.heap.obj _ _ hl
  have hek : e.cells.length = sz := hlens e (List.mem_of_getElem? he)
  have hk0 := (List.getElem?_eq_some_iff.1 he).1
  rcases hob with ⟨_, rfl⟩ | ⟨hm, C, hC, hle, hcm, hCs, hrep⟩
  · simp at he
  have hzv := aev_rep hr hy
  have hcells := hzv.cells hc (fun u hu => by subst hu; cases hj)
  have hvs : (a.eval y).cells.size = n := by rw [← hn]; simpa using hcells.1.symm
  obtain ⟨hyl, hyone, nf, hnl, hlin, hnnd, hnown⟩ := absL_rep hr.heap hcells hab hnd
  have hptr : a.eval x = .pointer (some ⟨(φ id).blk, k0 * sz + off, none⟩) := by
    have := aev_rep hr hx
    generalize a.eval x = v at this
    cases this with
    | pure h => cases h
    | box h _ => rw [hl] at h; cases h
    | elt h _ => rw [hl] at h; cases h; rfl
  have h1c : ∀ u ∈ (a.eval y).cells.toList, u.oneCell' = true := by
    intro u hu
    obtain ⟨i, hi⟩ := List.getElem?_of_mem hu
    have hlt := (List.getElem?_eq_some_iff.1 hi).1
    have hil : i < zy.length := by rw [hyl, hcells.1]; exact hlt
    have hp : nf[i]? = some (nf[i]'(by omega)) := by simp [hnl, hil]
    exact (hlin i zy[i] u _ (by simp [hil]) hi hp).tree.one (hyone _ (List.getElem_mem hil))
  have hcapsz : k0 * sz + sz ≤ (φ id).cap * sz := by
    rw [← Nat.succ_mul]; exact Nat.mul_le_mul_right _ (by omega)
  have hnz : zy.length = n := by rw [hyl, hn]
  have hrun := run_storeAt (P := P) (E := E) hs hvs hC (off := k0 * sz + off) (by rw [hCs]; omega) h1c
  refine ⟨_, by rw [exec_store, hptr]; simp only [Sem.run_bind, hrun, Result.andThen_ok, Sem.run_pure]; rfl, ?_⟩
  obtain ⟨hHn, hH⟩ := killHL_spec hkh
  have hkS := killSL_spec hks
  have hrk : RelP F N ⟨s1, h1⟩ φ a w := hr.weaken (fun i x hx => (hkS i x hx).2) hHn (fun i o ho => (hH i o ho).2)
  have hl1 : lk h1 id = some (.arr k sz E es) := by
    cases hq : lk h1 id with
    | none => rw [(hHn id).1 hq] at hl; cases hl
    | some o =>
      obtain ⟨_, o2, ho2, hw⟩ := hH id o hq
      rw [hl] at ho2
      cases ho2
      cases o with
      | box _ => exact hw.elim
      | arr _ _ _ _ => obtain ⟨rfl, rfl, rfl, rfl⟩ := hw; rfl
  have hh1h : ∀ {j o}, lk h1 j = some o → ∃ o', lk h j = some o' := fun {j o} e => by obtain ⟨_, o', ho', _⟩ := hH j o e; exact ⟨o', ho'⟩
  have hhh1 : ∀ {j o}, lk h j = some o → ∃ o', lk h1 j = some o' := fun {j o} e => by
    cases hq : lk h1 j with
    | none => rw [(hHn j).1 hq] at e; cases e
    | some o' => exact ⟨o', rfl⟩
  have hSk : ∀ b, Stab F w φ h b → Stab F w φ h1 b := fun b hb => ⟨hb.1, hb.2.1, fun i o ho hm => by
    obtain ⟨o1, ho1⟩ := hh1h ho
    exact hb.2.2 i o1 ho1 hm⟩
  have hlk := lk_sput hh
  have hdrop := @lk_dropH ids h1
  have h1id : lk h' id = some (.arr k sz E (es.set k0 e')) := by rw [hlk, if_pos rfl]
  -- the new place
  let l' : Loc := { φ id with
    fp := (φ id).fp ++ ids.flatMap (fun i => (φ i).all),
    sv := fun j => if k0 * sz + off ≤ j ∧ ((zy[j - (k0 * sz + off)]?).map isSl).getD false = true then comps (((a.eval y).cells.toList[j - (k0 * sz + off)]?).getD undef) else (φ id).sv j }
  have hfl' : ids = [] → zy.all flat1 = true → l' = φ id := by
    intro h1 h2
    have e1 : l'.sv = (φ id).sv := by
      funext j
      show (if _ then _ else _) = _
      rw [if_neg]
      rintro ⟨_, h4⟩
      cases hz : zy[j - (k0 * sz + off)]? with
      | none => rw [hz] at h4; cases h4
      | some q =>
        rw [hz] at h4
        have := List.all_eq_true.1 h2 q (List.mem_of_getElem? hz)
        cases q <;> first | (simp [flat1] at this; done) | (simp [isSl] at h4)
    have e2 : l'.fp = (φ id).fp := by show _ ++ _ = _; rw [h1]; simp
    show ({ φ id with fp := l'.fp, sv := l'.sv } : Loc) = φ id
    rw [e1, e2]
  have hnew := CellsOK.put (l' := l') (vs := (a.eval y).cells.toList) (nf := nf) hk hrep hsz hlens he he' hoff (by rw [hCs]; exact Nat.mul_le_mul_right _ hle) (by rw [Array.length_toList, hvs, hnz]) hnl hlin hnnd
    (fun b hb => by
      obtain ⟨i, hi, o, ho, hw⟩ := hnown b hb
      have hne : i ≠ id := fun e => hid (e ▸ hi)
      exact ⟨fun e => hne (hr.heap.injO i id o _ b ho hl hw (.inl ⟨hm, e.symm⟩)), fun e => hne (hr.heap.injO i id o _ b ho hl hw (.inr e))⟩)
    rfl (fun b hb => List.mem_append.2 (.inl hb)) (fun b hb => by
      obtain ⟨i, hi, o, ho, hw⟩ := hnown b hb
      exact List.mem_append.2 (.inr (List.mem_flatMap.2 ⟨i, hi, Loc.mem_all.2 hw⟩)))
    (fun j hj => by
      show (if _ then _ else _) = _
      rw [if_neg]
      rintro ⟨h3, h4⟩
      rcases hj with hj | hj
      · omega
      · rw [List.getElem?_eq_none (by omega)] at h4; cases h4)
    (fun i c v hc hv hsl => by
      show (if _ then _ else _) = _
      rw [Nat.add_sub_cancel_left, hc, hv, if_pos ⟨by omega, hsl⟩]
      rfl)
  rw [Array.length_toList, hvs] at hnew
  have he'k : e'.cells.length = sz := by rw [he']; simp; omega
  refine ⟨updLoc φ id l', hrk.updX (fun j => j ∈ ids) h1id (fun j hj hg => by rw [hlk, if_neg (Ne.symm hj), hdrop, if_neg hg]) (fun j hj hg => by rw [hlk, if_neg (Ne.symm hj), hdrop, if_pos hg])
      (fun j hg => ⟨fun e => hid (e ▸ hg), hgF j hg⟩) (updLoc_ne φ id _) (setRow_sys _ _ _) (by simp) (fun b _ hb => setRow_other _ _ _ _ (fun e => hb _ hl1 (.inl ⟨hm, e.symm⟩))) (fun b hb => ?_) (fun o ho hne => ?_)
      (fun o ho => by rw [hl1] at ho; cases ho; exact ⟨rfl, fun _ => ⟨rfl, rfl, by simp⟩⟩) (fun hS hw x v hx hv => ?_) (fun hS hw => ?_)⟩
  · rw [updLoc_same] at hb
    rcases hb with hb | hb
    · exact .inr (.inl ⟨_, hl1, .inl hb⟩)
    · rcases List.mem_append.1 hb with hb | hb
      · exact .inr (.inl ⟨_, hl1, .inr hb⟩)
      · obtain ⟨i, hi, hb⟩ := List.mem_flatMap.1 hb
        have hown := Loc.mem_all.1 hb
        -- an object that is named is there
        have : ∃ o, lk h i = some o := by
          have hq : ∀ {zc zy : List AV} {ids : List Nat}, absL h zc = some (zy, ids) → ∀ i ∈ ids, ∃ o, lk h i = some o := by
            intro zc
            induction zc with
            | nil => intro zy ids e i hi; cases e; simp at hi
            | cons c r ih =>
              intro zy ids e i hi
              unfold absL at e
              cases hx : absC h c with
              | none => simp [hx] at e
              | some p =>
                obtain ⟨y, i1⟩ := p
                simp only [hx] at e
                cases hr : absL h r with
                | none => simp [hr] at e
                | some q =>
                  obtain ⟨ys', is⟩ := q
                  simp only [hr, Option.some.injEq, Prod.mk.injEq] at e
                  obtain ⟨_, rfl⟩ := e
                  rcases List.mem_append.1 hi with hi | hi
                  · unfold absC at hx
                    split at hx
                    · split at hx
                      · rename_i hl; cases hx; simp at hi; subst hi; exact ⟨_, hl⟩
                      · cases hx
                    · cases hb : flat1 c || isSnil c with
                      | false => rw [hb] at hx; cases hx
                      | true => rw [hb] at hx; cases hx; simp at hi
                  · exact ih hr i hi
          exact hq hab i hi
        obtain ⟨o, ho⟩ := this
        obtain ⟨o', ho'⟩ := hhh1 ho
        exact .inr (.inr ⟨i, o', hi, ho', hown⟩)
  · rw [updLoc_same]
    rcases hpin with ⟨hp, _, _⟩ | ⟨h2, h3⟩
    · exfalso
      obtain ⟨o1, ho1, hb1⟩ := hr.keep id _ ho
      have ho1' : lk h id = some o1 := ho1
      rw [hl] at ho1'
      cases ho1'
      have := AO.alike_box hb1
      apply hne
      rw [← this]
      simp [AO.isBox, hp]
    · rw [hfl' h2 h3]; exact hr.fix id _ ho hne
  · have hm : ∀ i ∈ ids, men i x = false := by
      rcases hx with ⟨i, hi⟩ | ⟨i, cs, _, hi, hxc⟩
      · exact (hkS i x hi).1
      · intro m hm; exact (hH i _ hi).1 cs rfl x hxc m hm
    have hbx : ∀ i cs, ¬ i ∈ ids → lk h1 i = some (.box cs) → ∃ cs', lk h' i = some (.box cs') := by
      intro i cs hg ho
      have hne : id ≠ i := fun e => by subst e; rw [hl1] at ho; cases ho
      exact ⟨cs, by rw [hlk, if_neg hne, hdrop, if_neg hg]; exact ho⟩
    have har : ∀ i k2 sz2 E2 es2, ¬ i ∈ ids → lk h1 i = some (.arr k2 sz2 E2 es2) → ∃ k' es', es'.length = es2.length ∧ lk h' i = some (.arr k' sz2 E2 es') := by
      intro i k2 sz2 E2 es2 hg ho
      by_cases hii : id = i
      · subst hii
        rw [hl1] at ho
        cases ho
        exact ⟨_, _, by simp, h1id⟩
      · exact ⟨k2, es2, rfl, by rw [hlk, if_neg hii, hdrop, if_neg hg]; exact ho⟩
    rcases hpin with ⟨_, h2, h3⟩ | ⟨h2, h3⟩
    · refine hv.move (id := id) (gone := fun j => j ∈ ids) hS hw (fun i hi _ => updLoc_ne φ id _ i hi) (fun o ho hg => by rw [updLoc_same]; exact ⟨rfl, rfl, rfl, rfl⟩) hbx har hm ?_
      rcases hx with ⟨i, hi⟩ | ⟨i, cs, _, hi, hxc⟩
      · exact lk_all (p := noSub id) h2 hi
      · exact noSubH_box h3 hi hxc
    · rw [hfl' h2 h3] at hS ⊢
      have hfe : updLoc φ id (φ id) = φ := by funext i; by_cases hi : i = id <;> simp [updLoc, hi]
      rw [hfe] at hS ⊢
      subst h2
      exact hv.mono hS hw ⟨fun i cs ho _ => ⟨hbx i cs (by simp) ho, rfl⟩, fun i k2 sz2 E2 es2 ho => by
        obtain ⟨k', es', q1, q2⟩ := har i k2 sz2 E2 es2 (by simp) ho
        exact ⟨rfl, k', es', q1, q2⟩⟩
  · refine ⟨hsz, ?_, ?_, .inr ⟨by rw [updLoc_same]; exact hm, _, by rw [updLoc_same]; exact setRow_heap _ _ _ _ _ _ hC, by rw [updLoc_same]; simpa using hle, by rw [updLoc_same]; exact hcm, ?_, ?_⟩⟩
    · intro u hu
      rcases List.mem_or_eq_of_mem_set hu with hu | rfl
      · exact hlens u hu
      · exact he'k
    · intro j c hcj
      rcases flat_set hsz hlens he he' hoff hcj with ⟨i, _, hi⟩ | ⟨hi, _⟩
      · exact hyone c (List.mem_of_getElem? hi)
      · exact hones j c hi
    · rw [updLoc_same]
      show _ = (φ id).cap * sz
      simp [hvs]; omega
    · rw [updLoc_same]
      have hnewS : CellsOK k (Stab F w φ h) w l' (flat (es.set k0 e')) (C.toList.take (k0 * sz + off) ++ (a.eval y).cells.toList ++ C.toList.drop (k0 * sz + off + n)).toArray := hnew
      refine hnewS.mono (fun b hb => hS b (hSk b hb)) (fun b hb => hw b (hSk b hb)) (fun b _ hne => setRow_other _ _ _ _ (fun e => hne e)) rfl

/-- A store of flat cells into an owned array, whose place may have to stay. -/
theorem TL_storeF {t n off k0 sz : Nat} {p : Bool} {E : TypeId} {z : AV} {es es' ec zc ec' : List AV} (hs : tySize P t = some n) (hx : aev s x = some (.ptr id k0 off))
    (hl : lk h id = some (.arr ⟨p, true⟩ sz E es)) {e e' : AV} (he : es[k0]? = some e) (hec : cellsO e = some ec) (hy : aev s y = some z) (hj : isJunk z = false) (hc : cellsO z = some zc) (hn : Nat.beq zc.length n = true)
    (hfl : zc.all flat1 = true) (hset : setO ec off zc = some ec') (hec' : cellsO e' = some ec') (hes : es' = es.set k0 e')
    (hh : sput h id (.arr ⟨p, true⟩ sz E es') = some h') (k : TL P F N ops rest K ⟨s, h'⟩) :
    TL P F N ops (⟨none, .store t x y, ty, pos, after, none⟩ :: rest) K ⟨s, h⟩ := by
  refine TL_skip rfl rfl (fun φ a w hr => ?_) k
  subst hes
  obtain rfl := cellsO_eq hec
  obtain hee := cellsO_eq hec'
  obtain ⟨rfl, hlen⟩ := setO_eq hset
  have hek : e.cells.length = sz := (hr.heap.obj _ _ hl).2.1 _ (List.mem_of_getElem? he)
  have hab : absL h zc = some (zc, []) := by
    clear hset hec' hee hc hn hlen
    induction zc with
    | nil => rfl
    | cons c r ih =>
      simp only [List.all_cons, Bool.and_eq_true] at hfl
      have hcc : absC h c = some (c, []) := by cases c <;> first | rfl | (have := hfl.1; simp [flat1] at this)
      unfold absL
      rw [hcc, ih hfl.2]
      rfl
  exact hr.storeD hs hx hl rfl he hy hj hc ((beq_iff _ _).1 hn) hab (by simp) (by simp) (by simp) hee.symm (by omega) (by rfl) (by rfl) (by
    have : dropH [] h = h := by
      have : ∀ h : Heap, dropH [] h = h := by
        intro h
        induction h with
        | nil => rfl
        | cons p r ih => obtain ⟨k, o⟩ := p; simp [dropH, ih]
      exact this h
    rw [this]; exact hh) (.inr ⟨rfl, hfl⟩)

/-- A store into an owned array, which takes over what is named. -/
theorem TL_storeX {t n off k0 sz : Nat} {E : TypeId} {z : AV} {es es' ec zc zy ec' : List AV} {ids : List Nat} (hs : tySize P t = some n) (hx : aev s x = some (.ptr id k0 off))
    (hl : lk h id = some (.arr ⟨false, true⟩ sz E es)) {e e' : AV} (he : es[k0]? = some e) (hec : cellsO e = some ec) (hy : aev s y = some z) (hj : isJunk z = false) (hc : cellsO z = some zc) (hn : Nat.beq zc.length n = true)
    (hab : absL h zc = some (zy, ids)) (hnd : nodupL (id :: ids) = true) (hgF : ∀ j ∈ ids, lk F.η j = none) (hset : setO ec off zy = some ec') (hec' : cellsO e' = some ec') (hes : es' = es.set k0 e')
    (hks : killSL ids s = some s1) (hkh : killHL ids h = some h1) (hns : s1.all (fun q => noSub id q.2) = true) (hnh : noSubH id h1 = true)
    (hh : sput (dropH ids h1) id (.arr ⟨false, true⟩ sz E es') = some h') (k : TL P F N ops rest K ⟨s1, h'⟩) :
    TL P F N ops (⟨none, .store t x y, ty, pos, after, none⟩ :: rest) K ⟨s, h⟩ := by
  refine TL_skip rfl rfl (fun φ a w hr => ?_) k
  subst hes
  obtain rfl := cellsO_eq hec
  obtain hee := cellsO_eq hec'
  obtain ⟨rfl, hlen⟩ := setO_eq hset
  have hnd' := List.nodup_cons.1 (nodupL_spec hnd)
  have hek : e.cells.length = sz := (hr.heap.obj _ _ hl).2.1 _ (List.mem_of_getElem? he)
  exact hr.storeD hs hx hl rfl he hy hj hc ((beq_iff _ _).1 hn) hab hnd'.2 hnd'.1 hgF hee.symm (by omega) hks hkh hh (.inl ⟨rfl, hns, hnh⟩)

end
end Go.AM
