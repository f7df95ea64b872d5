/- What comes in: from the reading of the arguments to trees. -/
import Derived.Test.YtlijhkhbdfgapaaAmR
import Derived.Below
import Derived.WideShapes
namespace Go.AM
open Go Go.RowKit

theorem mapM_get {α β : Type} {f : α → Option β} : ∀ {l : List α} {r : List β}, l.mapM f = some r → r.length = l.length ∧ ∀ (i : Nat) a, l[i]? = some a → ∃ b, r[i]? = some b ∧ f a = some b := by
  intro l
  induction l with
  | nil => intro r h; simp at h; subst h; exact ⟨rfl, fun i a h => by simp at h⟩
  | cons x l ih =>
    intro r h
    rw [List.mapM_cons] at h
    cases hx : f x with
    | none => rw [hx] at h; cases h
    | some y =>
      cases hl : l.mapM f with
      | none => rw [hx, hl] at h; cases h
      | some ys =>
        rw [hx, hl] at h
        simp only [Option.bind_eq_bind, Option.bind_some, Option.pure_def, Option.some.injEq] at h
        subst h
        obtain ⟨h1, h2⟩ := ih hl
        refine ⟨by simp [h1], fun i a ha => ?_⟩
        cases i with
        | zero => simp at ha; subst ha; exact ⟨y, rfl, hx⟩
        | succ i => simp at ha; simpa using h2 i a ha

/-- Cells for cells. -/
structure RepL (S : Nat → Prop) (w : World) (xs : List AV) (cs : List Value) : Prop where
  len : xs.length = cs.length
  rep : ∀ (i : Nat) x v, xs[i]? = some x → cs[i]? = some v → RepT S w x v
  one : ∀ x ∈ xs, one x = true

theorem RepL.nil {S : Nat → Prop} {w : World} : RepL S w [] [] := ⟨rfl, fun i x v h _ => by simp at h, fun x h => by cases h⟩
theorem RepL.one1 {S : Nat → Prop} {w : World} {x : AV} {v : Value} (h : RepT S w x v) (ho : AM.one x = true) : RepL S w [x] [v] :=
  ⟨rfl, fun i y u hy hu => by cases i with
    | zero => simp at hy hu; subst hy; subst hu; exact h
    | succ i => simp at hy, fun y hy => by simp at hy; subst hy; exact ho⟩
theorem RepL.append {S : Nat → Prop} {w : World} {xs ys : List AV} {cs ds : List Value} (h : RepL S w xs cs) (k : RepL S w ys ds) : RepL S w (xs ++ ys) (cs ++ ds) := by
  refine ⟨by simp [h.len, k.len], fun i x v hx hv => ?_, fun x hx => (List.mem_append.1 hx).elim (h.one x) (k.one x)⟩
  by_cases hi : i < xs.length
  · rw [List.getElem?_append_left hi] at hx
    rw [List.getElem?_append_left (by rw [← h.len]; exact hi)] at hv
    exact h.rep i x v hx hv
  · rw [List.getElem?_append_right (by omega)] at hx
    rw [List.getElem?_append_right (by rw [← h.len]; omega), ← h.len] at hv
    exact k.rep _ x v hx hv

/-! ### The types that can come in -/

def contigF (P : Program) : List Field → Nat → Option Nat
  | [], o => some o
  | f :: r, o => if f.offset = o then contigF P r (o + P.cellsOf f.type) else none

def okT (P : Program) (T : List TypeId) (t : TypeId) : Bool :=
  match P.underlying t with
  | some .bool => true
  | some (.int _) => true
  | some .string => true
  | some (.slice e) => Nat.blt 0 (P.cellsOf e) && T.contains e
  | some (.struct fs) => (contigF P fs.toList 0 == some (P.cellsOf t)) && fs.toList.all (fun f => T.contains f.type)
  | _ => false

def okTs (P : Program) (T : List TypeId) : Bool := T.all (okT P T)

def wrapT (P : Program) (t : TypeId) (xs : List AV) : AV :=
  match P.underlying t with
  | some (.struct _) => .agg xs
  | _ => xs.headD .junk

def ShFs (p : TypeId → List AV → Prop) : List Field → List AV → Prop
  | [], xs => xs = []
  | f :: r, xs => ∃ a b, xs = a ++ b ∧ p f.type a ∧ ShFs p r b

/-- The shape of what a type's cells stand for. -/
def Sh (P : Program) : Nat → TypeId → List AV → Prop
  | 0, _, _ => False
  | n + 1, t, xs =>
    match P.underlying t with
    | some .bool => ∃ b, xs = [.bool b]
    | some (.int k) => ∃ n, xs = [.int k n] ∧ (Lit.int k n).wf = true
    | some .string => ∃ s, xs = [.str s] ∧ s.length ≤ 9223372036854775807
    | some (.slice e) => ∃ es, xs = [.sl (P.cellsOf e) es] ∧ es.length ≤ 9223372036854775807 ∧ ∀ el ∈ es, ∃ ys, Sh P n e ys ∧ el = wrapT P e ys
    | some (.struct fs) => ShFs (Sh P n) fs.toList xs
    | _ => False

section
variable {H : Type} {enc : TypeId × Value → H} {P : Program} {W : World} {spare : Nat → Bool} {held : Bool}

theorem cells_row {b n : Nat} {a : Addr} {cs : List Value} (h : W.cells? b a n = some cs) : cs.length = n ∧ ∀ (i : Nat) v, cs[i]? = some v → W.cell? (a.add i) = some v := by
  unfold World.cells? at h
  split at h
  · obtain ⟨h1, h2⟩ := mapM_get h
    refine ⟨by simpa using h1, fun i v hv => ?_⟩
    have hi : i < n := by
      have := (List.getElem?_eq_some_iff.1 hv).1
      rw [h1] at this; simpa using this
    obtain ⟨u, hu, hc⟩ := h2 i i (by simp [hi])
    rw [hu] at hv; cases hv; exact hc
  · cases h

theorem wrap_cells {n : Nat} {t : TypeId} {xs : List AV} (ho : ∀ x ∈ xs, AM.one x = true) (hs : Sh P n t xs) : (wrapT P t xs).cells = xs := by
  cases n with
  | zero => exact hs.elim
  | succ n =>
    unfold Sh at hs
    unfold wrapT
    cases hu : P.underlying t with
    | none => rw [hu] at hs; exact hs.elim
    | some d =>
      rw [hu] at hs
      cases d <;> first
        | rfl
        | exact hs.elim
        | (obtain ⟨b, rfl⟩ := hs; rfl)
        | (obtain ⟨b, rfl, _⟩ := hs; rfl)

/-- The fields of a struct. -/
theorem fields_rep {T : List TypeId} {p : TypeId → List Value → Option (DataW H × List MemPlace)} {q : TypeId → List AV → Prop}
    (ih : ∀ t cs y, t ∈ T → p t cs = some y → ∃ xs, RepL (fun b => b < W.heap.size) W xs cs ∧ q t xs) (cs : List Value) :
    ∀ (fs : List Field) (o e : Nat) (ys : List (DataW H × List MemPlace)), contigF P fs o = some e → e ≤ cs.length → fs.all (fun f => T.contains f.type) = true →
      fs.mapM (fun f => p f.type ((cs.drop f.offset).take (P.cellsOf f.type))) = some ys →
      o ≤ e ∧ ∃ xs, RepL (fun b => b < W.heap.size) W xs ((cs.drop o).take (e - o)) ∧ ShFs q fs xs := by
  intro fs
  induction fs with
  | nil =>
    intro o e ys hc he _ _
    simp only [contigF, Option.some.injEq] at hc
    subst hc
    exact ⟨Nat.le_refl _, [], by simpa using RepL.nil, rfl⟩
  | cons f r ihf =>
    intro o e ys hc he ha hm
    unfold contigF at hc
    split at hc
    · rename_i ho
      simp only [List.all_cons, Bool.and_eq_true] at ha
      rw [List.mapM_cons] at hm
      cases hx : p f.type ((cs.drop f.offset).take (P.cellsOf f.type)) with
      | none => rw [hx] at hm; cases hm
      | some y =>
        cases hl : r.mapM (fun f => p f.type ((cs.drop f.offset).take (P.cellsOf f.type))) with
        | none => rw [hx, hl] at hm; cases hm
        | some ys' =>
          obtain ⟨h1, xs2, h2, h3⟩ := ihf _ _ _ hc he ha.2 hl
          obtain ⟨xs1, h4, h5⟩ := ih f.type _ y (by simpa using ha.1) hx
          refine ⟨by omega, xs1 ++ xs2, ?_, xs1, xs2, rfl, h5, h3⟩
          have e1 : (cs.drop o).take (e - o) = ((cs.drop f.offset).take (P.cellsOf f.type)) ++ (cs.drop (o + P.cellsOf f.type)).take (e - (o + P.cellsOf f.type)) := by
            rw [ho]
            have : e - o = P.cellsOf f.type + (e - (o + P.cellsOf f.type)) := by omega
            rw [this, List.take_add, List.drop_drop]
          rw [e1]
          exact h4.append h2
    · cases hc

theorem trod_rep {T : List TypeId} (hT : okTs P T = true) : ∀ (fuel : Nat) (t : TypeId) (cs : List Value) (y : DataW H × List MemPlace), t ∈ T →
    DataW.trod enc P W 0 spare held fuel t cs = some y → ∃ xs, RepL (fun b => b < W.heap.size) W xs cs ∧ Sh P fuel t xs := by
  intro fuel
  induction fuel with
  | zero => intro t cs y _ h; cases h
  | succ fuel ih =>
    intro t cs y ht h
    have hok := List.all_eq_true.1 hT t ht
    unfold DataW.trod at h
    unfold okT at hok
    unfold Sh
    split at hok <;> rename_i hu
    · rw [hu] at h
      rcases cs with _ | ⟨c, r⟩
      · cases h
      cases c <;> rcases r with _ | ⟨c2, r⟩ <;> try (cases h; done)
      rename_i b
      exact ⟨[.bool b], .one1 (.bool b) rfl, ⟨b, rfl⟩⟩
    · rename_i k
      rw [hu] at h
      rcases cs with _ | ⟨c, r⟩
      · cases h
      cases c <;> rcases r with _ | ⟨c2, r⟩ <;> try (cases h; done)
      rename_i k' n
      change (if k' = k ∧ (Lit.int k n).wf = true then _ else _) = _ at h
      split at h
      · rename_i hk
        obtain ⟨rfl, hw⟩ := hk
        exact ⟨[.int k' n], .one1 (.int k' n) rfl, ⟨n, rfl, hw⟩⟩
      · cases h
    · rw [hu] at h
      rcases cs with _ | ⟨c, r⟩
      · cases h
      cases c <;> rcases r with _ | ⟨c2, r⟩ <;> try (cases h; done)
      rename_i b
      change (if b.size ≤ maxLen then _ else _) = _ at h
      split at h
      · rename_i hb
        refine ⟨[.str b.data.toList], .one1 ?_ rfl, by
          refine ⟨b.data.toList, rfl, ?_⟩
          have e : b.data.toList.length = b.size := Array.length_toList
          simp only [maxLen] at hb
          omega⟩
        have : (Value.string b) = .string ⟨b.data.toList.toArray⟩ := by simp
        rw [this]; exact .str _
      · cases h
    · rename_i e
      rw [hu] at h
      simp only [Bool.and_eq_true] at hok
      have hsz : 0 < P.cellsOf e := Nat.le_of_ble_eq_true hok.1
      have he : e ∈ T := by simpa using hok.2
      rcases cs with _ | ⟨c, r⟩
      · cases h
      cases c <;> rcases r with _ | ⟨c2, r⟩ <;> try (cases h; done)
      · rename_i ao len cap
        cases ao with
        | none =>
          rcases len with _ | len <;> rcases cap with _ | cap <;> try (cases h; done)
          exact ⟨[.sl (P.cellsOf e) []], .one1 (.sl0 _ _ _ (fun _ => rfl)) rfl, ⟨[], rfl, by decide, fun el h => by cases h⟩⟩
        | some a =>
          change (if 0 ≤ a.block ∧ len ≤ cap ∧ cap ≤ maxLen then _ else _) = _ at h
          split at h
          · rename_i hb
            cases hm : (List.range len).mapM (fun i => (W.cells? 0 (a.add (i * P.cellsOf e)) (P.cellsOf e)).bind (DataW.trod enc P W 0 spare held fuel e)) with
            | none => simp only [hm] at h; cases h
            | some elems =>
              obtain ⟨m1, m2⟩ := mapM_get hm
              rw [List.length_range] at m1
              have key : ∀ i, i < len → ∃ xs cs', RepL (fun b => b < W.heap.size) W xs cs' ∧ Sh P fuel e xs ∧ cs'.length = P.cellsOf e ∧
                  ∀ (j : Nat) v, cs'[j]? = some v → W.cell? ((a.add (i * P.cellsOf e)).add j) = some v := by
                intro i hi
                obtain ⟨y', _, hy'⟩ := m2 i i (by simp [hi])
                cases hcs : W.cells? 0 (a.add (i * P.cellsOf e)) (P.cellsOf e) with
                | none => rw [hcs] at hy'; cases hy'
                | some cs' =>
                  rw [hcs] at hy'
                  obtain ⟨c1, c2⟩ := cells_row hcs
                  obtain ⟨xs, x1, x2⟩ := ih e cs' y' he hy'
                  exact ⟨xs, cs', x1, x2, c1, c2⟩
              by_cases h0 : len = 0
              · subst h0
                exact ⟨[.sl (P.cellsOf e) []], .one1 (.sl0 _ _ _ (fun h => by cases h)) rfl, ⟨[], rfl, by decide, fun el h => by cases h⟩⟩
              · obtain ⟨blk, off, spot⟩ := a
                have hspot : spot = none := by
                  obtain ⟨xs, cs', _, _, k3, k4⟩ := key 0 (by omega)
                  have : 0 < cs'.length := by omega
                  have := k4 0 cs'[0] (by simp)
                  simpa [Addr.add] using World.cell?_spot this
                subst hspot
                have hblk : blk < W.heap.size := by
                  obtain ⟨xs, cs', _, _, k3, k4⟩ := key 0 (by omega)
                  have : 0 < cs'.length := by omega
                  have := k4 0 cs'[0] (by simp)
                  apply Nat.lt_of_not_le
                  intro hge
                  have h2 : W.heap[blk]? = none := Array.getElem?_eq_none hge
                  simp [World.cell?, Addr.add, h2] at this
                -- the elements
                have hex : ∃ es : List AV, es.length = len ∧ ∀ (i : Nat) el, es[i]? = some el → ∃ xs cs', RepL (fun b => b < W.heap.size) W xs cs' ∧ Sh P fuel e xs ∧ cs'.length = P.cellsOf e ∧
                    (∀ (j : Nat) v, cs'[j]? = some v → W.cell? ⟨blk, off + i * P.cellsOf e + j, none⟩ = some v) ∧ el = wrapT P e xs := by
                  have : ∀ n, n ≤ len → ∃ es : List AV, es.length = n ∧ ∀ (i : Nat) el, es[i]? = some el → ∃ xs cs', RepL (fun b => b < W.heap.size) W xs cs' ∧ Sh P fuel e xs ∧ cs'.length = P.cellsOf e ∧
                    (∀ (j : Nat) v, cs'[j]? = some v → W.cell? ⟨blk, off + i * P.cellsOf e + j, none⟩ = some v) ∧ el = wrapT P e xs := by
                    intro n
                    induction n with
                    | zero => intro _; exact ⟨[], rfl, fun i el h => by simp at h⟩
                    | succ n ihn =>
                      intro hn
                      obtain ⟨es, e1, e2⟩ := ihn (by omega)
                      obtain ⟨xs, cs', k1, k2, k3, k4⟩ := key n (by omega)
                      refine ⟨es ++ [wrapT P e xs], by simp [e1], fun i el hel => ?_⟩
                      by_cases hi : i < es.length
                      · rw [List.getElem?_append_left hi] at hel
                        exact e2 i el hel
                      · rw [List.getElem?_append_right (by omega)] at hel
                        have hin : i = n := by
                          have := (List.getElem?_eq_some_iff.1 hel).1
                          simp at this; omega
                        subst hin
                        simp [e1] at hel
                        exact ⟨xs, cs', k1, k2, k3, fun j v hv => by have := k4 j v hv; rwa [Addr.add_lit, Addr.add_lit] at this, hel.symm⟩
                  exact this len (Nat.le_refl _)
                obtain ⟨es, e1, e2⟩ := hex
                have hcl : ∀ el ∈ es, el.cells.length = P.cellsOf e ∧ (∀ x ∈ el.cells, AM.one x = true) := by
                  intro el hel
                  obtain ⟨i, hi⟩ := List.getElem?_of_mem hel
                  obtain ⟨xs, cs', k1, k2, k3, _, rfl⟩ := e2 i el hi
                  rw [wrap_cells k1.one k2]
                  exact ⟨by rw [k1.len, k3], k1.one⟩
                have hat : ∀ (j : Nat) x, (flat es)[j]? = some x → ∃ v, W.cell? ⟨blk, off + j, none⟩ = some v ∧ RepT (fun b => b < W.heap.size) W x v := by
                  intro j x hx
                  have hj := (List.getElem?_eq_some_iff.1 hx).1
                  rw [flat_length (fun el h => (hcl el h).1), e1] at hj
                  have hq : j / P.cellsOf e < len := by rw [Nat.div_lt_iff_lt_mul hsz]; exact hj
                  have hm' : j % P.cellsOf e < P.cellsOf e := Nat.mod_lt _ hsz
                  have hdm : j / P.cellsOf e * P.cellsOf e + j % P.cellsOf e = j := by rw [Nat.mul_comm]; exact Nat.div_add_mod j _
                  obtain ⟨el, hel⟩ : ∃ el, es[j / P.cellsOf e]? = some el := ⟨es[j / P.cellsOf e]'(by omega), by simp⟩
                  obtain ⟨xs, cs', k1, k2, k3, k4, rfl⟩ := e2 _ el hel
                  rw [← hdm, flat_get (fun el h => (hcl el h).1) hel hm', wrap_cells k1.one k2] at hx
                  have hlt : j % P.cellsOf e < cs'.length := by omega
                  refine ⟨cs'[j % P.cellsOf e], ?_, k1.rep _ x _ hx (by simp)⟩
                  have := k4 (j % P.cellsOf e) _ (by simp : cs'[j % P.cellsOf e]? = some cs'[j % P.cellsOf e])
                  rw [Nat.add_assoc, hdm] at this
                  exact this
                refine ⟨[.sl (P.cellsOf e) es], .one1 ?_ rfl, by
                  refine ⟨es, rfl, by have := hb.2.2; have := hb.2.1; simp only [maxLen] at *; omega, fun el hel => ?_⟩
                  obtain ⟨i, hi⟩ := List.getElem?_of_mem hel
                  obtain ⟨xs, cs', _, k2, _, _, k5⟩ := e2 i el hi
                  exact ⟨xs, k2, k5⟩⟩
                rw [← e1]
                refine .sl _ es blk off cap (fun j => (W.cell? ⟨blk, off + j, none⟩).getD undef) (by rintro rfl; simp at e1; omega) hblk (by omega) hb.2.2 hsz (fun el h => (hcl el h).1)
                  (fun j x hx => ?_) (fun j x hx => ?_) (fun j x hx => ?_)
                · have hm := List.mem_of_getElem? hx
                  unfold flat at hm
                  obtain ⟨el, h1, h2⟩ := List.mem_flatMap.1 hm
                  exact (hcl el h1).2 x h2
                · obtain ⟨v, hv, _⟩ := hat j x hx
                  rw [hv]; rfl
                · obtain ⟨v, hv, hr⟩ := hat j x hx
                  simp only [hv, Option.getD_some]; exact hr
          · cases h
      · rename_i ao len cap
        cases ao
        · rcases len with _ | len <;> rcases cap with _ | cap <;> cases h
        · cases h
    · rename_i fs
      rw [hu] at h
      simp only [Bool.and_eq_true, beq_iff_eq] at hok
      have h' : (if cs.length = P.cellsOf t then (fs.toList.mapM fun f => DataW.trod enc P W 0 spare held fuel f.type ((cs.drop f.offset).take (P.cellsOf f.type))).map fun xs => ((.agg (xs.map (·.1)) : DataW H), xs.flatMap (·.2)) else none) = some y := by
        rcases cs with _ | ⟨c, r⟩
        · exact h
        · cases c <;> rcases r with _ | ⟨c2, r⟩ <;> exact h
      split at h'
      · rename_i hlen
        cases hm : fs.toList.mapM (fun f => DataW.trod enc P W 0 spare held fuel f.type ((cs.drop f.offset).take (P.cellsOf f.type))) with
        | none => rw [hm] at h'; cases h'
        | some ys =>
          obtain ⟨_, xs, h1, h2⟩ := fields_rep (P := P) (W := W) (T := T) (q := Sh P fuel) (fun t cs y ht h => ih t cs y ht h) cs fs.toList 0 _ ys hok.1 (by omega) hok.2 hm
          refine ⟨xs, ?_, h2⟩
          simpa [← hlen] using h1
      · cases h'
    · cases hok

/-! ### Arguments -/

/-- A value of a type, its shape. -/
def ShV (P : Program) (t : TypeId) (x : AV) : Prop := ∃ n xs, Sh P n t xs ∧ x = wrapT P t xs

theorem trod_val {T : List TypeId} (hT : okTs P T = true) {t : TypeId} (ht : T.contains t = true) {r : Reach} {base : Nat} {v : Value} {d : DataW H} {ps : List MemPlace}
    (hv : Value.okWide P W r base t v) (h : DataW.Trod enc P W 0 spare held t v d ps) : ∃ x, RepT (fun b => b < W.heap.size) W x v ∧ ShV P t x := by
  obtain ⟨fuel, hf⟩ := h
  obtain ⟨xs, h1, h2⟩ := trod_rep hT fuel t _ _ (by simpa using ht) hf
  refine ⟨wrapT P t xs, ?_, fuel, xs, h2, rfl⟩
  have hok := List.all_eq_true.1 hT t (by simpa using ht)
  have sing : v.cells.toList = [v] → (∀ fs, P.underlying t ≠ some (.struct fs)) → RepT (fun b => b < W.heap.size) W (wrapT P t xs) v := by
    intro hc hns
    have hl := h1.len
    rw [hc] at hl
    obtain ⟨y, rfl⟩ : ∃ y, xs = [y] := by
      match xs, hl with
      | [y], _ => exact ⟨y, rfl⟩
    have : wrapT P t [y] = y := by
      unfold wrapT
      split
      · rename_i hu; exact absurd hu (hns _)
      · rfl
    rw [this]
    exact h1.rep 0 y v rfl (by rw [hc]; rfl)
  unfold okT at hok
  split at hok <;> rename_i hu
  · obtain ⟨b, rfl⟩ := WideShapes.okWide_bool hu hv
    exact sing rfl (fun fs h => by rw [hu] at h; cases h)
  · obtain ⟨b, rfl⟩ := WideShapes.okWide_int hu hv
    exact sing rfl (fun fs h => by rw [hu] at h; cases h)
  · obtain ⟨b, rfl⟩ := WideShapes.okWide_string hu hv
    exact sing rfl (fun fs h => by rw [hu] at h; cases h)
  · obtain ⟨a, l, c, rfl⟩ := WideShapes.okWide_slice hu hv
    exact sing rfl (fun fs h => by rw [hu] at h; cases h)
  · obtain ⟨cs, rfl, _⟩ := WideShapes.okWide_struct hu hv
    unfold wrapT
    rw [hu]
    exact .agg xs cs (by simpa [Value.cells] using h1.len) (fun i x v hx hv => h1.rep i x v hx (by simpa [Value.cells] using hv))
  · cases hok

/-- What a walked law gives. -/
theorem law_calls {f : FuncId} {xs : List AV} {vs : Array Value} (hc : ACall P f xs [] (.bool true) []) (hl : xs.length = vs.size)
    (hr : ∀ (i : Nat) x v, xs[i]? = some x → vs[i]? = some v → RepT (fun b => b < W.heap.size) W x v) :
    Calls P f vs W fun e w' => e = .returned (.bool true) ∧ Below W.heap.size W w' := by
  refine (hc W (fun b => b < W.heap.size) (fun _ => mkLoc 0 0 false) vs (HeapOK.nil _ (fun b hb => hb)) ⟨by simpa using hl, fun i x v hx hv => .pure (hr i x v hx (by simpa using hv))⟩).mono ?_
  rintro e w' ⟨v, φ', rfl, hret⟩
  have := hret.val.bool_inv
  subst this
  exact ⟨rfl, hret.sys.os, hret.sys.tape, hret.sys.output, hret.grow, fun b hb => hret.frame b hb (fun ⟨id, o, ho, _⟩ => by cases ho)⟩

/-! ### Shapes as data -/

theorem exists_map {α : Type} {f : α → AV} {I : α → Prop} : ∀ {es : List AV}, (∀ e ∈ es, ∃ a, e = f a ∧ I a) → ∃ as : List α, es = as.map f ∧ ∀ a ∈ as, I a := by
  intro es
  induction es with
  | nil => intro _; exact ⟨[], rfl, fun a h => by cases h⟩
  | cons e es ih =>
    intro h
    obtain ⟨a, rfl, ha⟩ := h e (by simp)
    obtain ⟨as, rfl, has⟩ := ih (fun e he => h e (by simp [he]))
    exact ⟨a :: as, rfl, fun b hb => by rcases List.mem_cons.1 hb with rfl | hb; exact ha; exact has b hb⟩

def I64 (n : Int) : Prop := -9223372036854775808 ≤ n ∧ n ≤ 9223372036854775807

theorem ShV.int {t : TypeId} {k : IntKind} {x : AV} (h : ShV P t x) (hu : P.underlying t = some (.int k)) : ∃ n, x = .int k n ∧ (Lit.int k n).wf = true := by
  obtain ⟨n, xs, h, rfl⟩ := h
  cases n with
  | zero => exact h.elim
  | succ n =>
    unfold Sh at h; rw [hu] at h
    obtain ⟨m, rfl, hm⟩ := h
    exact ⟨m, by unfold wrapT; rw [hu]; rfl, hm⟩
theorem ShV.i64 {t : TypeId} {x : AV} (h : ShV P t x) (hu : P.underlying t = some (.int .i64)) : ∃ n, x = ai n ∧ I64 n := by
  obtain ⟨n, rfl, hn⟩ := h.int hu
  refine ⟨n, rfl, ?_⟩
  simp only [Lit.wf, Bool.and_eq_true, decide_eq_true_eq] at hn
  exact hn
theorem ShV.bool {t : TypeId} {x : AV} (h : ShV P t x) (hu : P.underlying t = some .bool) : ∃ b, x = .bool b := by
  obtain ⟨n, xs, h, rfl⟩ := h
  cases n with
  | zero => exact h.elim
  | succ n =>
    unfold Sh at h; rw [hu] at h
    obtain ⟨m, rfl⟩ := h
    exact ⟨m, by unfold wrapT; rw [hu]; rfl⟩
theorem ShV.str {t : TypeId} {x : AV} (h : ShV P t x) (hu : P.underlying t = some .string) : ∃ s, x = .str s ∧ s.length ≤ 9223372036854775807 := by
  obtain ⟨n, xs, h, rfl⟩ := h
  cases n with
  | zero => exact h.elim
  | succ n =>
    unfold Sh at h; rw [hu] at h
    obtain ⟨m, rfl, hm⟩ := h
    exact ⟨m, by unfold wrapT; rw [hu]; rfl, hm⟩
theorem ShV.slice {t e : TypeId} {x : AV} (h : ShV P t x) (hu : P.underlying t = some (.slice e)) : ∃ es, x = .sl (P.cellsOf e) es ∧ es.length ≤ 9223372036854775807 ∧ ∀ el ∈ es, ShV P e el := by
  obtain ⟨n, xs, h, rfl⟩ := h
  cases n with
  | zero => exact h.elim
  | succ n =>
    unfold Sh at h; rw [hu] at h
    obtain ⟨es, rfl, hn, hm⟩ := h
    exact ⟨es, by unfold wrapT; rw [hu]; rfl, hn, fun el hel => by obtain ⟨ys, h1, h2⟩ := hm el hel; exact ⟨n, ys, h1, h2⟩⟩
theorem ShV.sliceOf {α : Type} {f : α → AV} {I : α → Prop} {t e : TypeId} {x : AV} {sz : Nat} (h : ShV P t x) (hu : P.underlying t = some (.slice e)) (hs : P.cellsOf e = sz)
    (he : ∀ x, ShV P e x → ∃ a, x = f a ∧ I a) : ∃ as : List α, x = .sl sz (as.map f) ∧ as.length ≤ 9223372036854775807 ∧ ∀ a ∈ as, I a := by
  obtain ⟨es, rfl, hn, h2⟩ := h.slice hu
  obtain ⟨as, rfl, h3⟩ := exists_map (fun el hel => he el (h2 el hel))
  exact ⟨as, by rw [hs], by simpa using hn, h3⟩

/-- The fields' shapes. -/
def ShL (P : Program) : List Field → List AV → Prop
  | [], xs => xs = []
  | f :: r, xs => ∃ y b, xs = y.cells ++ b ∧ ShV P f.type y ∧ ShL P r b

theorem ShV.struct {t : TypeId} {fs : Array Field} {x : AV} (h : ShV P t x) (hu : P.underlying t = some (.struct fs)) : ∃ xs, x = .agg xs ∧ ShL P fs.toList xs := by
  obtain ⟨n, xs, h, rfl⟩ := h
  cases n with
  | zero => exact h.elim
  | succ n =>
    unfold Sh at h; rw [hu] at h
    refine ⟨xs, by unfold wrapT; rw [hu], ?_⟩
    change ShFs (Sh P n) fs.toList xs at h
    generalize fs.toList = l at h
    induction l generalizing xs with
    | nil => exact h
    | cons f r ih =>
      obtain ⟨a, b, rfl, h1, h2⟩ := h
      refine ⟨wrapT P f.type a, b, ?_, ⟨n, a, h1, rfl⟩, ih b h2⟩
      congr 1
      cases n with
      | zero => exact h1.elim
      | succ n =>
        unfold Sh at h1
        unfold wrapT
        cases hu : P.underlying f.type with
        | none => rw [hu] at h1; exact h1.elim
        | some d =>
          rw [hu] at h1
          cases d <;> first
            | rfl
            | exact h1.elim
            | (obtain ⟨b, rfl⟩ := h1; rfl)
            | (obtain ⟨b, rfl, _⟩ := h1; rfl)

end
end Go.AM
