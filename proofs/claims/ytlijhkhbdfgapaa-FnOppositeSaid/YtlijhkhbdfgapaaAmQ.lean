/- Regions whose order is drawn: one walk for every order. -/
import Derived.Test.YtlijhkhbdfgapaaAmP
namespace Go.AM
open Go

section
variable {P : Program} {ops : Array Oper} {QN : Act → World → Prop} {Z : List Nat}

@[reducible] def only (QN : Act → World → Prop) : Exit → Act → World → Prop
  | .normal, a, w => QN a w
  | _, _, _ => False

/-- Every order, from here on; the operations that are not among 'Z' leave the elder blocks as they were. -/
def wpZ (P : Program) (ops : Array Oper) (Z : List Nat) (QN : Act → World → Prop) : Nat → Array Bool → Act → World → Prop
  | 0, listed, a, w => Region.ready .any ops listed = [] ∧ QN a w
  | fuel + 1, listed, a, w =>
    (Region.ready .any ops listed = [] → QN a w) ∧
    ∀ i ∈ Region.ready .any ops listed, wpOp P ops (only QN) i (fun a' w' => (Z.contains i = false → Ext w w') ∧ wpZ P ops Z QN fuel (listed.setIfInBounds i true) a' w') a w

theorem wpOp_monoQ {i : Nat} {a : Act} {w : World} {K K' : Act → World → Prop} {Q : Exit → Act → World → Prop} (h : ∀ a w, K a w → K' a w)
    (hh : wpOp P ops (only QN) i K a w) : wpOp P ops Q i K' a w := by
  have hlet : LetsOut (only QN) → False := fun ⟨a, w, h⟩ => h
  unfold wpOp at *
  split
  · exact h _ _ (by simpa [*] using hh)
  · rename_i o ho
    simp only [ho] at hh
    split
    · rename_i hw
      simp only [hw, if_true] at hh
      rcases hh with hh | hh
      · refine .inl ?_
        unfold Oper.wp at *
        generalize (execOp a.eval o).run P w = r at *
        cases r with
        | ok n w' =>
          cases n <;> simp only [Oper.upon] at hh ⊢ <;>
            first
              | exact h _ _ hh
              | exact Calls.mono hh (fun e w'' he => by cases e <;> first | exact h _ _ he | exact (hlet he).elim | exact he.elim)
              | exact Rows.mono hh (fun _ _ he => h _ _ he)
        | halt x w' =>
          cases x <;> simp only [Oper.upon] at hh ⊢
          case panic => exact (show False from hh).elim
      · exact (hlet hh.2).elim
    · rename_i hw; simp only [hw] at hh; exact h _ _ hh

theorem wpAny_of_wpZ {Q : Exit → Act → World → Prop} (hQ : ∀ a w, QN a w → Q .normal a w) : ∀ (fuel : Nat) (listed : Array Bool) (a : Act) (w : World),
    wpZ P ops Z QN fuel listed a w → wpAny P .any ops Q fuel listed a w
  | 0, _, _, _, h => ⟨h.1, hQ _ _ h.2⟩
  | fuel + 1, _, _, _, h => ⟨fun h0 => hQ _ _ (h.1 h0), fun i hi => wpOp_monoQ (fun a' w' hk => wpAny_of_wpZ hQ fuel _ a' w' hk.2) (h.2 i hi)⟩

/-- In state 'a' and the world 'w', and later, the operation yields 'v'. -/
def SY (P : Program) (ops : Array Oper) (o : Oper) (v : Value) (a : Act) (w : World) : Prop :=
  (Region.wanted o (yielded ops a.tmps) = true ∧ ∀ w', (looks o.op = false ∨ Ext w w') → (execOp a.eval o).run P w' = .ok (.value v) w') ∨
  (Region.wanted o (yielded ops a.tmps) = false ∧ v = undef)

theorem SY.wpOp {i : Nat} {o : Oper} {v : Value} {a : Act} {w : World} (hi : ops[i]? = some o) (hy : SY P ops o v a w)
    {Q : Exit → Act → World → Prop} {K : Act → World → Prop} (h : K (a.put o.dst v) w) : Go.wpOp P ops Q i K a w := by
  unfold Go.wpOp
  simp only [hi]
  rcases hy with ⟨hw, hv⟩ | ⟨hw, rfl⟩
  · simp only [hw, if_true, Oper.wp, hv w (.inr (Ext.refl w)), Oper.upon]; exact .inl h
  · simp only [hw, Bool.false_eq_true, if_false]; exact h

theorem SY.same {o : Oper} {v : Value} {a a' : Act} {w w' : World} (hy : SY P ops o v a w) (he : execOp a'.eval o = execOp a.eval o)
    (hw : Region.wanted o (yielded ops a'.tmps) = Region.wanted o (yielded ops a.tmps)) (hx : looks o.op = false ∨ Ext w w') : SY P ops o v a' w' := by
  unfold SY at *
  rw [he, hw]
  rcases hy with ⟨h1, h2⟩ | h
  · exact .inl ⟨h1, fun w'' h'' => h2 w'' (by
      rcases hx with hx | hx
      · exact .inl hx
      · rcases h'' with h'' | h''
        · exact .inl h''
        · exact .inr (hx.trans h''))⟩
  · exact .inr h

theorem wpOp_putZ {j : Nat} {oi oj : Oper} {v : Value} (hj : ops[j]? = some oj) (hap : oi.apart ops oj = true)
    (hsi : ∀ cs b, oi.op ≠ .select cs b) (hsj : ∀ cs b, oj.op ≠ .select cs b) {K : Act → World → Prop} {a : Act} {w : World}
    (hy : SY P ops oi v a w) (hz : looks oi.op = false ∨ Z.contains j = false)
    (h : wpOp P ops (only QN) j (fun a' w' => (Z.contains j = false → Ext w w') ∧ K a' w') (a.put oi.dst v) w) :
    wpOp P ops (only QN) j (fun a' w' => (Z.contains j = false → Ext w w') ∧ SY P ops oi v a' w' ∧ K (a'.put oi.dst v) w') a w := by
  obtain ⟨h1, h2, h3⟩ := Oper.apart_spec hap
  have keep : ∀ {w'}, (Z.contains j = false → Ext w w') → ∀ u, SY P ops oi v (a.put oj.dst u) w' := fun hx u =>
    hy.same (execOp_put oi hsi a oj.dst u h3) (wanted_put oi a oj.dst u h3) (hz.imp id hx)
  have keepD : ∀ {w'}, (Z.contains j = false → Ext w w') → ∀ d u, SY P ops oi v (({ a with defers := d :: a.defers } : Act).put oj.dst u) w' := fun hx d u => by
    have h0 : SY P ops oi v ({ a with defers := d :: a.defers } : Act) _ := hy.same (a' := { a with defers := d :: a.defers }) rfl rfl (hz.imp id hx)
    exact h0.same (execOp_put oi hsi _ oj.dst u h3) (wanted_put oi _ oj.dst u h3) (.inr (Ext.refl _))
  have hlet : LetsOut (only QN) → False := fun ⟨a, w, h⟩ => h
  unfold Go.wpOp at *
  simp only [hj] at *
  rw [wanted_put oj a oi.dst v h1] at h
  split
  · rename_i hw
    simp only [hw, if_true] at h
    rcases h with h | ⟨hasks, hlets⟩
    case inr => exact (hlet hlets).elim
    refine .inl ?_
    unfold Oper.wp at *
    rw [execOp_put oj hsj a oi.dst v h1] at h
    generalize (execOp a.eval oj).run P w = r at *
    cases r with
    | ok n w' =>
      cases n <;> simp only [Oper.upon] at h ⊢
      case value u => exact ⟨h.1, keep h.1 u, by rw [← Act.put_comm a v u h2]; exact h.2⟩
      case skip => exact ⟨h.1, keep h.1 _, by rw [← Act.put_comm a v undef h2]; exact h.2⟩
      case defer d =>
        refine ⟨h.1, keepD h.1 d _, ?_⟩
        rw [← Act.put_comm _ v undef h2, ← Act.put_defers]
        exact h.2
      case enter f args =>
        refine Calls.mono h fun e w'' he => ?_
        cases e with
        | returned u => exact ⟨he.1, keep he.1 u, by rw [← Act.put_comm a v u h2]; exact he.2⟩
        | panicked c => exact he
        | outgrown => exact he
      case row row args => exact Rows.mono h fun u w'' he => ⟨he.1, keep he.1 u, by rw [← Act.put_comm a v u h2]; exact he.2⟩
    | halt x w' =>
      cases x <;> simp only [Oper.upon] at h ⊢
      case panic => exact (show False from h).elim
  · rename_i hw
    simp only [hw] at h
    exact ⟨h.1, keep h.1 _, by rw [← Act.put_comm a v undef h2]; exact h.2⟩

theorem wpOp_mono2 {i : Nat} {a : Act} {w : World} {Q : Exit → Act → World → Prop} {K K' : Act → World → Prop} (h : ∀ a w, K a w → K' a w)
    (hh : wpOp P ops Q i K a w) : wpOp P ops Q i K' a w := wpOp_mono h hh

/-- An operation that may come up now, and that others do not touch, may be taken first. -/
theorem wpZ_first {i : Nat} {oi : Oper} {v : Value} (hi : ops[i]? = some oi) (hsel : ∀ (j : Nat) (o : Oper) cs b, ops[j]? = some o → o.op ≠ .select cs b) :
    ∀ (fuel : Nat) (listed : Array Bool) (a : Act) (w : World),
      (∀ j oj, ops[j]? = some oj → j ≠ i → listed.getD j true = false → (∀ e ∈ oj.after, Region.binds .any e = true → e.on ≠ i) →
        oi.apart ops oj = true ∧ (looks oi.op = false ∨ Z.contains j = false)) →
      i ∈ Region.ready .any ops listed → SY P ops oi v a w →
      wpZ P ops Z QN fuel (listed.setIfInBounds i true) (a.put oi.dst v) w → wpZ P ops Z QN (fuel + 1) listed a w := by
  intro fuel
  induction fuel with
  | zero =>
    intro listed a w _ hr hy H
    refine ⟨fun h => (by rw [h] at hr; cases hr), fun j hj => ?_⟩
    by_cases hji : j = i
    · subst hji; exact hy.wpOp hi ⟨fun _ => Ext.refl w, H⟩
    · have := ready_mono hj hji
      rw [H.1] at this
      cases this
  | succ fuel ih =>
    intro listed a w hfree hr hy H
    refine ⟨fun h => (by rw [h] at hr; cases hr), fun j hj => ?_⟩
    by_cases hji : j = i
    · subst hji; exact hy.wpOp hi ⟨fun _ => Ext.refl w, H⟩
    · have h1 := H.2 j (ready_mono hj hji)
      obtain ⟨hjun, oj, hoj, hall⟩ := mem_ready.1 hj
      have hnot : ∀ e ∈ oj.after, Region.binds .any e = true → e.on ≠ i := fun e he hb heq => by
        have h1 := hall e he hb
        have h0 := (mem_ready.1 hr).1
        rw [heq] at h1
        rcases Nat.lt_or_ge i listed.size with h' | h'
        · simp [h'] at h0 h1; rw [h0] at h1; cases h1
        · simp [Array.getElem?_eq_none h'] at h1
      obtain ⟨hap, hlz⟩ := hfree j oj hoj hji hjun hnot
      have h2 := wpOp_putZ (Z := Z) hoj hap (fun cs b => hsel i oi cs b hi) (fun cs b => hsel j oj cs b hoj) hy hlz h1
      have hfree' : ∀ k ok, ops[k]? = some ok → k ≠ i → (listed.setIfInBounds j true).getD k true = false →
          (∀ e ∈ ok.after, Region.binds .any e = true → e.on ≠ i) → oi.apart ops ok = true ∧ (looks oi.op = false ∨ Z.contains k = false) := fun k ok hk hki hun hno => by
        refine hfree k ok hk hki ?_ hno
        by_cases hjk : j = k
        · subst hjk; exact hjun
        · rw [getD_set_ne true hjk] at hun; exact hun
      refine wpOp_mono2 (fun a' w' h3 => ⟨h3.1, ih (listed.setIfInBounds j true) a' w' hfree' (ready_mono hr (Ne.symm hji)) h3.2.1 ?_⟩) h2
      rw [Array.setIfInBounds_comm _ _ hji]
      exact h3.2.2

/-- What is asked of the operation that is taken first, as a Bool. -/
def freeZ (ops : Array Oper) (Z : List Nat) (listed : Array Bool) (i : Nat) : Bool :=
  match ops[i]? with
  | none => false
  | some oi => (Region.ready .any ops listed).contains i && (List.range ops.size).all fun j => j == i || listed.getD j true || match ops[j]? with
      | some oj => oj.after.any (fun e => Region.binds .any e && e.on == i) || (oi.apart ops oj && (!looks oi.op || !Z.contains j))
      | none => true

theorem freeZ_spec {i : Nat} {oi : Oper} {listed : Array Bool} (hi : ops[i]? = some oi) (h : freeZ ops Z listed i = true) :
    i ∈ Region.ready .any ops listed ∧ ∀ (j : Nat) (oj : Oper), ops[j]? = some oj → j ≠ i → listed.getD j true = false → (∀ e ∈ oj.after, Region.binds .any e = true → e.on ≠ i) →
      oi.apart ops oj = true ∧ (looks oi.op = false ∨ Z.contains j = false) := by
  simp only [freeZ, hi, Bool.and_eq_true, List.all_eq_true, List.mem_range] at h
  obtain ⟨h0, h⟩ := h
  refine ⟨by simpa using h0, fun j oj hj hne hun hno => ?_⟩
  have h1 := h j (Array.getElem?_eq_some_iff.1 hj).1
  simp only [hj, Bool.or_eq_true, beq_iff_eq, hne, false_or, hun, Bool.false_eq_true] at h1
  rcases h1 with h1 | h1
  · obtain ⟨e, he, hb⟩ := Array.any_eq_true'.1 h1
    simp only [Bool.and_eq_true, beq_iff_eq] at hb
    exact absurd hb.2 (hno e he hb.1)
  · simp only [Bool.and_eq_true, Bool.or_eq_true, Bool.not_eq_true'] at h1
    exact h1

end

/-! ### The abstract side -/
section
variable {P : Program} {F : Fr} {N : Nat} {Q : Exit → St → Prop} {ops : Array Oper} {K : St → Prop} {Z : List Nat}

def TZ (P : Program) (F : Fr) (N : Nat) (ops : Array Oper) (Z : List Nat) (fuel : Nat) (listed : List Bool) (K : St → Prop) (st : St) : Prop :=
  Region.noSelect ops = true → ∀ (a : Act) (w : World) (QN : Act → World → Prop), Rel F N st a w → (∀ st' a' w', K st' → Rel F N st' a' w' → QN a' w') →
    wpZ P ops Z QN fuel listed.toArray a w

theorem T_drawZ {id n : Nat} {st : St} (Z : List Nat) (hm : P.follows .mixedOrders = true) (hs : Region.noSelect ops = true) (hn : ops.size = n)
    (h : TZ P F N ops Z n (List.replicate n false) (Q .normal) st) : T P F N (.region id ops true) Q st := by
  intro a w hr
  subst hn
  refine wp_region_any hm (wpAny_of_wpZ (Z := Z) (QN := fun a' w' => ∃ st', Q .normal st' ∧ Rel F N st' a' w') (fun _ _ h => h) _ _ _ _ ?_)
  have := h hs a { w with drawn := w.drawn + 1 } (fun a' w' => ∃ st', Q .normal st' ∧ Rel F N st' a' w') hr.drew (fun st' a' w' hk hr' => ⟨st', hk, hr'⟩)
  simpa using this

theorem TZ_done {fuel : Nat} {listed : List Bool} {st : St} (hr : (Region.ready .any ops listed.toArray).isEmpty = true) (h : K st) : TZ P F N ops Z fuel listed K st := by
  intro _ a w R hrel hQ
  have hr : Region.ready .any ops listed.toArray = [] := by simpa using hr
  cases fuel with
  | zero => exact ⟨hr, hQ _ _ _ h hrel⟩
  | succ fuel => exact ⟨fun _ => hQ _ _ _ h hrel, fun i hi => by rw [hr] at hi; cases hi⟩

theorem TZ_first {fuel : Nat} {listed : List Bool} {st st' : St} {o : Oper} (i : Nat) (hz : freeZ ops Z listed.toArray i = true) (hi : ops[i]? = some o)
    (h : ∀ φ a w, RelP F N st φ a w → ∃ v, SY P ops o v a w ∧ Rel F N st' (a.put o.dst v) w) (k : TZ P F N ops Z fuel (setL listed i) K st') :
    TZ P F N ops Z (fuel + 1) listed K st := by
  intro hs a w R hrel hQ
  obtain ⟨φ, hp⟩ := hrel
  obtain ⟨v, hy, hr'⟩ := h φ a w hp
  obtain ⟨h1, h2⟩ := freeZ_spec hi hz
  refine wpZ_first hi (Region.noSelect_spec hs) fuel _ a w h2 h1 hy ?_
  rw [setL_eq]
  exact k hs _ _ R hr' hQ

/-- An operation that leaves the world alone comes first. -/
theorem TZ_pure {fuel : Nat} {listed : List Bool} {o : Oper} {d : Nat} {x : AV} {s s' : Slots} {h : Heap} (i : Nat) (hz : freeZ ops Z listed.toArray i = true) (hi : ops[i]? = some o)
    (hg : o.guard = none) (hd : o.dst = some d) (hN : Nat.blt d N = true) (hs : sput s d x = some s') (hrun : OpP P o s h x)
    (k : TZ P F N ops Z fuel (setL listed i) K ⟨s', h⟩) : TZ P F N ops Z (fuel + 1) listed K ⟨s, h⟩ := by
  refine TZ_first i hz hi (fun φ a w hp => ?_) k
  obtain ⟨v, hv, hrep⟩ := hrun _ w φ h a.eval hp.heap (fun _ _ h => h) (fun y z hy => aev_rep hp hy)
  refine ⟨v, .inl ⟨by simp [Region.wanted, hg], hv⟩, φ, ?_⟩
  rw [hd]
  exact hp.put (Nat.le_of_ble_eq_true hN) hs hrep

theorem TZ_pureW {fuel : Nat} {listed : List Bool} {o : Oper} {d g j : Nat} {b : Bool} {x : AV} {s s' : Slots} {h : Heap} (i : Nat) (hz : freeZ ops Z listed.toArray i = true) (hi : ops[i]? = some o)
    (hg : o.guard = some (j, b)) (hj : (ops[j]?).bind (·.dst) = some g) (hb : lk s g = some (.bool b)) (hd : o.dst = some d) (hN : Nat.blt d N = true) (hs : sput s d x = some s') (hrun : OpP P o s h x)
    (k : TZ P F N ops Z fuel (setL listed i) K ⟨s', h⟩) : TZ P F N ops Z (fuel + 1) listed K ⟨s, h⟩ := by
  refine TZ_first i hz hi (fun φ a w hp => ?_) k
  obtain ⟨v, hv, hrep⟩ := hrun _ w φ h a.eval hp.heap (fun _ _ h => h) (fun y z hy => aev_rep hp hy)
  refine ⟨v, .inl ⟨wanted_of hp hg hj hb, hv⟩, φ, ?_⟩
  rw [hd]
  exact hp.put (Nat.le_of_ble_eq_true hN) hs hrep

/-- An operation that is passed over. -/
theorem TZ_pass {fuel : Nat} {listed : List Bool} {o : Oper} {d g j : Nat} {b c : Bool} {s s' : Slots} {h : Heap} (i : Nat) (hz : freeZ ops Z listed.toArray i = true) (hi : ops[i]? = some o)
    (hg : o.guard = some (j, b)) (hj : (ops[j]?).bind (·.dst) = some g) (hb : lk s g = some (.bool c)) (hbc : c = !b) (hd : o.dst = some d) (hN : Nat.blt d N = true)
    (hs : sput s d (.tup []) = some s') (k : TZ P F N ops Z fuel (setL listed i) K ⟨s', h⟩) : TZ P F N ops Z (fuel + 1) listed K ⟨s, h⟩ := by
  refine TZ_first i hz hi (fun φ a w hp => ?_) k
  refine ⟨undef, .inr ⟨unwanted_of hp hg hj hb hbc, rfl⟩, φ, ?_⟩
  rw [hd]
  exact hp.put (Nat.le_of_ble_eq_true hN) hs undef_rep

theorem TZ_pass2 {fuel : Nat} {listed : List Bool} {o : Oper} {d g j : Nat} {b : Bool} {s s' : Slots} {h : Heap} (i : Nat) (hz : freeZ ops Z listed.toArray i = true) (hi : ops[i]? = some o)
    (hg : o.guard = some (j, b)) (hj : (ops[j]?).bind (·.dst) = some g) (hb : lk s g = some (.tup [])) (hd : o.dst = some d) (hN : Nat.blt d N = true)
    (hs : sput s d (.tup []) = some s') (k : TZ P F N ops Z fuel (setL listed i) K ⟨s', h⟩) : TZ P F N ops Z (fuel + 1) listed K ⟨s, h⟩ := by
  refine TZ_first i hz hi (fun φ a w hp => ?_) k
  refine ⟨undef, .inr ⟨?_, rfl⟩, φ, ?_⟩
  · obtain ⟨v, hv, hrep⟩ := hp.slots g _ hb
    obtain ⟨us, rfl⟩ : ∃ us, v = .tuple us := by
      cases hrep with
      | pure h => cases h; exact ⟨_, rfl⟩
      | tup _ us _ _ => exact ⟨us, rfl⟩
    simp [Region.wanted, hg, yielded, hj, hv]
  · rw [hd]
    exact hp.put (Nat.le_of_ble_eq_true hN) hs undef_rep

/-- One of those that may come next. -/
theorem TZ_each {fuel : Nat} {listed : List Bool} {st : St} (L : List Nat) (hr : Region.ready .any ops listed.toArray = L) (hL : L.isEmpty = false)
    (h : each (fun i => ∃ o, ops[i]? = some o ∧ TLE (!Z.contains i) P F N ops [o] (TZ P F N ops Z fuel (setL listed i) K) st) L) : TZ P F N ops Z (fuel + 1) listed K st := by
  intro hs a w R hrel hQ
  refine ⟨fun h0 => (by rw [hr] at h0; rw [h0] at hL; exact absurd hL (by decide)), fun i hi => ?_⟩
  rw [hr] at hi
  obtain ⟨o, ho, ht⟩ := each_mem h i hi
  refine wpOp_of_list ho (ht a w _ hrel fun st' a' w' hk hr' he => ⟨fun h => he (by rw [h]; rfl), ?_⟩)
  rw [setL_eq]
  exact hk hs a' w' R hr' hQ

/-- The only one that may come next. -/
theorem TZ_one {fuel : Nat} {listed : List Bool} {st : St} {o : Oper} (i : Nat) (hr : Region.ready .any ops listed.toArray = [i]) (hi : ops[i]? = some o)
    (h : TLE (!Z.contains i) P F N ops [o] (TZ P F N ops Z fuel (setL listed i) K) st) : TZ P F N ops Z (fuel + 1) listed K st :=
  TZ_each [i] hr rfl ⟨o, hi, h⟩

theorem TZ_sub {fuel : Nat} {listed : List Bool} {st st' : St} (h : ∀ φ a w, RelP F N st φ a w → Rel F N st' a w) (k : TZ P F N ops Z fuel listed K st') : TZ P F N ops Z fuel listed K st := by
  intro hs a w R hr hQ
  obtain ⟨φ, hp⟩ := hr
  exact k hs a w R (h φ a w hp) hQ

/-- A test is known from here on. -/
theorem TZ_split {fuel : Nat} {listed : List Bool} {s s1 s2 : Slots} {h : Heap} (g : Nat) {b : Bool} (hb : lk s g = some (.bool b)) (ht : sput s g (.bool true) = some s1) (hf : sput s g (.bool false) = some s2)
    (kt : b = true → TZ P F N ops Z fuel listed K ⟨s1, h⟩) (kf : b = false → TZ P F N ops Z fuel listed K ⟨s2, h⟩) : TZ P F N ops Z fuel listed K ⟨s, h⟩ := by
  have same : ∀ (c : Bool) (t : Slots), b = c → sput s g (.bool c) = some t → ∀ φ a w, RelP F N ⟨s, h⟩ φ a w → RelP F N ⟨t, h⟩ φ a w := by
    intro c t hbc hp φ a w hr
    subst hbc
    refine hr.slots_sub fun i x hx => .inl ?_
    rw [lk_sput hp] at hx
    split at hx
    · cases hx; rename_i hi; rw [← hi]; exact hb
    · exact hx
  cases b with
  | true => exact TZ_sub (fun φ a w hr => ⟨φ, same true s1 rfl ht φ a w hr⟩) (kt rfl)
  | false => exact TZ_sub (fun φ a w hr => ⟨φ, same false s2 rfl hf φ a w hr⟩) (kf rfl)

end
end Go.AM
