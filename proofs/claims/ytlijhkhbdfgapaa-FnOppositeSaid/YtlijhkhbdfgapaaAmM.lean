/- Steps of thought: keeping, freezing, dropping; tests; facts. -/
import Derived.Test.YtlijhkhbdfgapaaAmL
namespace Go.AM
open Go

section
variable {P : Program} {F : Fr} {N : Nat}

/-- Fewer objects, and values that stand for the same. -/
theorem RelP.sub {s s' : Slots} {h h' : Heap} {φ : Nat → Loc} {a : Act} {w : World} (hr : RelP F N ⟨s, h⟩ φ a w)
    (hS : ∀ b, Stab F w φ h b → Stab F w φ h' b)
    (hs : ∀ i y, lk s' i = some y → ∃ x, lk s i = some x ∧ ∀ v, RepV (Stab F w φ h) w φ h x v → RepV (Stab F w φ h') w φ h' y v)
    (hA : ∀ i k sz E es, lk h' i = some (.arr k sz E es) → lk h i = some (.arr k sz E es))
    (hB : ∀ i cs', lk h' i = some (.box cs') → ∃ cs, lk h i = some (.box cs) ∧ cs'.length = cs.length ∧
      ∀ (n : Nat) y, cs'[n]? = some y → ∃ x, cs[n]? = some x ∧ ∀ v, RepV (Stab F w φ h) w φ h x v → RepV (Stab F w φ h') w φ h' y v)
    (hk : ∀ i o, lk F.η i = some o → ∃ o', lk h' i = some o') : RelP F N ⟨s', h'⟩ φ a w := by
  have hex : ∀ i o', lk h' i = some o' → ∃ o, lk h i = some o ∧ o.alike o' := by
    intro i o' ho
    cases o' with
    | box cs' => obtain ⟨cs, h1, _⟩ := hB i cs' ho; exact ⟨_, h1, trivial⟩
    | arr k sz E es => exact ⟨_, hA i k sz E es ho, AO.alike_refl _⟩
  refine ⟨hr.size, hr.defers, hr.sys, hr.grow, ⟨fun i o ho => ?_, fun i j oi oj b hi hj hmi hmj => ?_, fun b hb => hb.1, fun i o b ho hm hst => hst.2.2 i o ho hm, fun i o b ho hm => ?_⟩,
    fun i x hx => ?_, fun i o b ho hm => ?_, hr.fix, fun i o hi => ?_, hr.frame⟩
  · cases o with
    | box cs' =>
      obtain ⟨cs, h1, h2, h3⟩ := hB i cs' ho
      obtain ⟨hm, C, E, hC, hsz, hrep⟩ := hr.heap.obj i _ h1
      refine ⟨hm, C, E, hC, by rw [hsz, h2], fun n y v hy hv => ?_⟩
      obtain ⟨x, hx, hxy⟩ := h3 n y hy
      exact hxy v (hrep n x v hx hv)
    | arr k sz E es =>
      obtain ⟨h0, hl, hone, hob⟩ := hr.heap.obj i _ (hA i k sz E es ho)
      refine ⟨h0, hl, hone, ?_⟩
      rcases hob with hob | ⟨hm, C, hC, h1, h2, h3, h4⟩
      · exact .inl hob
      · exact .inr ⟨hm, C, hC, h1, h2, h3, h4.mono hS (fun _ _ => rfl) (fun _ _ _ => rfl) rfl⟩
  · obtain ⟨o1, ho1, _⟩ := hex i oi hi
    obtain ⟨o2, ho2, _⟩ := hex j oj hj
    exact hr.heap.injO i j o1 o2 b ho1 ho2 hmi hmj
  · obtain ⟨o1, ho1, _⟩ := hex i o ho
    exact hr.heap.ltO i o1 b ho1 hm
  · obtain ⟨y, hy, hxy⟩ := hs i x hx
    obtain ⟨v, hv, hrep⟩ := hr.slots i y hy
    exact ⟨v, hv, hxy v hrep⟩
  · obtain ⟨o1, ho1, _⟩ := hex i o ho
    exact hr.mine i o1 b ho1 hm
  · obtain ⟨o1, ho1, hb1⟩ := hr.keep i o hi
    obtain ⟨o', ho'⟩ := hk i o hi
    obtain ⟨o2, ho2, hb2⟩ := hex i o' ho'
    have ho1' : lk h i = some o1 := ho1
    rw [ho1'] at ho2
    cases ho2
    exact ⟨o', ho', AO.alike_trans hb1 hb2⟩

/-- Some slots alone. -/
theorem RelP.keepS {s s' : Slots} {h : Heap} {φ : Nat → Loc} {a : Act} {w : World} {ids : List Nat} (hr : RelP F N ⟨s, h⟩ φ a w) (hk : keepO ids s = some s') :
    RelP F N ⟨s', h⟩ φ a w :=
  hr.slots_sub fun i x hx => .inl (keepO_lk hk i x hx)

section
variable {ops : Array Oper} {l : List Oper} {K : St → Prop} {c : Code} {Q : Exit → St → Prop} {s s' s1 : Slots} {h h' h1 : Heap} {ex : Bool}

theorem TL_keep (ids : List Nat) (hk : keepO ids s = some s') (k : TLE ex P F N ops l K ⟨s', h⟩) : TLE ex P F N ops l K ⟨s, h⟩ := TL_sub (fun φ _ _ hr => ⟨φ, hr.keepS hk⟩) k
theorem T_keep (ids : List Nat) (hk : keepO ids s = some s') (k : T P F N c Q ⟨s', h⟩) : T P F N c Q ⟨s, h⟩ := T_sub (fun φ _ _ hr => ⟨φ, hr.keepS hk⟩) k
theorem TR_keep (ids : List Nat) (hk : keepO ids s = some s') (k : TR P F N c Q ⟨s', h⟩) : TR P F N c Q ⟨s, h⟩ := TR_sub (fun φ _ _ hr => ⟨φ, hr.keepS hk⟩) k

/-- A test is known from here on, in each of two ways. -/
theorem TL_split (g : Nat) {b : Bool} {s2 : Slots} (hb : lk s g = some (.bool b)) (ht : sput s g (.bool true) = some s1) (hf : sput s g (.bool false) = some s2)
    (kt : b = true → TLE ex P F N ops l K ⟨s1, h⟩) (kf : b = false → TLE ex P F N ops l K ⟨s2, h⟩) : TLE ex P F N ops l K ⟨s, h⟩ := by
  have same : ∀ (c : Bool) (t : Slots), b = c → sput s g (.bool c) = some t → ∀ φ a w, RelP F N ⟨s, h⟩ φ a w → RelP F N ⟨t, h⟩ φ a w := by
    intro c t hbc hp φ a w hr
    subst hbc
    refine hr.slots_sub fun i x hx => .inl ?_
    rw [lk_sput hp] at hx
    split at hx
    · cases hx; rename_i hi; rw [← hi]; exact hb
    · exact hx
  cases b with
  | true => exact TL_sub (fun φ a w hr => ⟨φ, same true s1 rfl ht φ a w hr⟩) (kt rfl)
  | false => exact TL_sub (fun φ a w hr => ⟨φ, same false s2 rfl hf φ a w hr⟩) (kf rfl)

/-! ### The nil slice as an array of one's own -/

theorem RelP.ownNil {φ : Nat → Loc} {a : Act} {w : World} {i id sz : Nat} {kd : Kd} {E : TypeId} (hr : RelP F N ⟨s, h⟩ φ a w) (hi : lk s i = some .snil) (hl : lk h id = none)
    (hsz : 0 < sz) (hh : sput h id (.arr kd sz E []) = some h') (hs : sput s i (.ow id) = some s') : Rel F N ⟨s', h'⟩ a w := by
  have h1 := hr.newNil none hl hh hsz
  obtain ⟨v, hv, hrep⟩ := hr.slots i _ hi
  have hvn : v = .slice none 0 0 := by
    cases hrep with
    | pure h => cases h; rfl
  subst hvn
  have hlk := lk_sput hs
  refine ⟨_, h1.size, h1.defers, h1.sys, h1.grow, h1.heap, fun j x hx => ?_, h1.mine, h1.fix, h1.keep, h1.frame⟩
  rw [hlk] at hx
  by_cases hij : i = j
  · subst hij
    rw [if_pos rfl] at hx
    cases hx
    have := RepV.ow0 (S := Stab F w (updLoc φ id (mkLoc 0 0 false)) h') (w := w) (φ := updLoc φ id (mkLoc 0 0 false)) (id := id) (by rw [lk_sput hh, if_pos rfl]) (by rw [updLoc_same])
    rw [updLoc_same] at this
    exact ⟨_, hv, this⟩
  · rw [if_neg hij] at hx
    exact h1.slots j x hx

theorem TL_ownNil (i id : Nat) {sz : Nat} (kd : Kd) (E : TypeId) (hi : lk s i = some .snil) (hl : lk h id = none) (hsz : Nat.blt 0 sz = true) (hh : sput h id (.arr kd sz E []) = some h')
    (hs : sput s i (.ow id) = some s') (k : TLE ex P F N ops l K ⟨s', h'⟩) : TLE ex P F N ops l K ⟨s, h⟩ :=
  TL_sub (fun _ _ _ hr => hr.ownNil hi hl (Nat.le_of_ble_eq_true hsz) hh hs) k
theorem T_ownNil (i id : Nat) {sz : Nat} (kd : Kd) (E : TypeId) (hi : lk s i = some .snil) (hl : lk h id = none) (hsz : Nat.blt 0 sz = true) (hh : sput h id (.arr kd sz E []) = some h')
    (hs : sput s i (.ow id) = some s') (k : T P F N c Q ⟨s', h'⟩) : T P F N c Q ⟨s, h⟩ :=
  T_sub (fun _ _ _ hr => hr.ownNil hi hl (Nat.le_of_ble_eq_true hsz) hh hs) k

/-- The nil slice as a tree. -/
theorem TL_nilSl (i : Nat) (sz : Nat) (hi : lk s i = some .snil) (hs : sput s i (.sl sz []) = some s') (k : TLE ex P F N ops l K ⟨s', h⟩) : TLE ex P F N ops l K ⟨s, h⟩ := by
  refine TL_sub (st' := ⟨s', h⟩) (fun φ a w hr => ⟨φ, hr.size, hr.defers, hr.sys, hr.grow, hr.heap, fun j x hx => ?_, hr.mine, hr.fix, hr.keep, hr.frame⟩) k
  have hx' : lk s' j = some x := hx
  rw [lk_sput hs] at hx'
  split at hx'
  · cases hx'
    rename_i hij; subst hij
    obtain ⟨v, hv, hrep⟩ := hr.slots _ _ hi
    refine ⟨v, hv, ?_⟩
    cases hrep with
    | pure h => cases h; exact .pure (.sl0 _ _ _ (fun _ => rfl))
  · exact hr.slots j x hx'

/-! ### Freezing -/

mutual
def frz (id sz : Nat) (es : List AV) : AV → Option AV
  | .ow i => bif Nat.beq i id then some (.sl sz es) else some (.ow i)
  | .ptr i k o => bif Nat.beq i id then some .junk else some (.ptr i k o)
  | .sub i n => bif Nat.beq i id then some .junk else some (.sub i n)
  | .agg xs => match frzL id sz es xs with
    | some ys => some (.agg ys)
    | none => none
  | .tup xs => match frzL id sz es xs with
    | some ys => some (.tup ys)
    | none => none
  | .fn f xs us => match frzL id sz es xs with
    | some ys => match frzL id sz es us with
      | some vs => some (.fn f ys vs)
      | none => none
    | none => none
  | x => some x
def frzL (id sz : Nat) (es : List AV) : List AV → Option (List AV)
  | [] => some []
  | x :: r => match frz id sz es x with
    | some y => match frzL id sz es r with
      | some l => some (y :: l)
      | none => none
    | none => none
end

/-- The world as it stands when an array is frozen. -/
structure Frozen (S S' : Nat → Prop) (w : World) (φ : Nat → Loc) (h h' : Heap) (kd : Kd) (id sz : Nat) (E : TypeId) (es : List AV) : Prop where
  ok : HeapOK S w φ h
  obj : lk h id = some (.arr kd sz E es)
  mono : ∀ b, S b → S' b
  blk : ∀ b, (φ id).owns b → S' b
  arr : ∀ i k sz E es, i ≠ id → lk h i = some (.arr k sz E es) → lk h' i = some (.arr k sz E es)
  box : ∀ i cs, i ≠ id → lk h i = some (.box cs) → ∃ cs', lk h' i = some (.box cs')

mutual
theorem frz_rep {S S' : Nat → Prop} {w : World} {φ : Nat → Loc} {h h' : Heap} {kd : Kd} {id sz : Nat} {E : TypeId} {es : List AV} (hf : Frozen S S' w φ h h' kd id sz E es) :
    ∀ (x y : AV) (v : Value), frz id sz es x = some y → RepV S w φ h x v → RepV S' w φ h' y v
  | .ow i, y, v, e, hv => by
    unfold frz at e
    cases hb : Nat.beq i id with
    | true =>
      obtain rfl := (beq_iff _ _).1 hb
      simp only [hb, cond_true, Option.some.injEq] at e
      subst e
      obtain ⟨hsz, hlens, hones, hob⟩ := hf.ok.obj _ _ hf.obj
      rcases hv.ow_inv hf.obj with ⟨hm, rfl⟩ | ⟨hm, rfl, rfl⟩
      · rcases hob with ⟨hff, _⟩ | ⟨_, C, hC, hle, hcm, hCs, hrep⟩
        · rw [hm] at hff; cases hff
        · by_cases hne : es = []
          · subst hne; exact .pure (.sl0 _ _ _ (fun hn => by cases hn))
          · have hcap : es.length * sz ≤ (φ i).cap * sz := Nat.mul_le_mul_right _ hle
            have hin : ∀ (j : Nat) c, (flat es)[j]? = some c → C[j]? = some (C.getD j undef) := by
              intro j c hc
              have hj := (List.getElem?_eq_some_iff.1 hc).1
              rw [flat_length hlens] at hj
              have : j < C.size := by omega
              simp [this]
            refine .pure (.sl sz es _ 0 _ (fun j => C.getD j undef) hne (hf.blk _ (.inl ⟨hm, rfl⟩)) hle hcm hsz hlens hones (fun j c hc => ?_) (fun j c hc => hrep.frozen hf.mono (fun b hb => hf.blk b (.inr hb)) j c _ hc (hin j c hc)))
            rw [Nat.zero_add, cell_at hC]; exact hin j c hc
      · exact .pure (.sl0 _ _ _ (fun _ => rfl))
    | false =>
      have hne : i ≠ id := fun e => by rw [(beq_iff i id).2 e] at hb; cases hb
      simp only [hb, cond_false, Option.some.injEq] at e
      subst e
      cases hv with
      | pure h => cases h
      | ow h1 h2 => exact .ow (hf.arr _ _ _ _ _ hne h1) h2
      | ow0 h1 h2 => exact .ow0 (hf.arr _ _ _ _ _ hne h1) h2
  | .ptr i k o, y, v, e, hv => by
    unfold frz at e
    cases hb : Nat.beq i id with
    | true =>
      simp only [hb, cond_true, Option.some.injEq] at e
      subst e
      exact .pure (.junk _)
    | false =>
      have hne : i ≠ id := fun e => by rw [(beq_iff i id).2 e] at hb; cases hb
      simp only [hb, cond_false, Option.some.injEq] at e
      subst e
      cases hv with
      | pure h => cases h
      | box h1 h2 => obtain ⟨cs', h3⟩ := hf.box _ _ hne h1; exact .box h3 h2
      | elt h1 h2 => exact .elt (hf.arr _ _ _ _ _ hne h1) h2
  | .sub i n, y, v, e, hv => by
    unfold frz at e
    cases hb : Nat.beq i id with
    | true =>
      simp only [hb, cond_true, Option.some.injEq] at e
      subst e
      exact .pure (.junk _)
    | false =>
      have hne : i ≠ id := fun e => by rw [(beq_iff i id).2 e] at hb; cases hb
      simp only [hb, cond_false, Option.some.injEq] at e
      subst e
      cases hv with
      | pure h => cases h
      | sub h1 => exact .sub (hf.arr _ _ _ _ _ hne h1)
  | .agg xs, y, v, e, hv => by
    unfold frz at e
    cases hl : frzL id sz es xs with
    | none => simp [hl] at e
    | some ys =>
      simp only [hl, Option.some.injEq] at e
      subst e
      obtain ⟨us, rfl, h1, h2⟩ := hv.agg_inv
      obtain ⟨h3, h4⟩ := frzL_rep hf xs ys hl
      refine .agg ys us (by rw [← h3]; exact h1) (fun i y v hy hv => ?_)
      obtain ⟨x, hx⟩ : ∃ x, xs[i]? = some x := ⟨xs[i]'(by rw [h3]; exact (List.getElem?_eq_some_iff.1 hy).1), by simp⟩
      exact h4 i x y v hx hy (h2 i x v hx hv)
  | .tup xs, y, v, e, hv => by
    unfold frz at e
    cases hl : frzL id sz es xs with
    | none => simp [hl] at e
    | some ys =>
      simp only [hl, Option.some.injEq] at e
      subst e
      obtain ⟨us, rfl, h1, h2⟩ := hv.tup_inv
      obtain ⟨h3, h4⟩ := frzL_rep hf xs ys hl
      refine .tup ys us (by rw [← h3]; exact h1) (fun i y v hy hv => ?_)
      obtain ⟨x, hx⟩ : ∃ x, xs[i]? = some x := ⟨xs[i]'(by rw [h3]; exact (List.getElem?_eq_some_iff.1 hy).1), by simp⟩
      exact h4 i x y v hx hy (h2 i x v hx hv)
  | .fn f xs us, y, v, e, hv => by
    unfold frz at e
    cases hl : frzL id sz es xs with
    | none => simp [hl] at e
    | some ys =>
      simp only [hl] at e
      cases hl2 : frzL id sz es us with
      | none => simp [hl2] at e
      | some vs =>
        simp only [hl2, Option.some.injEq] at e
        subst e
        obtain ⟨as, bs, rfl, h1, h2, h5, h6⟩ := hv.fn_inv
        obtain ⟨h3, h4⟩ := frzL_rep hf xs ys hl
        obtain ⟨h7, h8⟩ := frzL_rep hf us vs hl2
        refine .fn f ys vs as bs (by rw [← h3]; exact h1) (by rw [← h7]; exact h2) (fun i y v hy hv => ?_) (fun i y v hy hv => ?_)
        · obtain ⟨x, hx⟩ : ∃ x, xs[i]? = some x := ⟨xs[i]'(by rw [h3]; exact (List.getElem?_eq_some_iff.1 hy).1), by simp⟩
          exact h4 i x y v hx hy (h5 i x v hx hv)
        · obtain ⟨x, hx⟩ : ∃ x, us[i]? = some x := ⟨us[i]'(by rw [h7]; exact (List.getElem?_eq_some_iff.1 hy).1), by simp⟩
          exact h8 i x y v hx hy (h6 i x v hx hv)
  | .int _ _, y, v, e, hv => by cases e; exact .pure ((hv.tree rfl).mono hf.mono (fun _ _ => rfl))
  | .bool _, y, v, e, hv => by cases e; exact .pure ((hv.tree rfl).mono hf.mono (fun _ _ => rfl))
  | .str _, y, v, e, hv => by cases e; exact .pure ((hv.tree rfl).mono hf.mono (fun _ _ => rfl))
  | .snil, y, v, e, hv => by cases e; exact .pure ((hv.tree rfl).mono hf.mono (fun _ _ => rfl))
  | .sl _ _, y, v, e, hv => by cases e; exact .pure ((hv.tree rfl).mono hf.mono (fun _ _ => rfl))
  | .cp _, y, v, e, hv => by cases e; exact .pure ((hv.tree rfl).mono hf.mono (fun _ _ => rfl))
  | .nilp, y, v, e, hv => by cases e; exact .pure ((hv.tree rfl).mono hf.mono (fun _ _ => rfl))
  | .nilf, y, v, e, hv => by cases e; exact .pure ((hv.tree rfl).mono hf.mono (fun _ _ => rfl))
  | .junk, y, v, e, hv => by cases e; exact .pure (.junk _)
  | .mp i, y, v, e, hv => by
    cases hv with
    | pure h => cases h
theorem frzL_rep {S S' : Nat → Prop} {w : World} {φ : Nat → Loc} {h h' : Heap} {kd : Kd} {id sz : Nat} {E : TypeId} {es : List AV} (hf : Frozen S S' w φ h h' kd id sz E es) :
    ∀ (xs ys : List AV), frzL id sz es xs = some ys → xs.length = ys.length ∧
      ∀ (n : Nat) x y v, xs[n]? = some x → ys[n]? = some y → RepV S w φ h x v → RepV S' w φ h' y v
  | [], ys, e => by cases e; exact ⟨rfl, fun n x y v hx => by simp at hx⟩
  | x :: r, ys, e => by
    unfold frzL at e
    cases hx : frz id sz es x with
    | none => simp [hx] at e
    | some y =>
      simp only [hx] at e
      cases hr : frzL id sz es r with
      | none => simp [hr] at e
      | some l =>
        simp only [hr, Option.some.injEq] at e
        subst e
        obtain ⟨h1, h2⟩ := frzL_rep hf r l hr
        refine ⟨by simp [h1], fun n u z v hu hz => ?_⟩
        cases n with
        | zero => simp at hu hz; subst hu; subst hz; exact frz_rep hf x y v hx
        | succ n => simp at hu hz; exact h2 n u z v hu hz
end

def frzS (id sz : Nat) (es : List AV) : Slots → Option Slots
  | [] => some []
  | (k, x) :: r => match frz id sz es x with
    | some y => match frzS id sz es r with
      | some l => some ((k, y) :: l)
      | none => none
    | none => none

/-- Frozen, and the array itself is gone. -/
def frzH (id sz : Nat) (es : List AV) : Heap → Option Heap
  | [] => some []
  | (k, .box cs) :: r => bif Nat.beq k id then frzH id sz es r else
    match frzL id sz es cs with
    | some cs' => match frzH id sz es r with
      | some l => some ((k, .box cs') :: l)
      | none => none
    | none => none
  | (k, .arr kd n E xs) :: r => bif Nat.beq k id then frzH id sz es r else
    match frzH id sz es r with
    | some l => some ((k, .arr kd n E xs) :: l)
    | none => none

theorem frzS_spec {id sz : Nat} {es : List AV} : ∀ {s s' : Slots}, frzS id sz es s = some s' → ∀ i y, lk s' i = some y → ∃ x, lk s i = some x ∧ frz id sz es x = some y := by
  intro s
  induction s with
  | nil => intro s' e i y hy; cases e; cases hy
  | cons p s ih =>
    obtain ⟨k, x⟩ := p
    intro s' e i y hy
    unfold frzS at e
    cases hx : frz id sz es x with
    | none => simp [hx] at e
    | some y0 =>
      simp only [hx] at e
      cases hr : frzS id sz es s with
      | none => simp [hr] at e
      | some l =>
        simp only [hr, Option.some.injEq] at e
        subst e
        rw [lk_cons] at hy ⊢
        split at hy
        · cases hy; rename_i hk; rw [if_pos hk]; exact ⟨x, rfl, hx⟩
        · rename_i hk; rw [if_neg hk]; exact ih hr i y hy

theorem frzH_spec {id sz : Nat} {es : List AV} : ∀ {h h' : Heap}, frzH id sz es h = some h' → lk h' id = none ∧
    (∀ i, i ≠ id → ∀ kd n E xs, lk h' i = some (.arr kd n E xs) ↔ lk h i = some (.arr kd n E xs)) ∧
    (∀ i cs', lk h' i = some (.box cs') → ∃ cs, lk h i = some (.box cs) ∧ frzL id sz es cs = some cs') ∧ (∀ i cs, i ≠ id → lk h i = some (.box cs) → ∃ cs', lk h' i = some (.box cs')) := by
  intro h
  induction h with
  | nil => intro h' e; cases e; exact ⟨rfl, fun i _ kd n E xs => Iff.rfl, fun i cs hi => (by cases hi), fun i cs _ hi => (by cases hi)⟩
  | cons p h ih =>
    obtain ⟨k, o⟩ := p
    intro h' e
    cases hb : Nat.beq k id with
    | true =>
      obtain rfl := (beq_iff _ _).1 hb
      have e' : frzH k sz es h = some h' := by
        cases o <;> (unfold frzH at e; simp only [hb, cond_true] at e; exact e)
      obtain ⟨h1, h2, h3, h4⟩ := ih e'
      refine ⟨h1, fun i hi kd n E xs => ?_, fun i cs' hi => ?_, fun i cs hi ho => ?_⟩
      · rw [lk_cons, if_neg (Ne.symm hi)]; exact h2 i hi kd n E xs
      · obtain ⟨cs, c1, c2⟩ := h3 i cs' hi
        have hne : k ≠ i := fun e => by subst e; rw [h1] at hi; cases hi
        exact ⟨cs, by rw [lk_cons, if_neg hne]; exact c1, c2⟩
      · rw [lk_cons, if_neg (Ne.symm hi)] at ho; exact h4 i cs hi ho
    | false =>
      have hne : k ≠ id := fun e => by rw [(beq_iff k id).2 e] at hb; cases hb
      cases o with
      | box cs0 =>
        unfold frzH at e
        simp only [hb, cond_false] at e
        cases hc : frzL id sz es cs0 with
        | none => simp [hc] at e
        | some cs1 =>
          simp only [hc] at e
          cases hr : frzH id sz es h with
          | none => simp [hr] at e
          | some l =>
            simp only [hr, Option.some.injEq] at e
            subst e
            obtain ⟨h1, h2, h3, h4⟩ := ih hr
            refine ⟨by rw [lk_cons, if_neg hne]; exact h1, fun i hi kd n E xs => ?_, fun i cs' hi => ?_, fun i cs hi ho => ?_⟩
            · rw [lk_cons, lk_cons]; split
              · simp
              · exact h2 i hi kd n E xs
            · rw [lk_cons] at hi ⊢
              split at hi
              · cases hi; rename_i hk; rw [if_pos hk]; exact ⟨cs0, rfl, hc⟩
              · rename_i hk; rw [if_neg hk]; exact h3 i cs' hi
            · rw [lk_cons] at ho ⊢
              split at ho
              · rename_i hk; rw [if_pos hk]; exact ⟨cs1, rfl⟩
              · rename_i hk; rw [if_neg hk]; exact h4 i cs hi ho
      | arr kd0 n0 E0 xs0 =>
        unfold frzH at e
        simp only [hb, cond_false] at e
        cases hr : frzH id sz es h with
        | none => simp [hr] at e
        | some l =>
          simp only [hr, Option.some.injEq] at e
          subst e
          obtain ⟨h1, h2, h3, h4⟩ := ih hr
          refine ⟨by rw [lk_cons, if_neg hne]; exact h1, fun i hi kd n E xs => ?_, fun i cs' hi => ?_, fun i cs hi ho => ?_⟩
          · rw [lk_cons, lk_cons]; split
            · exact Iff.rfl
            · exact h2 i hi kd n E xs
          · rw [lk_cons] at hi ⊢
            split at hi
            · cases hi
            · rename_i hk; rw [if_neg hk]; exact h3 i cs' hi
          · rw [lk_cons] at ho ⊢
            split at ho
            · cases ho
            · rename_i hk; rw [if_neg hk]; exact h4 i cs hi ho

theorem RelP.freeze {φ : Nat → Loc} {a : Act} {w : World} {id sz : Nat} {kd : Kd} {E : TypeId} {es : List AV} (hr : RelP F N ⟨s, h⟩ φ a w) (hF : lk F.η id = none)
    (hl : lk h id = some (.arr kd sz E es)) (hs : frzS id sz es s = some s') (hh : frzH id sz es h = some h') : RelP F N ⟨s', h'⟩ φ a w := by
  obtain ⟨g1, g2, g3, g4⟩ := frzH_spec hh
  have hex : ∀ i o, lk h' i = some o → i ≠ id ∧ ∃ o', lk h i = some o' := by
    intro i o ho
    have hne : i ≠ id := fun e => by subst e; rw [g1] at ho; cases ho
    refine ⟨hne, ?_⟩
    cases o with
    | box cs' => obtain ⟨cs, c1, _⟩ := g3 i cs' ho; exact ⟨_, c1⟩
    | arr k n E xs => exact ⟨_, (g2 i hne k n E xs).1 ho⟩
  have hS : ∀ b, Stab F w φ h b → Stab F w φ h' b := fun b hb => ⟨hb.1, hb.2.1, fun i o ho hm => by
    obtain ⟨_, o', ho'⟩ := hex i o ho
    exact hb.2.2 i o' ho' hm⟩
  have hf : Frozen (Stab F w φ h) (Stab F w φ h') w φ h h' kd id sz E es := by
    refine ⟨hr.heap, hl, hS, fun b hm => ⟨hr.heap.ltO id _ b hl hm, ?_, fun i o ho hmi => ?_⟩, fun i k n E xs hi ho => (g2 i hi k n E xs).2 ho, g4⟩
    · rcases hr.mine id _ _ hl hm with h1 | ⟨o0, h1, h2⟩
      · exact .inr h1
      · rw [hF] at h1; cases h1
    · obtain ⟨hne, o', ho'⟩ := hex i o ho
      exact hne (hr.heap.injO i id o' _ _ ho' hl hmi hm)
  refine hr.sub hS (fun i y hy => ?_) (fun i k n E xs ho => ?_) (fun i cs' ho => ?_) (fun i o hi => ?_)
  · obtain ⟨x, hx, hxy⟩ := frzS_spec hs i y hy
    exact ⟨x, hx, fun v hv => frz_rep hf x y v hxy hv⟩
  · exact (g2 i (hex i _ ho).1 k n E xs).1 ho
  · obtain ⟨cs, c1, c2⟩ := g3 i cs' ho
    obtain ⟨c3, c4⟩ := frzL_rep hf cs cs' c2
    refine ⟨cs, c1, c3.symm, fun n y hy => ?_⟩
    obtain ⟨x, hx⟩ : ∃ x, cs[n]? = some x := ⟨cs[n]'(by rw [c3]; exact (List.getElem?_eq_some_iff.1 hy).1), by simp⟩
    exact ⟨x, hx, fun v hv => c4 n x y v hx hy hv⟩
  · have hne : i ≠ id := fun e => by subst e; rw [hF] at hi; cases hi
    obtain ⟨o', ho', _⟩ := hr.keep i o hi
    have ho'' : lk h i = some o' := ho'
    cases o' with
    | box cs => obtain ⟨cs', hc⟩ := g4 i cs hne ho''; exact ⟨_, hc⟩
    | arr k n E xs => exact ⟨_, (g2 i hne k n E xs).2 ho''⟩

/-- An array of one's own becomes a tree. -/
theorem TL_freeze (id : Nat) {sz : Nat} {kd : Kd} {E : TypeId} {es : List AV} (hF : lk F.η id = none) (hl : lk h id = some (.arr kd sz E es)) (hs : frzS id sz es s = some s') (hh : frzH id sz es h = some h')
    (k : TLE ex P F N ops l K ⟨s', h'⟩) : TLE ex P F N ops l K ⟨s, h⟩ := TL_sub (fun φ _ _ hr => ⟨φ, hr.freeze hF hl hs hh⟩) k
theorem T_freeze (id : Nat) {sz : Nat} {kd : Kd} {E : TypeId} {es : List AV} (hF : lk F.η id = none) (hl : lk h id = some (.arr kd sz E es)) (hs : frzS id sz es s = some s') (hh : frzH id sz es h = some h')
    (k : T P F N c Q ⟨s', h'⟩) : T P F N c Q ⟨s, h⟩ := T_sub (fun φ _ _ hr => ⟨φ, hr.freeze hF hl hs hh⟩) k
theorem TR_freeze (id : Nat) {sz : Nat} {kd : Kd} {E : TypeId} {es : List AV} (hF : lk F.η id = none) (hl : lk h id = some (.arr kd sz E es)) (hs : frzS id sz es s = some s') (hh : frzH id sz es h = some h')
    (k : TR P F N c Q ⟨s', h'⟩) : TR P F N c Q ⟨s, h⟩ := TR_sub (fun φ _ _ hr => ⟨φ, hr.freeze hF hl hs hh⟩) k

end
end
end Go.AM
