/- The nil slice read as an empty one, wherever it lies; loops with their exits; comparisons with nil. -/
import Derived.Test.YtlijhkhbdfgapaaAmZe
namespace Go.AM
open Go

mutual
def NilR : AV → AV → Prop
  | .snil, y => y = .snil ∨ ∃ n, y = .sl n []
  | .agg xs, y => ∃ ys, y = .agg ys ∧ NilRL xs ys
  | .tup xs, y => ∃ ys, y = .tup ys ∧ NilRL xs ys
  | .cp xs, y => ∃ ys, y = .cp ys ∧ NilRL xs ys
  | .fn f as bs, y => ∃ ys zs, y = .fn f ys zs ∧ NilRL as ys ∧ NilRL bs zs
  | .int k n, y => y = .int k n
  | .bool b, y => y = .bool b
  | .str b, y => y = .str b
  | .sl n es, y => y = .sl n es
  | .nilp, y => y = .nilp
  | .nilf, y => y = .nilf
  | .ptr i k o, y => y = .ptr i k o
  | .ow i, y => y = .ow i
  | .mp i, y => y = .mp i
  | .sub i n, y => y = .sub i n
  | .junk, y => y = .junk
def NilRL : List AV → List AV → Prop
  | [], ys => ys = []
  | x :: r, ys => ∃ y s, ys = y :: s ∧ NilR x y ∧ NilRL r s
end

theorem NilRL_get : ∀ {xs ys : List AV}, NilRL xs ys → ys.length = xs.length ∧ ∀ (i : Nat) x y, xs[i]? = some x → ys[i]? = some y → NilR x y := by
  intro xs
  induction xs with
  | nil => intro ys h; simp only [NilRL] at h; subst h; exact ⟨rfl, fun i x y hx => by simp at hx⟩
  | cons x r ih =>
    intro ys h
    simp only [NilRL] at h
    obtain ⟨y, s, rfl, h1, h2⟩ := h
    obtain ⟨h3, h4⟩ := ih h2
    refine ⟨by simp [h3], fun i a b ha hb => ?_⟩
    cases i with
    | zero => simp at ha hb; subst ha hb; exact h1
    | succ i => simp at ha hb; exact h4 i a b ha hb

mutual
theorem NilR_T {S : Nat → Prop} {w : World} : ∀ (x y : AV) (v : Value), NilR x y → RepT S w x v → RepT S w y v
  | .snil, y, v, h, hv => by
    simp only [NilR] at h
    cases hv
    rcases h with rfl | ⟨n, rfl⟩
    · exact .snil
    · exact .sl0 _ _ _ (fun _ => rfl)
  | .agg xs, y, v, h, hv => by
    simp only [NilR] at h
    obtain ⟨ys, rfl, hl⟩ := h
    cases hv with
    | agg _ vs h1 h2 => obtain ⟨h3, h4⟩ := NilRL_T xs ys hl; exact .agg ys vs (by rw [h3]; exact h1) (fun i y v hy hv => h4 i y v hy (fun x hx => h2 i x v hx hv))
  | .tup xs, y, v, h, hv => by
    simp only [NilR] at h
    obtain ⟨ys, rfl, hl⟩ := h
    cases hv with
    | tup _ vs h1 h2 => obtain ⟨h3, h4⟩ := NilRL_T xs ys hl; exact .tup ys vs (by rw [h3]; exact h1) (fun i y v hy hv => h4 i y v hy (fun x hx => h2 i x v hx hv))
  | .cp xs, y, v, h, hv => by
    simp only [NilR] at h
    obtain ⟨ys, rfl, hl⟩ := h
    cases hv with
    | cp _ b off f hb h1 h2 =>
      obtain ⟨h3, h4⟩ := NilRL_T xs ys hl
      have hx : ∀ (j : Nat) y, ys[j]? = some y → ∃ x, xs[j]? = some x := fun j y hy => ⟨xs[j]'(by rw [← h3]; exact (List.getElem?_eq_some_iff.1 hy).1), by simp⟩
      exact .cp ys b off f hb (fun j y hy => by obtain ⟨x, hx⟩ := hx j y hy; exact h1 j x hx) (fun j y hy => h4 j y _ hy (fun x hx => h2 j x hx))
  | .fn f as bs, y, v, h, hv => by
    simp only [NilR] at h
    obtain ⟨ys, zs, rfl, hl1, hl2⟩ := h
    cases hv with
    | fn _ _ _ us ws h1 h2 h3 h4 =>
      obtain ⟨g1, g2⟩ := NilRL_T as ys hl1
      obtain ⟨g3, g4⟩ := NilRL_T bs zs hl2
      exact .fn f ys zs us ws (by rw [g1]; exact h1) (by rw [g3]; exact h2) (fun i y v hy hv => g2 i y v hy (fun x hx => h3 i x v hx hv)) (fun i y v hy hv => g4 i y v hy (fun x hx => h4 i x v hx hv))
  | .int k n, y, v, h, hv => by simp only [NilR] at h; subst h; exact hv
  | .bool b, y, v, h, hv => by simp only [NilR] at h; subst h; exact hv
  | .str b, y, v, h, hv => by simp only [NilR] at h; subst h; exact hv
  | .sl n es, y, v, h, hv => by simp only [NilR] at h; subst h; exact hv
  | .nilp, y, v, h, hv => by simp only [NilR] at h; subst h; exact hv
  | .nilf, y, v, h, hv => by simp only [NilR] at h; subst h; exact hv
  | .ptr i k o, y, v, h, hv => by simp only [NilR] at h; subst h; exact hv
  | .ow i, y, v, h, hv => by simp only [NilR] at h; subst h; exact hv
  | .mp i, y, v, h, hv => by simp only [NilR] at h; subst h; exact hv
  | .sub i n, y, v, h, hv => by simp only [NilR] at h; subst h; exact hv
  | .junk, y, v, h, hv => by simp only [NilR] at h; subst h; exact hv
theorem NilRL_T {S : Nat → Prop} {w : World} : ∀ (xs ys : List AV), NilRL xs ys → ys.length = xs.length ∧
    ∀ (i : Nat) y v, ys[i]? = some y → (∀ x, xs[i]? = some x → RepT S w x v) → RepT S w y v
  | [], ys, h => by simp only [NilRL] at h; subst h; exact ⟨rfl, fun i y v hy => by simp at hy⟩
  | x :: r, ys, h => by
    simp only [NilRL] at h
    obtain ⟨y, s, rfl, h1, h2⟩ := h
    obtain ⟨h3, h4⟩ := NilRL_T (S := S) (w := w) r s h2
    refine ⟨by simp [h3], fun i b v hb hv => ?_⟩
    cases i with
    | zero => simp at hb; subst hb; exact NilR_T x y v h1 (hv x (by simp))
    | succ i => simp at hb; exact h4 i b v hb (fun x hx => hv x (by simpa using hx))
end

mutual
theorem NilR_V {S : Nat → Prop} {w : World} {φ : Nat → Loc} {η : Heap} : ∀ (x y : AV) (v : Value), NilR x y → RepV S w φ η x v → RepV S w φ η y v
  | .agg xs, y, v, h, hv => by
    simp only [NilR] at h
    obtain ⟨ys, rfl, hl⟩ := h
    obtain ⟨vs, rfl, h1, h2⟩ := hv.agg_inv
    obtain ⟨h3, h4⟩ := NilRL_V (S := S) (w := w) (φ := φ) (η := η) xs ys hl
    exact .agg ys vs (by rw [h3]; exact h1) (fun i y v hy hv => h4 i y v hy (fun x hx => h2 i x v hx hv))
  | .tup xs, y, v, h, hv => by
    simp only [NilR] at h
    obtain ⟨ys, rfl, hl⟩ := h
    obtain ⟨vs, rfl, h1, h2⟩ := hv.tup_inv
    obtain ⟨h3, h4⟩ := NilRL_V (S := S) (w := w) (φ := φ) (η := η) xs ys hl
    exact .tup ys vs (by rw [h3]; exact h1) (fun i y v hy hv => h4 i y v hy (fun x hx => h2 i x v hx hv))
  | .fn f as bs, y, v, h, hv => by
    simp only [NilR] at h
    obtain ⟨ys, zs, rfl, hl1, hl2⟩ := h
    obtain ⟨us, ws, rfl, h1, h2, h3, h4⟩ := hv.fn_inv
    obtain ⟨g1, g2⟩ := NilRL_V (S := S) (w := w) (φ := φ) (η := η) as ys hl1
    obtain ⟨g3, g4⟩ := NilRL_V (S := S) (w := w) (φ := φ) (η := η) bs zs hl2
    exact .fn f ys zs us ws (by rw [g1]; exact h1) (by rw [g3]; exact h2) (fun i y v hy hv => g2 i y v hy (fun x hx => h3 i x v hx hv)) (fun i y v hy hv => g4 i y v hy (fun x hx => h4 i x v hx hv))
  | .snil, y, v, h, hv => by cases hv with | pure hv => exact .pure (NilR_T _ _ _ h hv)
  | .cp xs, y, v, h, hv => by cases hv with | pure hv => exact .pure (NilR_T _ _ _ h hv)
  | .int k n, y, v, h, hv => by simp only [NilR] at h; subst h; exact hv
  | .bool b, y, v, h, hv => by simp only [NilR] at h; subst h; exact hv
  | .str b, y, v, h, hv => by simp only [NilR] at h; subst h; exact hv
  | .sl n es, y, v, h, hv => by simp only [NilR] at h; subst h; exact hv
  | .nilp, y, v, h, hv => by simp only [NilR] at h; subst h; exact hv
  | .nilf, y, v, h, hv => by simp only [NilR] at h; subst h; exact hv
  | .ptr i k o, y, v, h, hv => by simp only [NilR] at h; subst h; exact hv
  | .ow i, y, v, h, hv => by simp only [NilR] at h; subst h; exact hv
  | .mp i, y, v, h, hv => by simp only [NilR] at h; subst h; exact hv
  | .sub i n, y, v, h, hv => by simp only [NilR] at h; subst h; exact hv
  | .junk, y, v, h, hv => by simp only [NilR] at h; subst h; exact hv
theorem NilRL_V {S : Nat → Prop} {w : World} {φ : Nat → Loc} {η : Heap} : ∀ (xs ys : List AV), NilRL xs ys → ys.length = xs.length ∧
    ∀ (i : Nat) y v, ys[i]? = some y → (∀ x, xs[i]? = some x → RepV S w φ η x v) → RepV S w φ η y v
  | [], ys, h => by simp only [NilRL] at h; subst h; exact ⟨rfl, fun i y v hy => by simp at hy⟩
  | x :: r, ys, h => by
    simp only [NilRL] at h
    obtain ⟨y, s, rfl, h1, h2⟩ := h
    obtain ⟨h3, h4⟩ := NilRL_V (S := S) (w := w) (φ := φ) (η := η) r s h2
    refine ⟨by simp [h3], fun i b v hb hv => ?_⟩
    cases i with
    | zero => simp at hb; subst hb; exact NilR_V x y v h1 (hv x (by simp))
    | succ i => simp at hb; exact h4 i b v hb (fun x hx => hv x (by simpa using hx))
end

theorem NilR_refl : ∀ (x : AV), NilR x x := by
  intro x
  have h : (∀ x, NilR x x) ∧ ∀ l, NilRL l l := by
    refine ⟨fun x => AV.rec (motive_1 := fun x => NilR x x) (motive_2 := fun l => NilRL l l) ?_ ?_ ?_ ?_ ?_ ?_ ?_ ?_ ?_ ?_ ?_ ?_ ?_ ?_ ?_ ?_ ?_ ?_ x,
      fun l => AV.rec_1 (motive_1 := fun x => NilR x x) (motive_2 := fun l => NilRL l l) ?_ ?_ ?_ ?_ ?_ ?_ ?_ ?_ ?_ ?_ ?_ ?_ ?_ ?_ ?_ ?_ ?_ ?_ l⟩
    all_goals intros; simp only [NilR, NilRL]
    all_goals first | rfl | (exact .inl rfl) | (exact .inl trivial) | (exact ⟨_, rfl, by assumption⟩) | (exact ⟨_, _, rfl, by assumption, by assumption⟩) | trivial
  exact h.1 x

theorem ACall.nil {P : Program} {f : FuncId} {xs ys : List AV} {L L' : Heap} {r : AV} (hc : ACall P f xs L r L') (hn : NilRL ys xs) : ACall P f ys L r L' := by
  intro w S φ vs hH hvs
  obtain ⟨h1, h2⟩ := NilRL_V (S := S) (w := w) (φ := φ) (η := L) ys xs hn
  exact hc w S φ vs hH ⟨by rw [h1]; exact hvs.1, fun i x v hx hv => h2 i x v hx (fun y hy => hvs.2 i y v hy hv)⟩

section
variable {P : Program} {F : Fr} {N : Nat} {Q : Exit → St → Prop} {st : St} {c : Code}
variable {ops : Array Oper} {l : List Oper} {KK : St → Prop} {ex : Bool} {s s' : Slots} {h h' : Heap}

theorem RelP.nilAt {φ : Nat → Loc} {a : Act} {w : World} {i : Nat} {x x' : AV} (hr : RelP F N ⟨s, h⟩ φ a w) (hi : lk s i = some x) (hn : NilR x x') (hs : sput s i x' = some s') : RelP F N ⟨s', h⟩ φ a w := by
  refine ⟨hr.size, hr.defers, hr.sys, hr.grow, hr.heap, fun j y hy => ?_, hr.mine, hr.fix, hr.keep, hr.frame⟩
  have hy' : lk s' j = some y := hy
  rw [lk_sput hs] at hy'
  split at hy'
  · cases hy'
    rename_i hij; subst hij
    obtain ⟨v, hv, hrep⟩ := hr.slots _ _ hi
    exact ⟨v, hv, NilR_V x x' v hn hrep⟩
  · exact hr.slots j y hy'

theorem T_nilAt (i : Nat) {x x' : AV} (hi : lk s i = some x) (hn : NilR x x') (hs : sput s i x' = some s') (k : T P F N c Q ⟨s', h⟩) : T P F N c Q ⟨s, h⟩ := T_sub (fun φ _ _ hr => ⟨φ, hr.nilAt hi hn hs⟩) k
theorem TL_nilAt (i : Nat) {x x' : AV} (hi : lk s i = some x) (hn : NilR x x') (hs : sput s i x' = some s') (k : TLE ex P F N ops l KK ⟨s', h⟩) : TLE ex P F N ops l KK ⟨s, h⟩ := TL_sub (fun φ _ _ hr => ⟨φ, hr.nilAt hi hn hs⟩) k
theorem TR_nilAt (i : Nat) {x x' : AV} (hi : lk s i = some x) (hn : NilR x x') (hs : sput s i x' = some s') (k : TR P F N c Q ⟨s', h⟩) : TR P F N c Q ⟨s, h⟩ := TR_sub (fun φ _ _ hr => ⟨φ, hr.nilAt hi hn hs⟩) k
theorem TZ_nilAt {Z : List Nat} {fuel : Nat} {listed : List Bool} (i : Nat) {x x' : AV} (hi : lk s i = some x) (hn : NilR x x') (hs : sput s i x' = some s') (k : TZ P F N ops Z fuel listed KK ⟨s', h⟩) : TZ P F N ops Z fuel listed KK ⟨s, h⟩ :=
  TZ_sub (fun φ _ _ hr => ⟨φ, hr.nilAt hi hn hs⟩) k

/-- The nil slice within a variable. -/
theorem RelP.nilBox {φ : Nat → Loc} {a : Act} {w : World} {id : Nat} {cs cs' : List AV} (hr : RelP F N ⟨s, h⟩ φ a w) (hl : lk h id = some (.box cs)) (hn : NilRL cs cs') (hh : sput h id (.box cs') = some h') : RelP F N ⟨s, h'⟩ φ a w := by
  obtain ⟨n1, n2⟩ := NilRL_get hn
  have hlk := lk_sput hh
  have hal : headsAlike φ φ h h' := by
    refine ⟨fun i cs1 hi _ => ⟨?_, rfl⟩, fun i k1 sz E1 es hi => ⟨rfl, k1, es, rfl, ?_⟩⟩
    · by_cases hid : id = i
      · subst hid; exact ⟨_, by rw [hlk, if_pos rfl]⟩
      · exact ⟨cs1, by rw [hlk, if_neg hid]; exact hi⟩
    · have hid : id ≠ i := fun e => by subst e; rw [hl] at hi; cases hi
      rw [hlk, if_neg hid]; exact hi
  obtain ⟨hm, C, E, hC, hsz, hrep⟩ := hr.heap.obj _ _ hl
  refine hr.upd hh (fun _ _ => rfl) (SameSys.refl w) (Nat.le_refl _) (fun _ _ _ => rfl) (fun b hbo => .inr ⟨_, hl, hbo⟩) (fun o1 h1 h2 => hr.fix id o1 h1 h2) (fun o ho => by rw [hl] at ho; cases ho; trivial)
    (fun hS hw x v _ hv => hv.mono hS hw hal) (fun hS hw => ⟨hm, C, E, hC, by rw [hsz]; exact n1.symm, fun i y v hy hv => ?_⟩)
  obtain ⟨x, hx⟩ : ∃ x, cs[i]? = some x := ⟨cs[i]'(by rw [← n1]; exact (List.getElem?_eq_some_iff.1 hy).1), by simp⟩
  exact (NilR_V x y v (n2 i x y hx hy) (hrep i x v hx hv)).mono hS hw hal
theorem T_nilBox (id : Nat) {cs cs' : List AV} (hl : lk h id = some (.box cs)) (hn : NilRL cs cs') (hh : sput h id (.box cs') = some h') (k : T P F N c Q ⟨s, h'⟩) : T P F N c Q ⟨s, h⟩ := T_sub (fun φ _ _ hr => ⟨φ, hr.nilBox hl hn hh⟩) k
theorem TR_nilBox (id : Nat) {cs cs' : List AV} (hl : lk h id = some (.box cs)) (hn : NilRL cs cs') (hh : sput h id (.box cs') = some h') (k : TR P F N c Q ⟨s, h'⟩) : TR P F N c Q ⟨s, h⟩ := TR_sub (fun φ _ _ hr => ⟨φ, hr.nilBox hl hn hh⟩) k

/-- A nil slice, or one of the cells of a struct or a variable, becomes an array of one's own: at any cell of a variable. -/
theorem RelP.ownNilBox {φ : Nat → Loc} {a : Act} {w : World} {bid k id sz : Nat} {kd : Kd} {E : TypeId} {cs cs' : List AV} {h1 : Heap} (hr : RelP F N ⟨s, h⟩ φ a w) (hb : lk h bid = some (.box cs)) (hk : cs[k]? = some .snil)
    (hl : lk h id = none) (hsz : 0 < sz) (hh1 : sput h id (.arr kd sz E []) = some h1) (hc : cs' = cs.set k (.ow id)) (hh : sput h1 bid (.box cs') = some h') : Rel F N ⟨s, h'⟩ a w := by
  have h2 := hr.newNil none hl hh1 hsz
  have hlk1 := lk_sput hh1
  have hlk := lk_sput hh
  have hne : id ≠ bid := fun e => by subst e; rw [hl] at hb; cases hb
  have hb1 : lk h1 bid = some (.box cs) := by rw [hlk1, if_neg hne]; exact hb
  have h1id : lk h1 id = some (.arr kd sz E []) := by rw [hlk1, if_pos rfl]
  generalize hφ : updLoc φ id { mkLoc 0 0 false with va := none } = φ' at h2
  have hloc : φ' id = mkLoc 0 0 false := by rw [← hφ, updLoc_same]
  have hal : headsAlike φ' φ' h1 h' := by
    refine ⟨fun i cs1 hi _ => ⟨?_, rfl⟩, fun i k1 sz E1 es hi => ⟨rfl, k1, es, rfl, ?_⟩⟩
    · by_cases hid : bid = i
      · subst hid; exact ⟨_, by rw [hlk, if_pos rfl]⟩
      · exact ⟨cs1, by rw [hlk, if_neg hid]; exact hi⟩
    · have hid : bid ≠ i := fun e => by subst e; rw [hb1] at hi; cases hi
      rw [hlk, if_neg hid]; exact hi
  obtain ⟨hm, C, E', hC, hsz', hrep⟩ := h2.heap.obj _ _ hb1
  refine ⟨φ', h2.upd hh (fun _ _ => rfl) (SameSys.refl w) (Nat.le_refl _) (fun _ _ _ => rfl) (fun b hbo => .inr ⟨_, hb1, hbo⟩) (fun o1 h3 h4 => h2.fix bid o1 h3 h4) (fun o ho => by rw [hb1] at ho; cases ho; trivial)
    (fun hS hw x v _ hv => hv.mono hS hw hal) (fun hS hw => ⟨hm, C, E', hC, by rw [hc, List.length_set]; exact hsz', fun i y v hy hv => ?_⟩)⟩
  subst hc
  rw [List.getElem?_set] at hy
  split at hy
  · rename_i hki; subst hki
    split at hy
    · cases hy
      have hvn : v = .slice none 0 0 := by
        have := hrep k _ v hk hv
        cases this with
        | pure h => cases h; rfl
      subst hvn
      have := RepV.ow0 (S := Stab F w φ' h') (w := w) (φ := φ') (η := h') (id := id) (k := kd) (sz := sz) (E := E) (by rw [hlk, if_neg (Ne.symm hne)]; exact h1id) (by rw [hloc])
      rw [hloc] at this
      exact this
    · cases hy
  · exact (hrep i y v hy hv).mono hS hw hal
theorem T_ownNilBox (bid k id : Nat) {sz : Nat} (kd : Kd) (E : TypeId) {cs cs' : List AV} {h1 : Heap} (hb : lk h bid = some (.box cs)) (hk : cs[k]? = some .snil)
    (hl : lk h id = none) (hsz : Nat.blt 0 sz = true) (hh1 : sput h id (.arr kd sz E []) = some h1) (hc : cs' = cs.set k (.ow id)) (hh : sput h1 bid (.box cs') = some h') (q : T P F N c Q ⟨s, h'⟩) : T P F N c Q ⟨s, h⟩ :=
  T_sub (fun _ _ _ hr => hr.ownNilBox hb hk hl (Nat.le_of_ble_eq_true hsz) hh1 hc hh) q
theorem TR_ownNilBox (bid k id : Nat) {sz : Nat} (kd : Kd) (E : TypeId) {cs cs' : List AV} {h1 : Heap} (hb : lk h bid = some (.box cs)) (hk : cs[k]? = some .snil)
    (hl : lk h id = none) (hsz : Nat.blt 0 sz = true) (hh1 : sput h id (.arr kd sz E []) = some h1) (hc : cs' = cs.set k (.ow id)) (hh : sput h1 bid (.box cs') = some h') (q : TR P F N c Q ⟨s, h'⟩) : TR P F N c Q ⟨s, h⟩ :=
  TR_sub (fun _ _ _ hr => hr.ownNilBox hb hk hl (Nat.le_of_ble_eq_true hsz) hh1 hc hh) q
theorem TR_ownNil (i id : Nat) {sz : Nat} (kd : Kd) (E : TypeId) (hi : lk s i = some .snil) (hl : lk h id = none) (hsz : Nat.blt 0 sz = true) (hh : sput h id (.arr kd sz E []) = some h')
    (hs : sput s i (.ow id) = some s') (k : TR P F N c Q ⟨s', h'⟩) : TR P F N c Q ⟨s, h⟩ := TR_sub (fun _ _ _ hr => hr.ownNil hi hl (Nat.le_of_ble_eq_true hsz) hh hs) k
theorem TR_ownNilAt (i k id : Nat) {sz : Nat} (kd : Kd) (E : TypeId) {cs cs' : List AV} (hi : lk s i = some (.agg cs)) (hk : cs[k]? = some .snil) (hl : lk h id = none) (hsz : Nat.blt 0 sz = true)
    (hh : sput h id (.arr kd sz E []) = some h') (hc : cs' = cs.set k (.ow id)) (hs : sput s i (.agg cs') = some s') (q : TR P F N c Q ⟨s', h'⟩) : TR P F N c Q ⟨s, h⟩ := TR_sub (fun _ _ _ hr => hr.ownNilAt hi hk hl (Nat.le_of_ble_eq_true hsz) hh hc hs) q
theorem TL_ownNilAt (i k id : Nat) {sz : Nat} (kd : Kd) (E : TypeId) {cs cs' : List AV} (hi : lk s i = some (.agg cs)) (hk : cs[k]? = some .snil) (hl : lk h id = none) (hsz : Nat.blt 0 sz = true)
    (hh : sput h id (.arr kd sz E []) = some h') (hc : cs' = cs.set k (.ow id)) (hs : sput s i (.agg cs') = some s') (q : TLE ex P F N ops l KK ⟨s', h'⟩) : TLE ex P F N ops l KK ⟨s, h⟩ := TL_sub (fun _ _ _ hr => hr.ownNilAt hi hk hl (Nat.le_of_ble_eq_true hsz) hh hc hs) q
theorem TR_deepen {k k' : Kd} {sz : Nat} {E : TypeId} {es : List AV} (id : Nat) {p p' : Bool} (es' : List AV) (hF : lk F.η id = none) (hl : lk h id = some (.arr ⟨p, false⟩ sz E es)) (he : ElR es es')
    (hn1 : s.all (fun q => noSub id q.2) = true) (hn2 : noSubH id h = true) (hh : sput h id (.arr ⟨p', true⟩ sz E es') = some h') (q : TR P F N c Q ⟨s, h'⟩) : TR P F N c Q ⟨s, h⟩ := TR_sub (fun _ _ _ hr => hr.deepen hF hl he hn1 hn2 hh) q
theorem TR_undeep {sz : Nat} {E : TypeId} {es : List AV} (id : Nat) {p p' : Bool} (hF : lk F.η id = none) (hl : lk h id = some (.arr ⟨p, true⟩ sz E es)) (he : ElR es es)
    (hh : sput h id (.arr ⟨p', false⟩ sz E es) = some h') (q : TR P F N c Q ⟨s, h'⟩) : TR P F N c Q ⟨s, h⟩ := TR_sub (fun _ _ _ hr => hr.undeep hF hl he hh) q
theorem TR_pin {sz : Nat} {E : TypeId} {es : List AV} (id : Nat) {k k' : Kd} (hF : lk F.η id = none) (hl : lk h id = some (.arr k sz E es)) (hd : k'.d = k.d)
    (hh : sput h id (.arr k' sz E es) = some h') (q : TR P F N c Q ⟨s, h'⟩) : TR P F N c Q ⟨s, h⟩ := TR_sub (fun _ _ _ hr => hr.pin hF hl hd hh) q

/-! ### Loops and where they lead -/

theorem TR_forL2 {α σ τ : Type} (xs : List α) (step : Nat → α → σ → Option (Ctl σ τ)) (fin : σ → τ) (inv : Nat → σ → St) (E : τ → Exit) (J : τ → St) (K : τ → Prop) {s0 : σ} {t : τ} (hl : forL step fin 0 xs s0 = some t) (hk : K t)
    (hex : ∀ t, K t → Q (E t) (J t))
    (hend : (∀ t, K t → Q (E t) (J t)) → ∀ s, K (fin s) → T P F N c (Post.seq (TR P F N c Q) Q) (inv xs.length s))
    (hbody : (∀ t, K t → Q (E t) (J t)) → ∀ n x s ctl, xs[n]? = some x → n < xs.length → step n x s = some ctl → CtlOK (fun s' => ∀ st, st = inv (n + 1) s' → TR P F N c Q st) K ctl → T P F N c (Post.seq (TR P F N c Q) Q) (inv n s)) :
    TR P F N c Q (inv 0 s0) := TR_forL xs step fin inv K hl hk (hend hex) (hbody hex)
theorem TR_iter2 {σ τ : Type} (step : σ → Option (Ctl σ τ)) (inv : σ → St) (E : τ → Exit) (J : τ → St) (K : τ → Prop) {s0 : σ} {t : τ} (hl : iter step s0 = some t) (hk : K t)
    (hex : ∀ t, K t → Q (E t) (J t))
    (hbody : (∀ t, K t → Q (E t) (J t)) → ∀ s ctl, step s = some ctl → CtlOK (fun s' => ∀ st, st = inv s' → TR P F N c Q st) K ctl → T P F N c (Post.seq (TR P F N c Q) Q) (inv s)) :
    TR P F N c Q (inv s0) := TR_iter step inv K hl hk (hbody hex)
theorem someI {α : Type} {a b : α} (h : some a = some b) : a = b := Option.some.inj h
theorem CtlOK_out {σ τ : Type} {R : σ → Prop} {K : τ → Prop} {t : τ} (h : CtlOK R K (.out t)) : K t := h
theorem CtlOK_next {σ τ : Type} {R : σ → Prop} {K : τ → Prop} {s : σ} (h : CtlOK R K (.next s)) : R s := h

end
end Go.AM
