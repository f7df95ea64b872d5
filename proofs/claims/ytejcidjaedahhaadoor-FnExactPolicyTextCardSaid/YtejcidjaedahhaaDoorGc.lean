import Derived.Test.YtejcidjaedahhaaDoorGb
import Derived.MapKept
import Derived.WideKeyRuns
import Derived.Laws.BytesArg
import Derived.Below
namespace Go.AM
open Go
def renSl (ρ : List (Nat × Nat)) : Slots → Option Slots
  | [] => some []
  | (k, x) :: r => match renO ρ x with
    | some y => match renSl ρ r with
      | some l => some ((k, y) :: l)
      | none => none
    | none => none
theorem renSl_spec {ρ : List (Nat × Nat)} : ∀ {s s' : Slots}, renSl ρ s = some s' → ∀ i y, lk s' i = some y → ∃ x, lk s i = some x ∧ Ren (fun i j => lk ρ i = some j) x y := by
  intro s
  induction s with
  | nil => intro s' e i y hy; cases e; cases hy
  | cons p s ih =>
    obtain ⟨k, x⟩ := p
    intro s' e i y hy
    unfold renSl at e
    cases hx : renO ρ x with
    | none => simp [hx] at e
    | some z =>
      simp only [hx] at e
      cases hr : renSl ρ s with
      | none => simp [hr] at e
      | some l =>
        simp only [hr, Option.some.injEq] at e
        subst e
        rw [lk_cons] at hy ⊢
        split at hy
        · cases hy; rename_i hk; rw [if_pos hk]; exact ⟨x, rfl, renO_spec x y hx⟩
        · rename_i hk; rw [if_neg hk]; exact ih hr i y hy
section
variable {P : Program} {F : Fr} {N : Nat} {Q : Exit → St → Prop} {st : St} {c : Code}
variable {ops : Array Oper} {l : List Oper} {KK : St → Prop} {ex : Bool} {s s' : Slots} {h h' : Heap}
theorem RelP.ren {ρ : List (Nat × Nat)} {φ : Nat → Loc} {a : Act} {w : World} (hr : RelP F N ⟨s, h⟩ φ a w) (hinj : injB ρ = true) (hs : renSl ρ s = some s') (hh : renH ρ h = some h')
    (hF : F.η.all (fun p => match lk ρ p.1 with | some j => Nat.beq j p.1 | none => false) = true) : Rel F N ⟨s', h'⟩ a w := by
  obtain ⟨r1, r2⟩ := renH_spec hinj hh
  have hFe : ∀ i o, lk F.η i = some o → lk ρ i = some i := by
    intro i o ho
    have := List.all_eq_true.1 hF _ (lk_mem ho)
    simp only at this
    cases hl : lk ρ i with
    | none => rw [hl] at this; cases this
    | some j => rw [hl] at this; rw [(beq_iff _ _).1 this]
  have hplace : ∃ φ' : Nat → Loc, ∀ i j, lk ρ i = some j → φ' j = φ i := by
    classical
    refine ⟨fun j => if h : ∃ i, lk ρ i = some j then φ (Classical.choose h) else φ j, fun i j e => ?_⟩
    have hex : ∃ i, lk ρ i = some j := ⟨i, e⟩
    show (if h : ∃ i, lk ρ i = some j then φ (Classical.choose h) else φ j) = φ i
    rw [dif_pos hex, injB_inj hinj (Classical.choose_spec hex) e]
  obtain ⟨φ', hφ⟩ := hplace
  have hS : ∀ b, Stab F w φ h b → Stab F w φ' h' b := by
    intro b hb
    refine ⟨hb.1, hb.2.1, fun j o ho hm => ?_⟩
    obtain ⟨i, o', e1, e2, _⟩ := r2 j o ho
    rw [hφ i j e1] at hm
    exact hb.2.2 i o' e2 hm
  have hR : ∀ {x y v}, Ren (fun i j => lk ρ i = some j) x y → RepV (Stab F w φ h) w φ h x v → RepV (Stab F w φ' h') w φ' h' y v := fun hxy hv =>
    hv.ren hS (fun _ _ => rfl) (fun i j e => by
      refine ⟨fun _ _ => hφ i j e, fun k sz E es ho => ?_, fun cs ho => ?_⟩
      · obtain ⟨j', o', e1, e2, e3⟩ := r1 i _ ho
        rw [e] at e1; cases e1
        cases o' with
        | box _ => exact e3.elim
        | arr _ _ _ _ => obtain ⟨rfl, rfl, rfl, rfl⟩ := e3; exact ⟨_, _, rfl, e2⟩
      · obtain ⟨j', o', e1, e2, e3⟩ := r1 i _ ho
        rw [e] at e1; cases e1
        cases o' with
        | box cs' => exact ⟨cs', e2⟩
        | arr _ _ _ _ => exact e3.elim) hxy
  refine ⟨φ', hr.size, hr.defers, hr.sys, hr.grow, ⟨fun j o ho => ?_, fun i j oi oj b hi hj hmi hmj => ?_, fun b hb => hb.1, fun i o b ho hm hst => hst.2.2 i o ho hm, fun j o b ho hm => ?_⟩,
    fun i x hx => ?_, fun j o b ho hm => ?_, fun i o hi hb => ?_, fun i o hi => ?_, hr.frame⟩
  · obtain ⟨i, o', e1, e2, e3⟩ := r2 j o ho
    have hok := hr.heap.obj i o' e2
    cases o' with
    | box cs =>
      cases o with
      | arr _ _ _ _ => exact e3.elim
      | box cs' =>
        obtain ⟨hm, C, E, hC, hsz, hrep⟩ := hok
        refine ⟨by rw [hφ i j e1]; exact hm, C, E, by rw [hφ i j e1]; exact hC.len e3.1.symm, by rw [hsz]; exact e3.1, fun n y v hy hv => ?_⟩
        obtain ⟨x, hx⟩ : ∃ x, cs[n]? = some x := ⟨cs[n]'(by rw [e3.1]; exact (List.getElem?_eq_some_iff.1 hy).1), by simp⟩
        exact hR (e3.2 n x y hx hy) (hrep n x v hx hv)
    | arr k sz E es =>
      cases o with
      | box _ => exact e3.elim
      | arr _ _ _ _ =>
        obtain ⟨rfl, rfl, rfl, rfl⟩ := e3
        obtain ⟨h0, hl, hone, hob⟩ := hok
        refine ⟨h0, hl, hone, ?_⟩
        rw [hφ i j e1]
        rcases hob with hob | ⟨hm, C, hC, h1, h2, h3, h4⟩
        · exact .inl hob
        · exact .inr ⟨hm, C, hC, h1, h2, h3, h4.mono hS (fun _ _ => rfl) (fun _ _ _ => rfl) rfl⟩
  · obtain ⟨i1, o1, e1, e2, _⟩ := r2 i oi hi
    obtain ⟨i2, o2, f1, f2, _⟩ := r2 j oj hj
    rw [hφ i1 i e1] at hmi
    rw [hφ i2 j f1] at hmj
    have := hr.heap.injO i1 i2 o1 o2 b e2 f2 hmi hmj
    subst this
    rw [e1] at f1
    cases f1
    rfl
  · obtain ⟨i, o', e1, e2, _⟩ := r2 j o ho
    rw [hφ i j e1] at hm
    exact hr.heap.ltO i o' b e2 hm
  · obtain ⟨y, hy, hxy⟩ := renSl_spec hs i x hx
    obtain ⟨v, hv, hrep⟩ := hr.slots i y hy
    exact ⟨v, hv, hR hxy hrep⟩
  · obtain ⟨i, o', e1, e2, _⟩ := r2 j o ho
    rw [hφ i j e1] at hm
    rcases hr.mine i o' b e2 hm with h1 | ⟨o0, h1, h2⟩
    · exact .inl h1
    · right
      have := hFe i o0 h1
      rw [e1] at this
      cases this
      exact ⟨o0, h1, h2⟩
  · rw [hφ i i (hFe i o hi)]; exact hr.fix i o hi hb
  · obtain ⟨o', ho', hal⟩ := hr.keep i o hi
    obtain ⟨j, o2, e1, e2, e3⟩ := r1 i o' ho'
    rw [hFe i o hi] at e1
    cases e1
    refine ⟨o2, e2, AO.alike_trans hal ?_⟩
    cases o' <;> cases o2 <;> first | trivial | exact e3.elim | (obtain ⟨rfl, rfl, rfl, rfl⟩ := e3; exact AO.alike_refl _)
theorem T_ren (ρ : List (Nat × Nat)) (hinj : injB ρ = true) (hs : renSl ρ s = some s') (hh : renH ρ h = some h')
    (hF : F.η.all (fun p => match lk ρ p.1 with | some j => Nat.beq j p.1 | none => false) = true) (k : T P F N c Q ⟨s', h'⟩) : T P F N c Q ⟨s, h⟩ := T_sub (fun _ _ _ hr => hr.ren hinj hs hh hF) k
theorem T_join {ι : Type} {x y : Code} (J : ι → St) (M : ι → Prop) (hrest : ∀ i, M i → T P F N y Q (J i))
    (hfirst : (∀ i, M i → T P F N y Q (J i)) → T P F N x (Post.seq (T P F N y Q) Q) st) : T P F N (.seq x y) Q st := T_seq (hfirst hrest)
theorem TL_join {ι : Type} (n : Nat) (J : ι → St) (M : ι → Prop) (hrest : ∀ i, M i → TLE ex P F N ops (l.drop n) KK (J i))
    (hfirst : (∀ i, M i → TLE ex P F N ops (l.drop n) KK (J i)) → TLE ex P F N ops l KK st) : TLE ex P F N ops l KK st := hfirst hrest
end
theorem wrap_w64 (n : Int) : IntKind.i64.wrap n = w64 n := by
  rw [IntKind.wrap_i64]
  unfold w64
  omega
section
variable {P : Program} {s s' s1 : Slots} {h h' h1 : Heap} {dst : Option Tmp} {ty : TypeId} {pos : String} {after : Array Edge} {gd : Option (Nat × Bool)} {x y : Operand} {t : TypeId}
theorem op_lenT {sz n : Nat} {es : List AV} {e : TypeId} (hu : P.underlying t = some (.slice e)) (hx : aev s x = some (.sl sz es)) (hn : es.length = n) :
    OpP P ⟨dst, .call ⟨.builtin .len, #[x], #[t]⟩, ty, pos, after, gd⟩ s h (.int .i64 (n : Int)) := by subst hn; exact op_len_sl hu hx
theorem op_indexT {α : Type} {f : α → AV} {sz : Nat} {E : TypeId} {a : List α} {v : α} {cs : List AV} {k : IntKind} {i : Int} (ht : tyElem P t = some (E, sz))
    (hx : aev s x = some (.sl sz (a.map f))) (hy : aev s y = some (.int k i)) (hg : getI a i = some v) (hc : cellsO (f v) = some cs) :
    OpP P ⟨dst, .indexAddr t x y, ty, pos, after, gd⟩ s h (.cp cs) :=
  op_index_sl ht hx hy (getI_spec hg).1 (get_map (getI_spec hg).2) hc
theorem op_indexO {α : Type} {f : α → AV} {id sz : Nat} {kd : Kd} {E E' : TypeId} {a : List α} {v : α} {k : IntKind} {i : Int} (ht : tyElem P t = some (E, sz))
    (hx : aev s x = some (.ow id)) (hl : lk h id = some (.arr kd sz E' (a.map f))) (hy : aev s y = some (.int k i)) (hg : getI a i = some v) :
    OpP P ⟨dst, .indexAddr t x y, ty, pos, after, gd⟩ s h (.ptr id i.toNat 0) :=
  op_index_ow ht hx hl hy (getI_spec hg).1 (by simpa using getI_lt hg)
theorem op_addW {t' : TypeId} {a b : Int} (hx : aev s x = some (.int .i64 a)) (hy : aev s y = some (.int .i64 b)) : OpP P ⟨dst, .binOp .add t x y t', ty, pos, after, gd⟩ s h (.int .i64 (w64 (a + b))) := by
  rw [← wrap_w64]; exact op_add hx hy
theorem op_subW {t' : TypeId} {a b : Int} (hx : aev s x = some (.int .i64 a)) (hy : aev s y = some (.int .i64 b)) : OpP P ⟨dst, .binOp .sub t x y t', ty, pos, after, gd⟩ s h (.int .i64 (w64 (a - b))) := by
  rw [← wrap_w64]; exact op_sub hx hy
theorem op_negW {a : Int} (hx : aev s x = some (.int .i64 a)) : OpP P ⟨dst, .unOp .neg t x, ty, pos, after, gd⟩ s h (.int .i64 (w64 (0 - a))) := by
  rw [← wrap_w64]; exact op_neg hx
theorem op_addN {t' : TypeId} {n : Nat} (hx : aev s x = some (.int .i64 (n : Int))) (hy : aev s y = some (.int .i64 1)) (hf : n < 9223372036854775807) :
    OpP P ⟨dst, .binOp .add t x y t', ty, pos, after, gd⟩ s h (.int .i64 ((n + 1 : Nat) : Int)) := op_add64 hx hy (by omega)
end
end Go.AM

namespace Go.AM
open Go
mutual
def NilR : AV → AV → Prop
  | .snil, y => y = .snil ∨ ∃ n, y = .sl n []
  | .agg xs, y => ∃ ys, y = .agg ys ∧ NilRL xs ys
  | .tup xs, y => ∃ ys, y = .tup ys ∧ NilRL xs ys
  | .cp xs, y => ∃ ys, y = .cp ys ∧ NilRL xs ys
  | .fn f as bs, y => ∃ ys zs, y = .fn f ys zs ∧ NilRL as ys ∧ NilRL bs zs
  | .int k n, y => y = .int k n
  | .bool b, y => y = .bool b
  | .str b, y => y = .str b
  | .sl n es, y => y = .sl n es
  | .nilp, y => y = .nilp ∨ y = .tr .nilp
  | .tr x, y => y = .tr x
  | .nilf, y => y = .nilf
  | .ptr i k o, y => y = .ptr i k o
  | .ow i, y => y = .ow i
  | .mp i, y => y = .mp i
  | .sub i n, y => y = .sub i n
  | .win i n, y => y = .win i n
  | .junk, y => y = .junk
def NilRL : List AV → List AV → Prop
  | [], ys => ys = []
  | x :: r, ys => ∃ y s, ys = y :: s ∧ NilR x y ∧ NilRL r s
end
mutual
theorem NilR_T {S : Nat → Prop} {w : World} : ∀ (x y : AV) (v : Value), NilR x y → RepT S w x v → RepT S w y v
  | .snil, y, v, h, hv => by
    simp only [NilR] at h
    cases hv
    rcases h with rfl | ⟨n, rfl⟩
    · exact .snil
    · exact .sl0 _ _ _ (fun _ => rfl)
  | .agg xs, y, v, h, hv => by
    simp only [NilR] at h
    obtain ⟨ys, rfl, hl⟩ := h
    cases hv with
    | agg _ vs h1 h2 => obtain ⟨h3, h4⟩ := NilRL_T xs ys hl; exact .agg ys vs (by rw [h3]; exact h1) (fun i y v hy hv => h4 i y v hy (fun x hx => h2 i x v hx hv))
  | .tup xs, y, v, h, hv => by
    simp only [NilR] at h
    obtain ⟨ys, rfl, hl⟩ := h
    cases hv with
    | tup _ vs h1 h2 => obtain ⟨h3, h4⟩ := NilRL_T xs ys hl; exact .tup ys vs (by rw [h3]; exact h1) (fun i y v hy hv => h4 i y v hy (fun x hx => h2 i x v hx hv))
  | .cp xs, y, v, h, hv => by
    simp only [NilR] at h
    obtain ⟨ys, rfl, hl⟩ := h
    cases hv with
    | cp _ b off f hb h1 h2 =>
      obtain ⟨h3, h4⟩ := NilRL_T xs ys hl
      have hx : ∀ (j : Nat) y, ys[j]? = some y → ∃ x, xs[j]? = some x := fun j y hy => ⟨xs[j]'(by rw [← h3]; exact (List.getElem?_eq_some_iff.1 hy).1), by simp⟩
      exact .cp ys b off f hb (fun j y hy => by obtain ⟨x, hx⟩ := hx j y hy; exact h1 j x hx) (fun j y hy => h4 j y _ hy (fun x hx => h2 j x hx))
  | .fn f as bs, y, v, h, hv => by
    simp only [NilR] at h
    obtain ⟨ys, zs, rfl, hl1, hl2⟩ := h
    cases hv with
    | fn _ _ _ us ws h1 h2 h3 h4 =>
      obtain ⟨g1, g2⟩ := NilRL_T as ys hl1
      obtain ⟨g3, g4⟩ := NilRL_T bs zs hl2
      exact .fn f ys zs us ws (by rw [g1]; exact h1) (by rw [g3]; exact h2) (fun i y v hy hv => g2 i y v hy (fun x hx => h3 i x v hx hv)) (fun i y v hy hv => g4 i y v hy (fun x hx => h4 i x v hx hv))
  | .int k n, y, v, h, hv => by simp only [NilR] at h; subst h; exact hv
  | .bool b, y, v, h, hv => by simp only [NilR] at h; subst h; exact hv
  | .str b, y, v, h, hv => by simp only [NilR] at h; subst h; exact hv
  | .sl n es, y, v, h, hv => by simp only [NilR] at h; subst h; exact hv
  | .nilp, y, v, h, hv => by
    simp only [NilR] at h
    rcases h with rfl | rfl
    · exact hv
    · cases hv; exact .tr _ _ .nilp
  | .tr _, y, v, h, hv => by simp only [NilR] at h; subst h; exact hv
  | .nilf, y, v, h, hv => by simp only [NilR] at h; subst h; exact hv
  | .ptr i k o, y, v, h, hv => by simp only [NilR] at h; subst h; exact hv
  | .ow i, y, v, h, hv => by simp only [NilR] at h; subst h; exact hv
  | .mp i, y, v, h, hv => by simp only [NilR] at h; subst h; exact hv
  | .sub i n, y, v, h, hv => by simp only [NilR] at h; subst h; exact hv
  | .win i n, y, v, h, hv => by simp only [NilR] at h; subst h; exact hv
  | .junk, y, v, h, hv => by simp only [NilR] at h; subst h; exact hv
theorem NilRL_T {S : Nat → Prop} {w : World} : ∀ (xs ys : List AV), NilRL xs ys → ys.length = xs.length ∧
    ∀ (i : Nat) y v, ys[i]? = some y → (∀ x, xs[i]? = some x → RepT S w x v) → RepT S w y v
  | [], ys, h => by simp only [NilRL] at h; subst h; exact ⟨rfl, fun i y v hy => by simp at hy⟩
  | x :: r, ys, h => by
    simp only [NilRL] at h
    obtain ⟨y, s, rfl, h1, h2⟩ := h
    obtain ⟨h3, h4⟩ := NilRL_T (S := S) (w := w) r s h2
    refine ⟨by simp [h3], fun i b v hb hv => ?_⟩
    cases i with
    | zero => simp at hb; subst hb; exact NilR_T x y v h1 (hv x (by simp))
    | succ i => simp at hb; exact h4 i b v hb (fun x hx => hv x (by simpa using hx))
end
mutual
theorem NilR_V {S : Nat → Prop} {w : World} {φ : Nat → Loc} {η : Heap} : ∀ (x y : AV) (v : Value), NilR x y → RepV S w φ η x v → RepV S w φ η y v
  | .agg xs, y, v, h, hv => by
    simp only [NilR] at h
    obtain ⟨ys, rfl, hl⟩ := h
    obtain ⟨vs, rfl, h1, h2⟩ := hv.agg_inv
    obtain ⟨h3, h4⟩ := NilRL_V (S := S) (w := w) (φ := φ) (η := η) xs ys hl
    exact .agg ys vs (by rw [h3]; exact h1) (fun i y v hy hv => h4 i y v hy (fun x hx => h2 i x v hx hv))
  | .tup xs, y, v, h, hv => by
    simp only [NilR] at h
    obtain ⟨ys, rfl, hl⟩ := h
    obtain ⟨vs, rfl, h1, h2⟩ := hv.tup_inv
    obtain ⟨h3, h4⟩ := NilRL_V (S := S) (w := w) (φ := φ) (η := η) xs ys hl
    exact .tup ys vs (by rw [h3]; exact h1) (fun i y v hy hv => h4 i y v hy (fun x hx => h2 i x v hx hv))
  | .fn f as bs, y, v, h, hv => by
    simp only [NilR] at h
    obtain ⟨ys, zs, rfl, hl1, hl2⟩ := h
    obtain ⟨us, ws, rfl, h1, h2, h3, h4⟩ := hv.fn_inv
    obtain ⟨g1, g2⟩ := NilRL_V (S := S) (w := w) (φ := φ) (η := η) as ys hl1
    obtain ⟨g3, g4⟩ := NilRL_V (S := S) (w := w) (φ := φ) (η := η) bs zs hl2
    exact .fn f ys zs us ws (by rw [g1]; exact h1) (by rw [g3]; exact h2) (fun i y v hy hv => g2 i y v hy (fun x hx => h3 i x v hx hv)) (fun i y v hy hv => g4 i y v hy (fun x hx => h4 i x v hx hv))
  | .snil, y, v, h, hv => by cases hv with | pure hv => exact .pure (NilR_T _ _ _ h hv)
  | .cp xs, y, v, h, hv => by cases hv with | pure hv => exact .pure (NilR_T _ _ _ h hv)
  | .int k n, y, v, h, hv => by simp only [NilR] at h; subst h; exact hv
  | .bool b, y, v, h, hv => by simp only [NilR] at h; subst h; exact hv
  | .str b, y, v, h, hv => by simp only [NilR] at h; subst h; exact hv
  | .sl n es, y, v, h, hv => by simp only [NilR] at h; subst h; exact hv
  | .nilp, y, v, h, hv => by
    simp only [NilR] at h
    rcases h with rfl | rfl
    · exact hv
    · cases hv with
      | pure hv => cases hv; exact .pure (.tr _ _ .nilp)
  | .tr _, y, v, h, hv => by simp only [NilR] at h; subst h; exact hv
  | .nilf, y, v, h, hv => by simp only [NilR] at h; subst h; exact hv
  | .ptr i k o, y, v, h, hv => by simp only [NilR] at h; subst h; exact hv
  | .ow i, y, v, h, hv => by simp only [NilR] at h; subst h; exact hv
  | .mp i, y, v, h, hv => by simp only [NilR] at h; subst h; exact hv
  | .sub i n, y, v, h, hv => by simp only [NilR] at h; subst h; exact hv
  | .win i n, y, v, h, hv => by simp only [NilR] at h; subst h; exact hv
  | .junk, y, v, h, hv => by simp only [NilR] at h; subst h; exact hv
theorem NilRL_V {S : Nat → Prop} {w : World} {φ : Nat → Loc} {η : Heap} : ∀ (xs ys : List AV), NilRL xs ys → ys.length = xs.length ∧
    ∀ (i : Nat) y v, ys[i]? = some y → (∀ x, xs[i]? = some x → RepV S w φ η x v) → RepV S w φ η y v
  | [], ys, h => by simp only [NilRL] at h; subst h; exact ⟨rfl, fun i y v hy => by simp at hy⟩
  | x :: r, ys, h => by
    simp only [NilRL] at h
    obtain ⟨y, s, rfl, h1, h2⟩ := h
    obtain ⟨h3, h4⟩ := NilRL_V (S := S) (w := w) (φ := φ) (η := η) r s h2
    refine ⟨by simp [h3], fun i b v hb hv => ?_⟩
    cases i with
    | zero => simp at hb; subst hb; exact NilR_V x y v h1 (hv x (by simp))
    | succ i => simp at hb; exact h4 i b v hb (fun x hx => hv x (by simpa using hx))
end
theorem ACallF.nil {F : Fr} {P : Program} {f : FuncId} {xs ys : List AV} {L L' : Heap} {r : AV} (hc : ACallF F P f xs L r L') (hn : NilRL ys xs) : ACallF F P f ys L r L' := by
  intro w S φ vs hK hH hvs
  obtain ⟨h1, h2⟩ := NilRL_V (S := S) (w := w) (φ := φ) (η := L) ys xs hn
  exact hc w S φ vs hK hH ⟨by rw [h1]; exact hvs.1, fun i x v hx hv => h2 i x v hx (fun y hy => hvs.2 i y v hy hv)⟩
section
variable {P : Program} {F : Fr} {N : Nat} {Q : Exit → St → Prop} {st : St} {c : Code}
variable {ops : Array Oper} {l : List Oper} {KK : St → Prop} {ex : Bool} {s s' : Slots} {h h' : Heap}
theorem TR_forL2 {α σ τ : Type} (xs : List α) (step : Nat → α → σ → Option (Ctl σ τ)) (fin : σ → τ) (inv : Nat → σ → St) (E : τ → Exit) (J : τ → St) (K : τ → Prop) {s0 : σ} {t : τ} (hl : forL step fin 0 xs s0 = some t) (hk : K t)
    (hex : ∀ t, K t → Q (E t) (J t))
    (hend : (∀ t, K t → Q (E t) (J t)) → ∀ s, K (fin s) → T P F N c (Post.seq (TR P F N c Q) Q) (inv xs.length s))
    (hbody : (∀ t, K t → Q (E t) (J t)) → ∀ n x s ctl, xs[n]? = some x → n < xs.length → step n x s = some ctl → CtlOK (fun s' => ∀ st, st = inv (n + 1) s' → TR P F N c Q st) K ctl → T P F N c (Post.seq (TR P F N c Q) Q) (inv n s)) :
    TR P F N c Q (inv 0 s0) := TR_forL xs step fin inv K hl hk (hend hex) (hbody hex)
theorem TR_iter2 {σ τ : Type} (step : σ → Option (Ctl σ τ)) (inv : σ → St) (E : τ → Exit) (J : τ → St) (K : τ → Prop) {s0 : σ} {t : τ} (hl : iter step s0 = some t) (hk : K t)
    (hex : ∀ t, K t → Q (E t) (J t))
    (hbody : (∀ t, K t → Q (E t) (J t)) → ∀ s ctl, step s = some ctl → CtlOK (fun s' => ∀ st, st = inv s' → TR P F N c Q st) K ctl → T P F N c (Post.seq (TR P F N c Q) Q) (inv s)) :
    TR P F N c Q (inv s0) := TR_iter step inv K hl hk (hbody hex)
theorem someI {α : Type} {a b : α} (h : some a = some b) : a = b := Option.some.inj h
theorem CtlOK_out {σ τ : Type} {R : σ → Prop} {K : τ → Prop} {t : τ} (h : CtlOK R K (.out t)) : K t := h
theorem CtlOK_next {σ τ : Type} {R : σ → Prop} {K : τ → Prop} {s : σ} (h : CtlOK R K (.next s)) : R s := h
end
end Go.AM

namespace Go.AM
open Go
section
variable {P : Program} {s s' s1 : Slots} {h h' h1 : Heap} {dst : Option Tmp} {ty : TypeId} {pos : String} {after : Array Edge} {gd : Option (Nat × Bool)} {x y : Operand} {t t' : TypeId}
theorem op_quoC {a b : Int} (hx : aev s x = some (.int .i64 a)) (hy : aev s y = some (.int .i64 b)) (hb : b ≠ 0) : OpP P ⟨dst, .binOp .quo t x y t', ty, pos, after, gd⟩ s h (.int .i64 (w64 (a.tdiv b))) := by
  rw [← wrap_w64]; exact op_quo hx hy hb
end
section
variable {P : Program} {F : Fr} {N : Nat} {ops : Array Oper} {rest : List Oper} {K : St → Prop}
variable {ty : TypeId} {pos : String} {after : Array Edge} {d id : Nat} {s s' s1 : Slots} {h h' h1 : Heap} {x y : Operand}
theorem TL_appendT {α : Type} {f : α → AV} {t E : TypeId} {sz bz : Nat} {zv : Value} {z : AV} {a b : List α}
    (ht : tyElem P t = some (E, sz)) (hz : tyZero P E = some (zv, sz, bz)) (hzs : Nat.beq zv.cells.size sz = true)
    (hsz : Nat.blt 0 sz = true) (hb : Nat.blt 0 bz = true) (hx : aev s x = some (.ow id)) (hl : lk h id = some (.arr ⟨false, false⟩ sz E (a.map f))) (hy : aev s y = some z) (hsrc : asrc h sz z = some (b.map f))
    (hbig : (a.length + b.length) * bz ≤ 140737488355328)
    (hks : killSL [id] s = some s1) (hkh : killHL [id] h = some h1) (hh : sput (dropH [] h1) id (.arr ⟨false, false⟩ sz E ((a ++ b).map f)) = some h') (hN : Nat.blt d N = true) (hs : sput s1 d (.ow id) = some s')
    (k : TL P F N ops rest K ⟨s', h'⟩) : TL P F N ops (⟨some d, .call ⟨.builtin .append, #[x, y], #[t, t]⟩, ty, pos, after, none⟩ :: rest) K ⟨s, h⟩ :=
  TL_append ht hz hzs hsz hb hx hl hy hsrc (by simpa using hbig) hks hkh (by rw [← List.map_append]; exact hh) hN hs k
theorem TL_storeT {α : Type} {f : α → AV} {t n sz k0 off : Nat} {p : Bool} {E : TypeId} {z : AV} {a : List α} {v : α} {ec zc ec' : List AV} (hs : tySize P t = some n) (hx : aev s x = some (.ptr id k0 off))
    (hl : lk h id = some (.arr ⟨p, false⟩ sz E (a.map f))) (hg : a[k0]? = some v) {v' : α} (hec : cellsO (f v) = some ec) (hy : aev s y = some z) (hj : isJunk z = false) (hnoi : noIds z = true) (hc : cellsO z = some zc)
    (hn : Nat.beq zc.length n = true) (hone : zc.all one = true) (hset : setO ec off zc = some ec') (hec' : cellsO (f v') = some ec')
    (hh : sput h id (.arr ⟨p, false⟩ sz E ((a.set k0 v').map f)) = some h') (k : TL P F N ops rest K ⟨s, h'⟩) :
    TL P F N ops (⟨none, .store t x y, ty, pos, after, none⟩ :: rest) K ⟨s, h⟩ := by
  refine TL_skip rfl rfl (fun φ a' w hr => ?_) k
  obtain rfl := cellsO_eq hec
  have hee := cellsO_eq hec'
  obtain ⟨rfl, hlen⟩ := setO_eq hset
  have he := get_map (f := f) hg
  have hek : (f v).cells.length = sz := (hr.heap.obj _ _ hl).2.1 _ (List.mem_of_getElem? he)
  rw [List.map_set] at hh
  exact hr.storeArr hs hx hl he hy hj hnoi hc ((beq_iff _ _).1 hn) hone hee.symm (by omega) hh
theorem TL_storeXT {α : Type} {f : α → AV} {t n sz k0 off : Nat} {E : TypeId} {z : AV} {a : List α} {v : α} {ec zc zy ec' : List AV} {ids : List Nat} (hs : tySize P t = some n) (hx : aev s x = some (.ptr id k0 off))
    (hl : lk h id = some (.arr ⟨false, true⟩ sz E (a.map f))) (hg : a[k0]? = some v) {v' : α} (hec : cellsO (f v) = some ec) (hy : aev s y = some z) (hj : isJunk z = false) (hc : cellsO z = some zc) (hn : Nat.beq zc.length n = true)
    (hab : absL h zc = some (zy, ids)) (hnd : nodupL (id :: ids) = true) (hgF : ∀ j ∈ ids, lk F.η j = none) (hset : setO ec off zy = some ec') (hec' : cellsO (f v') = some ec')
    (hks : killSL ids s = some s1) (hkh : killHL ids h = some h1) (hns : s1.all (fun q => noSub id q.2) = true) (hnh : noSubH id h1 = true)
    (hh : sput (dropH ids h1) id (.arr ⟨false, true⟩ sz E ((a.set k0 v').map f)) = some h') (k : TL P F N ops rest K ⟨s1, h'⟩) :
    TL P F N ops (⟨none, .store t x y, ty, pos, after, none⟩ :: rest) K ⟨s, h⟩ :=
  TL_storeX hs hx hl (get_map hg) hec hy hj hc hn hab hnd hgF hset hec' (List.map_set) hks hkh hns hnh hh k
end
end Go.AM
namespace Go.AM
open Go
section
variable {P : Program} {s : Slots} {h : Heap} {dst : Option Tmp} {ty : TypeId} {pos : String} {after : Array Edge} {gd : Option (Nat × Bool)} {t : TypeId}
end
end Go.AM

namespace Go.AM
theorem iter_inv {σ τ : Type} {step : σ → Option (Ctl σ τ)} (I : σ → Prop) (μ : σ → Nat) (Q : τ → Prop)
    (h : ∀ s, I s → (∃ s', step s = some (.next s') ∧ I s' ∧ μ s' < μ s) ∨ ∃ t, step s = some (.out t) ∧ Q t) : ∀ {s : σ}, I s → ∃ t, iter step s = some t ∧ Q t := by
  have key : ∀ (n : Nat) (s : σ), μ s < n → I s → ∃ t, iter step s = some t ∧ Q t := by
    intro n
    induction n with
    | zero => intro s h0; omega
    | succ n ih =>
      intro s hn hI
      rcases h s hI with ⟨s', h1, h2, h3⟩ | ⟨t, h1, h2⟩
      · rw [iter_next h1]; exact ih s' (by omega) h2
      · exact ⟨t, iter_out h1, h2⟩
  exact fun {s} hI => key _ s (Nat.lt_succ_self _) hI
theorem iter_for' {α ρ σ τ : Type} {step : σ → Option (Ctl σ τ)} (st : Nat → ρ → σ) (body : Nat → α → ρ → Option (Ctl ρ τ)) (fin : ρ → τ) : ∀ (xs : List α) (k : Nat) (r : ρ),
    (∀ n x r, xs[n]? = some x → step (st (k + n) r) = (body (k + n) x r).map fun c => match c with | .next r' => .next (st (k + n + 1) r') | .out t => .out t) →
    (∀ r, step (st (k + xs.length) r) = some (.out (fin r))) → iter step (st k r) = forL body fin k xs r := by
  intro xs
  induction xs with
  | nil => intro k r _ he; exact iter_out (he r)
  | cons x xs ih =>
    intro k r hs he
    have h0 := hs 0 x r rfl
    simp only [Nat.add_zero] at h0
    unfold forL
    cases hb : body k x r with
    | none => rw [hb] at h0; exact iter_none h0
    | some c =>
      rw [hb] at h0
      cases c with
      | next r' =>
        rw [iter_next h0]
        refine ih (k + 1) r' (fun n y r2 hy => ?_) (fun r2 => ?_)
        · have := hs (n + 1) y r2 (by simpa using hy)
          rw [show k + (n + 1) = k + 1 + n by omega] at this
          exact this
        · have := he r2
          rw [show k + (x :: xs).length = k + 1 + xs.length by simp; omega] at this
          exact this
      | out t => exact iter_out h0
theorem iter_for {α ρ σ τ : Type} {step : σ → Option (Ctl σ τ)} (xs : List α) (st : Nat → ρ → σ) (body : Nat → α → ρ → Option (Ctl ρ τ)) (fin : ρ → τ)
    (hs : ∀ n x r, xs[n]? = some x → step (st n r) = (body n x r).map fun c => match c with | .next r' => .next (st (n + 1) r') | .out t => .out t)
    (he : ∀ r, step (st xs.length r) = some (.out (fin r))) (r : ρ) : iter step (st 0 r) = forL body fin 0 xs r :=
  iter_for' st body fin xs 0 r (fun n x r hx => by rw [Nat.zero_add]; exact hs n x r hx) (fun r => by rw [Nat.zero_add]; exact he r)
theorem forL_all {α τ : Type} {body : Nat → α → Unit → Option (Ctl Unit τ)} {fin : Unit → τ} {f : τ} (p : α → Bool) : ∀ (xs : List α) (k : Nat),
    (∀ n, ∀ x ∈ xs, body n x () = bif p x then some (.next ()) else some (.out f)) → forL body fin k xs () = some (bif xs.all p then fin () else f) := by
  intro xs
  induction xs with
  | nil => intro k _; rfl
  | cons x xs ih =>
    intro k h
    have h0 := h k x (by simp)
    unfold forL
    cases hp : p x with
    | true => rw [hp] at h0; rw [h0]; simp only [cond_true, List.all_cons, hp, Bool.true_and]; exact ih (k + 1) (fun n y hy => h n y (by simp [hy]))
    | false => rw [hp] at h0; rw [h0]; simp [hp]
theorem forL_fold {α σ τ : Type} {body : Nat → α → σ → Option (Ctl σ τ)} {fin : σ → τ} (g : σ → α → σ) (I : Nat → σ → Prop) : ∀ (xs : List α) (k : Nat) (s : σ), I k s →
    (∀ n x s, xs[n]? = some x → I (k + n) s → body (k + n) x s = some (.next (g s x)) ∧ I (k + n + 1) (g s x)) → forL body fin k xs s = some (fin (xs.foldl g s)) := by
  intro xs
  induction xs with
  | nil => intro k s _ _; rfl
  | cons x xs ih =>
    intro k s hI h
    obtain ⟨h0, h1⟩ := h 0 x s rfl (by simpa using hI)
    simp only [Nat.add_zero] at h0 h1
    unfold forL
    rw [h0]
    refine ih (k + 1) _ h1 (fun n y s2 hy hI2 => ?_)
    have := h (n + 1) y s2 (by simpa using hy) (by rw [show k + (n + 1) = k + 1 + n by omega]; exact hI2)
    rw [show k + (n + 1) = k + 1 + n by omega] at this
    exact this
def wu (b : Nat) (n : Int) : Int := n % 2 ^ b
theorem getI_some {α : Type} {xs : List α} {n : Nat} {x : α} (h : xs[n]? = some x) : getI xs (n : Int) = some x := by rw [getI_nat, h]
theorem w64_succ {n : Nat} (h : n < 9223372036854775807) : w64 ((n : Int) + 1) = ((n + 1 : Nat) : Int) := by rw [w64_eq (by omega)]; omega
theorem get_lt {α : Type} {xs : List α} {n : Nat} {x : α} (h : xs[n]? = some x) : n < xs.length := (List.getElem?_eq_some_iff.1 h).1
theorem makeI_some {n : Nat} {bz : Nat} (h : n * bz ≤ 281474976710656) : makeI (n : Int) bz = some n := by simp [makeI, h]
theorem capI_some {n bz : Nat} (h : n * bz ≤ 140737488355328) : capI n bz = some () := by simp [capI, h]
theorem strI_some {n : Nat} (h : n ≤ 9223372036854775807) : strI n = some () := by simp [strI, h]
theorem dec_lt {a b : Nat} (h : a < b) : decide ((a : Int) < (b : Int)) = true := decide_eq_true (by omega)
theorem dec_self {a : Nat} : decide ((a : Int) < (a : Int)) = false := decide_eq_false (by omega)
theorem set_front {α : Type} {xs : List α} {z x : α} {n k : Nat} (hx : xs[n]? = some x) (hk : xs.length = n + 1 + k) :
    (xs.take n ++ List.replicate (k + 1) z).set n x = xs.take (n + 1) ++ List.replicate k z := by
  have hn := get_lt hx
  apply List.ext_getElem?
  intro i
  rw [List.getElem?_set]
  have hl : (xs.take n).length = n := by simp; omega
  have hl2 : (xs.take (n + 1)).length = n + 1 := by simp; omega
  by_cases hi : n = i
  · subst hi
    rw [if_pos rfl, List.getElem?_append_left (by omega)]
    simp [hx]
    omega
  · rw [if_neg hi]
    by_cases h2 : i < n
    · rw [List.getElem?_append_left (by omega), List.getElem?_append_left (by omega)]
      simp [List.getElem?_take, h2]
      omega
    · rw [List.getElem?_append_right (by omega), List.getElem?_append_right (by omega)]
      rw [hl, hl2]
      simp [List.getElem?_replicate]
      by_cases h3 : i - n < k + 1
      · rw [if_pos h3, if_pos (by omega)]
      · rw [if_neg h3, if_neg (by omega)]
def mget {K V : Type} [DecidableEq K] : List (K × V) → K → Option V
  | [], _ => none
  | (a, b) :: r, k => if a = k then some b else mget r k
def mput {K V : Type} [DecidableEq K] : List (K × V) → K → V → List (K × V)
  | [], k, v => [(k, v)]
  | (a, b) :: r, k, v => if a = k then (k, v) :: r else (a, b) :: mput r k v
def kfind {K : Type} [DecidableEq K] (k : K) : List K → Option Nat
  | [] => none
  | a :: r => if a = k then some 0 else (kfind k r).map (· + 1)
theorem mput_none {K V : Type} [DecidableEq K] {k : K} {v : V} : ∀ {e : List (K × V)}, kfind k (e.map (·.1)) = none → mput e k v = e ++ [(k, v)]
  | [], _ => rfl
  | (a, b) :: r, h => by
    simp only [List.map_cons, kfind] at h
    split at h
    · cases h
    · rename_i hk
      simp only [mput, if_neg hk]
      rw [mput_none (by cases hr : kfind k (r.map (·.1)) with | none => rfl | some j => rw [hr] at h; cases h)]
      rfl
end Go.AM

namespace Go.AM
open Go
section
variable {P : Program} {dst : Option Tmp} {x y : Operand} {t ty : TypeId} {pos : String} {after : Array Edge} {gd : Option (Nat × Bool)} {s : Slots} {h : Heap} {k k' : IntKind} {a b : Int} {tys : Array TypeId}
theorem wrap_u8 (n : Int) : IntKind.u8.wrap n = wu 8 n := rfl
section
variable {t' : TypeId} {W : Int → Int}
theorem op_convK {t2 : TypeId} (hw : ∀ n, k.wrap n = W n) (h1 : ∃ d, P.underlying t = some d) (h2 : P.underlying t2 = some (.int k)) (hx : aev s x = some (.int k' a)) :
    OpP P ⟨dst, .convert t t2 x, ty, pos, after, gd⟩ s h (.int k (W a)) := by
  rw [← hw]; exact op_conv h1 h2 hx
end
end
end Go.AM

namespace Go.AM
open Go
section
variable {S : Nat → Prop} {w : World} {φ : Nat → Loc} {h : Heap}
end
section
variable {P : Program} {F : Fr} {N : Nat} {ops : Array Oper} {l rest : List Oper} {K : St → Prop} {ex : Bool}
variable {ty : TypeId} {pos : String} {after : Array Edge} {d : Nat} {s s' : Slots} {h h' : Heap}
end
end Go.AM

namespace Go.AM
open Go
section
variable {P : Program} {F : Fr} {N : Nat} {ops : Array Oper} {l rest : List Oper} {K : St → Prop} {ex : Bool}
variable {ty : TypeId} {pos : String} {after : Array Edge} {d : Nat} {s s1 s' : Slots} {h h1 h' : Heap} {x : Operand} {id : Nat}
end
end Go.AM

namespace Go.AM
open Go
section
variable {P : Program} {F : Fr} {N : Nat} {ops : Array Oper} {l rest : List Oper} {K : St → Prop} {ex : Bool}
variable {ty t t' : TypeId} {pos : String} {after : Array Edge} {d : Nat} {s s1 s2 : Slots} {h : Heap} {x y : Operand}
end
end Go.AM

namespace Go.AM
open Go
section
variable {P : Program} {s : Slots} {h : Heap} {dst : Option Tmp} {ty : TypeId} {pos : String} {after : Array Edge} {gd : Option (Nat × Bool)} {x y : Operand} {t : TypeId}
end
end Go.AM

namespace Go.AM
open Go
section
variable {P : Program} {s : Slots} {h : Heap} {dst : Option Tmp} {ty : TypeId} {pos : String} {after : Array Edge} {gd : Option (Nat × Bool)} {x y : Operand} {t : TypeId}
end
end Go.AM

namespace Go.AM
open Go
section
variable {P : Program} {F : Fr} {N : Nat} {K : St → Prop} {ops : Array Oper} {Z : List Nat} {fuel : Nat} {listed : List Bool} {s s' : Slots} {h h' : Heap} {st : St}
end
def TrR (x x' : AV) : Prop := (x' = .tr x ∧ (x = .nilp ∨ ∃ cs, x = .cp cs)) ∨ (x = .tr x' ∧ ∃ cs, x' = .cp cs)
theorem TrR.rep {S : Nat → Prop} {w : World} {φ : Nat → Loc} {η : Heap} {x x' : AV} {v : Value} (h : TrR x x') (hr : RepV S w φ η x v) : RepV S w φ η x' v := by
  rcases h with ⟨rfl, rfl | ⟨cs, rfl⟩⟩ | ⟨rfl, cs, rfl⟩
  · cases hr with
    | pure hr => cases hr; exact .pure (.tr _ _ .nilp)
  · cases hr with
    | pure hr =>
      cases hr with
      | cp _ b off f h1 h2 h3 => exact .pure (.tr _ _ (.cp cs b off f h1 h2 h3))
  · cases hr with
    | pure hr =>
      cases hr with
      | tr _ p h => exact .pure h
      | trm _ us h => cases h
section
variable {P : Program} {F : Fr} {N : Nat} {Q : Exit → St → Prop} {c : Code} {K : St → Prop} {ops : Array Oper} {l : List Oper} {ex : Bool} {Z : List Nat} {fuel : Nat} {listed : List Bool} {s s' : Slots} {h : Heap}
end
section
variable {P : Program} {F : Fr} {N : Nat} {K : St → Prop} {ops : Array Oper} {l : List Oper} {ex : Bool} {s s' : Slots} {h h' : Heap}
end
def FrR (y x : AV) : Prop := y = x ∨ ∃ cs n, y = .cp cs ∧ x = .cp (cs.take n)
theorem FrR.rep {S : Nat → Prop} {w : World} {φ : Nat → Loc} {η : Heap} {y x : AV} {v : Value} (h : FrR y x) (hr : RepV S w φ η y v) : RepV S w φ η x v := by
  rcases h with rfl | ⟨cs, n, rfl, rfl⟩
  · exact hr
  · cases hr with
    | pure hr =>
      cases hr with
      | cp _ b off f h1 h2 h3 =>
        exact .pure (.cp _ b off f h1 (fun j z hz => h2 j z (by rw [List.getElem?_take] at hz; split at hz; exact hz; cases hz)) (fun j z hz => h3 j z (by rw [List.getElem?_take] at hz; split at hz; exact hz; cases hz)))
end Go.AM

namespace Go.AM
open Go Go.MapKept
structure KeyOK (P : Program) (kt : TypeId) {K : Type} [DecidableEq K] (enc : K → AV) (val : K → Value) : Prop where
  rep : ∀ (S : Nat → Prop) (w : World) (k : K) (v : Value), RepT S w (enc k) v → v = val k
  mkr : ∀ (S : Nat → Prop) (w : World) (k : K), RepT S w (enc k) (val k)
  ids : ∀ k, noIds (enc k) = true
  chk : ∀ (b : Bool) (k : K) (w : World), (Instr.checkKey b 10000 kt (val k)).run P w = .ok () w
  find : ∀ (w : World) (k : K) (ks : List K) (ents : List MapEntry), ents.map (·.key) = ks.map val →
    (Instr.findKey kt (val k) ents).run P w = .ok ((kfind k ks).bind fun i => (ents[i]?).map fun x => (i, x.val)) w
  same : ∀ k, Instr.sameBits 10000 (val k) (val k) = true
theorem findNow_kfind {K : Type} [DecidableEq K] {d : TypeDesc} {val : K → Value} (hs : ∀ a b, Instr.sameNow d (val a) (val b) = some (decide (a = b))) (k : K) :
    ∀ (ks : List K) (ents : List MapEntry) (n : Nat), ents.map (·.key) = ks.map val → Instr.findNow d (val k) ents n = some ((kfind k ks).bind fun i => (ents[i]?).map fun x => (n + i, x.val)) := by
  intro ks
  induction ks with
  | nil => intro ents n h; cases ents with
    | nil => rfl
    | cons _ _ => cases h
  | cons a r ih =>
    intro ents n h
    cases ents with
    | nil => cases h
    | cons x xs =>
      simp only [List.map_cons, List.cons.injEq] at h
      obtain ⟨h1, h2⟩ := h
      unfold Instr.findNow
      rw [h1, hs k a]
      by_cases hk : a = k
      · rw [decide_eq_true hk.symm]
        simp [kfind, if_pos hk]
      · rw [decide_eq_false (fun e => hk e.symm)]
        simp only [kfind, if_neg hk]
        rw [ih xs (n + 1) h2]
        cases kfind k r with
        | none => rfl
        | some j =>
          simp only [Option.map_some, Option.bind_some, List.getElem?_cons_succ]
          congr 2
          funext y
          rw [show n + 1 + j = n + (j + 1) by omega]
theorem keyOf {P : Program} {kt : TypeId} {d : TypeDesc} {K : Type} [DecidableEq K] {enc : K → AV} {val : K → Value} (hd : P.underlying kt = some d) (hkey : ∀ k, IsKey d (val k))
    (hrep : ∀ (S : Nat → Prop) (w : World) (k : K) (v : Value), RepT S w (enc k) v → v = val k) (hmk : ∀ (S : Nat → Prop) (w : World) (k : K), RepT S w (enc k) (val k)) (hids : ∀ k, noIds (enc k) = true)
    (hs : ∀ a b, Instr.sameNow d (val a) (val b) = some (decide (a = b))) (hsame : ∀ k, Instr.sameBits 10000 (val k) (val k) = true) : KeyOK P kt enc val := by
  refine ⟨hrep, hmk, hids, fun b k w => run_checkKey hd (hkey k) b 9999, fun w k ks ents h => ?_, hsame⟩
  refine run_findKey hd ?_
  rw [findNow_kfind hs k ks ents 0 h]
  simp only [Nat.zero_add]
section
variable {P : Program} {F : Fr} {N : Nat}
variable {K V : Type} [DecidableEq K] {encK : K → AV} {encV : V → AV} {val : K → Value} {kt et : TypeId} {f : K × V → AV}
end
section
variable {P : Program} {F : Fr} {N : Nat} {K0 : St → Prop} {ops : Array Oper} {rest : List Oper} {ex : Bool}
variable {ty : TypeId} {pos : String} {after : Array Edge} {d id : Nat} {s s' : Slots} {h h' : Heap} {x y z : Operand} {gd : Option (Nat × Bool)} {dst : Option Tmp}
variable {K V : Type} [DecidableEq K] {encK : K → AV} {encV : V → AV} {val : K → Value} {t kt et : TypeId} {f : K × V → AV}
end
section
variable {P : Program} {F : Fr} {N : Nat} {Q : Exit → St → Prop} {c : Code} {K : St → Prop} {ops : Array Oper} {l : List Oper} {ex : Bool} {s : Slots} {h h' : Heap}
end
section
variable {P : Program} {F : Fr} {N : Nat} {Q : Exit → St → Prop} {c : Code} {K : St → Prop} {ops : Array Oper} {l : List Oper} {ex : Bool} {s : Slots} {h h' : Heap}
end
end Go.AM

namespace Go.AM
open Go Go.MapKept
section
variable {P : Program} {s : Slots} {h : Heap} {dst : Option Tmp} {ty : TypeId} {pos : String} {after : Array Edge} {gd : Option (Nat × Bool)} {t : TypeId}
end
section
variable {P : Program} {F : Fr} {N : Nat} {ops : Array Oper} {Z : List Nat} {fuel : Nat} {listed : List Bool} {K : St → Prop} {s s' : Slots} {h h' : Heap}
end
section
variable {P : Program} {s : Slots} {h : Heap} {dst : Option Tmp} {ty : TypeId} {pos : String} {after : Array Edge} {gd : Option (Nat × Bool)} {t : TypeId} {x y : Operand}
end
section
variable {P : Program} {kt e : TypeId}
end
end Go.AM

namespace Go.AM
open Go
structure LibEnd (w w' : World) : Prop where
  sys : SameSys w w'
  grow : w.heap.size ≤ w'.heap.size
  frame : ∀ b, b < w.heap.size → w'.heap[b]? = w.heap[b]?
theorem LibEnd.refl (w : World) : LibEnd w w := ⟨SameSys.refl w, Nat.le_refl _, fun _ _ => rfl⟩
theorem ACall.lib {P : Program} {f : FuncId} {args : List AV} {vals : Array Value} {r : AV} {v : Value} (ha : ∀ (S : Nat → Prop) (w : World) (φ : Nat → Loc) (us : Array Value), PW S w φ [] args us.toList → us = vals)
    (hr : ∀ (S : Nat → Prop) (w : World), RepT S w r v) (hc : ∀ w, Calls P f vals w fun e w' => e = .returned v ∧ LibEnd w w') : ACall P f args [] r [] := by
  intro w S φ vs hH hvs
  obtain rfl := ha S w φ vs hvs
  refine (hc w).mono (fun e w' h => ⟨v, φ, h.1, ?_⟩)
  obtain ⟨he, hl⟩ := h
  exact { sys := hl.sys, grow := hl.grow, heap := HeapOK.nil φ (fun b hb => hb.1), val := .pure (hr _ _), mine := (fun id o b ho => by cases ho), fix := (fun id o ho => by cases ho), keep := (fun id o ho => by cases ho)
          frame := fun b hb _ => hl.frame b hb }
theorem args_ints {a b : Int} {S : Nat → Prop} {w : World} {φ : Nat → Loc} {us : Array Value} (h : PW S w φ [] [.int .i64 a, .int .i64 b] us.toList) : us = #[.int .i64 a, .int .i64 b] := by
  obtain ⟨h1, h2⟩ := h
  simp only [List.length_cons, List.length_nil, Array.length_toList] at h1
  apply Array.ext
  · simpa using h1.symm
  · intro i hi hi2
    have : i = 0 ∨ i = 1 := by simp at hi2; omega
    rcases this with rfl | rfl
    · exact (h2 0 (.int .i64 a) us[0] rfl (by simp)).int_inv
    · exact (h2 1 (.int .i64 b) us[1] rfl (by simp)).int_inv
end Go.AM

namespace Go.AM
open Go Go.RowKit
section
variable {P : Program} {s : Slots} {h : Heap} {dst : Option Tmp} {ty : TypeId} {pos : String} {after : Array Edge} {gd : Option (Nat × Bool)}
variable {x : Operand} {t t' : TypeId}
end
section
variable {P : Program} {F : Fr} {N : Nat} {ops : Array Oper} {l rest : List Oper} {KK : St → Prop} {ex : Bool}
variable {ty t t' : TypeId} {pos : String} {after : Array Edge} {d : Nat} {s s' : Slots} {h h' : Heap} {x : Operand}
theorem TL_convBS {src dst e : TypeId} {xs : List AV} {ns : List Int} (hs1 : P.underlying src = some (.slice e)) (he : P.underlying e = some (.int .u8)) (hd : P.underlying dst = some .string)
    (hx : aev s x = some (.sl 1 xs)) (hxs : xs = ns.map fun n => .int .u8 n) (hN : Nat.blt d N = true) (hs : sput s d (.str (ns.map fun n => UInt8.ofNat n.toNat)) = some s')
    (k : TLE ex P F N ops rest KK ⟨s', h⟩) : TLE ex P F N ops (⟨some d, .convert src dst x, ty, pos, after, none⟩ :: rest) KK ⟨s, h⟩ := by
  intro a w R hr hQ
  obtain ⟨φ, hp⟩ := hr
  have hv := (aev_rep hp hx).tree rfl
  have hrun : (execOp a.eval ⟨some d, .convert src dst x, ty, pos, after, none⟩).run P w = .ok (.value (.string ⟨(ns.map fun n => UInt8.ofNat n.toNat).toArray⟩)) w := by
    show (do pure (.value (← convert src dst (a.eval x))) : Sem Next).run P w = _
    have key : (convert src dst (a.eval x)).run P w = .ok (.string (strOfNums ns)) w := by
      generalize a.eval x = v at hv
      cases hv with
      | sl0 _ ad cap _ =>
        obtain rfl : ns = [] := by cases ns with | nil => rfl | cons a b => simp at hxs
        cases ad with
        | none => exact run_convert_bytes_nil w src e hs1 he 0 cap dst hd
        | some ad =>
          rw [run_convert_bytes_string w src dst e _ 0 cap hs1 he hd, run_bytesToString w ad 0 cap [] (by simp [loadCells]; rfl)]
          rfl
      | sl _ _ b off cap f hne hb hc hm hsz hlen hone hcell hrep =>
        subst hxs
        have hfl : flat (ns.map fun n => AV.int .u8 n) = ns.map fun n => AV.int .u8 n := by
          unfold flat
          clear hne hc hlen hone hcell hrep hx hs
          induction ns with
          | nil => rfl
          | cons a r ih => simp only [List.map_cons, List.flatMap_cons, ih]; rfl
        refine run_convert_bytes_arg w src e hs1 he b off _ cap ns (by simp) (fun i hi => ?_) dst hd
        have hi' : i < ns.length := by simpa using hi
        have hz : (flat (ns.map fun n => AV.int .u8 n))[i]? = some (.int .u8 (ns.getD i 0)) := by
          rw [hfl]; simp [List.getD, List.getElem?_eq_getElem hi']
        rw [hcell i _ hz]
        have := hrep i _ hz
        cases h : f i <;> rw [h] at this <;> cases this
        rfl
    simp only [Sem.run_bind, key, Result.andThen_ok, Sem.run_pure]
    rfl
  refine wpList_plain rfl fun K' hK' => ?_
  unfold Oper.wp
  rw [hrun]
  exact hK' _ _ (k _ _ R ⟨φ, hp.put (Nat.le_of_ble_eq_true hN) hs (.pure (.str _))⟩ (fun st' a' w'' hk hr'' he => hQ st' a' w'' hk hr'' he))
end
section
variable {P : Program} {s : Slots} {h : Heap} {dst : Option Tmp} {ty t : TypeId} {pos : String} {after : Array Edge} {gd : Option (Nat × Bool)} {x : Operand} {id : Nat}
variable {K V : Type} [DecidableEq K] {encK : K → AV} {encV : V → AV} {val : K → Value} {kt et : TypeId} {f : K × V → AV}
end
section
variable {P : Program} {W : World}
theorem law_callsG {g : Glob} {f : FuncId} {xs : List AV} {vs : Array Value} (hc : ACallG g P f xs [] (.bool true) []) (hg : g.G W) (hB : ∀ b ∈ g.B, b < W.heap.size) (hl : xs.length = vs.size)
    (hr : ∀ (i : Nat) x v, xs[i]? = some x → vs[i]? = some v → RepT (fun b => b < W.heap.size) W x v) :
    Calls P f vs W fun e w' => e = .returned (.bool true) ∧ Below W.heap.size W w' := by
  refine (hc W (fun b => b < W.heap.size) (fun _ => mkLoc 0 0 false) vs ⟨hB, hg⟩ (HeapOK.nil _ (fun b hb => hb)) ⟨by simpa using hl, fun i x v hx hv => .pure (hr i x v hx (by simpa using hv))⟩).mono ?_
  rintro e w' ⟨v, φ', rfl, hret⟩
  have := hret.val.bool_inv
  subst this
  exact ⟨rfl, hret.sys.os, hret.sys.tape, hret.sys.output, hret.grow, fun b hb => hret.frame b hb (fun ⟨id, o, ho, _⟩ => by cases ho)⟩
theorem ACallG.lib {g : Glob} {f : FuncId} {args : List AV} {r : AV} 
    (hc : ∀ (w : World) (S : Nat → Prop) (φ : Nat → Loc) (vals : Array Value), g.G w → (∀ b, S b → b < w.heap.size) → PW S w φ [] args vals.toList →
      Calls P f vals w fun e w' => ∃ v, e = .returned v ∧ LibEnd w w' ∧ RepT (fun b => b < w'.heap.size ∧ (S b ∨ w.heap.size ≤ b)) w' r v) : ACallG g P f args [] r [] := by
  intro w S φ vs hG hH hvs
  refine (hc w S φ vs hG.2 hH.free hvs).mono (fun e w' h => ?_)
  obtain ⟨v, he, hl, hr⟩ := h
  exact ⟨v, φ, he, ⟨hl.sys, hl.grow, HeapOK.nil φ (fun b hb => hb.1), .pure (hr.mono (fun b hb => ⟨hb.1, hb.2, fun id o ho => (by cases ho)⟩) (fun _ _ => rfl)), (fun id o b ho => (by cases ho)), (fun id o ho => (by cases ho)), (fun id o ho => (by cases ho)), fun b hb _ => hl.frame b hb⟩⟩
end
end Go.AM

namespace Go.AM
def szOut (c b : Nat) : Int := if c ≤ b then ((b - c : Nat) : Int) else -1
theorem szOut_ok {c b : Nat} (h : c ≤ b) : szOut c b = ((b - c : Nat) : Int) := if_pos h
theorem szOut_no {c b : Nat} (h : ¬ c ≤ b) : szOut c b = -1 := if_neg h
def SzP {α : Type} (sz : α → Int → Option Int) (c : α → Nat) (x : α) : Prop := ∀ b : Nat, b ≤ 1048576 → sz x b = some (szOut (c x) b)
theorem szW {n b : Nat} (hn : n ≤ 9223372036854775807) (hb : b ≤ 1048576) : w64 ((b : Int) - (n : Int)) = (b : Int) - (n : Int) := w64_eq (by omega)
theorem sz_flat {α : Type} {xs : List α} (hl : xs.length ≤ 9223372036854775807) {b : Nat} (hb : b ≤ 1048576) :
    (bif decide (w64 ((b : Int) - (xs.length : Int)) < 0) then some (-1 : Int) else some (w64 ((b : Int) - (xs.length : Int)))) = some (szOut xs.length b) := by
  rw [szW hl hb]
  unfold szOut
  by_cases h : xs.length ≤ b
  · rw [if_pos h, decide_eq_false (by omega)]; simp only [cond_false]; congr 1; omega
  · rw [if_neg h, decide_eq_true (by omega)]; rfl
theorem iter_sz {α : Type} {xs : List α} {c : α → Nat} {sz : α → Int → Option Int} {step : Int × Int → Option (Ctl (Int × Int) (Int ⊕ Int))}
    (hs : ∀ (n : Nat) x b, xs[n]? = some x → step (b, (n : Int)) = (sz x b).bind fun r => bif decide (r < 0) then some (.out (.inr (-1))) else some (.next (r, w64 ((n : Int) + 1))))
    (he : ∀ b, step (b, (xs.length : Int)) = some (.out (.inl b))) (hl : xs.length ≤ 9223372036854775807) (hsz : ∀ x ∈ xs, SzP sz c x) {b : Nat} (hb : b ≤ 1048576) :
    iter step ((b : Int), 0) = some (if (xs.map c).sum ≤ b then .inl ((b - (xs.map c).sum : Nat) : Int) else .inr (-1)) := by
  have key : ∀ (m n : Nat) (b : Nat), n + m = xs.length → b ≤ 1048576 →
      iter step ((b : Int), (n : Int)) = some (if ((xs.drop n).map c).sum ≤ b then .inl ((b - ((xs.drop n).map c).sum : Nat) : Int) else .inr (-1)) := by
    intro m
    induction m with
    | zero =>
      intro n b hn hb
      obtain rfl : n = xs.length := by omega
      rw [iter_out (he b)]; simp
    | succ m ih =>
      intro n b hn hb
      have hlt : n < xs.length := by omega
      have hx : xs[n]? = some xs[n] := by simp [hlt]
      have h := hs n _ b hx
      rw [hsz _ (List.getElem_mem hlt) b hb, Option.bind_some] at h
      rw [List.drop_eq_getElem_cons hlt]
      simp only [List.map_cons, List.sum_cons]
      by_cases hc : c xs[n] ≤ b
      · rw [szOut_ok hc, decide_eq_false (by omega), cond_false, w64_succ (by omega)] at h
        rw [iter_next h, ih (n + 1) (b - c xs[n]) (by omega) (by omega)]
        congr 1
        by_cases h2 : ((xs.drop (n + 1)).map c).sum ≤ b - c xs[n]
        · rw [if_pos h2, if_pos (by omega)]; congr 2; omega
        · rw [if_neg h2, if_neg (by omega)]
      · rw [szOut_no hc] at h
        rw [iter_out h, if_neg (by omega)]
  have := key xs.length 0 b (by omega) hb
  simpa using this
theorem iter_to {α : Type} {xs : List α} {z : α} {cp : α → Option α} {step : List α × Int → Option (Ctl (List α × Int) (List α))}
    (hs : ∀ (n : Nat) x ys, xs[n]? = some x → step (ys, (n : Int)) = (cp x).bind fun r => (getI ys (n : Int)).bind fun _ => some (.next (ys.set n r, w64 ((n : Int) + 1))))
    (he : ∀ ys, step (ys, (xs.length : Int)) = some (.out ys)) (hl : xs.length ≤ 1048576) (hc : ∀ x ∈ xs, cp x = some x) :
    iter step (List.replicate xs.length z, 0) = some xs := by
  have key : ∀ (m n : Nat), n + m = xs.length → iter step (xs.take n ++ List.replicate m z, (n : Int)) = some xs := by
    intro m
    induction m with
    | zero =>
      intro n hn
      obtain rfl : n = xs.length := by omega
      rw [iter_out (he _)]; simp
    | succ m ih =>
      intro n hn
      have hlt : n < xs.length := by omega
      have hx : xs[n]? = some xs[n] := by simp [hlt]
      have h := hs n _ (xs.take n ++ List.replicate (m + 1) z) hx
      have hg : getI (xs.take n ++ List.replicate (m + 1) z) (n : Int) = some z := by
        rw [getI_nat, List.getElem?_append_right (by simp; omega)]
        simp [List.getElem?_replicate]; omega
      rw [hc _ (List.getElem_mem hlt), Option.bind_some, hg, Option.bind_some, set_front hx (by omega), w64_succ (by omega)] at h
      rw [iter_next h]
      exact ih (n + 1) (by omega)
  have := key xs.length 0 (by omega)
  simpa using this
theorem iter_eq {α : Type} [DecidableEq α] {xs ys : List α} {eq : α → α → Option Bool} {step : Int → Option (Ctl Int (Unit ⊕ Bool))}
    (hs : ∀ (n : Nat) x y, xs[n]? = some x → ys[n]? = some y → step (n : Int) = (eq x y).bind fun r => bif !r then some (.out (.inr false)) else some (.next (w64 ((n : Int) + 1))))
    (he : step (xs.length : Int) = some (.out (.inl ()))) (hl : xs.length ≤ 9223372036854775807) (hle : xs.length = ys.length) (hc : ∀ x ∈ xs, ∀ y, eq x y = some (decide (x = y))) :
    iter step 0 = some (if xs = ys then .inl () else .inr false) := by
  have key : ∀ (m n : Nat), n + m = xs.length → iter step (n : Int) = some (if xs.drop n = ys.drop n then .inl () else .inr false) := by
    intro m
    induction m with
    | zero =>
      intro n hn
      obtain rfl : n = xs.length := by omega
      rw [iter_out he]; rw [if_pos (by rw [List.drop_length, hle, List.drop_length])]
    | succ m ih =>
      intro n hn
      have hlt : n < xs.length := by omega
      have hlt2 : n < ys.length := by omega
      have h := hs n xs[n] ys[n] (by simp [hlt]) (by simp [hlt2])
      rw [hc _ (List.getElem_mem hlt), Option.bind_some] at h
      rw [List.drop_eq_getElem_cons hlt, List.drop_eq_getElem_cons hlt2]
      by_cases hxy : xs[n] = ys[n]
      · rw [decide_eq_true hxy, Bool.not_true, cond_false, w64_succ (by omega)] at h
        rw [iter_next h, ih (n + 1) (by omega)]
        congr 1
        by_cases h2 : xs.drop (n + 1) = ys.drop (n + 1)
        · rw [if_pos h2, if_pos (by rw [h2, hxy])]
        · rw [if_neg h2, if_neg (fun h => h2 (List.cons.inj h).2)]
      · rw [decide_eq_false hxy] at h
        rw [iter_out h, if_neg (fun h => hxy (List.cons.inj h).1)]
  have := key xs.length 0 (by omega)
  simpa using this
def MkP {α : Type} (mk : α → Int → Option (Int × α)) (held : α → Int → Option Int) (m : α → Nat) (x : α) : Prop :=
  ∀ k : Nat, k + m x ≤ 4611686018427387904 → ∃ x', mk x k = some (((k + m x : Nat) : Int), x') ∧ held x' k = some ((k + m x : Nat) : Int)
theorem iter_mark {α : Type} {xs : List α} {m : α → Nat} {mk : α → Int → Option (Int × α)} {held : α → Int → Option Int} {step : List α × Int × Int → Option (Ctl (List α × Int × Int) (Int × List α))}
    {hstep : List α → Int × Int → Option (Ctl (Int × Int) (Int ⊕ Int))}
    (hs : ∀ (n : Nat) ys x (k : Nat), k ≤ 4611686018427387904 → ys[n]? = some x → step (ys, (k : Int), (n : Int)) = (mk x k).bind fun r => some (.next (ys.set n r.2, r.1, w64 ((n : Int) + 1))))
    (he : ∀ ys k, step (ys, k, (ys.length : Int)) = some (.out (k, ys)))
    (gs : ∀ (n : Nat) (ys : List α) x (k : Nat), k ≤ 4611686018427387904 → ys[n]? = some x → hstep ys ((k : Int), (n : Int)) = (held x k).bind fun r => bif decide (r < 0) then some (.out (.inr (-1))) else some (.next (r, w64 ((n : Int) + 1))))
    (ge : ∀ ys k, hstep ys (k, (ys.length : Int)) = some (.out (.inl k)))
    (hl : xs.length ≤ 9223372036854775807) (hm : ∀ x ∈ xs, MkP mk held m x) {k : Nat} (hk : k + (xs.map m).sum ≤ 4611686018427387904) :
    ∃ xs', iter step (xs, (k : Int), 0) = some (((k + (xs.map m).sum : Nat) : Int), xs') ∧ xs'.length = xs.length ∧ iter (hstep xs') ((k : Int), 0) = some (.inl ((k + (xs.map m).sum : Nat) : Int)) := by
  have key : ∀ (q n : Nat) (ys : List α) (k : Nat), n + q = xs.length → ys.length = xs.length → ys.drop n = xs.drop n → k + ((xs.drop n).map m).sum ≤ 4611686018427387904 →
      ∃ xs', iter step (ys, (k : Int), (n : Int)) = some (((k + ((xs.drop n).map m).sum : Nat) : Int), xs') ∧ xs'.length = xs.length ∧ xs'.take n = ys.take n ∧
        iter (hstep xs') ((k : Int), (n : Int)) = some (.inl ((k + ((xs.drop n).map m).sum : Nat) : Int)) := by
    intro q
    induction q with
    | zero =>
      intro n ys k hn hy _ hk
      obtain rfl : n = xs.length := by omega
      have h1 := he ys k
      have h2 := ge ys k
      rw [hy] at h1 h2
      refine ⟨ys, ?_, hy, rfl, ?_⟩
      · rw [iter_out h1]; simp
      · rw [iter_out h2]; simp
    | succ q ih =>
      intro n ys k hn hy hd hk
      have hlt : n < xs.length := by omega
      have hyn : ys[n]? = some xs[n] := by
        have := congrArg (fun l => l[0]?) hd
        simpa [List.getElem?_drop, hlt] using this
      rw [List.drop_eq_getElem_cons hlt] at hk ⊢
      simp only [List.map_cons, List.sum_cons] at hk ⊢
      obtain ⟨x', m1, m2⟩ := hm _ (List.getElem_mem hlt) k (by omega)
      have h := hs n ys _ k (by omega) hyn
      rw [m1, Option.bind_some, w64_succ (by omega)] at h
      obtain ⟨xs', e1, e2, e3, e4⟩ := ih (n + 1) (ys.set n x') (k + m xs[n]) (by omega) (by simpa using hy)
        (by
          have := congrArg (fun l => l.drop 1) hd
          simp only [List.drop_drop] at this
          rw [List.drop_set_of_lt (by omega)]; exact this) (by omega)
      have e5 : xs'[n]? = some x' := by
        have := congrArg (fun l => l[n]?) e3
        simp only [List.getElem?_take, Nat.lt_succ_self, if_true] at this
        rw [this, List.getElem?_set_self (by omega)]
      refine ⟨xs', ?_, e2, ?_, ?_⟩
      · rw [iter_next h, e1]; congr 2; omega
      · have := congrArg (fun l => l.take n) e3
        simp only [List.take_take, Nat.min_eq_left (Nat.le_succ n)] at this
        rw [this]
        exact List.take_set_of_le (Nat.le_refl _)
      · have g := gs n xs' x' k (by omega) e5
        rw [m2, Option.bind_some, decide_eq_false (by omega), cond_false, w64_succ (by omega)] at g
        rw [iter_next g, e4]; congr 2; omega
  obtain ⟨xs', e1, e2, _, e4⟩ := key xs.length 0 xs k (by omega) rfl rfl (by simpa using hk)
  exact ⟨xs', by simpa using e1, e2, by simpa using e4⟩
end Go.AM
namespace Go.AM
theorem dec_neg (n : Nat) : decide ((n : Int) < 0) = false := decide_eq_false (by omega)
theorem bool_beq (b : Bool) : (b == b) = true := by cases b <;> rfl
end Go.AM
