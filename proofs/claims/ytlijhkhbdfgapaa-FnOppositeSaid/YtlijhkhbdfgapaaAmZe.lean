/- Objects renamed; ways that meet; operations over typed lists. -/
import Derived.Test.YtlijhkhbdfgapaaAmZd
namespace Go.AM
open Go

def renSl (ρ : List (Nat × Nat)) : Slots → Option Slots
  | [] => some []
  | (k, x) :: r => match renO ρ x with
    | some y => match renSl ρ r with
      | some l => some ((k, y) :: l)
      | none => none
    | none => none

theorem renSl_spec {ρ : List (Nat × Nat)} : ∀ {s s' : Slots}, renSl ρ s = some s' → ∀ i y, lk s' i = some y → ∃ x, lk s i = some x ∧ Ren (fun i j => lk ρ i = some j) x y := by
  intro s
  induction s with
  | nil => intro s' e i y hy; cases e; cases hy
  | cons p s ih =>
    obtain ⟨k, x⟩ := p
    intro s' e i y hy
    unfold renSl at e
    cases hx : renO ρ x with
    | none => simp [hx] at e
    | some z =>
      simp only [hx] at e
      cases hr : renSl ρ s with
      | none => simp [hr] at e
      | some l =>
        simp only [hr, Option.some.injEq] at e
        subst e
        rw [lk_cons] at hy ⊢
        split at hy
        · cases hy; rename_i hk; rw [if_pos hk]; exact ⟨x, rfl, renO_spec x y hx⟩
        · rename_i hk; rw [if_neg hk]; exact ih hr i y hy

section
variable {P : Program} {F : Fr} {N : Nat} {Q : Exit → St → Prop} {st : St} {c : Code}
variable {ops : Array Oper} {l : List Oper} {KK : St → Prop} {ex : Bool} {s s' : Slots} {h h' : Heap}

theorem RelP.ren {ρ : List (Nat × Nat)} {φ : Nat → Loc} {a : Act} {w : World} (hr : RelP F N ⟨s, h⟩ φ a w) (hinj : injB ρ = true) (hs : renSl ρ s = some s') (hh : renH ρ h = some h')
    (hF : F.η.all (fun p => match lk ρ p.1 with | some j => Nat.beq j p.1 | none => false) = true) : Rel F N ⟨s', h'⟩ a w := by
  obtain ⟨r1, r2⟩ := renH_spec hinj hh
  have hFe : ∀ i o, lk F.η i = some o → lk ρ i = some i := by
    intro i o ho
    have := List.all_eq_true.1 hF _ (lk_mem ho)
    simp only at this
    cases hl : lk ρ i with
    | none => rw [hl] at this; cases this
    | some j => rw [hl] at this; rw [(beq_iff _ _).1 this]
  have hplace : ∃ φ' : Nat → Loc, ∀ i j, lk ρ i = some j → φ' j = φ i := by
    classical
    refine ⟨fun j => if h : ∃ i, lk ρ i = some j then φ (Classical.choose h) else φ j, fun i j e => ?_⟩
    have hex : ∃ i, lk ρ i = some j := ⟨i, e⟩
    show (if h : ∃ i, lk ρ i = some j then φ (Classical.choose h) else φ j) = φ i
    rw [dif_pos hex, injB_inj hinj (Classical.choose_spec hex) e]
  obtain ⟨φ', hφ⟩ := hplace
  have hS : ∀ b, Stab F w φ h b → Stab F w φ' h' b := by
    intro b hb
    refine ⟨hb.1, hb.2.1, fun j o ho hm => ?_⟩
    obtain ⟨i, o', e1, e2, _⟩ := r2 j o ho
    rw [hφ i j e1] at hm
    exact hb.2.2 i o' e2 hm
  have hR : ∀ {x y v}, Ren (fun i j => lk ρ i = some j) x y → RepV (Stab F w φ h) w φ h x v → RepV (Stab F w φ' h') w φ' h' y v := fun hxy hv =>
    hv.ren hS (fun _ _ => rfl) (fun i j e => by
      refine ⟨fun _ _ => hφ i j e, fun k sz E es ho => ?_, fun cs ho => ?_⟩
      · obtain ⟨j', o', e1, e2, e3⟩ := r1 i _ ho
        rw [e] at e1; cases e1
        cases o' with
        | box _ => exact e3.elim
        | arr _ _ _ _ => obtain ⟨rfl, rfl, rfl, rfl⟩ := e3; exact ⟨_, _, rfl, e2⟩
      · obtain ⟨j', o', e1, e2, e3⟩ := r1 i _ ho
        rw [e] at e1; cases e1
        cases o' with
        | box cs' => exact ⟨cs', e2⟩
        | arr _ _ _ _ => exact e3.elim) hxy
  refine ⟨φ', hr.size, hr.defers, hr.sys, hr.grow, ⟨fun j o ho => ?_, fun i j oi oj b hi hj hmi hmj => ?_, fun b hb => hb.1, fun i o b ho hm hst => hst.2.2 i o ho hm, fun j o b ho hm => ?_⟩,
    fun i x hx => ?_, fun j o b ho hm => ?_, fun i o hi hb => ?_, fun i o hi => ?_, hr.frame⟩
  · obtain ⟨i, o', e1, e2, e3⟩ := r2 j o ho
    have hok := hr.heap.obj i o' e2
    cases o' with
    | box cs =>
      cases o with
      | arr _ _ _ _ => exact e3.elim
      | box cs' =>
        obtain ⟨hm, C, E, hC, hsz, hrep⟩ := hok
        refine ⟨by rw [hφ i j e1]; exact hm, C, E, by rw [hφ i j e1]; exact hC, by rw [hsz]; exact e3.1, fun n y v hy hv => ?_⟩
        obtain ⟨x, hx⟩ : ∃ x, cs[n]? = some x := ⟨cs[n]'(by rw [e3.1]; exact (List.getElem?_eq_some_iff.1 hy).1), by simp⟩
        exact hR (e3.2 n x y hx hy) (hrep n x v hx hv)
    | arr k sz E es =>
      cases o with
      | box _ => exact e3.elim
      | arr _ _ _ _ =>
        obtain ⟨rfl, rfl, rfl, rfl⟩ := e3
        obtain ⟨h0, hl, hone, hob⟩ := hok
        refine ⟨h0, hl, hone, ?_⟩
        rw [hφ i j e1]
        rcases hob with hob | ⟨hm, C, hC, h1, h2, h3, h4⟩
        · exact .inl hob
        · exact .inr ⟨hm, C, hC, h1, h2, h3, h4.mono hS (fun _ _ => rfl) (fun _ _ _ => rfl) rfl⟩
  · obtain ⟨i1, o1, e1, e2, _⟩ := r2 i oi hi
    obtain ⟨i2, o2, f1, f2, _⟩ := r2 j oj hj
    rw [hφ i1 i e1] at hmi
    rw [hφ i2 j f1] at hmj
    have := hr.heap.injO i1 i2 o1 o2 b e2 f2 hmi hmj
    subst this
    rw [e1] at f1
    cases f1
    rfl
  · obtain ⟨i, o', e1, e2, _⟩ := r2 j o ho
    rw [hφ i j e1] at hm
    exact hr.heap.ltO i o' b e2 hm
  · obtain ⟨y, hy, hxy⟩ := renSl_spec hs i x hx
    obtain ⟨v, hv, hrep⟩ := hr.slots i y hy
    exact ⟨v, hv, hR hxy hrep⟩
  · obtain ⟨i, o', e1, e2, _⟩ := r2 j o ho
    rw [hφ i j e1] at hm
    rcases hr.mine i o' b e2 hm with h1 | ⟨o0, h1, h2⟩
    · exact .inl h1
    · right
      have := hFe i o0 h1
      rw [e1] at this
      cases this
      exact ⟨o0, h1, h2⟩
  · rw [hφ i i (hFe i o hi)]; exact hr.fix i o hi hb
  · obtain ⟨o', ho', hal⟩ := hr.keep i o hi
    obtain ⟨j, o2, e1, e2, e3⟩ := r1 i o' ho'
    rw [hFe i o hi] at e1
    cases e1
    refine ⟨o2, e2, AO.alike_trans hal ?_⟩
    cases o' <;> cases o2 <;> first | trivial | exact e3.elim | (obtain ⟨rfl, rfl, rfl, rfl⟩ := e3; exact AO.alike_refl _)

theorem T_ren (ρ : List (Nat × Nat)) (hinj : injB ρ = true) (hs : renSl ρ s = some s') (hh : renH ρ h = some h')
    (hF : F.η.all (fun p => match lk ρ p.1 with | some j => Nat.beq j p.1 | none => false) = true) (k : T P F N c Q ⟨s', h'⟩) : T P F N c Q ⟨s, h⟩ := T_sub (fun _ _ _ hr => hr.ren hinj hs hh hF) k
theorem TR_ren (ρ : List (Nat × Nat)) (hinj : injB ρ = true) (hs : renSl ρ s = some s') (hh : renH ρ h = some h')
    (hF : F.η.all (fun p => match lk ρ p.1 with | some j => Nat.beq j p.1 | none => false) = true) (k : TR P F N c Q ⟨s', h'⟩) : TR P F N c Q ⟨s, h⟩ := TR_sub (fun _ _ _ hr => hr.ren hinj hs hh hF) k
theorem TL_ren (ρ : List (Nat × Nat)) (hinj : injB ρ = true) (hs : renSl ρ s = some s') (hh : renH ρ h = some h')
    (hF : F.η.all (fun p => match lk ρ p.1 with | some j => Nat.beq j p.1 | none => false) = true) (k : TLE ex P F N ops l KK ⟨s', h'⟩) : TLE ex P F N ops l KK ⟨s, h⟩ := TL_sub (fun _ _ _ hr => hr.ren hinj hs hh hF) k

/-! ### Where ways meet -/

theorem T_join {ι : Type} {x y : Code} (J : ι → St) (M : ι → Prop) (hrest : ∀ i, M i → T P F N y Q (J i))
    (hfirst : (∀ i, M i → T P F N y Q (J i)) → T P F N x (Post.seq (T P F N y Q) Q) st) : T P F N (.seq x y) Q st := T_seq (hfirst hrest)
theorem TL_join {ι : Type} (n : Nat) (J : ι → St) (M : ι → Prop) (hrest : ∀ i, M i → TLE ex P F N ops (l.drop n) KK (J i))
    (hfirst : (∀ i, M i → TLE ex P F N ops (l.drop n) KK (J i)) → TLE ex P F N ops l KK st) : TLE ex P F N ops l KK st := hfirst hrest
end

/-! ### Typed lists -/

theorem wrap_w64 (n : Int) : IntKind.i64.wrap n = w64 n := by
  rw [IntKind.wrap_i64]
  unfold w64
  omega

section
variable {P : Program} {s s' s1 : Slots} {h h' h1 : Heap} {dst : Option Tmp} {ty : TypeId} {pos : String} {after : Array Edge} {gd : Option (Nat × Bool)} {x y : Operand} {t : TypeId}

theorem op_lenT {sz n : Nat} {es : List AV} {e : TypeId} (hu : P.underlying t = some (.slice e)) (hx : aev s x = some (.sl sz es)) (hn : es.length = n) :
    OpP P ⟨dst, .call ⟨.builtin .len, #[x], #[t]⟩, ty, pos, after, gd⟩ s h (.int .i64 (n : Int)) := by subst hn; exact op_len_sl hu hx
theorem op_lenO {id sz n : Nat} {k : Kd} {E : TypeId} {es : List AV} {e : TypeId} (hu : P.underlying t = some (.slice e)) (hx : aev s x = some (.ow id)) (hl : lk h id = some (.arr k sz E es)) (hn : es.length = n) :
    OpP P ⟨dst, .call ⟨.builtin .len, #[x], #[t]⟩, ty, pos, after, gd⟩ s h (.int .i64 (n : Int)) := by subst hn; exact op_len_ow hu hx hl

/-- The address of an element of a list. -/
theorem op_indexT {α : Type} {f : α → AV} {sz : Nat} {E : TypeId} {a : List α} {v : α} {cs : List AV} {k : IntKind} {i : Int} (ht : tyElem P t = some (E, sz))
    (hx : aev s x = some (.sl sz (a.map f))) (hy : aev s y = some (.int k i)) (hg : getI a i = some v) (hc : cellsO (f v) = some cs) :
    OpP P ⟨dst, .indexAddr t x y, ty, pos, after, gd⟩ s h (.cp cs) :=
  op_index_sl ht hx hy (getI_spec hg).1 (get_map (getI_spec hg).2) hc
theorem op_indexO {α : Type} {f : α → AV} {id sz : Nat} {kd : Kd} {E E' : TypeId} {a : List α} {v : α} {k : IntKind} {i : Int} (ht : tyElem P t = some (E, sz))
    (hx : aev s x = some (.ow id)) (hl : lk h id = some (.arr kd sz E' (a.map f))) (hy : aev s y = some (.int k i)) (hg : getI a i = some v) :
    OpP P ⟨dst, .indexAddr t x y, ty, pos, after, gd⟩ s h (.ptr id i.toNat 0) :=
  op_index_ow ht hx hl hy (getI_spec hg).1 (by simpa using getI_lt hg)
theorem op_indexST {c : List UInt8} {u : UInt8} {k : IntKind} {i : Int} (ht : P.underlying t = some .string) (hx : aev s x = some (.str c)) (hy : aev s y = some (.int k i))
    (hg : getI c i = some u) : OpP P ⟨dst, .index t x y, ty, pos, after, gd⟩ s h (.int .u8 (u.toNat : Int)) := op_indexS ht hx hy (getI_spec hg).1 (getI_spec hg).2
theorem op_quoT {t' : TypeId} {a b c : Int} (hx : aev s x = some (.int .i64 a)) (hy : aev s y = some (.int .i64 b)) (hg : quoI a b = some c) :
    OpP P ⟨dst, .binOp .quo t x y t', ty, pos, after, gd⟩ s h (.int .i64 c) := by obtain ⟨h1, rfl⟩ := quoI_spec hg; rw [← wrap_w64]; exact op_quo hx hy h1
theorem op_remT {t' : TypeId} {k : IntKind} {a b c : Int} (hx : aev s x = some (.int k a)) (hy : aev s y = some (.int k b)) (hg : remI a b = some c) :
    OpP P ⟨dst, .binOp .rem t x y t', ty, pos, after, gd⟩ s h (.int k c) := by obtain ⟨h1, rfl⟩ := remI_spec hg; exact op_rem hx hy h1
theorem op_addW {t' : TypeId} {a b : Int} (hx : aev s x = some (.int .i64 a)) (hy : aev s y = some (.int .i64 b)) : OpP P ⟨dst, .binOp .add t x y t', ty, pos, after, gd⟩ s h (.int .i64 (w64 (a + b))) := by
  rw [← wrap_w64]; exact op_add hx hy
theorem op_subW {t' : TypeId} {a b : Int} (hx : aev s x = some (.int .i64 a)) (hy : aev s y = some (.int .i64 b)) : OpP P ⟨dst, .binOp .sub t x y t', ty, pos, after, gd⟩ s h (.int .i64 (w64 (a - b))) := by
  rw [← wrap_w64]; exact op_sub hx hy
theorem op_mulW {t' : TypeId} {a b : Int} (hx : aev s x = some (.int .i64 a)) (hy : aev s y = some (.int .i64 b)) : OpP P ⟨dst, .binOp .mul t x y t', ty, pos, after, gd⟩ s h (.int .i64 (w64 (a * b))) := by
  rw [← wrap_w64]; exact op_mul hx hy
theorem op_negW {a : Int} (hx : aev s x = some (.int .i64 a)) : OpP P ⟨dst, .unOp .neg t x, ty, pos, after, gd⟩ s h (.int .i64 (w64 (0 - a))) := by
  rw [← wrap_w64]; exact op_neg hx
/-- A sum of 64 bits that is told to fit. -/
theorem op_addN {t' : TypeId} {n : Nat} (hx : aev s x = some (.int .i64 (n : Int))) (hy : aev s y = some (.int .i64 1)) (hf : n < 9223372036854775807) :
    OpP P ⟨dst, .binOp .add t x y t', ty, pos, after, gd⟩ s h (.int .i64 ((n + 1 : Nat) : Int)) := op_add64 hx hy (by omega)
/-- Loads out of arrays of typed elements. -/
theorem op_loadT1 {α : Type} {f : α → AV} {id k off sz : Nat} {p : Bool} {E : TypeId} {a : List α} {v : α} {c : AV} {cs r : List AV} (ha : tyAgg P t = some false) (hx : aev s x = some (.ptr id k off))
    (hl : lk h id = some (.arr ⟨p, false⟩ sz E (a.map f))) (hg : a[k]? = some v) (hc : cellsO (f v) = some cs) (hd : dropO cs off = some (c :: r)) :
    OpP P ⟨dst, .load t x, ty, pos, after, gd⟩ s h c := op_load_arr1 ha hx hl (get_map hg) hc hd
theorem op_loadTN {α : Type} {f : α → AV} {id k off sz n : Nat} {p : Bool} {E : TypeId} {a : List α} {v : α} {cs cs1 cs' : List AV} (ha : tyAgg P t = some true) (hs : tySize P t = some n)
    (hx : aev s x = some (.ptr id k off)) (hl : lk h id = some (.arr ⟨p, false⟩ sz E (a.map f))) (hg : a[k]? = some v) (hc : cellsO (f v) = some cs) (hd : dropO cs off = some cs1)
    (ht : takeO cs1 n = some cs') : OpP P ⟨dst, .load t x, ty, pos, after, gd⟩ s h (.agg cs') := op_load_arrN ha hs hx hl (get_map hg) hc hd ht
theorem op_loadD1 {α : Type} {f : α → AV} {id k off sz n : Nat} {p : Bool} {E : TypeId} {a : List α} {v : α} {c c' : AV} {cs r : List AV} (ha : tyAgg P t = some false) (hx : aev s x = some (.ptr id k off))
    (hl : lk h id = some (.arr ⟨p, true⟩ sz E (a.map f))) (hg : a[k]? = some v) (hc : cellsO (f v) = some cs) (hd : dropO cs off = some (c :: r)) (hn : n = k * sz + off) (hcc : dcell id n c = c') :
    OpP P ⟨dst, .load t x, ty, pos, after, gd⟩ s h c' := op_load_arrD1 ha hx hl (get_map hg) hc hd hn hcc
theorem op_loadDN {α : Type} {f : α → AV} {id k off sz n m : Nat} {p : Bool} {E : TypeId} {a : List α} {v : α} {cs cs1 cs' : List AV} (ha : tyAgg P t = some true) (hs : tySize P t = some n)
    (hx : aev s x = some (.ptr id k off)) (hl : lk h id = some (.arr ⟨p, true⟩ sz E (a.map f))) (hg : a[k]? = some v) (hc : cellsO (f v) = some cs) (hd : dropO cs off = some cs1) (hm : m = k * sz + off)
    (ht : takeO (dcells id m cs1) n = some cs') : OpP P ⟨dst, .load t x, ty, pos, after, gd⟩ s h (.agg cs') := op_load_arrDN ha hs hx hl (get_map hg) hc hd hm ht
theorem op_sliceT {α : Type} {f : α → AV} {sz l u : Nat} {E : TypeId} {a b : List α} {lo hi : Option Operand} (ht : tyElem P t = some (E, sz))
    (hx : aev s x = some (.sl sz (a.map f))) (hb : Bnds s (a.map f).length lo hi l u) (hlu : l ≤ u) (hu : u ≤ a.length) (he : b = (a.drop l).take (u - l)) :
    OpP P ⟨dst, .slice t x lo hi none, ty, pos, after, gd⟩ s h (.sl sz (b.map f)) := by
  subst he
  rw [List.map_take, List.map_drop]
  exact op_slice_sl ht hx hb hlu (by simpa using hu)
end
end Go.AM
