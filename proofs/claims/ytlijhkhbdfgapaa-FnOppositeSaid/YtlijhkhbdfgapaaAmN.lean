/- Facts, structs, function values, conversions. -/
import Derived.Test.YtlijhkhbdfgapaaAmM
namespace Go.AM
open Go

section
variable {P : Program} {F : Fr} {N : Nat} {ops : Array Oper} {l rest : List Oper} {K : St → Prop} {c : Code} {Q : Exit → St → Prop} {s s' s1 : Slots} {h h' h1 : Heap} {ex : Bool}
variable {ty : TypeId} {pos : String} {after : Array Edge} {gd : Option (Nat × Bool)} {dst : Option Tmp} {x y : Operand} {d : Nat}

/-- A guarded operation whose guard says yes is as one without. -/
theorem TL_want {op : Op} {j g : Nat} {b : Bool} (hj : (ops[j]?).bind (·.dst) = some g) (hb : lk s g = some (.bool b))
    (k : TLE ex P F N ops (⟨dst, op, ty, pos, after, none⟩ :: rest) K ⟨s, h⟩) : TLE ex P F N ops (⟨dst, op, ty, pos, after, some (j, b)⟩ :: rest) K ⟨s, h⟩ := by
  intro a w R hr hQ
  have hk := k a w R hr hQ
  obtain ⟨φ, hp⟩ := hr
  have hw : Region.wanted ⟨dst, op, ty, pos, after, some (j, b)⟩ (yielded ops a.tmps) = true := wanted_of hp rfl hj hb
  unfold wpList at hk ⊢
  rw [if_pos (by simp [Region.wanted])] at hk
  rw [if_pos hw]
  exact hk

/-! ### What is known of lengths -/

theorem sl_length {S : Nat → Prop} {w : World} {φ : Nat → Loc} {η : Heap} {sz : Nat} {es : List AV} {v : Value} (hv : RepV S w φ η (.sl sz es) v) : es.length ≤ 9223372036854775807 := by
  cases hv with
  | pure h =>
    cases h with
    | sl0 _ _ _ _ => simp
    | sl _ _ _ _ cap _ _ _ hc hm _ _ _ _ _ => simp only [maxLen] at hm; omega

theorem TL_slLen (i : Nat) {sz : Nat} {es : List AV} (hi : lk s i = some (.sl sz es)) (k : es.length ≤ 9223372036854775807 → TLE ex P F N ops l K ⟨s, h⟩) : TLE ex P F N ops l K ⟨s, h⟩ := by
  intro a w R hr hQ
  obtain ⟨φ, hp⟩ := hr
  obtain ⟨v, _, hrep⟩ := hp.slots i _ hi
  exact k (sl_length hrep) a w R ⟨φ, hp⟩ hQ

theorem T_slLen (i : Nat) {sz : Nat} {es : List AV} (hi : lk s i = some (.sl sz es)) (k : es.length ≤ 9223372036854775807 → T P F N c Q ⟨s, h⟩) : T P F N c Q ⟨s, h⟩ := by
  intro a w hr
  obtain ⟨φ, hp⟩ := hr
  obtain ⟨v, _, hrep⟩ := hp.slots i _ hi
  exact k (sl_length hrep) a w ⟨φ, hp⟩

/-- The slices within a variable, too. -/
theorem T_slLenB (id off : Nat) {sz : Nat} {cs : List AV} {es : List AV} (hl : lk h id = some (.box cs)) (hi : nthO cs off = some (.sl sz es))
    (k : es.length ≤ 9223372036854775807 → T P F N c Q ⟨s, h⟩) : T P F N c Q ⟨s, h⟩ := by
  intro a w hr
  obtain ⟨φ, hp⟩ := hr
  obtain ⟨hm, C, E, hC, hsz, hrep⟩ := hp.heap.obj id _ hl
  have hi' := nthO_eq hi
  have hlt : off < C.size := by rw [hsz]; exact (List.getElem?_eq_some_iff.1 hi').1
  exact k (sl_length (hrep off _ C[off] hi' (by simp [hlt]))) a w ⟨φ, hp⟩

/-! ### Structs -/

def bfill (places : List (Nat × Nat)) (cells : List AV) : List (Nat × AV) → Option (List AV)
  | [] => some cells
  | (i, x) :: r => match places[i]? with
    | some (off, n) => match cellsO x with
      | some cs => bif Nat.beq cs.length n && !isJunk x then match setO cells off cs with
        | some cells' => bfill places cells' r
        | none => none
        else none
      | none => none
    | none => none

def aevB (s : Slots) : List (Nat × Operand) → Option (List (Nat × AV))
  | [] => some []
  | (i, y) :: r => match aev s y with
    | some x => match aevB s r with
      | some l => some ((i, x) :: l)
      | none => none
    | none => none

theorem fill_rep {S : Nat → Prop} {w : World} {φ : Nat → Loc} {η : Heap} {places : Array (Nat × Nat)} {ρ : Operand → Value} (hρ : ∀ y z, aev s y = some z → RepV S w φ η z (ρ y)) :
    ∀ {parts : List (Nat × Operand)} {ps : List (Nat × AV)} {cells r : List AV} {C : Array Value}, aevB s parts = some ps → bfill places.toList cells ps = some r → PW S w φ η cells C.toList →
      ∃ D, Instr.fill (places[·]?) C (parts.map fun (i, y) => (i, ρ y)) = some D ∧ PW S w φ η r D.toList := by
  intro parts
  induction parts with
  | nil =>
    intro ps cells r C e1 e2 hp
    cases e1; cases e2
    exact ⟨C, rfl, hp⟩
  | cons p parts ih =>
    obtain ⟨i, y⟩ := p
    intro ps cells r C e1 e2 hp
    unfold aevB at e1
    cases hy : aev s y with
    | none => simp [hy] at e1
    | some x =>
      simp only [hy] at e1
      cases hr : aevB s parts with
      | none => simp [hr] at e1
      | some l =>
        simp only [hr, Option.some.injEq] at e1
        subst e1
        unfold bfill at e2
        cases hpl : places.toList[i]? with
        | none => simp [hpl] at e2
        | some on =>
          obtain ⟨off, n⟩ := on
          simp only [hpl] at e2
          cases hc : cellsO x with
          | none => simp [hc] at e2
          | some cs =>
            simp only [hc] at e2
            cases hn : Nat.beq cs.length n && !isJunk x with
            | false => rw [hn] at e2; cases e2
            | true =>
              rw [hn] at e2
              simp only [cond_true] at e2
              simp only [Bool.and_eq_true, Bool.not_eq_true'] at hn
              have hnl : cs.length = n := (beq_iff _ _).1 hn.1
              cases hs : setO cells off cs with
              | none => simp [hs] at e2
              | some cells' =>
                simp only [hs] at e2
                obtain ⟨rfl, hlen⟩ := setO_eq hs
                have hcells := (hρ _ _ hy).cells hc (fun u hu => by subst hu; cases hn.2)
                have hvs : (ρ y).cells.size = n := by rw [← hnl]; simpa using hcells.1.symm
                have hCs : C.size = cells.length := by simpa using hp.1.symm
                have hf := foldl_setA (ρ y).cells C off (by rw [hvs, hCs, ← hnl]; exact hlen)
                generalize hC1 : (ρ y).cells.zipIdx.foldl (fun cs (c, j) => cs.setIfInBounds (off + j) c) C = C1 at hf
                have hpw : PW S w φ η (cells.take off ++ cs ++ cells.drop (off + cs.length)) C1.toList := by
                  rw [hf]
                  have := PW.append (PW.append (hp.take off) hcells) (hp.drop (off + cs.length))
                  rw [hvs, ← hnl]
                  exact this
                obtain ⟨D, hD, hDp⟩ := ih hr e2 hpw
                refine ⟨D, ?_, hDp⟩
                simp only [List.map_cons, Instr.fill]
                have hpl' : places[i]? = some (off, n) := by simpa using hpl
                rw [hpl']
                simp only
                rw [if_neg (by simp [hvs]; omega), hC1]
                exact hD

/-- A struct out of parts. 'places': where its fields lie. -/
theorem op_build {t : TypeId} {fields : Array Field} {places : Array (Nat × Nat)} {zv : Value} {n b : Nat} {z : AV} {zc r : List AV} {parts : Array (Nat × Operand)} {ps : List (Nat × AV)}
    (hu : P.underlying t = some (.struct fields)) (hp : ∀ w, (fields.mapM (fun f => do pure (f.offset, ← sizeOf f.type)) : Sem (Array (Nat × Nat))).run P w = .ok places w)
    (hz : tyZero P t = some (zv, n, b)) (hc : cav zv = some z) (hj : isJunk z = false) (hzc : cellsO z = some zc)
    (ha : aevB s parts.toList = some ps) (hf : bfill places.toList zc ps = some r) : OpP P ⟨dst, .build t parts, ty, pos, after, gd⟩ s h (.agg r) := by
  intro S w φ η ρ hh _ hρ
  have hzr : RepV S w φ η z zv := .pure (cav_rep hc)
  have hzp := hzr.cells hzc (fun u hu => by subst hu; cases hj)
  obtain ⟨D, hD, hDp⟩ := fill_rep hρ ha hf hzp
  refine ⟨.agg D, fun w _ => ?_, .agg r D (by simpa using hDp.1) (fun i x v hx hv => hDp.2 i x v hx (by simpa using hv))⟩
  show (do pure (.value (← Instr.build t (parts.map fun (i, x) => (i, ρ x)))) : Sem Next).run P w = _
  unfold Instr.build
  simp only [Sem.run_bind, run_zero hz, run_underlying hu, Result.andThen_ok, hp]
  have : (parts.map fun (i, x) => (i, ρ x)).toList = parts.toList.map fun (i, y) => (i, ρ y) := by simp
  rw [this, hD]
  rfl

/-! ### Conversions -/

theorem op_conv {t t' : TypeId} {k k' : IntKind} {a : Int} (hu : ∃ d, P.underlying t = some d) (hu' : P.underlying t' = some (.int k')) (hx : aev s x = some (.int k a)) :
    OpP P ⟨dst, .convert t t' x, ty, pos, after, gd⟩ s h (.int k' (k'.wrap a)) := by
  intro S w φ η ρ hh _ hρ
  have h1 := (hρ _ _ hx).int_inv
  obtain ⟨dd, hd⟩ := hu
  refine ⟨.int k' (k'.wrap a), fun w _ => ?_, .pure (.int _ _)⟩
  show (do pure (.value (← convert t t' (ρ x))) : Sem Next).run P w = _
  have : (convert t t' (.int k a)).run P w = .ok (.int k' (k'.wrap a)) w := by
    unfold convert
    simp only [Sem.run_bind, run_underlying hd, run_underlying hu', Result.andThen_ok]
    rfl
  rw [h1]
  simp only [Sem.run_bind, this, Result.andThen_ok, Sem.run_pure]

theorem op_conv64 {t t' : TypeId} {k : IntKind} {a : Int} (hu : ∃ d, P.underlying t = some d) (hu' : P.underlying t' = some (.int .i64)) (hx : aev s x = some (.int k a))
    (hf : -9223372036854775808 ≤ a ∧ a ≤ 9223372036854775807) : OpP P ⟨dst, .convert t t' x, ty, pos, after, gd⟩ s h (.int .i64 a) := by
  have := op_conv (P := P) (h := h) (dst := dst) (ty := ty) (pos := pos) (after := after) (gd := gd) hu hu' hx
  rwa [wrap_i64 hf] at this

/-! ### Function values -/

/-- A call of a function value. -/
theorem exec_callV {o : Oper} {g : Operand} {f : FuncId} {args : Array Operand} {tys : Array TypeId} {w : World} {ρ : Operand → Value} {as bs : Array Value} (ho : o.op = .call ⟨.value g, args, tys⟩)
    (hρ : ρ g = .func (.func f) as bs) (hcall : ∀ args w, (callFunc f args).run P w = .ok (.enter f args) w) :
    (execOp ρ o).run P w = .ok (.enter f (as ++ args.map ρ ++ bs)) w := by
  unfold execOp
  rw [ho]
  simp only [resolve, hρ, Deferred.ofValue, Sem.run_bind, Sem.run_pure, Result.andThen_ok, invoke]
  exact hcall _ _

theorem TL_callV {f : FuncId} {g : Operand} {args : Array Operand} {tys : Array TypeId} {zs fs cs xs : List AV} {r : AV} (hg : aev s g = some (.fn (.func f) fs cs)) (hc : ACall P f xs [] r [])
    (hcall : ∀ args w, (callFunc f args).run P w = .ok (.enter f args) w)
    (hz : aevL s args.toList = some zs) (hv : viewL h (fs ++ zs ++ cs) = some xs) (hf : flatV r = true) (hN : Nat.blt d N = true) (hs : sput s d r = some s')
    (k : TLE ex P F N ops rest K ⟨s', h⟩) : TLE ex P F N ops (⟨some d, .call ⟨.value g, args, tys⟩, ty, pos, after, none⟩ :: rest) K ⟨s, h⟩ := by
  intro a w R hr hQ
  obtain ⟨φ, hr⟩ := hr
  obtain ⟨as, bs, hgv, a1, b1, a2, b2⟩ := (aev_rep hr hg).fn_inv
  refine wpList_plain rfl fun K' hK' => ?_
  unfold Oper.wp
  rw [exec_callV (o := ⟨some d, .call ⟨.value g, args, tys⟩, ty, pos, after, none⟩) rfl hgv hcall]
  obtain ⟨g1, g2⟩ := aevL_rep (fun y z hy => aev_rep hr hy) hz
  obtain ⟨e1, e2⟩ := viewL_eq hv
  have hpw : PW (Stab F w φ h) w φ h (fs ++ zs ++ cs) (as ++ args.map a.eval ++ bs).toList := by
    simp only [Array.toList_append]
    exact PW.append (PW.append ⟨by simpa using a1, fun i x v hx hv => a2 i x v hx (by simpa using hv)⟩ ⟨by simpa using g1, fun i x v hx hv => g2 i x v hx (by simpa using hv)⟩)
      ⟨by simpa using b1, fun i x v hx hv => b2 i x v hx (by simpa using hv)⟩
  refine (hc w (Sall w) φ _ (HeapOK.nil φ (fun b hb => hb)) ⟨by rw [← e1]; exact hpw.1, fun i y v hy hv => ?_⟩).mono ?_
  · obtain ⟨x, hx, hxy⟩ := e2 i y hy
    exact .pure (viewO_rep hr.heap (hpw.2 i x v hx hv) hxy)
  · rintro e w' ⟨v, φ', rfl, hret⟩
    have hfr : ∀ b, b < w.heap.size → w'.heap[b]? = w.heap[b]? := fun b hb => hret.frame b hb (fun ⟨id, o, ho, _⟩ => by cases ho)
    exact hK' _ _ (k _ _ R ⟨φ, (hr.world hret.sys hret.grow hfr).put (Nat.le_of_ble_eq_true hN) hs (.pure (flatV_rep hf hret.val))⟩ (fun st' a' w'' hk hr'' he => hQ st' a' w'' hk hr'' (fun h => (Ext.mk hret.grow hfr).trans (he h))))

end
end Go.AM
