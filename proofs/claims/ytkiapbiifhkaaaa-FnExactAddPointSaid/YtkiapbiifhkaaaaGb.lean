import Derived.Test.YtkiapbiifhkaaaaGa
import Derived.Orders
import Derived.Below
import Derived.WideShapes
namespace Go.AM
open Go
def view1 (h : Heap) : AV → Option AV
  | .ow i => match lk h i with
    | some (.arr _ sz _ es) => some (.sl sz es)
    | _ => none
  | .mp _ => some .junk
  | x => bif noIds x then some x else none
def viewC (h : Heap) : List AV → Option (List AV)
  | [] => some []
  | x :: r => match view1 h x with
    | some y => match viewC h r with
      | some l => some (y :: l)
      | none => none
    | none => none
def viewO (h : Heap) : AV → Option AV
  | .ptr i 0 off => match lk h i with
    | some (.box cs) => match dropB cs off with
      | some cs' => match viewC h cs' with
        | some l => some (.cp l)
        | none => none
      | none => none
    | _ => none
  | .agg cs => match viewC h cs with
    | some l => some (.agg l)
    | none => none
  | x => view1 h x
def viewL (h : Heap) : List AV → Option (List AV)
  | [] => some []
  | x :: r => match viewO h x with
    | some y => match viewL h r with
      | some l => some (y :: l)
      | none => none
    | none => none
def flatV : AV → Bool
  | .int _ _ => true
  | .bool _ => true
  | .str _ => true
  | .tup vs => vs.all fun | .int _ _ => true | .bool _ => true | .str _ => true | _ => false
  | _ => false
section
variable {S : Nat → Prop} {w : World} {φ : Nat → Loc} {h η0 : Heap}
def Sall (w : World) (b : Nat) : Prop := b < w.heap.size
theorem view1_other {x : AV} (hx : ∀ i, x ≠ .ow i) (hx2 : ∀ i, x ≠ .mp i) : view1 h x = bif noIds x then some x else none := by
  cases x <;> first | rfl | exact absurd rfl (hx _) | exact absurd rfl (hx2 _)
theorem tree_of_bif (hh : HeapOK S w φ h) {x y : AV} {v : Value} (hv : RepV S w φ h x v) (hy : (bif noIds x then some x else none) = some y) : RepT (Sall w) w y v := by
  cases hn : noIds x with
  | false => rw [hn] at hy; cases hy
  | true =>
    rw [hn] at hy
    cases hy
    exact (hv.tree hn).mono hh.free (fun _ _ => rfl)
theorem LinT.tree {w : World} {x : AV} {v : Value} {fp : List Nat} (h : LinT w x v fp) : RepT (Sall w) w x v := by
  induction h with
  | int k n => exact .int k n
  | bool b => exact .bool b
  | str s => exact .str s
  | snil => exact .snil
  | agg cs vs fps h1 h2 _ ih =>
    refine .agg cs vs h1 (fun i x v hx hv => ?_)
    have hlt := (List.getElem?_eq_some_iff.1 hx).1
    exact ih i x v fps[i] hx hv (by simp [h2, hlt])
  | sl0 sz a => exact .sl0 sz a 0 (fun _ => rfl)
  | sl sz es b cap C E fps hC h3 h4 h5 h6 h7 h8 h9 _ ih =>
    by_cases h1 : es = []
    · subst h1; exact .sl0 _ _ _ (fun h => nomatch h)
    have hcap : es.length * sz ≤ cap * sz := Nat.mul_le_mul_right _ h4
    have hin : ∀ (j : Nat) c, (flat es)[j]? = some c → C[j]? = some (C.getD j undef) := by
      intro j c hc
      have hj := (List.getElem?_eq_some_iff.1 hc).1
      rw [Xa h7] at hj
      have : j < C.size := by omega
      simp [this]
    refine .sl sz es _ 0 _ (fun j => C.getD j undef) h1 (Array.getElem?_eq_some_iff.1 hC).1 h4 h5 h6 h7 h8 (fun j c hc => ?_) (fun j c hc => ?_)
    · rw [Nat.zero_add, cell_at hC]; exact hin j c hc
    · have hlt := (List.getElem?_eq_some_iff.1 hc).1
      exact ih j c _ fps[j] hc (hin j c hc) (by simp [h9, hlt])
theorem CellsOK.tree {k : Kd} {l : Loc} {xs : List AV} {C : Array Value} (h : CellsOK k S w l xs C) (hS : ∀ b, S b → Sall w b) :
    ∀ (j : Nat) x v, xs[j]? = some x → C[j]? = some v → RepT (Sall w) w x v := by
  unfold CellsOK at h
  cases hk : k.d with
  | false => rw [hk] at h; exact fun j x v hx hv => (h j x v hx hv).mono hS (fun _ _ => rfl)
  | true =>
    rw [hk] at h
    obtain ⟨fps, h1, h2, _⟩ := h
    intro j x v hx hv
    have hlt := (List.getElem?_eq_some_iff.1 hx).1
    exact (h2 j x v fps[j] hx hv (by simp [h1, hlt])).tree
theorem LinT.toTree {S : Nat → Prop} {w : World} {x : AV} {v : Value} {fp : List Nat} (h : LinT w x v fp) : (∀ b ∈ fp, S b) → RepT S w x v := by
  induction h with
  | int k n => exact fun _ => .int k n
  | bool b => exact fun _ => .bool b
  | str s => exact fun _ => .str s
  | snil => exact fun _ => .snil
  | agg cs vs fps h1 h2 _ ih =>
    intro hS
    refine .agg cs vs h1 (fun i x v hx hv => ?_)
    have hlt := (List.getElem?_eq_some_iff.1 hx).1
    have hf : fps[i]? = some (fps[i]'(by omega)) := by simp [h2, hlt]
    exact ih i x v _ hx hv hf (fun b hb => hS b (List.mem_flatten.2 ⟨_, List.mem_of_getElem? hf, hb⟩))
  | sl0 sz a => exact fun _ => .sl0 sz a 0 (fun _ => rfl)
  | sl sz es b cap C E fps hC h3 h4 h5 h6 h7 h8 h9 _ ih =>
    intro hS
    by_cases h1 : es = []
    · subst h1; exact .sl0 _ _ _ (fun h => nomatch h)
    have hcap : es.length * sz ≤ cap * sz := Nat.mul_le_mul_right _ h4
    have hin : ∀ (j : Nat) c, (flat es)[j]? = some c → C[j]? = some (C.getD j undef) := by
      intro j c hc
      have hj := (List.getElem?_eq_some_iff.1 hc).1
      rw [Xa h7] at hj
      have : j < C.size := by omega
      simp [this]
    refine .sl sz es _ 0 _ (fun j => C.getD j undef) h1 (hS b (by simp)) h4 h5 h6 h7 h8 (fun j c hc => ?_) (fun j c hc => ?_)
    · rw [Nat.zero_add, cell_at hC]; exact hin j c hc
    · have hlt := (List.getElem?_eq_some_iff.1 hc).1
      have hf : fps[j]? = some (fps[j]'(by omega)) := by simp [h9, hlt]
      exact ih j c _ _ hc (hin j c hc) hf (fun b hb => hS b (by simp only [List.mem_cons]; exact .inr (List.mem_flatten.2 ⟨_, List.mem_of_getElem? hf, hb⟩)))
theorem CellsOK.frozen {k : Kd} {S' : Nat → Prop} {l : Loc} {xs : List AV} {C : Array Value} (h : CellsOK k S w l xs C) (hS : ∀ b, S b → S' b) (hf : ∀ b ∈ l.fp, S' b) :
    ∀ (j : Nat) x v, xs[j]? = some x → C[j]? = some v → RepT S' w x v := by
  unfold CellsOK at h
  cases hk : k.d with
  | false => rw [hk] at h; exact fun j x v hx hv => (h j x v hx hv).mono hS (fun _ _ => rfl)
  | true =>
    rw [hk] at h
    obtain ⟨fps, h1, h2, h3, h4, _⟩ := h
    intro j x v hx hv
    have hlt := (List.getElem?_eq_some_iff.1 hx).1
    have hp : fps[j]? = some (fps[j]'(by omega)) := by simp [h1, hlt]
    exact (h2 j x v _ hx hv hp).toTree (fun b hb => hf b (h4 b (List.mem_flatten.2 ⟨_, List.mem_of_getElem? hp, hb⟩)))
theorem view1_rep (hh : HeapOK S w φ h) {x y : AV} {v : Value} (hv : RepV S w φ h x v) (hy : view1 h x = some y) : RepT (Sall w) w y v := by
  have hS : ∀ b, S b → Sall w b := hh.free
  cases x with
  | ow i =>
    unfold view1 at hy
    cases hl : lk h i with
    | none => simp [hl] at hy
    | some o =>
      cases o with
      | box cs => simp [hl] at hy
      | arr kd sz E es =>
        simp only [hl, Option.some.injEq] at hy
        subst hy
        obtain ⟨hsz, hlens, hones, hob⟩ := hh.obj _ _ hl
        rcases hv.ow_inv hl with ⟨hm, rfl⟩ | ⟨hm, rfl, rfl⟩
        · rcases hob with ⟨hf, _⟩ | ⟨_, C, hC, hle, hcm, hCs, hrep⟩
          · rw [hm] at hf; cases hf
          · by_cases hne : es = []
            · subst hne; exact .sl0 _ _ _ (fun hn => by cases hn)
            · have hcap : es.length * sz ≤ (φ i).cap * sz := Nat.mul_le_mul_right _ hle
              have hin : ∀ (j : Nat) c, (flat es)[j]? = some c → C[j]? = some (C.getD j undef) := by
                intro j c hc
                have hj := (List.getElem?_eq_some_iff.1 hc).1
                rw [Xa hlens] at hj
                have : j < C.size := by omega
                simp [this]
              refine .sl sz es _ 0 _ (fun j => C.getD j undef) hne (Array.getElem?_eq_some_iff.1 hC).1 hle hcm hsz hlens hones (fun j c hc => ?_) (fun j c hc => hrep.tree hS j c _ hc (hin j c hc))
              rw [Nat.zero_add, cell_at hC]; exact hin j c hc
        · exact .sl0 _ _ _ (fun _ => rfl)
  | mp i => cases hy; exact .junk _
  | _ => exact tree_of_bif hh hv (by rw [view1_other (by intro i e; cases e) (by intro i e; cases e)] at hy; exact hy)
theorem viewC_eq : ∀ {l l' : List AV}, viewC h l = some l' → l.length = l'.length ∧ ∀ (i : Nat) y, l'[i]? = some y → ∃ x, l[i]? = some x ∧ view1 h x = some y := by
  intro l
  induction l with
  | nil => intro l' e; cases e; exact ⟨rfl, fun i y hy => by simp at hy⟩
  | cons x l ih =>
    intro l' e
    unfold viewC at e
    cases hx : view1 h x with
    | none => simp [hx] at e
    | some y0 =>
      simp only [hx] at e
      cases hr : viewC h l with
      | none => simp [hr] at e
      | some l0 =>
        simp only [hr, Option.some.injEq] at e
        subst e
        obtain ⟨h1, h2⟩ := ih hr
        refine ⟨by simp [h1], fun i y hy => ?_⟩
        cases i with
        | zero => simp at hy; subst hy; exact ⟨x, by simp, hx⟩
        | succ i => simp at hy; obtain ⟨z, hz, hz'⟩ := h2 i y hy; exact ⟨z, by simpa using hz, hz'⟩
theorem viewO_rep (hh : HeapOK S w φ h) {x y : AV} {v : Value} (hv : RepV S w φ h x v) (hy : viewO h x = some y) : RepT (Sall w) w y v := by
  unfold viewO at hy
  split at hy
  · rename_i i off
    cases hl : lk h i with
    | none => simp [hl] at hy
    | some o =>
      cases o with
      | arr _ _ _ _ => simp [hl] at hy
      | box cs =>
        simp only [hl] at hy
        cases hd : dropB cs off with
        | none => simp [hd] at hy
        | some cs' =>
          simp only [hd] at hy
          cases hc : viewC h cs' with
          | none => simp [hc] at hy
          | some l =>
            simp only [hc, Option.some.injEq] at hy
            subst hy
            obtain ⟨h1, h2⟩ := viewC_eq hc
            obtain ⟨b, o', f, rfl, hf⟩ := PT_box hh hv hl hd
            have hb : b = (φ i).blk ∧ (φ i).mat = true := by
              cases hv with
              | pure hv => cases hv
              | box _ hm => exact ⟨rfl, hm⟩
              | elt ho _ => rw [hl] at ho; cases ho
            refine .cp l b o' f (by rw [hb.1]; exact (hh.obj _ _ hl).lt hb.2) (fun j y hy => ?_) (fun j y hy => ?_)
            · obtain ⟨x, hx, _⟩ := h2 j y hy
              exact (hf j x hx).1
            · obtain ⟨x, hx, hxy⟩ := h2 j y hy
              exact view1_rep hh (hf j x hx).2 hxy
  · rename_i cs
    cases hc : viewC h cs with
    | none => simp [hc] at hy
    | some l =>
      simp only [hc, Option.some.injEq] at hy
      subst hy
      obtain ⟨h1, h2⟩ := viewC_eq hc
      obtain ⟨us, rfl, h3, h4⟩ := hv.agg_inv
      refine .agg l us (by rw [← h1]; exact h3) (fun i y v hy hv => ?_)
      obtain ⟨x, hx, hxy⟩ := h2 i y hy
      exact view1_rep hh (h4 i x v hx hv) hxy
  · exact view1_rep hh hv hy
theorem viewL_eq : ∀ {l l' : List AV}, viewL h l = some l' → l.length = l'.length ∧ ∀ (i : Nat) y, l'[i]? = some y → ∃ x, l[i]? = some x ∧ viewO h x = some y := by
  intro l
  induction l with
  | nil => intro l' e; cases e; exact ⟨rfl, fun i y hy => by simp at hy⟩
  | cons x l ih =>
    intro l' e
    unfold viewL at e
    cases hx : viewO h x with
    | none => simp [hx] at e
    | some y0 =>
      simp only [hx] at e
      cases hr : viewL h l with
      | none => simp [hr] at e
      | some l0 =>
        simp only [hr, Option.some.injEq] at e
        subst e
        obtain ⟨h1, h2⟩ := ih hr
        refine ⟨by simp [h1], fun i y hy => ?_⟩
        cases i with
        | zero => simp at hy; subst hy; exact ⟨x, by simp, hx⟩
        | succ i => simp at hy; obtain ⟨z, hz, hz'⟩ := h2 i y hy; exact ⟨z, by simpa using hz, hz'⟩
theorem flatV_rep {S' : Nat → Prop} {w' : World} {φ' : Nat → Loc} {h' : Heap} {r : AV} {v : Value} (hf : flatV r = true) (hv : RepV S' w' φ' h' r v) : RepT S w r v := by
  cases r with
  | int k n => rw [hv.int_inv]; exact .int _ _
  | bool b => rw [hv.bool_inv]; exact .bool _
  | str l => rw [hv.str_inv]; exact .str _
  | tup vs =>
    obtain ⟨us, rfl, h1, h2⟩ := hv.tup_inv
    refine .tup vs us h1 (fun i x u hx hu => ?_)
    have hx' := (List.all_eq_true.1 hf) x (List.mem_of_getElem? hx)
    have := h2 i x u hx hu
    cases x with
    | int k n => rw [this.int_inv]; exact .int _ _
    | bool b => rw [this.bool_inv]; exact .bool _
    | str l => rw [this.str_inv]; exact .str _
    | _ => cases hx'
  | _ => cases hf
end
section
variable {P : Program} {F : Fr} {N : Nat} {ops : Array Oper} {rest : List Oper} {K : St → Prop}
variable {ty : TypeId} {pos : String} {after : Array Edge} {d : Nat} {s s' s1 : Xb} {h h' h1 : Heap}
theorem HeapOK.nil {S : Nat → Prop} {w : World} (φ : Nat → Loc) (hS : ∀ b, S b → b < w.heap.size) : HeapOK S w φ [] :=
  ⟨fun _ _ ho => (by cases ho), fun _ _ _ _ _ ho => (by cases ho), hS, fun _ _ _ ho => (by cases ho), fun _ _ _ ho => (by cases ho)⟩
theorem TL_enter {ex : Bool} {o : Oper} {f : FuncId} {st st' : St} {vs : Act → Array Value} (hg : o.guard = none)
    (hrun : ∀ φ a w, RelP F N st φ a w → (execOp a.eval o).run P w = .ok (.enter f (vs a)) w)
    (h : ∀ φ a w, RelP F N st φ a w → Calls P f (vs a) w fun e w' => ∃ v, e = .returned v ∧ Rel F N st' (a.put o.dst v) w' ∧ (ex = true → Ext w w'))
    (k : TLE ex P F N ops rest K st') : TLE ex P F N ops (o :: rest) K st := by
  intro a w R hr hQ
  obtain ⟨φ, hp⟩ := hr
  refine wpList_plain hg fun K' hK' => ?_
  unfold Oper.wp
  rw [hrun φ a w hp]
  refine (h φ a w hp).mono ?_
  rintro e w' ⟨v, rfl, hr', hext⟩
  exact hK' _ _ (k _ _ R hr' (fun st' a' w'' hk hr'' he => hQ st' a' w'' hk hr'' (fun h => (hext h).trans (he h))))
theorem exec_call {o : Oper} {f : FuncId} {args : Array Operand} {tys : Array TypeId} {w : World} {ρ : Operand → Value} (ho : o.op = .call ⟨.value (.func f), args, tys⟩)
    (hρ : ρ (.func f) = .func (.func f) #[] #[]) (hcall : ∀ args w, (callFunc f args).run P w = .ok (.enter f args) w) :
    (execOp ρ o).run P w = .ok (.enter f (args.map ρ)) w := by
  unfold execOp
  rw [ho]
  simp only [resolve, hρ, Deferred.ofValue, Sem.run_bind, Sem.run_pure, Result.andThen_ok, invoke, Array.empty_append, Array.append_empty]
  exact hcall _ _
theorem QA {ex : Bool} {f : FuncId} {args : Array Operand} {tys : Array TypeId} {zs xs : List AV} {r : AV} (hc : ACallF F P f xs [] r []) (hcall : ∀ args w, (callFunc f args).run P w = .ok (.enter f args) w)
    (hz : aevL s args.toList = some zs) (hv : viewL h zs = some xs) (hf : flatV r = true) (hN : Nat.blt d N = true) (hs : sput s d r = some s')
    (k : TLE ex P F N ops rest K ⟨s', h⟩) : TLE ex P F N ops (⟨some d, .call ⟨.value (.func f), args, tys⟩, ty, pos, after, none⟩ :: rest) K ⟨s, h⟩ := by
  refine TL_enter (vs := fun a => args.map a.eval) rfl (fun φ a w hr => exec_call rfl rfl hcall) (fun φ a w hr => ?_) k
  obtain ⟨g1, g2⟩ := aevL_rep (fun y z hy => aev_rep hr hy) hz
  obtain ⟨e1, e2⟩ := viewL_eq hv
  refine (hc w (Sall w) φ _ hr.keepsAll (HeapOK.nil φ (fun b hb => hb)) ⟨by rw [← e1, g1, Array.length_toList], fun i y v hy hv => ?_⟩).mono ?_
  · obtain ⟨x, hx, hxy⟩ := e2 i y hy
    exact .pure (viewO_rep hr.heap (g2 i x v hx (by simpa using hv)) hxy)
  · rintro e w' ⟨v, φ', rfl, hret⟩
    have hfr : ∀ b, b < w.heap.size → w'.heap[b]? = w.heap[b]? := fun b hb => hret.frame b hb (fun ⟨id, o, ho, _⟩ => by cases ho)
    exact ⟨v, rfl, ⟨φ, (hr.world hret.sys hret.grow hfr).put (Nat.le_of_ble_eq_true hN) hs (.pure (flatV_rep hf hret.val))⟩, fun _ => ⟨hret.grow, hfr⟩⟩
end
end Go.AM

namespace Go.AM
open Go
def injB : List (Nat × Nat) → Bool
  | [] => true
  | (_, j) :: r => r.all (fun p => !Nat.beq p.2 j) && injB r
theorem lk_mem {α : Type} : ∀ {l : List (Nat × α)} {i : Nat} {x : α}, lk l i = some x → (i, x) ∈ l := by
  intro l
  induction l with
  | nil => intro i x h; cases h
  | cons p l ih =>
    obtain ⟨k, y⟩ := p
    intro i x h
    rw [Q7] at h
    split at h
    · cases h; rename_i hk; subst hk; simp
    · exact List.mem_cons_of_mem _ (ih h)
theorem injB_inj : ∀ {ρ : List (Nat × Nat)}, injB ρ = true → ∀ {i i' j : Nat}, lk ρ i = some j → lk ρ i' = some j → i = i' := by
  intro ρ
  induction ρ with
  | nil => intro _ i i' j h; cases h
  | cons p r ih =>
    obtain ⟨k, j0⟩ := p
    intro h i i' j hi hi'
    simp only [injB, Bool.and_eq_true] at h
    rw [Q7] at hi hi'
    have hno : ∀ m, lk r m ≠ some j0 := by
      intro m hm
      have := (List.all_eq_true.1 h.1) _ (lk_mem hm)
      simp [Nat.beq_refl] at this
    by_cases h1 : k = i
    · rw [if_pos h1] at hi
      cases hi
      by_cases h2 : k = i'
      · exact h1.symm.trans h2
      · rw [if_neg h2] at hi'; exact absurd hi' (hno _)
    · rw [if_neg h1] at hi
      by_cases h2 : k = i'
      · rw [if_pos h2] at hi'; cases hi'; exact absurd hi (hno _)
      · rw [if_neg h2] at hi'; exact ih h.2 hi hi'
def objRen (ρ : List (Nat × Nat)) : AO → AO → Prop
  | .box cs, .box cs' => cs.length = cs'.length ∧ ∀ (n : Nat) x y, cs[n]? = some x → cs'[n]? = some y → Ren (fun i j => lk ρ i = some j) x y
  | .arr k sz E es, .arr k' sz' E' es' => k = k' ∧ sz = sz' ∧ E = E' ∧ es = es'
  | _, _ => False
theorem renH_spec {ρ : List (Nat × Nat)} (hi : injB ρ = true) : ∀ {L M : Heap}, renH ρ L = some M →
    (∀ i o, lk L i = some o → ∃ j o', lk ρ i = some j ∧ lk M j = some o' ∧ objRen ρ o o') ∧
    (∀ j o', lk M j = some o' → ∃ i o, lk ρ i = some j ∧ lk L i = some o ∧ objRen ρ o o') := by
  intro L
  induction L with
  | nil => intro M h; cases h; exact ⟨fun i o ho => (by cases ho), fun j o ho => (by cases ho)⟩
  | cons p L ih =>
    obtain ⟨k, o0⟩ := p
    intro M h
    have key : ∀ j0 o1 M', lk ρ k = some j0 → objRen ρ o0 o1 → renH ρ L = some M' → M = (j0, o1) :: M' →
        (∀ i o, lk ((k, o0) :: L) i = some o → ∃ j o', lk ρ i = some j ∧ lk M j = some o' ∧ objRen ρ o o') ∧
        (∀ j o', lk M j = some o' → ∃ i o, lk ρ i = some j ∧ lk ((k, o0) :: L) i = some o ∧ objRen ρ o o') := by
      intro j0 o1 M' hj0 ho1 hM' hMe
      subst hMe
      obtain ⟨a1, a2⟩ := ih hM'
      refine ⟨fun i o ho => ?_, fun j o' ho => ?_⟩
      · rw [Q7] at ho
        split at ho
        · cases ho; rename_i hk; subst hk
          exact ⟨j0, o1, hj0, by rw [Q7, if_pos rfl], ho1⟩
        · rename_i hk
          obtain ⟨j, o', b1, b2, b3⟩ := a1 i o ho
          refine ⟨j, o', b1, ?_, b3⟩
          have : j0 ≠ j := fun e => hk (injB_inj hi hj0 (e ▸ b1))
          rw [Q7, if_neg this]; exact b2
      · rw [Q7] at ho
        split at ho
        · cases ho; rename_i hk; subst hk
          exact ⟨k, o0, hj0, by rw [Q7, if_pos rfl], ho1⟩
        · rename_i hk
          obtain ⟨i, o, b1, b2, b3⟩ := a2 j o' ho
          refine ⟨i, o, b1, ?_, b3⟩
          have : k ≠ i := fun e => hk (by subst e; rw [hj0] at b1; cases b1; rfl)
          rw [Q7, if_neg this]; exact b2
    cases o0 with
    | box cs =>
      unfold renH at h
      cases hj : lk ρ k with
      | none => simp [hj] at h
      | some j0 =>
        simp only [hj] at h
        cases hc : renL ρ cs with
        | none => simp [hc] at h
        | some cs' =>
          simp only [hc] at h
          cases hr : renH ρ L with
          | none => simp [hr] at h
          | some M' =>
            simp only [hr, Option.some.injEq] at h
            exact key j0 (.box cs') M' hj (renL_spec cs cs' hc) hr h.symm
    | arr kd sz E es =>
      unfold renH at h
      cases hj : lk ρ k with
      | none => simp [hj] at h
      | some j0 =>
        simp only [hj] at h
        cases hr : renH ρ L with
        | none => simp [hr] at h
        | some M' =>
          simp only [hr, Option.some.injEq] at h
          exact key j0 (.arr kd sz E es) M' hj ⟨rfl, rfl, rfl, rfl⟩ hr h.symm
def putAll : Heap → Heap → Option Heap
  | h, [] => some h
  | h, (i, o) :: r => match sput h i o with
    | some h' => putAll h' r
    | none => none
def keysB : Heap → Bool
  | [] => true
  | (i, _) :: r => r.all (fun p => !Nat.beq p.1 i) && keysB r
theorem putAll_lk : ∀ {M h h' : Heap}, keysB M = true → putAll h M = some h' → ∀ j, lk h' j = match lk M j with
    | some o => some o
    | none => lk h j := by
  intro M
  induction M with
  | nil => intro h h' _ e j; cases e; rfl
  | cons p M ih =>
    obtain ⟨k, o⟩ := p
    intro h h' hk e j
    unfold putAll at e
    cases hs : sput h k o with
    | none => simp [hs] at e
    | some h1 =>
      simp only [hs] at e
      simp only [keysB, Bool.and_eq_true] at hk
      rw [ih hk.2 e j, Q7, lk_sput hs]
      by_cases hkj : k = j
      · subst hkj
        have : lk M k = none := by
          cases hl : lk M k with
          | none => rfl
          | some o1 =>
            have := (List.all_eq_true.1 hk.1) _ (lk_mem hl)
            simp [Nat.beq_refl] at this
        rw [if_pos rfl, if_pos rfl, this]
      · rw [if_neg hkj, if_neg hkj]
def SubH : Heap → Heap → Prop
  | [], _ => True
  | (j, o) :: r, h => lk h j = some o ∧ SubH r h
theorem SubH_lk : ∀ {M h : Heap}, SubH M h → ∀ j o, lk M j = some o → lk h j = some o := by
  intro M
  induction M with
  | nil => intro h _ j o ho; cases ho
  | cons p M ih =>
    obtain ⟨k, o0⟩ := p
    intro h hs j o ho
    rw [Q7] at ho
    split at ho
    · cases ho; rename_i hk; subst hk; exact hs.1
    · exact ih hs.2 j o ho
def killSL : List Nat → Xb → Option Xb
  | [], s => some s
  | k :: r, s => match killS k s with
    | some s' => killSL r s'
    | none => none
def killHL : List Nat → Heap → Option Heap
  | [], h => some h
  | k :: r, h => match killH k h with
    | some h' => killHL r h'
    | none => none
mutual
theorem men_ren {K : Nat → Bool} : ∀ (x : AV), (∀ k, K k = true → men k x = false) → Ren (fun i j => i = j ∧ K i = false) x x
  | .ow i, h => .ow ⟨rfl, by
      cases hk : K i with
      | false => rfl
      | true => have := h i hk; simp [men] at this⟩
  | .ptr i k o, h => .ptr ⟨rfl, by
      cases hk : K i with
      | false => rfl
      | true => have := h i hk; simp [men] at this⟩
  | .mp i, h => .mp ⟨rfl, by
      cases hk : K i with
      | false => rfl
      | true => have := h i hk; simp [men] at this⟩
  | .sub i _, h => .sub ⟨rfl, by
      cases hk : K i with
      | false => rfl
      | true => have := h i hk; simp [men] at this⟩
  | .win i _, h => .win ⟨rfl, by
      cases hk : K i with
      | false => rfl
      | true => have := h i hk; simp [men] at this⟩
  | .agg xs, h => .agg rfl (fun n x y hx hy => by
      rw [hx] at hy; cases hy
      exact menL_ren xs (fun k hk => by simpa [men] using h k hk) n x hx)
  | .tup xs, h => .tup rfl (fun n x y hx hy => by
      rw [hx] at hy; cases hy
      exact menL_ren xs (fun k hk => by simpa [men] using h k hk) n x hx)
  | .fn f xs us, h => .fn rfl rfl (fun n x y hx hy => by
      rw [hx] at hy; cases hy
      exact menL_ren xs (fun k hk => by have := h k hk; simp [men] at this; exact this.1) n x hx) (fun n x y hx hy => by
      rw [hx] at hy; cases hy
      exact menL_ren us (fun k hk => by have := h k hk; simp [men] at this; exact this.2) n x hx)
  | .int _ _, _ => .tree rfl
  | .bool _, _ => .tree rfl
  | .str _, _ => .tree rfl
  | .snil, _ => .tree rfl
  | .sl _ _, _ => .tree rfl
  | .cp _, _ => .tree rfl
  | .nilp, _ => .tree rfl
  | .tr _, _ => .tree rfl
  | .nilf, _ => .tree rfl
  | .junk, _ => .tree rfl
theorem menL_ren {K : Nat → Bool} : ∀ (xs : List AV), (∀ k, K k = true → menL k xs = false) → ∀ (n : Nat) x, xs[n]? = some x → Ren (fun i j => i = j ∧ K i = false) x x
  | [], _, n, x, hx => by simp at hx
  | y :: r, h, n, x, hx => by
    cases n with
    | zero =>
      simp at hx; subst hx
      exact men_ren y (fun k hk => by have := h k hk; simp [menL] at this; exact this.1)
    | succ n =>
      simp at hx
      exact menL_ren r (fun k hk => by have := h k hk; simp [menL] at this; exact this.2) n x hx
end
theorem killSL_spec : ∀ {ks : List Nat} {s s' : Xb}, killSL ks s = some s' →
    ∀ i x', lk s' i = some x' → (∀ k ∈ ks, men k x' = false) ∧ ∃ x, lk s i = some x ∧ isWeak x' x := by
  intro ks
  induction ks with
  | nil => intro s s' h i x hx; cases h; exact ⟨fun k hk => by simp at hk, x, hx, .inl rfl⟩
  | cons k ks ih =>
    intro s s' h i x hx
    unfold killSL at h
    cases hs : killS k s with
    | none => simp [hs] at h
    | some s1 =>
      simp only [hs] at h
      obtain ⟨a1, y, hy, hxy⟩ := ih h i x hx
      obtain ⟨b1, z, hz, hyz⟩ := killS_spec hs i y hy
      refine ⟨fun m hm => ?_, z, hz, ?_⟩
      · rcases List.mem_cons.1 hm with rfl | hm
        · rcases hxy with rfl | rfl
          · exact b1
          · rfl
        · exact a1 m hm
      · rcases hxy with rfl | rfl
        · exact hyz
        · exact .inr rfl
theorem objWeak.trans {a b c : AO} (h : objWeak a b) (k : objWeak b c) : objWeak a c := by
  cases a <;> cases b <;> cases c <;> try (first | exact h.elim | exact k.elim)
  · refine ⟨h.1.trans k.1, fun i x hx => ?_⟩
    obtain ⟨y, hy, hxy⟩ := h.2 i x hx
    obtain ⟨z, hz, hyz⟩ := k.2 i y hy
    refine ⟨z, hz, ?_⟩
    rcases hxy with rfl | rfl
    · exact hyz
    · exact .inr rfl
  · obtain ⟨rfl, rfl, rfl, rfl⟩ := h
    exact k
theorem killHL_spec : ∀ {ks : List Nat} {h h' : Heap}, killHL ks h = some h' →
    (∀ i, lk h' i = none ↔ lk h i = none) ∧ ∀ i o', lk h' i = some o' → (∀ cs, o' = .box cs → ∀ x ∈ cs, ∀ k ∈ ks, men k x = false) ∧ ∃ o, lk h i = some o ∧ objWeak o' o := by
  intro ks
  induction ks with
  | nil =>
    intro h h' e
    cases e
    refine ⟨fun i => Iff.rfl, fun i o ho => ⟨fun cs _ x _ k hk => by simp at hk, o, ho, ?_⟩⟩
    cases o with
    | box cs => exact ⟨rfl, fun i x hx => ⟨x, hx, .inl rfl⟩⟩
    | arr _ _ _ _ => exact ⟨rfl, rfl, rfl, rfl⟩
  | cons k ks ih =>
    intro h h' e
    unfold killHL at e
    cases hs : killH k h with
    | none => simp [hs] at e
    | some h1 =>
      simp only [hs] at e
      obtain ⟨a1, a2⟩ := ih e
      obtain ⟨b1, b2⟩ := killH_spec hs
      refine ⟨fun i => (a1 i).trans (b1 i), fun i o ho => ?_⟩
      obtain ⟨c1, o1, ho1, hw1⟩ := a2 i o ho
      obtain ⟨d1, o2, ho2, hw2⟩ := b2 i o1 ho1
      refine ⟨fun cs he x hx m hm => ?_, o2, ho2, hw1.trans hw2⟩
      rcases List.mem_cons.1 hm with rfl | hm
      · subst he
        obtain ⟨n, hn⟩ := List.getElem?_of_mem hx
        cases o1 with
        | arr _ _ _ _ => exact hw1.elim
        | box cs1 =>
          obtain ⟨y, hy, hxy⟩ := hw1.2 n x hn
          rcases hxy with rfl | rfl
          · exact d1 cs1 rfl x (List.mem_of_getElem? hy)
          · rfl
      · exact c1 cs he x hx m hm
section
variable {P : Program} {F : Fr} {N : Nat}
theorem lk_append {α : Type} : ∀ {l r : List (Nat × α)} {i : Nat} {x : α}, lk l i = some x → lk (l ++ r) i = some x := by
  intro l
  induction l with
  | nil => intro r i x h; cases h
  | cons p l ih =>
    obtain ⟨k, y⟩ := p
    intro r i x h
    rw [List.cons_append, Q7]
    rw [Q7] at h
    split at h
    · rename_i hk; rw [if_pos hk]; exact h
    · rename_i hk; rw [if_neg hk]; exact ih h
theorem RelP.call0 {s s1 : Xb} {h h1 h' : Heap} {φ : Nat → Loc} {a : Act} {w : World} {f : FuncId} {L L' Lc Lc' : Heap} {r r' : AV} {ρ ρn : List (Nat × Nat)} {ks : List Nat} {vs : Array Value}
    (hr : RelP F N ⟨s, h⟩ φ a w) (hc : ∀ φc, HeapOK (Stab F w φ h) w φc L → (∀ {x z : AV} {v : Value}, Ren (fun i j => lk ρ i = some j) x z → RepV (Stab F w φ h) w φ h z v → RepV (Stab F w φ h) w φc L x v) →
      Calls P f vs w fun e w' => ∃ v φ', e = .returned v ∧ Ret ⟨w, Stab F w φ h, φc, L⟩ w' φ' L' r v) (hinj : injB (ρ ++ ρn) = true)
    (hL : renH ρ L = some Lc) (hdom : ρ.all (fun p => (lk L p.1).isSome) = true) (hsub : SubH Lc h)
    (hL' : renH (ρ ++ ρn) L' = some Lc') (hdom' : (ρ ++ ρn).all (fun p => (lk L' p.1).isSome) = true) (hkeys : keysB Lc' = true)
    (hfresh : ρn.all (fun p => (lk h p.2).isNone) = true) (hr' : renO (ρ ++ ρn) r = some r')
    (hks : Lc.all (fun p => p.2.fixed || ks.contains p.1) = true)
    (hs1 : killSL ks s = some s1) (hh1 : killHL ks h = some h1) (hh' : putAll h1 Lc' = some h') :
    Calls P f vs w fun e w' => ∃ v φ', e = .returned v ∧ RelP F N ⟨s1, h'⟩ φ' a w' ∧ RepV (Stab F w' φ' h') w' φ' h' r' v ∧ (L = [] → Ext w w') := by
  have hinj0 : injB ρ = true := by
    have : ∀ (l m : List (Nat × Nat)), injB (l ++ m) = true → injB l = true := by
      intro l
      induction l with
      | nil => intro _ _; rfl
      | cons p l ih =>
        obtain ⟨k, j⟩ := p
        intro m hm
        simp only [List.cons_append, injB, Bool.and_eq_true] at hm ⊢
        exact ⟨by rw [List.all_append] at hm; simp only [Bool.and_eq_true] at hm; exact hm.1.1, ih m hm.2⟩
    exact this ρ ρn hinj
  have hspec := renH_spec hinj0 hL
  have hspec' := renH_spec hinj hL'
  have hsubl := SubH_lk hsub
  have hput := putAll_lk hkeys hh'
  obtain ⟨hkn, hkH⟩ := killHL_spec hh1
  have hkS := killSL_spec hs1
  have hρn : ∀ {i j}, lk (ρ ++ ρn) i = some j → lk ρ i = some j ∨ lk h j = none := by
    intro i j e
    have hm := lk_mem e
    rcases List.mem_append.1 hm with hm | hm
    · -- the name is one of the first list's
      cases hl : lk ρ i with
      | some j' =>
        have := lk_append (r := ρn) hl
        rw [e] at this
        cases this
        exact .inl rfl
      | none =>
        exfalso
        have : ∀ (l : List (Nat × Nat)), (i, j) ∈ l → lk l i ≠ none := by
          intro l
          induction l with
          | nil => intro hm; simp at hm
          | cons p l ih =>
            obtain ⟨k, y⟩ := p
            intro hm
            rw [Q7]
            split
            · simp
            · rename_i hk
              rcases List.mem_cons.1 hm with hm | hm
              · cases hm; exact absurd rfl hk
              · exact ih hm
        exact this ρ hm hl
    · right
      have := (List.all_eq_true.1 hfresh) _ hm
      simpa using this
  -- the caller's state with the arrays forgotten
  have hrk : RelP F N ⟨s1, h1⟩ φ a w := hr.weaken (fun i x hx => (hkS i x hx).2) hkn (fun i o ho => (hkH i o ho).2)
  let φc : Nat → Loc := fun i => match lk ρ i with
    | some j => φ j
    | none => mkLoc 0 0 false
  have hφc : ∀ {i j}, lk ρ i = some j → φc i = φ j := fun {i j} e => by simp only [φc, e]
  have hLj : ∀ {i o}, lk L i = some o → ∃ j o', lk ρ i = some j ∧ lk h j = some o' ∧ objRen ρ o o' := fun {i o} e => by
    obtain ⟨j, o', b1, b2, b3⟩ := hspec.1 i o e
    exact ⟨j, o', b1, hsubl _ _ b2, b3⟩
  -- back to the callee's names
  have hbk : ∀ j i, lk ρ i = some j → (∀ o, lk h j = some o → φc i = φ j) ∧ objAlike h L j i := by
    intro j i e
    refine ⟨fun _ _ => hφc e, ?_⟩
    obtain ⟨o, ho⟩ := Option.isSome_iff_exists.1 ((List.all_eq_true.1 hdom) _ (lk_mem e))
    obtain ⟨j', o', b1, b2, b3⟩ := hLj ho
    rw [e] at b1
    cases b1
    refine ⟨fun k sz E es ho' => ?_, fun cs ho' => ?_⟩
    · rw [b2] at ho'; cases ho'
      cases o with
      | box _ => exact b3.elim
      | arr _ _ _ _ => obtain ⟨rfl, rfl, rfl, rfl⟩ := b3; exact ⟨_, _, rfl, ho⟩
    · rw [b2] at ho'; cases ho'
      cases o with
      | box cs0 => exact ⟨cs0, ho⟩
      | arr _ _ _ _ => exact b3.elim
  have hback : ∀ {x y v}, Ren (fun i j => lk ρ i = some j) x y → RepV (Stab F w φ h) w φ h y v → RepV (Stab F w φ h) w φc L x v := fun hxy hv =>
    hv.ren (ρ := fun j i => lk ρ i = some j) (fun _ hb => hb) (fun _ _ => rfl) hbk (hxy.symm (fun _ _ e => e))
  have hHc : HeapOK (Stab F w φ h) w φc L := by
    refine ⟨fun i o ho => ?_, fun i i' o o' b ho ho' hm hm' => ?_, fun b hb => hb.1, fun i o b ho hm hst => ?_, fun i o b ho hm => ?_⟩
    · obtain ⟨j, o', b1, b2, b3⟩ := hLj ho
      have hok := hr.heap.obj j o' b2
      cases o with
      | box cs =>
        cases o' with
        | arr _ _ _ _ => exact b3.elim
        | box cs' =>
          obtain ⟨hm, C, E, hC, hsz, hrep⟩ := hok
          refine ⟨by rw [hφc b1]; exact hm, C, E, by rw [hφc b1]; exact hC.len b3.1, by rw [hsz]; exact b3.1.symm, fun n x v hx hv => ?_⟩
          obtain ⟨y, hy⟩ : ∃ y, cs'[n]? = some y := ⟨cs'[n]'(by rw [← b3.1]; exact (List.getElem?_eq_some_iff.1 hx).1), by simp⟩
          exact hback (b3.2 n x y hx hy) (hrep n y v hy hv)
      | arr kd sz E es =>
        cases o' with
        | box _ => exact b3.elim
        | arr _ _ _ _ =>
          obtain ⟨rfl, rfl, rfl, rfl⟩ := b3
          obtain ⟨h0, hl, hone, hob⟩ := hok
          refine ⟨h0, hl, hone, ?_⟩
          rw [hφc b1]
          exact hob
    · obtain ⟨j, p, b1, b2, _⟩ := hLj ho
      obtain ⟨j', p', c1, c2, _⟩ := hLj ho'
      rw [hφc b1] at hm
      rw [hφc c1] at hm'
      have := hr.heap.injO j j' p p' b b2 c2 hm hm'
      subst this
      exact injB_inj hinj0 b1 c1
    · obtain ⟨j, p, b1, b2, _⟩ := hLj ho
      rw [hφc b1] at hm
      exact hst.2.2 j p b2 hm
    · obtain ⟨j, p, b1, b2, _⟩ := hLj ho
      rw [hφc b1] at hm
      exact hr.heap.ltO j p b b2 hm
  refine (hc φc hHc (fun h1 h2 => hback h1 h2)).mono ?_
  rintro e w' ⟨v, φ', rfl, hret⟩
  -- the new places
  generalize hRe : ρ ++ ρn = R at hinj hL' hdom' hr' hρn hspec'
  have hR0 : ∀ {i j}, lk ρ i = some j → lk R i = some j := fun {i j} e => by rw [← hRe]; exact lk_append e
  have hRL' : ∀ {i j}, lk R i = some j → ∃ o o', lk L' i = some o ∧ lk Lc' j = some o' ∧ objRen R o o' := by
    intro i j e
    obtain ⟨o, ho⟩ := Option.isSome_iff_exists.1 ((List.all_eq_true.1 hdom') _ (lk_mem e))
    obtain ⟨j', o', b1, b2, b3⟩ := hspec'.1 i o ho
    rw [e] at b1
    cases b1
    exact ⟨o, o', ho, b2, b3⟩
  have hplace : ∃ φ'' : Nat → Loc, (∀ i j, lk R i = some j → φ'' j = φ' i) ∧ ∀ j, (∀ i, lk R i ≠ some j) → φ'' j = φ j := by
    classical
    refine ⟨fun j => if h : ∃ i, lk R i = some j then φ' (Classical.choose h) else φ j, fun i j e => ?_, fun j hj => ?_⟩
    · have hex : ∃ i, lk R i = some j := ⟨i, e⟩
      show (if h : ∃ i, lk R i = some j then φ' (Classical.choose h) else φ j) = φ' i
      rw [dif_pos hex, injB_inj hinj (Classical.choose_spec hex) e]
    · show (if h : ∃ i, lk R i = some j then φ' (Classical.choose h) else φ j) = φ j
      rw [dif_neg (fun ⟨i, e⟩ => hj i e)]
  obtain ⟨φ'', hφ1, hφ2⟩ := hplace
  -- an object of the new heap: one of the callee's, or an old one
  have hobj : ∀ {j o}, lk h' j = some o → (∃ i o0, lk R i = some j ∧ lk L' i = some o0 ∧ objRen R o0 o) ∨ (φ'' j = φ j ∧ lk h1 j = some o ∧ ∀ i, lk R i ≠ some j) := by
    intro j o e
    rw [hput] at e
    cases hl : lk Lc' j with
    | none =>
      rw [hl] at e
      have hno : ∀ i, lk R i ≠ some j := fun i e' => by
        obtain ⟨_, o', _, b2, _⟩ := hRL' e'
        rw [hl] at b2; cases b2
      exact .inr ⟨hφ2 j hno, e, hno⟩
    | some o1 =>
      rw [hl] at e
      cases e
      exact .inl (hspec'.2 j o hl)
  have hRh' : ∀ {i j}, lk R i = some j → ∃ o o', lk L' i = some o ∧ lk h' j = some o' ∧ objRen R o o' := by
    intro i j e
    obtain ⟨o, o', b1, b2, b3⟩ := hRL' e
    exact ⟨o, o', b1, by rw [hput, b2], b3⟩
  have hnotR : ∀ {j o}, lk h1 j = some o → (∀ i, lk R i ≠ some j) → lk h' j = some o := by
    intro j o e hno
    rw [hput]
    cases hl : lk Lc' j with
    | none => exact e
    | some o1 =>
      obtain ⟨i, _, b1, _⟩ := hspec'.2 j o1 hl
      exact absurd b1 (hno i)
  -- where the callee's objects lie
  have hmine : ∀ {i o b}, lk L' i = some o → (φ' i).owns b → w.heap.size ≤ b ∨ ∃ i0 j p, (lk R i0 = some j ∧ i0 = i) ∧ lk h j = some p ∧ (φ j).owns b := by
    intro i o b ho hm
    rcases hret.mine i o b ho hm with h1 | ⟨o0, b1, b2⟩
    · exact .inl h1
    · right
      obtain ⟨j', p, c1, c2, _⟩ := hLj b1
      have hφe : φc i = φ j' := hφc c1
      exact ⟨i, j', p, ⟨hR0 c1, rfl⟩, c2, by rw [← hφe]; exact b2⟩
  have hh1h : ∀ {j o}, lk h1 j = some o → ∃ o', lk h j = some o' ∧ objWeak o o' := fun {j o} e => (hkH j o e).2
  have hsame : ∀ b, b < w.heap.size → (∀ i j p, lk R i = some j → lk h j = some p → ¬ (φ j).owns b) → w'.heap[b]? = w.heap[b]? := by
    intro b hb hno
    refine hret.frame b hb ?_
    rintro ⟨i, o, b1, b2⟩
    obtain ⟨j, p, c1, c2, _⟩ := hLj b1
    have hφe : φc i = φ j := hφc c1
    exact hno i j p (hR0 c1) c2 (by rw [← hφe]; exact b2)
  have hStab : ∀ b, Stab F w φ h1 b → Stab F w' φ'' h' b ∧ w'.heap[b]? = w.heap[b]? := by
    intro b hb
    have hbh : ∀ j p, lk h j = some p → ¬ (φ j).owns b := by
      intro j p hp hm
      cases hl : lk h1 j with
      | none => rw [(hkn j).1 hl] at hp; cases hp
      | some o => exact hb.2.2 j o hl hm
    refine ⟨⟨Nat.lt_of_lt_of_le hb.1 hret.grow, hb.2.1, fun j o ho hm => ?_⟩, hsame b hb.1 (fun i j p _ hp => hbh j p hp)⟩
    rcases hobj ho with ⟨i, o0, e, ho0, _⟩ | ⟨e1, e2, _⟩
    · rw [hφ1 i j e] at hm
      rcases hmine ho0 hm with h1 | ⟨i0, j0, p, c0, c1, c2⟩
      · have := hb.1; omega
      · exact hbh j0 p c1 c2
    · rw [e1] at hm
      exact hb.2.2 j o e2 hm
  have hStabC : ∀ b, Stab ⟨w, Stab F w φ h, φc, L⟩ w' φ' L' b → Stab F w' φ'' h' b := by
    intro b hb
    refine ⟨hb.1, ?_, fun j o ho hm => ?_⟩
    · rcases hb.2.1 with h1 | h1
      · exact h1.2.1
      · exact .inr (Nat.le_trans hr.grow h1)
    · rcases hobj ho with ⟨i, o0, e, ho0, _⟩ | ⟨e1, e2, _⟩
      · rw [hφ1 i j e] at hm
        exact hb.2.2 i o0 ho0 hm
      · rw [e1] at hm
        obtain ⟨o', ho', _⟩ := hh1h e2
        rcases hb.2.1 with h1 | h1
        · exact h1.2.2 j o' ho' hm
        · have hlt := hr.heap.ltO j o' b ho' hm
          have h1' : w.heap.size ≤ b := h1
          omega
  -- values of the callee's, under the caller's names
  have hfw : ∀ {x y v}, Ren (fun i j => lk R i = some j) x y → RepV (Stab ⟨w, Stab F w φ h, φc, L⟩ w' φ' L') w' φ' L' x v → RepV (Stab F w' φ'' h') w' φ'' h' y v := fun hxy hv =>
    hv.ren (ρ := fun i j => lk R i = some j) hStabC (fun _ _ => rfl) (fun i j e => by
      obtain ⟨o, o', b1, b2, b3⟩ := hRh' e
      refine ⟨fun _ _ => hφ1 i j e, fun k sz E es ho => ?_, fun cs ho => ?_⟩
      · rw [b1] at ho; cases ho
        cases o' with
        | box _ => exact b3.elim
        | arr _ _ _ _ => obtain ⟨rfl, rfl, rfl, rfl⟩ := b3; exact ⟨_, _, rfl, b2⟩
      · rw [b1] at ho; cases ho
        cases o' with
        | box cs' => exact ⟨cs', b2⟩
        | arr _ _ _ _ => exact b3.elim) hxy
  -- values of the caller's that name none of the arrays that were handed over
  have harr : ∀ {k}, ks.contains k = false → ∀ i, lk R i = some k → (∃ p, lk h k = some p) → φ'' k = φ k ∧
      ((∃ cs, lk h k = some (.box cs) ∧ ∃ cs', lk h' k = some (.box cs')) ∨ (∃ kd sz E es, lk h k = some (.arr kd sz E es) ∧ ∃ k' es', es'.length = es.length ∧ lk h' k = some (.arr k' sz E es'))) := by
    intro k hk i e ⟨p, hp⟩
    rcases hρn e with e0 | hn
    · obtain ⟨o, ho⟩ := Option.isSome_iff_exists.1 ((List.all_eq_true.1 hdom) _ (lk_mem e0))
      obtain ⟨j', o', b1, b2, b3⟩ := hspec.1 i o ho
      rw [e0] at b1
      cases b1
      have hbx := (List.all_eq_true.1 hks) _ (lk_mem b2)
      simp only [hk, Bool.or_false] at hbx
      obtain ⟨o2, o2', d1, d2, d3⟩ := hRh' e
      obtain ⟨o3, d4, d5⟩ := hret.keep i _ ho
      rw [d1] at d4
      cases d4
      cases o' with
      | box cs =>
        cases o with
        | arr _ _ _ _ => exact b3.elim
        | box cs0 =>
          have hfx : φ' i = φc i := hret.fix i _ ho (by simp [AO.isBox])
          refine ⟨by rw [hφ1 i k e, hfx, hφc e0], .inl ⟨cs, hsubl _ _ b2, ?_⟩⟩
          cases o2 with
          | arr _ _ _ _ => exact d5.elim
          | box _ =>
            cases o2' with
            | arr _ _ _ _ => exact d3.elim
            | box cs' => exact ⟨cs', d2⟩
      | arr kd sz E es =>
        cases o with
        | box _ => exact b3.elim
        | arr kd0 sz0 E0 es0 =>
          obtain ⟨rfl, rfl, rfl, rfl⟩ := b3
          have hp' : kd0.p = true := hbx
          have hfx : φ' i = φc i := hret.fix i _ ho (by simp [AO.isBox, hp'])
          refine ⟨by rw [hφ1 i k e, hfx, hφc e0], .inr ⟨kd0, sz0, E0, es0, hsubl _ _ b2, ?_⟩⟩
          cases o2 with
          | box _ => exact d5.elim
          | arr k2 sz2 E2 es2 =>
            obtain ⟨q1, q2⟩ := d5
            obtain ⟨rfl, rfl, q3⟩ := q2 hp'
            cases o2' with
            | box _ => exact d3.elim
            | arr _ _ _ _ => obtain ⟨rfl, rfl, rfl, rfl⟩ := d3; exact ⟨_, _, q3, d2⟩
    · rw [hn] at hp; cases hp
  have hkeepV : ∀ {x v}, (∀ k ∈ ks, men k x = false) → RepV (Stab F w φ h1) w φ h1 x v → RepV (Stab F w' φ'' h') w' φ'' h' x v := by
    intro x v hm hv
    refine hv.ren (ρ := fun i j => (i = j ∧ ks.contains i = false)) (fun b hb => (hStab b hb).1) (fun b hb => (hStab b hb).2) ?_ (men_ren (K := fun k => ks.contains k) x (fun k hk => hm k (by simpa using hk)))
    rintro i j ⟨rfl, hk⟩
    by_cases hex : ∃ i0, lk R i0 = some i
    · obtain ⟨i0, e⟩ := hex
      refine ⟨fun o ho => ?_, fun kd sz E es ho => ?_, fun cs ho => ?_⟩
      · obtain ⟨o', ho', _⟩ := hh1h ho
        exact (harr hk i0 e ⟨_, ho'⟩).1
      · obtain ⟨o', ho', hw⟩ := hh1h ho
        rcases (harr hk i0 e ⟨_, ho'⟩).2 with ⟨cs, h3, _⟩ | ⟨k1, sz1, E1, es1, h3, k2, es2, h4, h5⟩
        · rw [ho'] at h3
          cases h3
          exact hw.elim
        · rw [ho'] at h3
          cases h3
          obtain ⟨rfl, rfl, rfl, rfl⟩ := hw
          exact ⟨_, _, h4, h5⟩
      · obtain ⟨o', ho', hw⟩ := hh1h ho
        rcases (harr hk i0 e ⟨_, ho'⟩).2 with ⟨cs, h3, h4⟩ | ⟨k1, sz1, E1, es1, h3, k2, es2, h4, h5⟩
        · exact h4
        · rw [ho'] at h3; cases h3; exact hw.elim
    · have hno : ∀ i0, lk R i0 ≠ some i := fun i0 e => hex ⟨i0, e⟩
      exact ⟨fun _ _ => hφ2 i hno, fun kd sz E es ho => ⟨kd, es, rfl, hnotR ho hno⟩, fun cs ho => ⟨cs, hnotR ho hno⟩⟩
  refine ⟨v, φ'', rfl, ⟨hrk.size, hrk.defers, hrk.sys.trans hret.sys, Nat.le_trans hrk.grow hret.grow, ⟨fun j o ho => ?_, ?_, fun b hb => hb.1, fun j o b ho hm hst => hst.2.2 j o ho hm, fun j o b ho hm => ?_⟩,
    fun i x hx => ?_, fun j o b ho hm => ?_, fun j o hj hne => ?_, fun j o hj => ?_, fun b hb1 hb2 => ?_⟩, hfw (renO_spec r r' hr') hret.val, fun hL0 => ⟨hret.grow, fun b hb => hret.frame b hb (fun ⟨id, o, ho, _⟩ => by subst hL0; cases ho)⟩⟩
  · -- objects
    rcases hobj ho with ⟨i, o0, e, ho0, hro⟩ | ⟨e1, e2, hno⟩
    · have hok := hret.heap.obj i o0 ho0
      cases o0 with
      | box cs0 =>
        cases o with
        | arr _ _ _ _ => exact hro.elim
        | box cs =>
          obtain ⟨hm, C, E, hC, hsz, hrep⟩ := hok
          refine ⟨by rw [hφ1 i j e]; exact hm, C, E, by rw [hφ1 i j e]; exact hC.len hro.1.symm, by rw [hsz]; exact hro.1, fun n y v hy hv => ?_⟩
          obtain ⟨x, hx⟩ : ∃ x, cs0[n]? = some x := ⟨cs0[n]'(by rw [hro.1]; exact (List.getElem?_eq_some_iff.1 hy).1), by simp⟩
          exact hfw (hro.2 n x y hx hy) (hrep n x v hx hv)
      | arr kd sz E es =>
        cases o with
        | box _ => exact hro.elim
        | arr _ _ _ _ =>
          obtain ⟨rfl, rfl, rfl, rfl⟩ := hro
          obtain ⟨h0, hl, hone, hob⟩ := hok
          refine ⟨h0, hl, hone, ?_⟩
          rw [hφ1 i j e]
          rcases hob with hob | ⟨hm, C, hC, g1, g2, g3, g4⟩
          · exact .inl hob
          · exact .inr ⟨hm, C, hC, g1, g2, g3, g4.mono hStabC (fun _ _ => rfl) (fun _ _ _ => rfl) rfl⟩
    · have hok := hrk.heap.obj j o e2
      have hblkO : ∀ b, (φ j).owns b → w'.heap[b]? = w.heap[b]? := by
        intro b hm
        obtain ⟨o', ho', _⟩ := hh1h e2
        refine hsame _ (hr.heap.ltO j o' b ho' hm) (fun i j' p e hp hm' => ?_)
        have := hr.heap.injO j' j p o' b hp ho' hm' hm
        subst this
        exact hno i e
      have hblk : (φ j).mat = true → w'.heap[(φ j).blk]? = w.heap[(φ j).blk]? := fun hm => hblkO _ (.inl ⟨hm, rfl⟩)
      cases o with
      | box cs =>
        obtain ⟨hm, C, E, hC, hsz, hrep⟩ := hok
        refine ⟨by rw [e1]; exact hm, C, E, by rw [e1, hblk hm]; exact hC, hsz, fun n x v hx hv => hkeepV (fun k hk => (hkH j _ e2).1 cs rfl x (List.mem_of_getElem? hx) k hk) (hrep n x v hx hv)⟩
      | arr kd sz E es =>
        obtain ⟨h0, hl, hone, hob⟩ := hok
        refine ⟨h0, hl, hone, ?_⟩
        rw [e1]
        rcases hob with hob | ⟨hm, C, hC, g1, g2, g3, g4⟩
        · exact .inl hob
        · exact .inr ⟨hm, C, by rw [hblk hm]; exact hC, g1, g2, g3, g4.mono (fun b hb => (hStab b hb).1) (fun b hb => (hStab b hb).2) (fun b hb _ => hblkO b (.inr hb)) rfl⟩
  · -- no two at one place
    intro j1 j2 o1 o2 b ho1 ho2 hm1 hm2
    rcases hobj ho1 with ⟨i1, p1, e1, hp1, _⟩ | ⟨e1, e1', hno1⟩
    · rcases hobj ho2 with ⟨i2, p2, e2, hp2, _⟩ | ⟨e2, e2', hno2⟩
      · rw [hφ1 i1 j1 e1] at hm1
        rw [hφ1 i2 j2 e2] at hm2
        have := hret.heap.injO i1 i2 p1 p2 b hp1 hp2 hm1 hm2
        subst this
        rw [e1] at e2
        cases e2
        rfl
      · rw [hφ1 i1 j1 e1] at hm1
        rw [e2] at hm2
        obtain ⟨o', ho', _⟩ := hh1h e2'
        rcases hmine hp1 hm1 with h1 | ⟨i0, j0, p, c0, c1, c2⟩
        · have := hr.heap.ltO j2 o' b ho' hm2; omega
        · have := hr.heap.injO j0 j2 p o' b c1 ho' c2 hm2
          subst this
          exact absurd c0.1 (hno2 i0)
    · rw [e1] at hm1
      obtain ⟨o', ho', _⟩ := hh1h e1'
      rcases hobj ho2 with ⟨i2, p2, e2, hp2, _⟩ | ⟨e2, e2', hno2⟩
      · rw [hφ1 i2 j2 e2] at hm2
        rcases hmine hp2 hm2 with h1 | ⟨i0, j0, p, c0, c1, c2⟩
        · have := hr.heap.ltO j1 o' b ho' hm1; omega
        · have := hr.heap.injO j1 j0 o' p b ho' c1 hm1 c2
          subst this
          exact absurd c0.1 (hno1 i0)
      · rw [e2] at hm2
        obtain ⟨o'', ho'', _⟩ := hh1h e2'
        exact hr.heap.injO j1 j2 o' o'' b ho' ho'' hm1 hm2
  · rcases hobj ho with ⟨i, o0, e, ho0, _⟩ | ⟨e1, e2, _⟩
    · rw [hφ1 i j e] at hm
      exact hret.heap.ltO i o0 b ho0 hm
    · rw [e1] at hm
      exact Nat.lt_of_lt_of_le (hrk.heap.ltO j o b e2 hm) hret.grow
  · obtain ⟨v, hv, hrep⟩ := hrk.slots i x hx
    exact ⟨v, hv, hkeepV (hkS i x hx).1 hrep⟩
  · rcases hobj ho with ⟨i, o0, e, ho0, _⟩ | ⟨e1, e2, _⟩
    · rw [hφ1 i j e] at hm
      rcases hmine ho0 hm with h1 | ⟨i0, j0, p, c0, c1, c2⟩
      · exact .inl (Nat.le_trans hr.grow h1)
      · have : j0 = j := by obtain ⟨c0, rfl⟩ := c0; rw [e] at c0; cases c0; rfl
        subst this
        exact hr.mine j0 p b c1 c2
    · rw [e1] at hm
      exact hrk.mine j o b e2 hm
  · -- the variables that came in stay where they were
    by_cases hex : ∃ i, lk R i = some j
    · obtain ⟨i, e⟩ := hex
      obtain ⟨o', ho', hb⟩ := hr.keep j _ hj
      rcases hρn e with e0 | hn
      · obtain ⟨o, ho⟩ := Option.isSome_iff_exists.1 ((List.all_eq_true.1 hdom) _ (lk_mem e0))
        obtain ⟨j', p, b1, b2, b3⟩ := hLj ho
        rw [e0] at b1
        cases b1
        have ho'' : lk h j = some o' := ho'
        rw [b2] at ho''
        have hpo : o' = p := by cases ho''; rfl
        rw [hpo] at hb
        have hk1 : o.isBox = p.isBox := by cases o <;> cases p <;> first | rfl | exact b3.elim | (obtain ⟨rfl, _⟩ := b3; rfl)
        rw [hφ1 i j e, hret.fix i o ho (by rw [hk1, AO.alike_box hb]; exact hne)]
        show φc i = F.φ j
        rw [hφc e0]
        exact hr.fix j _ hj hne
      · have ho'' : lk h j = some o' := ho'
        rw [hn] at ho''; cases ho''
    · rw [hφ2 j (fun i e => hex ⟨i, e⟩)]
      exact hr.fix j _ hj hne
  · obtain ⟨o1, ho1, hb1⟩ := hrk.keep j o hj
    have ho1' : lk h1 j = some o1 := ho1
    by_cases hex : ∃ i, lk R i = some j
    · obtain ⟨i, e⟩ := hex
      obtain ⟨p, hp, hw⟩ := hh1h ho1'
      rcases hρn e with e0 | hn
      · obtain ⟨oL, hoL⟩ := Option.isSome_iff_exists.1 ((List.all_eq_true.1 hdom) _ (lk_mem e0))
        obtain ⟨j', p', b1, b2, b3⟩ := hLj hoL
        rw [e0] at b1
        cases b1
        rw [hp] at b2
        cases b2
        obtain ⟨q, q', d1, d2, d3⟩ := hRh' e
        obtain ⟨q2, d4, d5⟩ := hret.keep i oL hoL
        rw [d1] at d4
        cases d4
        refine ⟨q', d2, ?_⟩
        have k1 : q.alike q' := by cases q <;> cases q' <;> first | trivial | exact d3.elim | (obtain ⟨rfl, rfl, rfl, rfl⟩ := d3; exact AO.alike_refl _)
        have k2 : p.alike oL := by cases oL <;> cases p <;> first | trivial | exact b3.elim | (obtain ⟨rfl, rfl, rfl, rfl⟩ := b3; exact AO.alike_refl _)
        have k3 : o1.alike p := by cases o1 <;> cases p <;> first | trivial | exact hw.elim | (obtain ⟨rfl, rfl, rfl, rfl⟩ := hw; exact AO.alike_refl _)
        exact AO.alike_trans hb1 (AO.alike_trans k3 (AO.alike_trans k2 (AO.alike_trans d5 k1)))
      · rw [hn] at hp; cases hp
    · exact ⟨o1, hnotR ho1' (fun i e => hex ⟨i, e⟩), hb1⟩
  · have hb3 : b < w.heap.size := Nat.lt_of_lt_of_le hb1 hr.grow
    rw [hsame b hb3 (fun i j p e hp hm => ?_)]
    · exact hr.frame b hb1 hb2
    · rcases hr.mine j p b hp hm with h1 | ⟨o0, h1, h2⟩
      · omega
      · exact hb2 ⟨j, o0, h1, h2⟩
theorem RelP.call {s s1 : Xb} {h h1 h' : Heap} {φ : Nat → Loc} {a : Act} {w : World} {f : FuncId} {xs zs : List AV} {L L' Lc Lc' : Heap} {r r' : AV} {ρ ρn : List (Nat × Nat)} {ks : List Nat} {vs : Array Value}
    (hr : RelP F N ⟨s, h⟩ φ a w) (hc : ACallF F P f xs L r L') (hinj : injB (ρ ++ ρn) = true)
    (hvs : PW (Stab F w φ h) w φ h zs vs.toList) (hxs : renL ρ xs = some zs) (hL : renH ρ L = some Lc) (hdom : ρ.all (fun p => (lk L p.1).isSome) = true) (hsub : SubH Lc h)
    (hL' : renH (ρ ++ ρn) L' = some Lc') (hdom' : (ρ ++ ρn).all (fun p => (lk L' p.1).isSome) = true) (hkeys : keysB Lc' = true)
    (hfresh : ρn.all (fun p => (lk h p.2).isNone) = true) (hr' : renO (ρ ++ ρn) r = some r')
    (hks : Lc.all (fun p => p.2.fixed || ks.contains p.1) = true)
    (hs1 : killSL ks s = some s1) (hh1 : killHL ks h = some h1) (hh' : putAll h1 Lc' = some h') :
    Calls P f vs w fun e w' => ∃ v φ', e = .returned v ∧ RelP F N ⟨s1, h'⟩ φ' a w' ∧ RepV (Stab F w' φ' h') w' φ' h' r' v ∧ (L = [] → Ext w w') := by
  refine hr.call0 (r := r) (fun φc hH hback => ?_) hinj hL hdom hsub hL' hdom' hkeys hfresh hr' hks hs1 hh1 hh'
  obtain ⟨hxl, hxr⟩ := renL_spec xs zs hxs
  refine hc w (Stab F w φ h) φc vs hr.keeps hH ⟨by rw [hxl]; exact hvs.1, fun i x v hx hv => ?_⟩
  obtain ⟨z, hz⟩ : ∃ z, zs[i]? = some z := ⟨zs[i]'(by rw [← hxl]; exact (List.getElem?_eq_some_iff.1 hx).1), by simp⟩
  exact hback (hxr i x z hx hz) (hvs.2 i z v hz hv)
variable {ops : Array Oper} {rest : List Oper} {K : St → Prop} {ty : TypeId} {pos : String} {after : Array Edge} {d : Nat}
theorem TLE_call {ex : Bool} {f : FuncId} {args : Array Operand} {tys : Array TypeId} {s s1 s' : Xb} {h h1 h' : Heap} {xs zs : List AV} {L L' Lc Lc' : Heap} {r r' : AV} (ρ ρn : List (Nat × Nat)) (ks : List Nat)
    (hc : ACallF F P f xs L r L') (hE : ex = true → L = []) (hcall : ∀ args w, (callFunc f args).run P w = .ok (.enter f args) w) (hz : aevL s args.toList = some zs)
    (hinj : injB (ρ ++ ρn) = true) (hxs : renL ρ xs = some zs) (hL : renH ρ L = some Lc) (hdom : ρ.all (fun p => (lk L p.1).isSome) = true) (hsub : SubH Lc h)
    (hL' : renH (ρ ++ ρn) L' = some Lc') (hdom' : (ρ ++ ρn).all (fun p => (lk L' p.1).isSome) = true) (hkeys : keysB Lc' = true)
    (hfresh : ρn.all (fun p => (lk h p.2).isNone) = true) (hr' : renO (ρ ++ ρn) r = some r')
    (hks : Lc.all (fun p => p.2.fixed || ks.contains p.1) = true)
    (hs1 : killSL ks s = some s1) (hh1 : killHL ks h = some h1) (hh' : putAll h1 Lc' = some h') (hN : Nat.blt d N = true) (hs : sput s1 d r' = some s')
    (k : TLE ex P F N ops rest K ⟨s', h'⟩) : TLE ex P F N ops (⟨some d, .call ⟨.value (.func f), args, tys⟩, ty, pos, after, none⟩ :: rest) K ⟨s, h⟩ := by
  refine TL_enter (vs := fun a => args.map a.eval) rfl (fun φ a w hr => exec_call rfl rfl hcall) (fun φ a w hr => ?_) k
  obtain ⟨g1, g2⟩ := aevL_rep (fun y z hy => aev_rep hr hy) hz
  refine (hr.call hc hinj ⟨by rw [g1, Array.length_toList], fun i x v hx hv => g2 i x v hx (by simpa using hv)⟩ hxs hL hdom hsub hL' hdom' hkeys hfresh hr' hks hs1 hh1 hh').mono ?_
  rintro e w' ⟨v, φ', rfl, hr2, hv, hext⟩
  exact ⟨v, rfl, ⟨φ', hr2.put (Nat.le_of_ble_eq_true hN) hs hv⟩, fun h => hext (hE h)⟩
theorem TL_call {f : FuncId} {args : Array Operand} {tys : Array TypeId} {s s1 s' : Xb} {h h1 h' : Heap} {xs zs : List AV} {L L' Lc Lc' : Heap} {r r' : AV} (ρ ρn : List (Nat × Nat)) (ks : List Nat)
    (hc : ACallF F P f xs L r L') (hcall : ∀ args w, (callFunc f args).run P w = .ok (.enter f args) w) (hz : aevL s args.toList = some zs)
    (hinj : injB (ρ ++ ρn) = true) (hxs : renL ρ xs = some zs) (hL : renH ρ L = some Lc) (hdom : ρ.all (fun p => (lk L p.1).isSome) = true) (hsub : SubH Lc h)
    (hL' : renH (ρ ++ ρn) L' = some Lc') (hdom' : (ρ ++ ρn).all (fun p => (lk L' p.1).isSome) = true) (hkeys : keysB Lc' = true)
    (hfresh : ρn.all (fun p => (lk h p.2).isNone) = true) (hr' : renO (ρ ++ ρn) r = some r')
    (hks : Lc.all (fun p => p.2.fixed || ks.contains p.1) = true)
    (hs1 : killSL ks s = some s1) (hh1 : killHL ks h = some h1) (hh' : putAll h1 Lc' = some h') (hN : Nat.blt d N = true) (hs : sput s1 d r' = some s')
    (k : TL P F N ops rest K ⟨s', h'⟩) : TL P F N ops (⟨some d, .call ⟨.value (.func f), args, tys⟩, ty, pos, after, none⟩ :: rest) K ⟨s, h⟩ :=
  TLE_call ρ ρn ks hc (fun h => nomatch h) hcall hz hinj hxs hL hdom hsub hL' hdom' hkeys hfresh hr' hks hs1 hh1 hh' hN hs k
end
end Go.AM

namespace Go.AM
open Go
section
variable {P : Program} {F : Fr} {N : Nat}
theorem RelP.sub {s s' : Xb} {h h' : Heap} {φ : Nat → Loc} {a : Act} {w : World} (hr : RelP F N ⟨s, h⟩ φ a w)
    (hS : ∀ b, Stab F w φ h b → Stab F w φ h' b)
    (hs : ∀ i y, lk s' i = some y → ∃ x, lk s i = some x ∧ ∀ v, RepV (Stab F w φ h) w φ h x v → RepV (Stab F w φ h') w φ h' y v)
    (hA : ∀ i k sz E es, lk h' i = some (.arr k sz E es) → lk h i = some (.arr k sz E es))
    (hB : ∀ i cs', lk h' i = some (.box cs') → ∃ cs, lk h i = some (.box cs) ∧ cs'.length = cs.length ∧
      ∀ (n : Nat) y, cs'[n]? = some y → ∃ x, cs[n]? = some x ∧ ∀ v, RepV (Stab F w φ h) w φ h x v → RepV (Stab F w φ h') w φ h' y v)
    (hk : ∀ i o, lk F.η i = some o → ∃ o', lk h' i = some o') : RelP F N ⟨s', h'⟩ φ a w := by
  have hex : ∀ i o', lk h' i = some o' → ∃ o, lk h i = some o ∧ o.alike o' := by
    intro i o' ho
    cases o' with
    | box cs' => obtain ⟨cs, h1, _⟩ := hB i cs' ho; exact ⟨_, h1, trivial⟩
    | arr k sz E es => exact ⟨_, hA i k sz E es ho, AO.alike_refl _⟩
  refine ⟨hr.size, hr.defers, hr.sys, hr.grow, ⟨fun i o ho => ?_, fun i j oi oj b hi hj hmi hmj => ?_, fun b hb => hb.1, fun i o b ho hm hst => hst.2.2 i o ho hm, fun i o b ho hm => ?_⟩,
    fun i x hx => ?_, fun i o b ho hm => ?_, hr.fix, fun i o hi => ?_, hr.frame⟩
  · cases o with
    | box cs' =>
      obtain ⟨cs, h1, h2, h3⟩ := hB i cs' ho
      obtain ⟨hm, C, E, hC, hsz, hrep⟩ := hr.heap.obj i _ h1
      refine ⟨hm, C, E, hC.len h2, by rw [hsz, h2], fun n y v hy hv => ?_⟩
      obtain ⟨x, hx, hxy⟩ := h3 n y hy
      exact hxy v (hrep n x v hx hv)
    | arr k sz E es =>
      obtain ⟨h0, hl, hone, hob⟩ := hr.heap.obj i _ (hA i k sz E es ho)
      refine ⟨h0, hl, hone, ?_⟩
      rcases hob with hob | ⟨hm, C, hC, h1, h2, h3, h4⟩
      · exact .inl hob
      · exact .inr ⟨hm, C, hC, h1, h2, h3, h4.mono hS (fun _ _ => rfl) (fun _ _ _ => rfl) rfl⟩
  · obtain ⟨o1, ho1, _⟩ := hex i oi hi
    obtain ⟨o2, ho2, _⟩ := hex j oj hj
    exact hr.heap.injO i j o1 o2 b ho1 ho2 hmi hmj
  · obtain ⟨o1, ho1, _⟩ := hex i o ho
    exact hr.heap.ltO i o1 b ho1 hm
  · obtain ⟨y, hy, hxy⟩ := hs i x hx
    obtain ⟨v, hv, hrep⟩ := hr.slots i y hy
    exact ⟨v, hv, hxy v hrep⟩
  · obtain ⟨o1, ho1, _⟩ := hex i o ho
    exact hr.mine i o1 b ho1 hm
  · obtain ⟨o1, ho1, hb1⟩ := hr.keep i o hi
    obtain ⟨o', ho'⟩ := hk i o hi
    obtain ⟨o2, ho2, hb2⟩ := hex i o' ho'
    have ho1' : lk h i = some o1 := ho1
    rw [ho1'] at ho2
    cases ho2
    exact ⟨o', ho', AO.alike_trans hb1 hb2⟩
section
variable {ops : Array Oper} {l : List Oper} {K : St → Prop} {c : Code} {Q : Exit → St → Prop} {s s' s1 : Xb} {h h' h1 : Heap} {ex : Bool}
theorem TL_split (g : Nat) {b : Bool} {s2 : Xb} (hb : lk s g = some (.bool b)) (ht : sput s g (.bool true) = some s1) (hf : sput s g (.bool false) = some s2)
    (kt : b = true → TLE ex P F N ops l K ⟨s1, h⟩) (kf : b = false → TLE ex P F N ops l K ⟨s2, h⟩) : TLE ex P F N ops l K ⟨s, h⟩ := by
  have same : ∀ (c : Bool) (t : Xb), b = c → sput s g (.bool c) = some t → ∀ φ a w, RelP F N ⟨s, h⟩ φ a w → RelP F N ⟨t, h⟩ φ a w := by
    intro c t hbc hp φ a w hr
    subst hbc
    refine hr.slots_sub fun i x hx => .inl ?_
    rw [lk_sput hp] at hx
    split at hx
    · cases hx; rename_i hi; rw [← hi]; exact hb
    · exact hx
  cases b with
  | true => exact TL_sub (fun φ a w hr => ⟨φ, same true s1 rfl ht φ a w hr⟩) (kt rfl)
  | false => exact TL_sub (fun φ a w hr => ⟨φ, same false s2 rfl hf φ a w hr⟩) (kf rfl)
theorem RelP.ownNil {φ : Nat → Loc} {a : Act} {w : World} {i id sz : Nat} {kd : Kd} {E : TypeId} (hr : RelP F N ⟨s, h⟩ φ a w) (hi : lk s i = some .snil) (hl : lk h id = none)
    (hsz : 0 < sz) (hh : sput h id (.arr kd sz E []) = some h') (hs : sput s i (.ow id) = some s') : Rel F N ⟨s', h'⟩ a w := by
  have h1 := hr.newNil none hl hh hsz
  obtain ⟨v, hv, hrep⟩ := hr.slots i _ hi
  have hvn : v = .slice none 0 0 := by
    cases hrep with
    | pure h => cases h; rfl
  subst hvn
  have hlk := lk_sput hs
  refine ⟨_, h1.size, h1.defers, h1.sys, h1.grow, h1.heap, fun j x hx => ?_, h1.mine, h1.fix, h1.keep, h1.frame⟩
  rw [hlk] at hx
  by_cases hij : i = j
  · subst hij
    rw [if_pos rfl] at hx
    cases hx
    have := RepV.ow0 (S := Stab F w (updLoc φ id (mkLoc 0 0 false)) h') (w := w) (φ := updLoc φ id (mkLoc 0 0 false)) (id := id) (by rw [lk_sput hh, if_pos rfl]) (by rw [Qu])
    rw [Qu] at this
    exact ⟨_, hv, this⟩
  · rw [if_neg hij] at hx
    exact h1.slots j x hx
theorem T_ownNil (i id : Nat) {sz : Nat} (kd : Kd) (E : TypeId) (hi : lk s i = some .snil) (hl : lk h id = none) (hsz : Nat.blt 0 sz = true) (hh : sput h id (.arr kd sz E []) = some h')
    (hs : sput s i (.ow id) = some s') (k : T P F N c Q ⟨s', h'⟩) : T P F N c Q ⟨s, h⟩ :=
  T_sub (fun _ _ _ hr => hr.ownNil hi hl (Nat.le_of_ble_eq_true hsz) hh hs) k
mutual
def frz (id sz : Nat) (es : List AV) : AV → Option AV
  | .ow i => bif Nat.beq i id then some (.sl sz es) else some (.ow i)
  | .ptr i k o => bif Nat.beq i id then some .junk else some (.ptr i k o)
  | .sub i n => bif Nat.beq i id then some .junk else some (.sub i n)
  | .win i n => bif Nat.beq i id then some .junk else some (.win i n)
  | .mp i => bif Nat.beq i id then some .junk else some (.mp i)
  | .agg xs => match frzL id sz es xs with
    | some ys => some (.agg ys)
    | none => none
  | .tup xs => match frzL id sz es xs with
    | some ys => some (.tup ys)
    | none => none
  | .fn f xs us => match frzL id sz es xs with
    | some ys => match frzL id sz es us with
      | some vs => some (.fn f ys vs)
      | none => none
    | none => none
  | x => some x
def frzL (id sz : Nat) (es : List AV) : List AV → Option (List AV)
  | [] => some []
  | x :: r => match frz id sz es x with
    | some y => match frzL id sz es r with
      | some l => some (y :: l)
      | none => none
    | none => none
end
structure Frozen (S S' : Nat → Prop) (w : World) (φ : Nat → Loc) (h h' : Heap) (kd : Kd) (id sz : Nat) (E : TypeId) (es : List AV) : Prop where
  ok : HeapOK S w φ h
  obj : lk h id = some (.arr kd sz E es)
  mono : ∀ b, S b → S' b
  blk : ∀ b, (φ id).owns b → S' b
  arr : ∀ i k sz E es, i ≠ id → lk h i = some (.arr k sz E es) → lk h' i = some (.arr k sz E es)
  box : ∀ i cs, i ≠ id → lk h i = some (.box cs) → ∃ cs', lk h' i = some (.box cs')
mutual
theorem frz_rep {S S' : Nat → Prop} {w : World} {φ : Nat → Loc} {h h' : Heap} {kd : Kd} {id sz : Nat} {E : TypeId} {es : List AV} (hf : Frozen S S' w φ h h' kd id sz E es) :
    ∀ (x y : AV) (v : Value), frz id sz es x = some y → RepV S w φ h x v → RepV S' w φ h' y v
  | .ow i, y, v, e, hv => by
    unfold frz at e
    cases hb : Nat.beq i id with
    | true =>
      obtain rfl := (beq_iff _ _).1 hb
      simp only [hb, cond_true, Option.some.injEq] at e
      subst e
      obtain ⟨hsz, hlens, hones, hob⟩ := hf.ok.obj _ _ hf.obj
      rcases hv.ow_inv hf.obj with ⟨hm, rfl⟩ | ⟨hm, rfl, rfl⟩
      · rcases hob with ⟨hff, _⟩ | ⟨_, C, hC, hle, hcm, hCs, hrep⟩
        · rw [hm] at hff; cases hff
        · by_cases hne : es = []
          · subst hne; exact .pure (.sl0 _ _ _ (fun hn => by cases hn))
          · have hcap : es.length * sz ≤ (φ i).cap * sz := Nat.mul_le_mul_right _ hle
            have hin : ∀ (j : Nat) c, (flat es)[j]? = some c → C[j]? = some (C.getD j undef) := by
              intro j c hc
              have hj := (List.getElem?_eq_some_iff.1 hc).1
              rw [Xa hlens] at hj
              have : j < C.size := by omega
              simp [this]
            refine .pure (.sl sz es _ 0 _ (fun j => C.getD j undef) hne (hf.blk _ (.inl ⟨hm, rfl⟩)) hle hcm hsz hlens hones (fun j c hc => ?_) (fun j c hc => hrep.frozen hf.mono (fun b hb => hf.blk b (.inr hb)) j c _ hc (hin j c hc)))
            rw [Nat.zero_add, cell_at hC]; exact hin j c hc
      · exact .pure (.sl0 _ _ _ (fun _ => rfl))
    | false =>
      have hne : i ≠ id := fun e => by rw [(beq_iff i id).2 e] at hb; cases hb
      simp only [hb, cond_false, Option.some.injEq] at e
      subst e
      cases hv with
      | pure h => cases h
      | ow h1 h2 => exact .ow (hf.arr _ _ _ _ _ hne h1) h2
      | ow0 h1 h2 => exact .ow0 (hf.arr _ _ _ _ _ hne h1) h2
  | .ptr i k o, y, v, e, hv => by
    unfold frz at e
    cases hb : Nat.beq i id with
    | true =>
      simp only [hb, cond_true, Option.some.injEq] at e
      subst e
      exact .pure (.junk _)
    | false =>
      have hne : i ≠ id := fun e => by rw [(beq_iff i id).2 e] at hb; cases hb
      simp only [hb, cond_false, Option.some.injEq] at e
      subst e
      cases hv with
      | pure h => cases h
      | box h1 h2 => obtain ⟨cs', h3⟩ := hf.box _ _ hne h1; exact .box h3 h2
      | elt h1 h2 => exact .elt (hf.arr _ _ _ _ _ hne h1) h2
  | .sub i n, y, v, e, hv => by
    unfold frz at e
    cases hb : Nat.beq i id with
    | true =>
      simp only [hb, cond_true, Option.some.injEq] at e
      subst e
      exact .pure (.junk _)
    | false =>
      have hne : i ≠ id := fun e => by rw [(beq_iff i id).2 e] at hb; cases hb
      simp only [hb, cond_false, Option.some.injEq] at e
      subst e
      cases hv with
      | pure h => cases h
      | sub h1 => exact .sub (hf.arr _ _ _ _ _ hne h1)
  | .win i n, y, v, e, hv => by
    unfold frz at e
    cases hb : Nat.beq i id with
    | true => simp only [hb, cond_true, Option.some.injEq] at e; subst e; exact .pure (.junk _)
    | false =>
      have hne : i ≠ id := fun e => by rw [(beq_iff i id).2 e] at hb; cases hb
      simp only [hb, cond_false, Option.some.injEq] at e
      subst e
      cases hv with
      | pure h => cases h
      | win h1 h2 h3 => exact .win (hf.arr _ _ _ _ _ hne h1) h2 h3
      | winE h1 h3 => exact .winE (hf.arr _ _ _ _ _ hne h1) h3
  | .agg xs, y, v, e, hv => by
    unfold frz at e
    cases hl : frzL id sz es xs with
    | none => simp [hl] at e
    | some ys =>
      simp only [hl, Option.some.injEq] at e
      subst e
      obtain ⟨us, rfl, h1, h2⟩ := hv.agg_inv
      obtain ⟨h3, h4⟩ := frzL_rep hf xs ys hl
      refine .agg ys us (by rw [← h3]; exact h1) (fun i y v hy hv => ?_)
      obtain ⟨x, hx⟩ : ∃ x, xs[i]? = some x := ⟨xs[i]'(by rw [h3]; exact (List.getElem?_eq_some_iff.1 hy).1), by simp⟩
      exact h4 i x y v hx hy (h2 i x v hx hv)
  | .tup xs, y, v, e, hv => by
    unfold frz at e
    cases hl : frzL id sz es xs with
    | none => simp [hl] at e
    | some ys =>
      simp only [hl, Option.some.injEq] at e
      subst e
      obtain ⟨us, rfl, h1, h2⟩ := hv.tup_inv
      obtain ⟨h3, h4⟩ := frzL_rep hf xs ys hl
      refine .tup ys us (by rw [← h3]; exact h1) (fun i y v hy hv => ?_)
      obtain ⟨x, hx⟩ : ∃ x, xs[i]? = some x := ⟨xs[i]'(by rw [h3]; exact (List.getElem?_eq_some_iff.1 hy).1), by simp⟩
      exact h4 i x y v hx hy (h2 i x v hx hv)
  | .fn f xs us, y, v, e, hv => by
    unfold frz at e
    cases hl : frzL id sz es xs with
    | none => simp [hl] at e
    | some ys =>
      simp only [hl] at e
      cases hl2 : frzL id sz es us with
      | none => simp [hl2] at e
      | some vs =>
        simp only [hl2, Option.some.injEq] at e
        subst e
        obtain ⟨as, bs, rfl, h1, h2, h5, h6⟩ := hv.fn_inv
        obtain ⟨h3, h4⟩ := frzL_rep hf xs ys hl
        obtain ⟨h7, h8⟩ := frzL_rep hf us vs hl2
        refine .fn f ys vs as bs (by rw [← h3]; exact h1) (by rw [← h7]; exact h2) (fun i y v hy hv => ?_) (fun i y v hy hv => ?_)
        · obtain ⟨x, hx⟩ : ∃ x, xs[i]? = some x := ⟨xs[i]'(by rw [h3]; exact (List.getElem?_eq_some_iff.1 hy).1), by simp⟩
          exact h4 i x y v hx hy (h5 i x v hx hv)
        · obtain ⟨x, hx⟩ : ∃ x, us[i]? = some x := ⟨us[i]'(by rw [h7]; exact (List.getElem?_eq_some_iff.1 hy).1), by simp⟩
          exact h8 i x y v hx hy (h6 i x v hx hv)
  | .int _ _, y, v, e, hv => by cases e; exact .pure ((hv.tree rfl).mono hf.mono (fun _ _ => rfl))
  | .bool _, y, v, e, hv => by cases e; exact .pure ((hv.tree rfl).mono hf.mono (fun _ _ => rfl))
  | .str _, y, v, e, hv => by cases e; exact .pure ((hv.tree rfl).mono hf.mono (fun _ _ => rfl))
  | .snil, y, v, e, hv => by cases e; exact .pure ((hv.tree rfl).mono hf.mono (fun _ _ => rfl))
  | .sl _ _, y, v, e, hv => by cases e; exact .pure ((hv.tree rfl).mono hf.mono (fun _ _ => rfl))
  | .cp _, y, v, e, hv => by cases e; exact .pure ((hv.tree rfl).mono hf.mono (fun _ _ => rfl))
  | .nilp, y, v, e, hv => by cases e; exact .pure ((hv.tree rfl).mono hf.mono (fun _ _ => rfl))
  | .tr _, y, v, e, hv => by cases e; exact .pure ((hv.tree rfl).mono hf.mono (fun _ _ => rfl))
  | .nilf, y, v, e, hv => by cases e; exact .pure ((hv.tree rfl).mono hf.mono (fun _ _ => rfl))
  | .junk, y, v, e, hv => by cases e; exact .pure (.junk _)
  | .mp i, y, v, e, hv => by
    unfold frz at e
    cases hb : Nat.beq i id with
    | true => simp only [hb, cond_true, Option.some.injEq] at e; subst e; exact .pure (.junk _)
    | false =>
      have hne : i ≠ id := fun e => by rw [(beq_iff i id).2 e] at hb; cases hb
      simp only [hb, cond_false, Option.some.injEq] at e
      subst e
      cases hv with
      | pure h => cases h
      | mp h1 h2 => obtain ⟨cs', h3⟩ := hf.box _ _ hne h1; exact .mp h3 h2
theorem frzL_rep {S S' : Nat → Prop} {w : World} {φ : Nat → Loc} {h h' : Heap} {kd : Kd} {id sz : Nat} {E : TypeId} {es : List AV} (hf : Frozen S S' w φ h h' kd id sz E es) :
    ∀ (xs ys : List AV), frzL id sz es xs = some ys → xs.length = ys.length ∧
      ∀ (n : Nat) x y v, xs[n]? = some x → ys[n]? = some y → RepV S w φ h x v → RepV S' w φ h' y v
  | [], ys, e => by cases e; exact ⟨rfl, fun n x y v hx => by simp at hx⟩
  | x :: r, ys, e => by
    unfold frzL at e
    cases hx : frz id sz es x with
    | none => simp [hx] at e
    | some y =>
      simp only [hx] at e
      cases hr : frzL id sz es r with
      | none => simp [hr] at e
      | some l =>
        simp only [hr, Option.some.injEq] at e
        subst e
        obtain ⟨h1, h2⟩ := frzL_rep hf r l hr
        refine ⟨by simp [h1], fun n u z v hu hz => ?_⟩
        cases n with
        | zero => simp at hu hz; subst hu; subst hz; exact frz_rep hf x y v hx
        | succ n => simp at hu hz; exact h2 n u z v hu hz
end
def frzS (id sz : Nat) (es : List AV) : Xb → Option Xb
  | [] => some []
  | (k, x) :: r => match frz id sz es x with
    | some y => match frzS id sz es r with
      | some l => some ((k, y) :: l)
      | none => none
    | none => none
def frzH (id sz : Nat) (es : List AV) : Heap → Option Heap
  | [] => some []
  | (k, .box cs) :: r => bif Nat.beq k id then frzH id sz es r else
    match frzL id sz es cs with
    | some cs' => match frzH id sz es r with
      | some l => some ((k, .box cs') :: l)
      | none => none
    | none => none
  | (k, .arr kd n E xs) :: r => bif Nat.beq k id then frzH id sz es r else
    match frzH id sz es r with
    | some l => some ((k, .arr kd n E xs) :: l)
    | none => none
theorem frzS_spec {id sz : Nat} {es : List AV} : ∀ {s s' : Xb}, frzS id sz es s = some s' → ∀ i y, lk s' i = some y → ∃ x, lk s i = some x ∧ frz id sz es x = some y := by
  intro s
  induction s with
  | nil => intro s' e i y hy; cases e; cases hy
  | cons p s ih =>
    obtain ⟨k, x⟩ := p
    intro s' e i y hy
    unfold frzS at e
    cases hx : frz id sz es x with
    | none => simp [hx] at e
    | some y0 =>
      simp only [hx] at e
      cases hr : frzS id sz es s with
      | none => simp [hr] at e
      | some l =>
        simp only [hr, Option.some.injEq] at e
        subst e
        rw [Q7] at hy ⊢
        split at hy
        · cases hy; rename_i hk; rw [if_pos hk]; exact ⟨x, rfl, hx⟩
        · rename_i hk; rw [if_neg hk]; exact ih hr i y hy
theorem frzH_spec {id sz : Nat} {es : List AV} : ∀ {h h' : Heap}, frzH id sz es h = some h' → lk h' id = none ∧
    (∀ i, i ≠ id → ∀ kd n E xs, lk h' i = some (.arr kd n E xs) ↔ lk h i = some (.arr kd n E xs)) ∧
    (∀ i cs', lk h' i = some (.box cs') → ∃ cs, lk h i = some (.box cs) ∧ frzL id sz es cs = some cs') ∧ (∀ i cs, i ≠ id → lk h i = some (.box cs) → ∃ cs', lk h' i = some (.box cs')) := by
  intro h
  induction h with
  | nil => intro h' e; cases e; exact ⟨rfl, fun i _ kd n E xs => Iff.rfl, fun i cs hi => (by cases hi), fun i cs _ hi => (by cases hi)⟩
  | cons p h ih =>
    obtain ⟨k, o⟩ := p
    intro h' e
    cases hb : Nat.beq k id with
    | true =>
      obtain rfl := (beq_iff _ _).1 hb
      have e' : frzH k sz es h = some h' := by
        cases o <;> (unfold frzH at e; simp only [hb, cond_true] at e; exact e)
      obtain ⟨h1, h2, h3, h4⟩ := ih e'
      refine ⟨h1, fun i hi kd n E xs => ?_, fun i cs' hi => ?_, fun i cs hi ho => ?_⟩
      · rw [Q7, if_neg (Ne.symm hi)]; exact h2 i hi kd n E xs
      · obtain ⟨cs, c1, c2⟩ := h3 i cs' hi
        have hne : k ≠ i := fun e => by subst e; rw [h1] at hi; cases hi
        exact ⟨cs, by rw [Q7, if_neg hne]; exact c1, c2⟩
      · rw [Q7, if_neg (Ne.symm hi)] at ho; exact h4 i cs hi ho
    | false =>
      have hne : k ≠ id := fun e => by rw [(beq_iff k id).2 e] at hb; cases hb
      cases o with
      | box cs0 =>
        unfold frzH at e
        simp only [hb, cond_false] at e
        cases hc : frzL id sz es cs0 with
        | none => simp [hc] at e
        | some cs1 =>
          simp only [hc] at e
          cases hr : frzH id sz es h with
          | none => simp [hr] at e
          | some l =>
            simp only [hr, Option.some.injEq] at e
            subst e
            obtain ⟨h1, h2, h3, h4⟩ := ih hr
            refine ⟨by rw [Q7, if_neg hne]; exact h1, fun i hi kd n E xs => ?_, fun i cs' hi => ?_, fun i cs hi ho => ?_⟩
            · rw [Q7, Q7]; split
              · simp
              · exact h2 i hi kd n E xs
            · rw [Q7] at hi ⊢
              split at hi
              · cases hi; rename_i hk; rw [if_pos hk]; exact ⟨cs0, rfl, hc⟩
              · rename_i hk; rw [if_neg hk]; exact h3 i cs' hi
            · rw [Q7] at ho ⊢
              split at ho
              · rename_i hk; rw [if_pos hk]; exact ⟨cs1, rfl⟩
              · rename_i hk; rw [if_neg hk]; exact h4 i cs hi ho
      | arr kd0 n0 E0 xs0 =>
        unfold frzH at e
        simp only [hb, cond_false] at e
        cases hr : frzH id sz es h with
        | none => simp [hr] at e
        | some l =>
          simp only [hr, Option.some.injEq] at e
          subst e
          obtain ⟨h1, h2, h3, h4⟩ := ih hr
          refine ⟨by rw [Q7, if_neg hne]; exact h1, fun i hi kd n E xs => ?_, fun i cs' hi => ?_, fun i cs hi ho => ?_⟩
          · rw [Q7, Q7]; split
            · exact Iff.rfl
            · exact h2 i hi kd n E xs
          · rw [Q7] at hi ⊢
            split at hi
            · cases hi
            · rename_i hk; rw [if_neg hk]; exact h3 i cs' hi
          · rw [Q7] at ho ⊢
            split at ho
            · cases ho
            · rename_i hk; rw [if_neg hk]; exact h4 i cs hi ho
theorem RelP.freeze {φ : Nat → Loc} {a : Act} {w : World} {id sz : Nat} {kd : Kd} {E : TypeId} {es : List AV} (hr : RelP F N ⟨s, h⟩ φ a w) (hF : lk F.η id = none)
    (hl : lk h id = some (.arr kd sz E es)) (hs : frzS id sz es s = some s') (hh : frzH id sz es h = some h') : RelP F N ⟨s', h'⟩ φ a w := by
  obtain ⟨g1, g2, g3, g4⟩ := frzH_spec hh
  have hex : ∀ i o, lk h' i = some o → i ≠ id ∧ ∃ o', lk h i = some o' := by
    intro i o ho
    have hne : i ≠ id := fun e => by subst e; rw [g1] at ho; cases ho
    refine ⟨hne, ?_⟩
    cases o with
    | box cs' => obtain ⟨cs, c1, _⟩ := g3 i cs' ho; exact ⟨_, c1⟩
    | arr k n E xs => exact ⟨_, (g2 i hne k n E xs).1 ho⟩
  have hS : ∀ b, Stab F w φ h b → Stab F w φ h' b := fun b hb => ⟨hb.1, hb.2.1, fun i o ho hm => by
    obtain ⟨_, o', ho'⟩ := hex i o ho
    exact hb.2.2 i o' ho' hm⟩
  have hf : Frozen (Stab F w φ h) (Stab F w φ h') w φ h h' kd id sz E es := by
    refine ⟨hr.heap, hl, hS, fun b hm => ⟨hr.heap.ltO id _ b hl hm, ?_, fun i o ho hmi => ?_⟩, fun i k n E xs hi ho => (g2 i hi k n E xs).2 ho, g4⟩
    · rcases hr.mine id _ _ hl hm with h1 | ⟨o0, h1, h2⟩
      · exact .inr h1
      · rw [hF] at h1; cases h1
    · obtain ⟨hne, o', ho'⟩ := hex i o ho
      exact hne (hr.heap.injO i id o' _ _ ho' hl hmi hm)
  refine hr.sub hS (fun i y hy => ?_) (fun i k n E xs ho => ?_) (fun i cs' ho => ?_) (fun i o hi => ?_)
  · obtain ⟨x, hx, hxy⟩ := frzS_spec hs i y hy
    exact ⟨x, hx, fun v hv => frz_rep hf x y v hxy hv⟩
  · exact (g2 i (hex i _ ho).1 k n E xs).1 ho
  · obtain ⟨cs, c1, c2⟩ := g3 i cs' ho
    obtain ⟨c3, c4⟩ := frzL_rep hf cs cs' c2
    refine ⟨cs, c1, c3.symm, fun n y hy => ?_⟩
    obtain ⟨x, hx⟩ : ∃ x, cs[n]? = some x := ⟨cs[n]'(by rw [c3]; exact (List.getElem?_eq_some_iff.1 hy).1), by simp⟩
    exact ⟨x, hx, fun v hv => c4 n x y v hx hy hv⟩
  · have hne : i ≠ id := fun e => by subst e; rw [hF] at hi; cases hi
    obtain ⟨o', ho', _⟩ := hr.keep i o hi
    have ho'' : lk h i = some o' := ho'
    cases o' with
    | box cs => obtain ⟨cs', hc⟩ := g4 i cs hne ho''; exact ⟨_, hc⟩
    | arr k n E xs => exact ⟨_, (g2 i hne k n E xs).2 ho''⟩
theorem TL_freeze (id : Nat) {sz : Nat} {kd : Kd} {E : TypeId} {es : List AV} (hF : lk F.η id = none) (hl : lk h id = some (.arr kd sz E es)) (hs : frzS id sz es s = some s') (hh : frzH id sz es h = some h')
    (k : TLE ex P F N ops l K ⟨s', h'⟩) : TLE ex P F N ops l K ⟨s, h⟩ := TL_sub (fun φ _ _ hr => ⟨φ, hr.freeze hF hl hs hh⟩) k
theorem T_freeze (id : Nat) {sz : Nat} {kd : Kd} {E : TypeId} {es : List AV} (hF : lk F.η id = none) (hl : lk h id = some (.arr kd sz E es)) (hs : frzS id sz es s = some s') (hh : frzH id sz es h = some h')
    (k : T P F N c Q ⟨s', h'⟩) : T P F N c Q ⟨s, h⟩ := T_sub (fun φ _ _ hr => ⟨φ, hr.freeze hF hl hs hh⟩) k
end
end
end Go.AM

namespace Go.AM
open Go
section
variable {P : Program} {F : Fr} {N : Nat} {ops : Array Oper} {l rest : List Oper} {K : St → Prop} {c : Code} {Q : Exit → St → Prop} {s s' s1 : Xb} {h h' h1 : Heap} {ex : Bool}
variable {ty : TypeId} {pos : String} {after : Array Edge} {gd : Option (Nat × Bool)} {dst : Option Tmp} {x y : Operand} {d : Nat}
theorem Qx {op : Op} {j g : Nat} {b : Bool} (hj : (ops[j]?).bind (·.dst) = some g) (hb : lk s g = some (.bool b))
    (k : TLE ex P F N ops (⟨dst, op, ty, pos, after, none⟩ :: rest) K ⟨s, h⟩) : TLE ex P F N ops (⟨dst, op, ty, pos, after, some (j, b)⟩ :: rest) K ⟨s, h⟩ := by
  intro a w R hr hQ
  have hk := k a w R hr hQ
  obtain ⟨φ, hp⟩ := hr
  have hw : Region.wanted ⟨dst, op, ty, pos, after, some (j, b)⟩ (yielded ops a.tmps) = true := wanted_of hp rfl hj hb
  unfold wpList at hk ⊢
  rw [if_pos (by simp [Region.wanted])] at hk
  rw [if_pos hw]
  exact hk
theorem sl_length {S : Nat → Prop} {w : World} {φ : Nat → Loc} {η : Heap} {sz : Nat} {es : List AV} {v : Value} (hv : RepV S w φ η (.sl sz es) v) : es.length ≤ 9223372036854775807 := by
  cases hv with
  | pure h =>
    cases h with
    | sl0 _ _ _ _ => simp
    | sl _ _ _ _ cap _ _ _ hc hm _ _ _ _ _ => simp only [maxLen] at hm; omega
def bfill (places : List (Nat × Nat)) (cells : List AV) : List (Nat × AV) → Option (List AV)
  | [] => some cells
  | (i, x) :: r => match places[i]? with
    | some (off, n) => match cellsO x with
      | some cs => bif Nat.beq cs.length n && !isJunk x then match setO cells off cs with
        | some cells' => bfill places cells' r
        | none => none
        else none
      | none => none
    | none => none
def aevB (s : Xb) : List (Nat × Operand) → Option (List (Nat × AV))
  | [] => some []
  | (i, y) :: r => match aev s y with
    | some x => match aevB s r with
      | some l => some ((i, x) :: l)
      | none => none
    | none => none
theorem fill_rep {S : Nat → Prop} {w : World} {φ : Nat → Loc} {η : Heap} {places : Array (Nat × Nat)} {ρ : Operand → Value} (hρ : ∀ y z, aev s y = some z → RepV S w φ η z (ρ y)) :
    ∀ {parts : List (Nat × Operand)} {ps : List (Nat × AV)} {cells r : List AV} {C : Array Value}, aevB s parts = some ps → bfill places.toList cells ps = some r → PW S w φ η cells C.toList →
      ∃ D, Instr.fill (places[·]?) C (parts.map fun (i, y) => (i, ρ y)) = some D ∧ PW S w φ η r D.toList := by
  intro parts
  induction parts with
  | nil =>
    intro ps cells r C e1 e2 hp
    cases e1; cases e2
    exact ⟨C, rfl, hp⟩
  | cons p parts ih =>
    obtain ⟨i, y⟩ := p
    intro ps cells r C e1 e2 hp
    unfold aevB at e1
    cases hy : aev s y with
    | none => simp [hy] at e1
    | some x =>
      simp only [hy] at e1
      cases hr : aevB s parts with
      | none => simp [hr] at e1
      | some l =>
        simp only [hr, Option.some.injEq] at e1
        subst e1
        unfold bfill at e2
        cases hpl : places.toList[i]? with
        | none => simp [hpl] at e2
        | some on =>
          obtain ⟨off, n⟩ := on
          simp only [hpl] at e2
          cases hc : cellsO x with
          | none => simp [hc] at e2
          | some cs =>
            simp only [hc] at e2
            cases hn : Nat.beq cs.length n && !isJunk x with
            | false => rw [hn] at e2; cases e2
            | true =>
              rw [hn] at e2
              simp only [cond_true] at e2
              simp only [Bool.and_eq_true, Bool.not_eq_true'] at hn
              have hnl : cs.length = n := (beq_iff _ _).1 hn.1
              cases hs : setO cells off cs with
              | none => simp [hs] at e2
              | some cells' =>
                simp only [hs] at e2
                obtain ⟨rfl, hlen⟩ := setO_eq hs
                have hcells := (hρ _ _ hy).cells hc (fun u hu => by subst hu; cases hn.2)
                have hvs : (ρ y).cells.size = n := by rw [← hnl]; simpa using hcells.1.symm
                have hCs : C.size = cells.length := by simpa using hp.1.symm
                have hf := foldl_setA (ρ y).cells C off (by rw [hvs, hCs, ← hnl]; exact hlen)
                generalize hC1 : (ρ y).cells.zipIdx.foldl (fun cs (c, j) => cs.setIfInBounds (off + j) c) C = C1 at hf
                have hpw : PW S w φ η (cells.take off ++ cs ++ cells.drop (off + cs.length)) C1.toList := by
                  rw [hf]
                  have := PW.append (PW.append (hp.take off) hcells) (hp.drop (off + cs.length))
                  rw [hvs, ← hnl]
                  exact this
                obtain ⟨D, hD, hDp⟩ := ih hr e2 hpw
                refine ⟨D, ?_, hDp⟩
                simp only [List.map_cons, Instr.fill]
                have hpl' : places[i]? = some (off, n) := by simpa using hpl
                rw [hpl']
                simp only
                rw [if_neg (by simp [hvs]; omega), hC1]
                exact hD
theorem op_build {t : TypeId} {fields : Array Field} {places : Array (Nat × Nat)} {zv : Value} {n b : Nat} {z : AV} {zc r : List AV} {parts : Array (Nat × Operand)} {ps : List (Nat × AV)}
    (hu : P.underlying t = some (.struct fields)) (hp : ∀ w, (fields.mapM (fun f => do pure (f.offset, ← sizeOf f.type)) : Sem (Array (Nat × Nat))).run P w = .ok places w)
    (hz : tyZero P t = some (zv, n, b)) (hc : cav zv = some z) (hj : isJunk z = false) (hzc : cellsO z = some zc)
    (ha : aevB s parts.toList = some ps) (hf : bfill places.toList zc ps = some r) : OpP P ⟨dst, .build t parts, ty, pos, after, gd⟩ s h (.agg r) := by
  intro S w φ η ρ hh _ hρ
  have hzr : RepV S w φ η z zv := .pure (cav_rep hc)
  have hzp := hzr.cells hzc (fun u hu => by subst hu; cases hj)
  obtain ⟨D, hD, hDp⟩ := fill_rep hρ ha hf hzp
  refine ⟨.agg D, fun w _ => ?_, .agg r D (by simpa using hDp.1) (fun i x v hx hv => hDp.2 i x v hx (by simpa using hv))⟩
  show (do pure (.value (← Instr.build t (parts.map fun (i, x) => (i, ρ x)))) : Sem Next).run P w = _
  unfold Instr.build
  simp only [Sem.run_bind, run_zero hz, run_underlying hu, Result.andThen_ok, hp]
  have : (parts.map fun (i, x) => (i, ρ x)).toList = parts.toList.map fun (i, y) => (i, ρ y) := by simp
  rw [this, hD]
  rfl
theorem exec_callV {o : Oper} {g : Operand} {f : FuncId} {args : Array Operand} {tys : Array TypeId} {w : World} {ρ : Operand → Value} {as bs : Array Value} (ho : o.op = .call ⟨.value g, args, tys⟩)
    (hρ : ρ g = .func (.func f) as bs) (hcall : ∀ args w, (callFunc f args).run P w = .ok (.enter f args) w) :
    (execOp ρ o).run P w = .ok (.enter f (as ++ args.map ρ ++ bs)) w := by
  unfold execOp
  rw [ho]
  simp only [resolve, hρ, Deferred.ofValue, Sem.run_bind, Sem.run_pure, Result.andThen_ok, invoke]
  exact hcall _ _
theorem TL_callV {f : FuncId} {g : Operand} {args : Array Operand} {tys : Array TypeId} {zs fs cs xs : List AV} {r : AV} (hg : aev s g = some (.fn (.func f) fs cs)) (hc : ACallF F P f xs [] r [])
    (hcall : ∀ args w, (callFunc f args).run P w = .ok (.enter f args) w)
    (hz : aevL s args.toList = some zs) (hv : viewL h (fs ++ zs ++ cs) = some xs) (hf : flatV r = true) (hN : Nat.blt d N = true) (hs : sput s d r = some s')
    (k : TLE ex P F N ops rest K ⟨s', h⟩) : TLE ex P F N ops (⟨some d, .call ⟨.value g, args, tys⟩, ty, pos, after, none⟩ :: rest) K ⟨s, h⟩ := by
  intro a w R hr hQ
  obtain ⟨φ, hr⟩ := hr
  obtain ⟨as, bs, hgv, a1, b1, a2, b2⟩ := (aev_rep hr hg).fn_inv
  refine wpList_plain rfl fun K' hK' => ?_
  unfold Oper.wp
  rw [exec_callV (o := ⟨some d, .call ⟨.value g, args, tys⟩, ty, pos, after, none⟩) rfl hgv hcall]
  obtain ⟨g1, g2⟩ := aevL_rep (fun y z hy => aev_rep hr hy) hz
  obtain ⟨e1, e2⟩ := viewL_eq hv
  have hpw : PW (Stab F w φ h) w φ h (fs ++ zs ++ cs) (as ++ args.map a.eval ++ bs).toList := by
    simp only [Array.toList_append]
    exact PW.append (PW.append ⟨by simpa using a1, fun i x v hx hv => a2 i x v hx (by simpa using hv)⟩ ⟨by simpa using g1, fun i x v hx hv => g2 i x v hx (by simpa using hv)⟩)
      ⟨by simpa using b1, fun i x v hx hv => b2 i x v hx (by simpa using hv)⟩
  refine (hc w (Sall w) φ _ hr.keepsAll (HeapOK.nil φ (fun b hb => hb)) ⟨by rw [← e1]; exact hpw.1, fun i y v hy hv => ?_⟩).mono ?_
  · obtain ⟨x, hx, hxy⟩ := e2 i y hy
    exact .pure (viewO_rep hr.heap (hpw.2 i x v hx hv) hxy)
  · rintro e w' ⟨v, φ', rfl, hret⟩
    have hfr : ∀ b, b < w.heap.size → w'.heap[b]? = w.heap[b]? := fun b hb => hret.frame b hb (fun ⟨id, o, ho, _⟩ => by cases ho)
    exact hK' _ _ (k _ _ R ⟨φ, (hr.world hret.sys hret.grow hfr).put (Nat.le_of_ble_eq_true hN) hs (.pure (flatV_rep hf hret.val))⟩ (fun st' a' w'' hk hr'' he => hQ st' a' w'' hk hr'' (fun h => (Ext.mk hret.grow hfr).trans (he h))))
end
end Go.AM

namespace Go.AM
open Go
section
variable {P : Program} {F : Fr} {N : Nat} {Q : Exit → St → Prop} {st : St} {ops : Array Oper}
theorem Rel.drew {a : Act} {w : World} (h : Rel F N st a w) : Rel F N st a { w with drawn := w.drawn + 1 } := by
  obtain ⟨φ, hr⟩ := h
  exact ⟨φ, hr.world ⟨rfl, rfl, rfl⟩ (Nat.le_refl _) (fun _ _ => rfl)⟩
def setL : List Bool → Nat → List Bool
  | [], _ => []
  | _ :: r, 0 => true :: r
  | b :: r, n + 1 => b :: setL r n
theorem setL_list : ∀ (l : List Bool) (i : Nat), l.set i true = setL l i := by
  intro l
  induction l with
  | nil => intro i; rfl
  | cons b r ih =>
    intro i
    cases i with
    | zero => rfl
    | succ i => simp [setL, ih]
theorem setL_eq (l : List Bool) (i : Nat) : (l.toArray.setIfInBounds i true) = (setL l i).toArray := by
  simp [setL_list]
@[reducible] def after1 (K : Act → World → Prop) (Q : Exit → Act → World → Prop) : Exit → Act → World → Prop
  | .normal, a, w => K a w
  | e, a, w => Q e a w
theorem wpOp_of_list {Q : Exit → Act → World → Prop} {i : Nat} {o : Oper} (hi : ops[i]? = some o) {K : Act → World → Prop} {a : Act} {w : World}
    (h : wpList P ops (after1 K Q) [o] a w) : wpOp P ops Q i K a w := by
  have hlet : LetsOut (after1 K Q) → LetsOut Q := fun ⟨a, w, h⟩ => ⟨a, w, h⟩
  unfold wpOp
  simp only [hi]
  unfold wpList at h
  by_cases hw : Region.wanted o (yielded ops a.tmps) = true
  · rw [if_pos hw] at h ⊢
    refine h.imp (fun h => ?_) (fun h => ⟨h.1, hlet h.2⟩)
    unfold Oper.wp at *
    generalize (execOp a.eval o).run P w = r at *
    cases r with
    | ok n w' =>
      cases n <;> simp only [Oper.upon] at h ⊢ <;>
        first
          | exact h
          | exact Calls.mono h (fun e w'' he => by cases e <;> first | exact he | exact hlet he)
          | exact Rows.mono h (fun _ _ he => he)
    | halt x w' => cases x <;> simp only [Oper.upon] at h ⊢ <;> exact h
  · rw [if_neg hw] at h ⊢
    exact h
def each {α : Type} (p : α → Prop) : List α → Prop
  | [] => True
  | [x] => p x
  | x :: y :: r => p x ∧ each p (y :: r)
theorem each_mem {α : Type} {p : α → Prop} : ∀ {l : List α}, each p l → ∀ x ∈ l, p x := by
  intro l
  induction l with
  | nil => intro _ x hx; cases hx
  | cons y r ih =>
    intro h x hx
    cases r with
    | nil => simp at hx; subst hx; exact h
    | cons z r =>
      rcases List.mem_cons.1 hx with rfl | hx
      · exact h.1
      · exact ih h.2 x hx
end
end Go.AM

namespace Go.AM
open Go
section
variable {P : Program} {F : Fr} {N : Nat} {Q : Exit → St → Prop} {st : St} {c : Code}
theorem T_if_true {x : Operand} {y z : Code} {b : Bool} (hc : aev st.s x = some (.bool b)) (hb : b = true) (h : T P F N y Q st) : T P F N (.cond x y z) Q st :=
  QF hc (fun _ => h) (fun h => by rw [hb] at h; cases h)
theorem T_if_false {x : Operand} {y z : Code} {b : Bool} (hc : aev st.s x = some (.bool b)) (hb : b = false) (h : T P F N z Q st) : T P F N (.cond x y z) Q st :=
  QF hc (fun h => by rw [hb] at h; cases h) (fun _ => h)
end
def ai (n : Int) : AV := .int .i64 n
theorem get_map {α β : Type} {f : α → β} {xs : List α} {i : Nat} {x : α} (h : xs[i]? = some x) : (xs.map f)[i]? = some (f x) := by simp [h]
end Go.AM

namespace Go.AM
open Go
section
variable {P : Program} {ops : Array Oper} {QN : Act → World → Prop} {Z : List Nat}
@[reducible] def only (QN : Act → World → Prop) : Exit → Act → World → Prop
  | .normal, a, w => QN a w
  | _, _, _ => False
def wpZ (P : Program) (ops : Array Oper) (Z : List Nat) (QN : Act → World → Prop) : Nat → Array Bool → Act → World → Prop
  | 0, listed, a, w => Region.ready .any ops listed = [] ∧ QN a w
  | fuel + 1, listed, a, w =>
    (Region.ready .any ops listed = [] → QN a w) ∧
    ∀ i ∈ Region.ready .any ops listed, wpOp P ops (only QN) i (fun a' w' => (Z.contains i = false → Ext w w') ∧ wpZ P ops Z QN fuel (listed.setIfInBounds i true) a' w') a w
theorem wpOp_monoQ {i : Nat} {a : Act} {w : World} {K K' : Act → World → Prop} {Q : Exit → Act → World → Prop} (h : ∀ a w, K a w → K' a w)
    (hh : wpOp P ops (only QN) i K a w) : wpOp P ops Q i K' a w := by
  have hlet : LetsOut (only QN) → False := fun ⟨a, w, h⟩ => h
  unfold wpOp at *
  split
  · exact h _ _ (by simpa [*] using hh)
  · rename_i o ho
    simp only [ho] at hh
    split
    · rename_i hw
      simp only [hw, if_true] at hh
      rcases hh with hh | hh
      · refine .inl ?_
        unfold Oper.wp at *
        generalize (execOp a.eval o).run P w = r at *
        cases r with
        | ok n w' =>
          cases n <;> simp only [Oper.upon] at hh ⊢ <;>
            first
              | exact h _ _ hh
              | exact Calls.mono hh (fun e w'' he => by cases e <;> first | exact h _ _ he | exact (hlet he).elim | exact he.elim)
              | exact Rows.mono hh (fun _ _ he => h _ _ he)
        | halt x w' =>
          cases x <;> simp only [Oper.upon] at hh ⊢
          case panic => exact (show False from hh).elim
      · exact (hlet hh.2).elim
    · rename_i hw; simp only [hw] at hh; exact h _ _ hh
theorem wpAny_of_wpZ {Q : Exit → Act → World → Prop} (hQ : ∀ a w, QN a w → Q .normal a w) : ∀ (fuel : Nat) (listed : Array Bool) (a : Act) (w : World),
    wpZ P ops Z QN fuel listed a w → wpAny P .any ops Q fuel listed a w
  | 0, _, _, _, h => ⟨h.1, hQ _ _ h.2⟩
  | fuel + 1, _, _, _, h => ⟨fun h0 => hQ _ _ (h.1 h0), fun i hi => wpOp_monoQ (fun a' w' hk => wpAny_of_wpZ hQ fuel _ a' w' hk.2) (h.2 i hi)⟩
def SY (P : Program) (ops : Array Oper) (o : Oper) (v : Value) (a : Act) (w : World) : Prop :=
  (Region.wanted o (yielded ops a.tmps) = true ∧ ∀ w', (looks o.op = false ∨ Ext w w') → (execOp a.eval o).run P w' = .ok (.value v) w') ∨
  (Region.wanted o (yielded ops a.tmps) = false ∧ v = undef)
theorem SY.wpOp {i : Nat} {o : Oper} {v : Value} {a : Act} {w : World} (hi : ops[i]? = some o) (hy : SY P ops o v a w)
    {Q : Exit → Act → World → Prop} {K : Act → World → Prop} (h : K (a.put o.dst v) w) : Go.wpOp P ops Q i K a w := by
  unfold Go.wpOp
  simp only [hi]
  rcases hy with ⟨hw, hv⟩ | ⟨hw, rfl⟩
  · simp only [hw, if_true, Oper.wp, hv w (.inr (Ext.refl w)), Oper.upon]; exact .inl h
  · simp only [hw, Bool.false_eq_true, if_false]; exact h
theorem SY.same {o : Oper} {v : Value} {a a' : Act} {w w' : World} (hy : SY P ops o v a w) (he : execOp a'.eval o = execOp a.eval o)
    (hw : Region.wanted o (yielded ops a'.tmps) = Region.wanted o (yielded ops a.tmps)) (hx : looks o.op = false ∨ Ext w w') : SY P ops o v a' w' := by
  unfold SY at *
  rw [he, hw]
  rcases hy with ⟨h1, h2⟩ | h
  · exact .inl ⟨h1, fun w'' h'' => h2 w'' (by
      rcases hx with hx | hx
      · exact .inl hx
      · rcases h'' with h'' | h''
        · exact .inl h''
        · exact .inr (hx.trans h''))⟩
  · exact .inr h
theorem wpOp_putZ {j : Nat} {oi oj : Oper} {v : Value} (hj : ops[j]? = some oj) (hap : oi.apart ops oj = true)
    (hsi : ∀ cs b, oi.op ≠ .select cs b) (hsj : ∀ cs b, oj.op ≠ .select cs b) {K : Act → World → Prop} {a : Act} {w : World}
    (hy : SY P ops oi v a w) (hz : looks oi.op = false ∨ Z.contains j = false)
    (h : wpOp P ops (only QN) j (fun a' w' => (Z.contains j = false → Ext w w') ∧ K a' w') (a.put oi.dst v) w) :
    wpOp P ops (only QN) j (fun a' w' => (Z.contains j = false → Ext w w') ∧ SY P ops oi v a' w' ∧ K (a'.put oi.dst v) w') a w := by
  obtain ⟨h1, h2, h3⟩ := Oper.apart_spec hap
  have keep : ∀ {w'}, (Z.contains j = false → Ext w w') → ∀ u, SY P ops oi v (a.put oj.dst u) w' := fun hx u =>
    hy.same (execOp_put oi hsi a oj.dst u h3) (wanted_put oi a oj.dst u h3) (hz.imp id hx)
  have keepD : ∀ {w'}, (Z.contains j = false → Ext w w') → ∀ d u, SY P ops oi v (({ a with defers := d :: a.defers } : Act).put oj.dst u) w' := fun hx d u => by
    have h0 : SY P ops oi v ({ a with defers := d :: a.defers } : Act) _ := hy.same (a' := { a with defers := d :: a.defers }) rfl rfl (hz.imp id hx)
    exact h0.same (execOp_put oi hsi _ oj.dst u h3) (wanted_put oi _ oj.dst u h3) (.inr (Ext.refl _))
  have hlet : LetsOut (only QN) → False := fun ⟨a, w, h⟩ => h
  unfold Go.wpOp at *
  simp only [hj] at *
  rw [wanted_put oj a oi.dst v h1] at h
  split
  · rename_i hw
    simp only [hw, if_true] at h
    rcases h with h | ⟨hasks, hlets⟩
    case inr => exact (hlet hlets).elim
    refine .inl ?_
    unfold Oper.wp at *
    rw [execOp_put oj hsj a oi.dst v h1] at h
    generalize (execOp a.eval oj).run P w = r at *
    cases r with
    | ok n w' =>
      cases n <;> simp only [Oper.upon] at h ⊢
      case value u => exact ⟨h.1, keep h.1 u, by rw [← Act.put_comm a v u h2]; exact h.2⟩
      case skip => exact ⟨h.1, keep h.1 _, by rw [← Act.put_comm a v undef h2]; exact h.2⟩
      case defer d =>
        refine ⟨h.1, keepD h.1 d _, ?_⟩
        rw [← Act.put_comm _ v undef h2, ← Act.put_defers]
        exact h.2
      case enter f args =>
        refine Calls.mono h fun e w'' he => ?_
        cases e with
        | returned u => exact ⟨he.1, keep he.1 u, by rw [← Act.put_comm a v u h2]; exact he.2⟩
        | panicked c => exact he
        | outgrown => exact he
      case row row args => exact Rows.mono h fun u w'' he => ⟨he.1, keep he.1 u, by rw [← Act.put_comm a v u h2]; exact he.2⟩
    | halt x w' =>
      cases x <;> simp only [Oper.upon] at h ⊢
      case panic => exact (show False from h).elim
  · rename_i hw
    simp only [hw] at h
    exact ⟨h.1, keep h.1 _, by rw [← Act.put_comm a v undef h2]; exact h.2⟩
theorem wpOp_mono2 {i : Nat} {a : Act} {w : World} {Q : Exit → Act → World → Prop} {K K' : Act → World → Prop} (h : ∀ a w, K a w → K' a w)
    (hh : wpOp P ops Q i K a w) : wpOp P ops Q i K' a w := wpOp_mono h hh
theorem wpZ_first {i : Nat} {oi : Oper} {v : Value} (hi : ops[i]? = some oi) (hsel : ∀ (j : Nat) (o : Oper) cs b, ops[j]? = some o → o.op ≠ .select cs b) :
    ∀ (fuel : Nat) (listed : Array Bool) (a : Act) (w : World),
      (∀ j oj, ops[j]? = some oj → j ≠ i → listed.getD j true = false → (∀ e ∈ oj.after, Region.binds .any e = true → e.on ≠ i) →
        oi.apart ops oj = true ∧ (looks oi.op = false ∨ Z.contains j = false)) →
      i ∈ Region.ready .any ops listed → SY P ops oi v a w →
      wpZ P ops Z QN fuel (listed.setIfInBounds i true) (a.put oi.dst v) w → wpZ P ops Z QN (fuel + 1) listed a w := by
  intro fuel
  induction fuel with
  | zero =>
    intro listed a w _ hr hy H
    refine ⟨fun h => (by rw [h] at hr; cases hr), fun j hj => ?_⟩
    by_cases hji : j = i
    · subst hji; exact hy.wpOp hi ⟨fun _ => Ext.refl w, H⟩
    · have := ready_mono hj hji
      rw [H.1] at this
      cases this
  | succ fuel ih =>
    intro listed a w hfree hr hy H
    refine ⟨fun h => (by rw [h] at hr; cases hr), fun j hj => ?_⟩
    by_cases hji : j = i
    · subst hji; exact hy.wpOp hi ⟨fun _ => Ext.refl w, H⟩
    · have h1 := H.2 j (ready_mono hj hji)
      obtain ⟨hjun, oj, hoj, hall⟩ := mem_ready.1 hj
      have hnot : ∀ e ∈ oj.after, Region.binds .any e = true → e.on ≠ i := fun e he hb heq => by
        have h1 := hall e he hb
        have h0 := (mem_ready.1 hr).1
        rw [heq] at h1
        rcases Nat.lt_or_ge i listed.size with h' | h'
        · simp [h'] at h0 h1; rw [h0] at h1; cases h1
        · simp [Array.getElem?_eq_none h'] at h1
      obtain ⟨hap, hlz⟩ := hfree j oj hoj hji hjun hnot
      have h2 := wpOp_putZ (Z := Z) hoj hap (fun cs b => hsel i oi cs b hi) (fun cs b => hsel j oj cs b hoj) hy hlz h1
      have hfree' : ∀ k ok, ops[k]? = some ok → k ≠ i → (listed.setIfInBounds j true).getD k true = false →
          (∀ e ∈ ok.after, Region.binds .any e = true → e.on ≠ i) → oi.apart ops ok = true ∧ (looks oi.op = false ∨ Z.contains k = false) := fun k ok hk hki hun hno => by
        refine hfree k ok hk hki ?_ hno
        by_cases hjk : j = k
        · subst hjk; exact hjun
        · rw [getD_set_ne true hjk] at hun; exact hun
      refine wpOp_mono2 (fun a' w' h3 => ⟨h3.1, ih (listed.setIfInBounds j true) a' w' hfree' (ready_mono hr (Ne.symm hji)) h3.2.1 ?_⟩) h2
      rw [Array.setIfInBounds_comm _ _ hji]
      exact h3.2.2
def freeZ (ops : Array Oper) (Z : List Nat) (listed : Array Bool) (i : Nat) : Bool :=
  match ops[i]? with
  | none => false
  | some oi => (Region.ready .any ops listed).contains i && (List.range ops.size).all fun j => j == i || listed.getD j true || match ops[j]? with
      | some oj => oj.after.any (fun e => Region.binds .any e && e.on == i) || (oi.apart ops oj && (!looks oi.op || !Z.contains j))
      | none => true
theorem freeZ_spec {i : Nat} {oi : Oper} {listed : Array Bool} (hi : ops[i]? = some oi) (h : freeZ ops Z listed i = true) :
    i ∈ Region.ready .any ops listed ∧ ∀ (j : Nat) (oj : Oper), ops[j]? = some oj → j ≠ i → listed.getD j true = false → (∀ e ∈ oj.after, Region.binds .any e = true → e.on ≠ i) →
      oi.apart ops oj = true ∧ (looks oi.op = false ∨ Z.contains j = false) := by
  simp only [freeZ, hi, Bool.and_eq_true, List.all_eq_true, List.mem_range] at h
  obtain ⟨h0, h⟩ := h
  refine ⟨by simpa using h0, fun j oj hj hne hun hno => ?_⟩
  have h1 := h j (Array.getElem?_eq_some_iff.1 hj).1
  simp only [hj, Bool.or_eq_true, beq_iff_eq, hne, false_or, hun, Bool.false_eq_true] at h1
  rcases h1 with h1 | h1
  · obtain ⟨e, he, hb⟩ := Array.any_eq_true'.1 h1
    simp only [Bool.and_eq_true, beq_iff_eq] at hb
    exact absurd hb.2 (hno e he hb.1)
  · simp only [Bool.and_eq_true, Bool.or_eq_true, Bool.not_eq_true'] at h1
    exact h1
end
section
variable {P : Program} {F : Fr} {N : Nat} {Q : Exit → St → Prop} {ops : Array Oper} {K : St → Prop} {Z : List Nat}
def TZ (P : Program) (F : Fr) (N : Nat) (ops : Array Oper) (Z : List Nat) (fuel : Nat) (listed : List Bool) (K : St → Prop) (st : St) : Prop :=
  Region.noSelect ops = true → ∀ (a : Act) (w : World) (QN : Act → World → Prop), Rel F N st a w → (∀ st' a' w', K st' → Rel F N st' a' w' → QN a' w') →
    wpZ P ops Z QN fuel listed.toArray a w
theorem T_drawZ {id n : Nat} {st : St} (Z : List Nat) (hm : P.follows .mixedOrders = true) (hs : Region.noSelect ops = true) (hn : ops.size = n)
    (h : TZ P F N ops Z n (List.replicate n false) (Q .normal) st) : T P F N (.region id ops true) Q st := by
  intro a w hr
  subst hn
  refine wp_region_any hm (wpAny_of_wpZ (Z := Z) (QN := fun a' w' => ∃ st', Q .normal st' ∧ Rel F N st' a' w') (fun _ _ h => h) _ _ _ _ ?_)
  have := h hs a { w with drawn := w.drawn + 1 } (fun a' w' => ∃ st', Q .normal st' ∧ Rel F N st' a' w') hr.drew (fun st' a' w' hk hr' => ⟨st', hk, hr'⟩)
  simpa using this
theorem QX {fuel : Nat} {listed : List Bool} {st : St} (hr : (Region.ready .any ops listed.toArray).isEmpty = true) (h : K st) : TZ P F N ops Z fuel listed K st := by
  intro _ a w R hrel hQ
  have hr : Region.ready .any ops listed.toArray = [] := by simpa using hr
  cases fuel with
  | zero => exact ⟨hr, hQ _ _ _ h hrel⟩
  | succ fuel => exact ⟨fun _ => hQ _ _ _ h hrel, fun i hi => by rw [hr] at hi; cases hi⟩
theorem TZ_first {fuel : Nat} {listed : List Bool} {st st' : St} {o : Oper} (i : Nat) (hz : freeZ ops Z listed.toArray i = true) (hi : ops[i]? = some o)
    (h : ∀ φ a w, RelP F N st φ a w → ∃ v, SY P ops o v a w ∧ Rel F N st' (a.put o.dst v) w) (k : TZ P F N ops Z fuel (setL listed i) K st') :
    TZ P F N ops Z (fuel + 1) listed K st := by
  intro hs a w R hrel hQ
  obtain ⟨φ, hp⟩ := hrel
  obtain ⟨v, hy, hr'⟩ := h φ a w hp
  obtain ⟨h1, h2⟩ := freeZ_spec hi hz
  refine wpZ_first hi (Region.noSelect_spec hs) fuel _ a w h2 h1 hy ?_
  rw [setL_eq]
  exact k hs _ _ R hr' hQ
theorem Qn {fuel : Nat} {listed : List Bool} {o : Oper} {d : Nat} {x : AV} {s s' : Xb} {h : Heap} (i : Nat) (hz : freeZ ops Z listed.toArray i = true) (hi : ops[i]? = some o)
    (hg : o.guard = none) (hd : o.dst = some d) (hN : Nat.blt d N = true) (hs : sput s d x = some s') (hrun : OpP P o s h x)
    (k : TZ P F N ops Z fuel (setL listed i) K ⟨s', h⟩) : TZ P F N ops Z (fuel + 1) listed K ⟨s, h⟩ := by
  refine TZ_first i hz hi (fun φ a w hp => ?_) k
  obtain ⟨v, hv, hrep⟩ := hrun _ w φ h a.eval hp.heap (fun _ _ h => h) (fun y z hy => aev_rep hp hy)
  refine ⟨v, .inl ⟨by simp [Region.wanted, hg], hv⟩, φ, ?_⟩
  rw [hd]
  exact hp.put (Nat.le_of_ble_eq_true hN) hs hrep
theorem QK {fuel : Nat} {listed : List Bool} {o : Oper} {d g j : Nat} {b : Bool} {x : AV} {s s' : Xb} {h : Heap} (i : Nat) (hz : freeZ ops Z listed.toArray i = true) (hi : ops[i]? = some o)
    (hg : o.guard = some (j, b)) (hj : (ops[j]?).bind (·.dst) = some g) (hb : lk s g = some (.bool b)) (hd : o.dst = some d) (hN : Nat.blt d N = true) (hs : sput s d x = some s') (hrun : OpP P o s h x)
    (k : TZ P F N ops Z fuel (setL listed i) K ⟨s', h⟩) : TZ P F N ops Z (fuel + 1) listed K ⟨s, h⟩ := by
  refine TZ_first i hz hi (fun φ a w hp => ?_) k
  obtain ⟨v, hv, hrep⟩ := hrun _ w φ h a.eval hp.heap (fun _ _ h => h) (fun y z hy => aev_rep hp hy)
  refine ⟨v, .inl ⟨wanted_of hp hg hj hb, hv⟩, φ, ?_⟩
  rw [hd]
  exact hp.put (Nat.le_of_ble_eq_true hN) hs hrep
theorem QR {fuel : Nat} {listed : List Bool} {o : Oper} {d g j : Nat} {b c : Bool} {s s' : Xb} {h : Heap} (i : Nat) (hz : freeZ ops Z listed.toArray i = true) (hi : ops[i]? = some o)
    (hg : o.guard = some (j, b)) (hj : (ops[j]?).bind (·.dst) = some g) (hb : lk s g = some (.bool c)) (hbc : c = !b) (hd : o.dst = some d) (hN : Nat.blt d N = true)
    (hs : sput s d (.tup []) = some s') (k : TZ P F N ops Z fuel (setL listed i) K ⟨s', h⟩) : TZ P F N ops Z (fuel + 1) listed K ⟨s, h⟩ := by
  refine TZ_first i hz hi (fun φ a w hp => ?_) k
  refine ⟨undef, .inr ⟨unwanted_of hp hg hj hb hbc, rfl⟩, φ, ?_⟩
  rw [hd]
  exact hp.put (Nat.le_of_ble_eq_true hN) hs undef_rep
theorem Q1 {fuel : Nat} {listed : List Bool} {o : Oper} {d g j : Nat} {b : Bool} {s s' : Xb} {h : Heap} (i : Nat) (hz : freeZ ops Z listed.toArray i = true) (hi : ops[i]? = some o)
    (hg : o.guard = some (j, b)) (hj : (ops[j]?).bind (·.dst) = some g) (hb : lk s g = some (.tup [])) (hd : o.dst = some d) (hN : Nat.blt d N = true)
    (hs : sput s d (.tup []) = some s') (k : TZ P F N ops Z fuel (setL listed i) K ⟨s', h⟩) : TZ P F N ops Z (fuel + 1) listed K ⟨s, h⟩ := by
  refine TZ_first i hz hi (fun φ a w hp => ?_) k
  refine ⟨undef, .inr ⟨?_, rfl⟩, φ, ?_⟩
  · obtain ⟨v, hv, hrep⟩ := hp.slots g _ hb
    obtain ⟨us, rfl⟩ : ∃ us, v = .tuple us := by
      cases hrep with
      | pure h => cases h; exact ⟨_, rfl⟩
      | tup _ us _ _ => exact ⟨us, rfl⟩
    simp [Region.wanted, hg, yielded, hj, hv]
  · rw [hd]
    exact hp.put (Nat.le_of_ble_eq_true hN) hs undef_rep
theorem Qz {fuel : Nat} {listed : List Bool} {st : St} (L : List Nat) (hr : Region.ready .any ops listed.toArray = L) (hL : L.isEmpty = false)
    (h : each (fun i => ∃ o, ops[i]? = some o ∧ TLE (!Z.contains i) P F N ops [o] (TZ P F N ops Z fuel (setL listed i) K) st) L) : TZ P F N ops Z (fuel + 1) listed K st := by
  intro hs a w R hrel hQ
  refine ⟨fun h0 => (by rw [hr] at h0; rw [h0] at hL; exact absurd hL (by decide)), fun i hi => ?_⟩
  rw [hr] at hi
  obtain ⟨o, ho, ht⟩ := each_mem h i hi
  refine wpOp_of_list ho (ht a w _ hrel fun st' a' w' hk hr' he => ⟨fun h => he (by rw [h]; rfl), ?_⟩)
  rw [setL_eq]
  exact hk hs a' w' R hr' hQ
theorem Qs {fuel : Nat} {listed : List Bool} {st : St} {o : Oper} (i : Nat) (hr : Region.ready .any ops listed.toArray = [i]) (hi : ops[i]? = some o)
    (h : TLE (!Z.contains i) P F N ops [o] (TZ P F N ops Z fuel (setL listed i) K) st) : TZ P F N ops Z (fuel + 1) listed K st :=
  Qz [i] hr rfl ⟨o, hi, h⟩
theorem TZ_sub {fuel : Nat} {listed : List Bool} {st st' : St} (h : ∀ φ a w, RelP F N st φ a w → Rel F N st' a w) (k : TZ P F N ops Z fuel listed K st') : TZ P F N ops Z fuel listed K st := by
  intro hs a w R hr hQ
  obtain ⟨φ, hp⟩ := hr
  exact k hs a w R (h φ a w hp) hQ
theorem TZ_split {fuel : Nat} {listed : List Bool} {s s1 s2 : Xb} {h : Heap} (g : Nat) {b : Bool} (hb : lk s g = some (.bool b)) (ht : sput s g (.bool true) = some s1) (hf : sput s g (.bool false) = some s2)
    (kt : b = true → TZ P F N ops Z fuel listed K ⟨s1, h⟩) (kf : b = false → TZ P F N ops Z fuel listed K ⟨s2, h⟩) : TZ P F N ops Z fuel listed K ⟨s, h⟩ := by
  have same : ∀ (c : Bool) (t : Xb), b = c → sput s g (.bool c) = some t → ∀ φ a w, RelP F N ⟨s, h⟩ φ a w → RelP F N ⟨t, h⟩ φ a w := by
    intro c t hbc hp φ a w hr
    subst hbc
    refine hr.slots_sub fun i x hx => .inl ?_
    rw [lk_sput hp] at hx
    split at hx
    · cases hx; rename_i hi; rw [← hi]; exact hb
    · exact hx
  cases b with
  | true => exact TZ_sub (fun φ a w hr => ⟨φ, same true s1 rfl ht φ a w hr⟩) (kt rfl)
  | false => exact TZ_sub (fun φ a w hr => ⟨φ, same false s2 rfl hf φ a w hr⟩) (kf rfl)
end
end Go.AM

namespace Go.AM
open Go
section
variable {P : Program} {F : Fr} {N : Nat} {Q : Exit → St → Prop} {st st' : St} {c : Code} {K : St → Prop} {ops : Array Oper} {l rest : List Oper} {ex : Bool}
variable {ty : TypeId} {pos : String} {after : Array Edge} {d : Nat} {s s' : Xb} {h h' : Heap}
theorem TL_cast (st' : St) (he : st = st') (k : TLE ex P F N ops l K st') : TLE ex P F N ops l K st := by subst he; exact k
mutual
theorem renO_nil : ∀ (x : AV), noIds x = true → renO [] x = some x
  | .ow _, h => by cases h
  | .ptr _ _ _, h => by cases h
  | .mp _, h => by cases h
  | .sub _ _, h => by cases h
  | .win _ _, h => by cases h
  | .agg cs, h => by unfold renO; rw [renL_nil cs (by simpa [noIds] using h)]
  | .tup cs, h => by unfold renO; rw [renL_nil cs (by simpa [noIds] using h)]
  | .fn f as bs, h => by
    simp only [noIds, Bool.and_eq_true] at h
    unfold renO; rw [renL_nil as h.1]; simp only; rw [renL_nil bs h.2]
  | .int _ _, _ => rfl
  | .bool _, _ => rfl
  | .str _, _ => rfl
  | .snil, _ => rfl
  | .sl _ _, _ => rfl
  | .cp _, _ => rfl
  | .nilp, _ => rfl
  | .tr _, _ => rfl
  | .nilf, _ => rfl
  | .junk, _ => rfl
theorem renL_nil : ∀ (xs : List AV), noIdsL xs = true → renL [] xs = some xs
  | [], _ => rfl
  | x :: r, h => by
    simp only [noIdsL, Bool.and_eq_true] at h
    unfold renL; rw [renO_nil x h.1]; simp only; rw [renL_nil r h.2]
end
theorem killSL_nil : killSL [] s = some s := by rfl
theorem killHL_nil : killHL [] h = some h := by rfl
theorem TL_callT {f : FuncId} {args : Array Operand} {tys : Array TypeId} {zs : List AV} {r : AV} (hc : ACallF F P f zs [] r []) (hcall : ∀ args w, (callFunc f args).run P w = .ok (.enter f args) w)
    (hz : aevL s args.toList = some zs) (hn : noIdsL zs = true) (hr : noIds r = true) (hN : Nat.blt d N = true) (hs : sput s d r = some s')
    (k : TLE ex P F N ops rest K ⟨s', h⟩) : TLE ex P F N ops (⟨some d, .call ⟨.value (.func f), args, tys⟩, ty, pos, after, none⟩ :: rest) K ⟨s, h⟩ :=
  TLE_call [] [] [] hc (fun _ => rfl) hcall hz rfl (renL_nil _ hn) rfl rfl trivial rfl rfl rfl rfl (renO_nil _ hr) rfl killSL_nil killHL_nil rfl hN hs k
end
end Go.AM

namespace Go.AM
open Go Go.RowKit
theorem mapM_get {α β : Type} {f : α → Option β} : ∀ {l : List α} {r : List β}, l.mapM f = some r → r.length = l.length ∧ ∀ (i : Nat) a, l[i]? = some a → ∃ b, r[i]? = some b ∧ f a = some b := by
  intro l
  induction l with
  | nil => intro r h; simp at h; subst h; exact ⟨rfl, fun i a h => by simp at h⟩
  | cons x l ih =>
    intro r h
    rw [List.mapM_cons] at h
    cases hx : f x with
    | none => rw [hx] at h; cases h
    | some y =>
      cases hl : l.mapM f with
      | none => rw [hx, hl] at h; cases h
      | some ys =>
        rw [hx, hl] at h
        simp only [Option.bind_eq_bind, Option.bind_some, Option.pure_def, Option.some.injEq] at h
        subst h
        obtain ⟨h1, h2⟩ := ih hl
        refine ⟨by simp [h1], fun i a ha => ?_⟩
        cases i with
        | zero => simp at ha; subst ha; exact ⟨y, rfl, hx⟩
        | succ i => simp at ha; simpa using h2 i a ha
structure RepL (S : Nat → Prop) (w : World) (xs : List AV) (cs : List Value) : Prop where
  len : xs.length = cs.length
  rep : ∀ (i : Nat) x v, xs[i]? = some x → cs[i]? = some v → RepT S w x v
  one : ∀ x ∈ xs, one x = true
theorem RepL.nil {S : Nat → Prop} {w : World} : RepL S w [] [] := ⟨rfl, fun i x v h _ => by simp at h, fun x h => by cases h⟩
theorem RepL.one1 {S : Nat → Prop} {w : World} {x : AV} {v : Value} (h : RepT S w x v) (ho : AM.one x = true) : RepL S w [x] [v] :=
  ⟨rfl, fun i y u hy hu => by cases i with
    | zero => simp at hy hu; subst hy; subst hu; exact h
    | succ i => simp at hy, fun y hy => by simp at hy; subst hy; exact ho⟩
theorem RepL.append {S : Nat → Prop} {w : World} {xs ys : List AV} {cs ds : List Value} (h : RepL S w xs cs) (k : RepL S w ys ds) : RepL S w (xs ++ ys) (cs ++ ds) := by
  refine ⟨by simp [h.len, k.len], fun i x v hx hv => ?_, fun x hx => (List.mem_append.1 hx).elim (h.one x) (k.one x)⟩
  by_cases hi : i < xs.length
  · rw [List.getElem?_append_left hi] at hx
    rw [List.getElem?_append_left (by rw [← h.len]; exact hi)] at hv
    exact h.rep i x v hx hv
  · rw [List.getElem?_append_right (by omega)] at hx
    rw [List.getElem?_append_right (by rw [← h.len]; omega), ← h.len] at hv
    exact k.rep _ x v hx hv
def contigF (P : Program) : List Field → Nat → Option Nat
  | [], o => some o
  | f :: r, o => if f.offset = o then contigF P r (o + P.cellsOf f.type) else none
def okT (P : Program) (T : List TypeId) (t : TypeId) : Bool :=
  match P.underlying t with
  | some .bool => true
  | some (.int _) => true
  | some .string => true
  | some (.slice e) => Nat.blt 0 (P.cellsOf e) && T.contains e
  | some (.struct fs) => (contigF P fs.toList 0 == some (P.cellsOf t)) && fs.toList.all (fun f => T.contains f.type)
  | _ => false
def okTs (P : Program) (T : List TypeId) : Bool := T.all (okT P T)
def wrapT (P : Program) (t : TypeId) (xs : List AV) : AV :=
  match P.underlying t with
  | some (.struct _) => .agg xs
  | _ => xs.headD .junk
def ShFs (p : TypeId → List AV → Prop) : List Field → List AV → Prop
  | [], xs => xs = []
  | f :: r, xs => ∃ a b, xs = a ++ b ∧ p f.type a ∧ ShFs p r b
def Sh (P : Program) : Nat → TypeId → List AV → Prop
  | 0, _, _ => False
  | n + 1, t, xs =>
    match P.underlying t with
    | some .bool => ∃ b, xs = [.bool b]
    | some (.int k) => ∃ n, xs = [.int k n] ∧ (Lit.int k n).wf = true
    | some .string => ∃ s, xs = [.str s] ∧ s.length ≤ 9223372036854775807
    | some (.slice e) => ∃ es, xs = [.sl (P.cellsOf e) es] ∧ es.length ≤ 9223372036854775807 ∧ ∀ el ∈ es, ∃ ys, Sh P n e ys ∧ el = wrapT P e ys
    | some (.struct fs) => ShFs (Sh P n) fs.toList xs
    | _ => False
section
variable {H : Type} {enc : TypeId × Value → H} {P : Program} {W : World} {spare : Nat → Bool} {held : Bool}
theorem cells_row {b n : Nat} {a : Addr} {cs : List Value} (h : W.cells? b a n = some cs) : cs.length = n ∧ ∀ (i : Nat) v, cs[i]? = some v → W.cell? (a.add i) = some v := by
  unfold World.cells? at h
  split at h
  · obtain ⟨h1, h2⟩ := mapM_get h
    refine ⟨by simpa using h1, fun i v hv => ?_⟩
    have hi : i < n := by
      have := (List.getElem?_eq_some_iff.1 hv).1
      rw [h1] at this; simpa using this
    obtain ⟨u, hu, hc⟩ := h2 i i (by simp [hi])
    rw [hu] at hv; cases hv; exact hc
  · cases h
theorem wrap_cells {n : Nat} {t : TypeId} {xs : List AV} (ho : ∀ x ∈ xs, AM.one x = true) (hs : Sh P n t xs) : (wrapT P t xs).cells = xs := by
  cases n with
  | zero => exact hs.elim
  | succ n =>
    unfold Sh at hs
    unfold wrapT
    cases hu : P.underlying t with
    | none => rw [hu] at hs; exact hs.elim
    | some d =>
      rw [hu] at hs
      cases d <;> first
        | rfl
        | exact hs.elim
        | (obtain ⟨b, rfl⟩ := hs; rfl)
        | (obtain ⟨b, rfl, _⟩ := hs; rfl)
theorem fields_rep {T : List TypeId} {p : TypeId → List Value → Option (DataW H × List MemPlace)} {q : TypeId → List AV → Prop}
    (ih : ∀ t cs y, t ∈ T → p t cs = some y → ∃ xs, RepL (fun b => b < W.heap.size) W xs cs ∧ q t xs) (cs : List Value) :
    ∀ (fs : List Field) (o e : Nat) (ys : List (DataW H × List MemPlace)), contigF P fs o = some e → e ≤ cs.length → fs.all (fun f => T.contains f.type) = true →
      fs.mapM (fun f => p f.type ((cs.drop f.offset).take (P.cellsOf f.type))) = some ys →
      o ≤ e ∧ ∃ xs, RepL (fun b => b < W.heap.size) W xs ((cs.drop o).take (e - o)) ∧ ShFs q fs xs := by
  intro fs
  induction fs with
  | nil =>
    intro o e ys hc he _ _
    simp only [contigF, Option.some.injEq] at hc
    subst hc
    exact ⟨Nat.le_refl _, [], by simpa using RepL.nil, rfl⟩
  | cons f r ihf =>
    intro o e ys hc he ha hm
    unfold contigF at hc
    split at hc
    · rename_i ho
      simp only [List.all_cons, Bool.and_eq_true] at ha
      rw [List.mapM_cons] at hm
      cases hx : p f.type ((cs.drop f.offset).take (P.cellsOf f.type)) with
      | none => rw [hx] at hm; cases hm
      | some y =>
        cases hl : r.mapM (fun f => p f.type ((cs.drop f.offset).take (P.cellsOf f.type))) with
        | none => rw [hx, hl] at hm; cases hm
        | some ys' =>
          obtain ⟨h1, xs2, h2, h3⟩ := ihf _ _ _ hc he ha.2 hl
          obtain ⟨xs1, h4, h5⟩ := ih f.type _ y (by simpa using ha.1) hx
          refine ⟨by omega, xs1 ++ xs2, ?_, xs1, xs2, rfl, h5, h3⟩
          have e1 : (cs.drop o).take (e - o) = ((cs.drop f.offset).take (P.cellsOf f.type)) ++ (cs.drop (o + P.cellsOf f.type)).take (e - (o + P.cellsOf f.type)) := by
            rw [ho]
            have : e - o = P.cellsOf f.type + (e - (o + P.cellsOf f.type)) := by omega
            rw [this, List.take_add, List.drop_drop]
          rw [e1]
          exact h4.append h2
    · cases hc
theorem trod_rep {T : List TypeId} (hT : okTs P T = true) : ∀ (fuel : Nat) (t : TypeId) (cs : List Value) (y : DataW H × List MemPlace), t ∈ T →
    DataW.trod enc P W 0 spare held fuel t cs = some y → ∃ xs, RepL (fun b => b < W.heap.size) W xs cs ∧ Sh P fuel t xs := by
  intro fuel
  induction fuel with
  | zero => intro t cs y _ h; cases h
  | succ fuel ih =>
    intro t cs y ht h
    have hok := List.all_eq_true.1 hT t ht
    unfold DataW.trod at h
    unfold okT at hok
    unfold Sh
    split at hok <;> rename_i hu
    · rw [hu] at h
      rcases cs with _ | ⟨c, r⟩
      · cases h
      cases c <;> rcases r with _ | ⟨c2, r⟩ <;> try (cases h; done)
      rename_i b
      exact ⟨[.bool b], .one1 (.bool b) rfl, ⟨b, rfl⟩⟩
    · rename_i k
      rw [hu] at h
      rcases cs with _ | ⟨c, r⟩
      · cases h
      cases c <;> rcases r with _ | ⟨c2, r⟩ <;> try (cases h; done)
      rename_i k' n
      change (if k' = k ∧ (Lit.int k n).wf = true then _ else _) = _ at h
      split at h
      · rename_i hk
        obtain ⟨rfl, hw⟩ := hk
        exact ⟨[.int k' n], .one1 (.int k' n) rfl, ⟨n, rfl, hw⟩⟩
      · cases h
    · rw [hu] at h
      rcases cs with _ | ⟨c, r⟩
      · cases h
      cases c <;> rcases r with _ | ⟨c2, r⟩ <;> try (cases h; done)
      rename_i b
      change (if b.size ≤ maxLen then _ else _) = _ at h
      split at h
      · rename_i hb
        refine ⟨[.str b.data.toList], .one1 ?_ rfl, by
          refine ⟨b.data.toList, rfl, ?_⟩
          have e : b.data.toList.length = b.size := Array.length_toList
          simp only [maxLen] at hb
          omega⟩
        have : (Value.string b) = .string ⟨b.data.toList.toArray⟩ := by simp
        rw [this]; exact .str _
      · cases h
    · rename_i e
      rw [hu] at h
      simp only [Bool.and_eq_true] at hok
      have hsz : 0 < P.cellsOf e := Nat.le_of_ble_eq_true hok.1
      have he : e ∈ T := by simpa using hok.2
      rcases cs with _ | ⟨c, r⟩
      · cases h
      cases c <;> rcases r with _ | ⟨c2, r⟩ <;> try (cases h; done)
      · rename_i ao len cap
        cases ao with
        | none =>
          rcases len with _ | len <;> rcases cap with _ | cap <;> try (cases h; done)
          exact ⟨[.sl (P.cellsOf e) []], .one1 (.sl0 _ _ _ (fun _ => rfl)) rfl, ⟨[], rfl, by decide, fun el h => by cases h⟩⟩
        | some a =>
          change (if 0 ≤ a.block ∧ len ≤ cap ∧ cap ≤ maxLen then _ else _) = _ at h
          split at h
          · rename_i hb
            cases hm : (List.range len).mapM (fun i => (W.cells? 0 (a.add (i * P.cellsOf e)) (P.cellsOf e)).bind (DataW.trod enc P W 0 spare held fuel e)) with
            | none => simp only [hm] at h; cases h
            | some elems =>
              obtain ⟨m1, m2⟩ := mapM_get hm
              rw [List.length_range] at m1
              have key : ∀ i, i < len → ∃ xs cs', RepL (fun b => b < W.heap.size) W xs cs' ∧ Sh P fuel e xs ∧ cs'.length = P.cellsOf e ∧
                  ∀ (j : Nat) v, cs'[j]? = some v → W.cell? ((a.add (i * P.cellsOf e)).add j) = some v := by
                intro i hi
                obtain ⟨y', _, hy'⟩ := m2 i i (by simp [hi])
                cases hcs : W.cells? 0 (a.add (i * P.cellsOf e)) (P.cellsOf e) with
                | none => rw [hcs] at hy'; cases hy'
                | some cs' =>
                  rw [hcs] at hy'
                  obtain ⟨c1, c2⟩ := cells_row hcs
                  obtain ⟨xs, x1, x2⟩ := ih e cs' y' he hy'
                  exact ⟨xs, cs', x1, x2, c1, c2⟩
              by_cases h0 : len = 0
              · subst h0
                exact ⟨[.sl (P.cellsOf e) []], .one1 (.sl0 _ _ _ (fun h => by cases h)) rfl, ⟨[], rfl, by decide, fun el h => by cases h⟩⟩
              · obtain ⟨blk, off, spot⟩ := a
                have hspot : spot = none := by
                  obtain ⟨xs, cs', _, _, k3, k4⟩ := key 0 (by omega)
                  have : 0 < cs'.length := by omega
                  have := k4 0 cs'[0] (by simp)
                  simpa [Addr.add] using World.cell?_spot this
                subst hspot
                have hblk : blk < W.heap.size := by
                  obtain ⟨xs, cs', _, _, k3, k4⟩ := key 0 (by omega)
                  have : 0 < cs'.length := by omega
                  have := k4 0 cs'[0] (by simp)
                  apply Nat.lt_of_not_le
                  intro hge
                  have h2 : W.heap[blk]? = none := Array.getElem?_eq_none hge
                  simp [World.cell?, Addr.add, h2] at this
                -- the elements
                have hex : ∃ es : List AV, es.length = len ∧ ∀ (i : Nat) el, es[i]? = some el → ∃ xs cs', RepL (fun b => b < W.heap.size) W xs cs' ∧ Sh P fuel e xs ∧ cs'.length = P.cellsOf e ∧
                    (∀ (j : Nat) v, cs'[j]? = some v → W.cell? ⟨blk, off + i * P.cellsOf e + j, none⟩ = some v) ∧ el = wrapT P e xs := by
                  have : ∀ n, n ≤ len → ∃ es : List AV, es.length = n ∧ ∀ (i : Nat) el, es[i]? = some el → ∃ xs cs', RepL (fun b => b < W.heap.size) W xs cs' ∧ Sh P fuel e xs ∧ cs'.length = P.cellsOf e ∧
                    (∀ (j : Nat) v, cs'[j]? = some v → W.cell? ⟨blk, off + i * P.cellsOf e + j, none⟩ = some v) ∧ el = wrapT P e xs := by
                    intro n
                    induction n with
                    | zero => intro _; exact ⟨[], rfl, fun i el h => by simp at h⟩
                    | succ n ihn =>
                      intro hn
                      obtain ⟨es, e1, e2⟩ := ihn (by omega)
                      obtain ⟨xs, cs', k1, k2, k3, k4⟩ := key n (by omega)
                      refine ⟨es ++ [wrapT P e xs], by simp [e1], fun i el hel => ?_⟩
                      by_cases hi : i < es.length
                      · rw [List.getElem?_append_left hi] at hel
                        exact e2 i el hel
                      · rw [List.getElem?_append_right (by omega)] at hel
                        have hin : i = n := by
                          have := (List.getElem?_eq_some_iff.1 hel).1
                          simp at this; omega
                        subst hin
                        simp [e1] at hel
                        exact ⟨xs, cs', k1, k2, k3, fun j v hv => by have := k4 j v hv; rwa [Addr.add_lit, Addr.add_lit] at this, hel.symm⟩
                  exact this len (Nat.le_refl _)
                obtain ⟨es, e1, e2⟩ := hex
                have hcl : ∀ el ∈ es, el.cells.length = P.cellsOf e ∧ (∀ x ∈ el.cells, AM.one x = true) := by
                  intro el hel
                  obtain ⟨i, hi⟩ := List.getElem?_of_mem hel
                  obtain ⟨xs, cs', k1, k2, k3, _, rfl⟩ := e2 i el hi
                  rw [wrap_cells k1.one k2]
                  exact ⟨by rw [k1.len, k3], k1.one⟩
                have hat : ∀ (j : Nat) x, (flat es)[j]? = some x → ∃ v, W.cell? ⟨blk, off + j, none⟩ = some v ∧ RepT (fun b => b < W.heap.size) W x v := by
                  intro j x hx
                  have hj := (List.getElem?_eq_some_iff.1 hx).1
                  rw [Xa (fun el h => (hcl el h).1), e1] at hj
                  have hq : j / P.cellsOf e < len := by rw [Nat.div_lt_iff_lt_mul hsz]; exact hj
                  have hm' : j % P.cellsOf e < P.cellsOf e := Nat.mod_lt _ hsz
                  have hdm : j / P.cellsOf e * P.cellsOf e + j % P.cellsOf e = j := by rw [Nat.mul_comm]; exact Nat.div_add_mod j _
                  obtain ⟨el, hel⟩ : ∃ el, es[j / P.cellsOf e]? = some el := ⟨es[j / P.cellsOf e]'(by omega), by simp⟩
                  obtain ⟨xs, cs', k1, k2, k3, k4, rfl⟩ := e2 _ el hel
                  rw [← hdm, flat_get (fun el h => (hcl el h).1) hel hm', wrap_cells k1.one k2] at hx
                  have hlt : j % P.cellsOf e < cs'.length := by omega
                  refine ⟨cs'[j % P.cellsOf e], ?_, k1.rep _ x _ hx (by simp)⟩
                  have := k4 (j % P.cellsOf e) _ (by simp : cs'[j % P.cellsOf e]? = some cs'[j % P.cellsOf e])
                  rw [Nat.add_assoc, hdm] at this
                  exact this
                refine ⟨[.sl (P.cellsOf e) es], .one1 ?_ rfl, by
                  refine ⟨es, rfl, by have := hb.2.2; have := hb.2.1; simp only [maxLen] at *; omega, fun el hel => ?_⟩
                  obtain ⟨i, hi⟩ := List.getElem?_of_mem hel
                  obtain ⟨xs, cs', _, k2, _, _, k5⟩ := e2 i el hi
                  exact ⟨xs, k2, k5⟩⟩
                rw [← e1]
                refine .sl _ es blk off cap (fun j => (W.cell? ⟨blk, off + j, none⟩).getD undef) (by rintro rfl; simp at e1; omega) hblk (by omega) hb.2.2 hsz (fun el h => (hcl el h).1)
                  (fun j x hx => ?_) (fun j x hx => ?_) (fun j x hx => ?_)
                · have hm := List.mem_of_getElem? hx
                  unfold flat at hm
                  obtain ⟨el, h1, h2⟩ := List.mem_flatMap.1 hm
                  exact (hcl el h1).2 x h2
                · obtain ⟨v, hv, _⟩ := hat j x hx
                  rw [hv]; rfl
                · obtain ⟨v, hv, hr⟩ := hat j x hx
                  simp only [hv, Option.getD_some]; exact hr
          · cases h
      · rename_i ao len cap
        cases ao
        · rcases len with _ | len <;> rcases cap with _ | cap <;> cases h
        · cases h
    · rename_i fs
      rw [hu] at h
      simp only [Bool.and_eq_true, beq_iff_eq] at hok
      have h' : (if cs.length = P.cellsOf t then (fs.toList.mapM fun f => DataW.trod enc P W 0 spare held fuel f.type ((cs.drop f.offset).take (P.cellsOf f.type))).map fun xs => ((.agg (xs.map (·.1)) : DataW H), xs.flatMap (·.2)) else none) = some y := by
        rcases cs with _ | ⟨c, r⟩
        · exact h
        · cases c <;> rcases r with _ | ⟨c2, r⟩ <;> exact h
      split at h'
      · rename_i hlen
        cases hm : fs.toList.mapM (fun f => DataW.trod enc P W 0 spare held fuel f.type ((cs.drop f.offset).take (P.cellsOf f.type))) with
        | none => rw [hm] at h'; cases h'
        | some ys =>
          obtain ⟨_, xs, h1, h2⟩ := fields_rep (P := P) (W := W) (T := T) (q := Sh P fuel) (fun t cs y ht h => ih t cs y ht h) cs fs.toList 0 _ ys hok.1 (by omega) hok.2 hm
          refine ⟨xs, ?_, h2⟩
          simpa [← hlen] using h1
      · cases h'
    · cases hok
def ShV (P : Program) (t : TypeId) (x : AV) : Prop := ∃ n xs, Sh P n t xs ∧ x = wrapT P t xs
theorem trod_val {T : List TypeId} (hT : okTs P T = true) {t : TypeId} (ht : T.contains t = true) {r : Reach} {base : Nat} {v : Value} {d : DataW H} {ps : List MemPlace}
    (hv : Value.okWide P W r base t v) (h : DataW.Trod enc P W 0 spare held t v d ps) : ∃ x, RepT (fun b => b < W.heap.size) W x v ∧ ShV P t x := by
  obtain ⟨fuel, hf⟩ := h
  obtain ⟨xs, h1, h2⟩ := trod_rep hT fuel t _ _ (by simpa using ht) hf
  refine ⟨wrapT P t xs, ?_, fuel, xs, h2, rfl⟩
  have hok := List.all_eq_true.1 hT t (by simpa using ht)
  have sing : v.cells.toList = [v] → (∀ fs, P.underlying t ≠ some (.struct fs)) → RepT (fun b => b < W.heap.size) W (wrapT P t xs) v := by
    intro hc hns
    have hl := h1.len
    rw [hc] at hl
    obtain ⟨y, rfl⟩ : ∃ y, xs = [y] := by
      match xs, hl with
      | [y], _ => exact ⟨y, rfl⟩
    have : wrapT P t [y] = y := by
      unfold wrapT
      split
      · rename_i hu; exact absurd hu (hns _)
      · rfl
    rw [this]
    exact h1.rep 0 y v rfl (by rw [hc]; rfl)
  unfold okT at hok
  split at hok <;> rename_i hu
  · obtain ⟨b, rfl⟩ := WideShapes.okWide_bool hu hv
    exact sing rfl (fun fs h => by rw [hu] at h; cases h)
  · obtain ⟨b, rfl⟩ := WideShapes.okWide_int hu hv
    exact sing rfl (fun fs h => by rw [hu] at h; cases h)
  · obtain ⟨b, rfl⟩ := WideShapes.okWide_string hu hv
    exact sing rfl (fun fs h => by rw [hu] at h; cases h)
  · obtain ⟨a, l, c, rfl⟩ := WideShapes.okWide_slice hu hv
    exact sing rfl (fun fs h => by rw [hu] at h; cases h)
  · obtain ⟨cs, rfl, _⟩ := WideShapes.okWide_struct hu hv
    unfold wrapT
    rw [hu]
    exact .agg xs cs (by simpa [Value.cells] using h1.len) (fun i x v hx hv => h1.rep i x v hx (by simpa [Value.cells] using hv))
  · cases hok
theorem law_calls {f : FuncId} {xs : List AV} {vs : Array Value} (hc : ACall P f xs [] (.bool true) []) (hl : xs.length = vs.size)
    (hr : ∀ (i : Nat) x v, xs[i]? = some x → vs[i]? = some v → RepT (fun b => b < W.heap.size) W x v) :
    Calls P f vs W fun e w' => e = .returned (.bool true) ∧ Below W.heap.size W w' := by
  refine (hc W (fun b => b < W.heap.size) (fun _ => mkLoc 0 0 false) vs (HeapOK.nil _ (fun b hb => hb)) ⟨by simpa using hl, fun i x v hx hv => .pure (hr i x v hx (by simpa using hv))⟩).mono ?_
  rintro e w' ⟨v, φ', rfl, hret⟩
  have := hret.val.bool_inv
  subst this
  exact ⟨rfl, hret.sys.os, hret.sys.tape, hret.sys.output, hret.grow, fun b hb => hret.frame b hb (fun ⟨id, o, ho, _⟩ => by cases ho)⟩
theorem exists_map {α : Type} {f : α → AV} {I : α → Prop} : ∀ {es : List AV}, (∀ e ∈ es, ∃ a, e = f a ∧ I a) → ∃ as : List α, es = as.map f ∧ ∀ a ∈ as, I a := by
  intro es
  induction es with
  | nil => intro _; exact ⟨[], rfl, fun a h => by cases h⟩
  | cons e es ih =>
    intro h
    obtain ⟨a, rfl, ha⟩ := h e (by simp)
    obtain ⟨as, rfl, has⟩ := ih (fun e he => h e (by simp [he]))
    exact ⟨a :: as, rfl, fun b hb => by rcases List.mem_cons.1 hb with rfl | hb; exact ha; exact has b hb⟩
def I64 (n : Int) : Prop := -9223372036854775808 ≤ n ∧ n ≤ 9223372036854775807
theorem ShV.int {t : TypeId} {k : IntKind} {x : AV} (h : ShV P t x) (hu : P.underlying t = some (.int k)) : ∃ n, x = .int k n ∧ (Lit.int k n).wf = true := by
  obtain ⟨n, xs, h, rfl⟩ := h
  cases n with
  | zero => exact h.elim
  | succ n =>
    unfold Sh at h; rw [hu] at h
    obtain ⟨m, rfl, hm⟩ := h
    exact ⟨m, by unfold wrapT; rw [hu]; rfl, hm⟩
theorem ShV.i64 {t : TypeId} {x : AV} (h : ShV P t x) (hu : P.underlying t = some (.int .i64)) : ∃ n, x = ai n ∧ I64 n := by
  obtain ⟨n, rfl, hn⟩ := h.int hu
  refine ⟨n, rfl, ?_⟩
  simp only [Lit.wf, Bool.and_eq_true, decide_eq_true_eq] at hn
  exact hn
theorem ShV.bool {t : TypeId} {x : AV} (h : ShV P t x) (hu : P.underlying t = some .bool) : ∃ b, x = .bool b := by
  obtain ⟨n, xs, h, rfl⟩ := h
  cases n with
  | zero => exact h.elim
  | succ n =>
    unfold Sh at h; rw [hu] at h
    obtain ⟨m, rfl⟩ := h
    exact ⟨m, by unfold wrapT; rw [hu]; rfl⟩
theorem ShV.str {t : TypeId} {x : AV} (h : ShV P t x) (hu : P.underlying t = some .string) : ∃ s, x = .str s ∧ s.length ≤ 9223372036854775807 := by
  obtain ⟨n, xs, h, rfl⟩ := h
  cases n with
  | zero => exact h.elim
  | succ n =>
    unfold Sh at h; rw [hu] at h
    obtain ⟨m, rfl, hm⟩ := h
    exact ⟨m, by unfold wrapT; rw [hu]; rfl, hm⟩
theorem ShV.slice {t e : TypeId} {x : AV} (h : ShV P t x) (hu : P.underlying t = some (.slice e)) : ∃ es, x = .sl (P.cellsOf e) es ∧ es.length ≤ 9223372036854775807 ∧ ∀ el ∈ es, ShV P e el := by
  obtain ⟨n, xs, h, rfl⟩ := h
  cases n with
  | zero => exact h.elim
  | succ n =>
    unfold Sh at h; rw [hu] at h
    obtain ⟨es, rfl, hn, hm⟩ := h
    exact ⟨es, by unfold wrapT; rw [hu]; rfl, hn, fun el hel => by obtain ⟨ys, h1, h2⟩ := hm el hel; exact ⟨n, ys, h1, h2⟩⟩
theorem ShV.sliceOf {α : Type} {f : α → AV} {I : α → Prop} {t e : TypeId} {x : AV} {sz : Nat} (h : ShV P t x) (hu : P.underlying t = some (.slice e)) (hs : P.cellsOf e = sz)
    (he : ∀ x, ShV P e x → ∃ a, x = f a ∧ I a) : ∃ as : List α, x = .sl sz (as.map f) ∧ as.length ≤ 9223372036854775807 ∧ ∀ a ∈ as, I a := by
  obtain ⟨es, rfl, hn, h2⟩ := h.slice hu
  obtain ⟨as, rfl, h3⟩ := exists_map (fun el hel => he el (h2 el hel))
  exact ⟨as, by rw [hs], by simpa using hn, h3⟩
def ShL (P : Program) : List Field → List AV → Prop
  | [], xs => xs = []
  | f :: r, xs => ∃ y b, xs = y.cells ++ b ∧ ShV P f.type y ∧ ShL P r b
theorem ShV.struct {t : TypeId} {fs : Array Field} {x : AV} (h : ShV P t x) (hu : P.underlying t = some (.struct fs)) : ∃ xs, x = .agg xs ∧ ShL P fs.toList xs := by
  obtain ⟨n, xs, h, rfl⟩ := h
  cases n with
  | zero => exact h.elim
  | succ n =>
    unfold Sh at h; rw [hu] at h
    refine ⟨xs, by unfold wrapT; rw [hu], ?_⟩
    change ShFs (Sh P n) fs.toList xs at h
    generalize fs.toList = l at h
    induction l generalizing xs with
    | nil => exact h
    | cons f r ih =>
      obtain ⟨a, b, rfl, h1, h2⟩ := h
      refine ⟨wrapT P f.type a, b, ?_, ⟨n, a, h1, rfl⟩, ih b h2⟩
      congr 1
      cases n with
      | zero => exact h1.elim
      | succ n =>
        unfold Sh at h1
        unfold wrapT
        cases hu : P.underlying f.type with
        | none => rw [hu] at h1; exact h1.elim
        | some d =>
          rw [hu] at h1
          cases d <;> first
            | rfl
            | exact h1.elim
            | (obtain ⟨b, rfl⟩ := h1; rfl)
            | (obtain ⟨b, rfl, _⟩ := h1; rfl)
end
end Go.AM

namespace Go.AM
open Go
mutual
def bare : AV → Bool
  | .sl _ _ => false
  | .cp _ => false
  | .fn _ _ _ => false
  | .tr _ => false
  | .junk => false
  | .agg cs => bareL cs
  | .tup vs => bareL vs
  | _ => true
def bareL : List AV → Bool
  | [] => true
  | x :: r => bare x && bareL r
end
theorem bareL_mem : ∀ {l : List AV}, bareL l = true → ∀ (i : Nat) x, l[i]? = some x → bare x = true := by
  intro l
  induction l with
  | nil => intro _ i x hx; simp at hx
  | cons y l ih =>
    intro h i x hx
    simp only [bareL, Bool.and_eq_true] at h
    cases i with
    | zero => simp at hx; subst hx; exact h.1
    | succ i => simp at hx; exact ih h.2 i x hx
def bareO : AO → Bool
  | .box cs => bareL cs
  | .arr k _ _ es => k.d || bareL es
def bareH (h : Heap) : Bool := h.all fun p => bareO p.2
section
variable {S S' : Nat → Prop} {w : World} {φ : Nat → Loc} {η : Heap}
theorem bareT {x : AV} {v : Value} (h : RepT S w x v) : bare x = true → RepT S' w x v := by
  induction h with
  | int k n => exact fun _ => .int k n
  | bool b => exact fun _ => .bool b
  | str s => exact fun _ => .str s
  | agg cs vs hl _ ih => intro hb; simp only [bare] at hb; exact .agg cs vs hl (fun i x v hx hv => ih i x v hx hv (bareL_mem hb i x hx))
  | tup cs vs hl _ ih => intro hb; simp only [bare] at hb; exact .tup cs vs hl (fun i x v hx hv => ih i x v hx hv (bareL_mem hb i x hx))
  | snil => exact fun _ => .snil
  | nilp => exact fun _ => .nilp
  | nilf => exact fun _ => .nilf
  | _ => intro hb; cases hb
theorem bareV {x : AV} {v : Value} (h : RepV S w φ η x v) : bare x = true → RepV S' w φ η x v := by
  induction h with
  | pure h => exact fun hb => .pure (bareT h hb)
  | ow h1 h2 => exact fun _ => .ow h1 h2
  | ow0 h1 h2 => exact fun _ => .ow0 h1 h2
  | box h1 h2 => exact fun _ => .box h1 h2
  | mp h1 h2 => exact fun _ => .mp h1 h2
  | elt h1 h2 => exact fun _ => .elt h1 h2
  | sub h1 => exact fun _ => .sub h1
  | win h1 h2 h3 => exact fun _ => .win h1 h2 h3
  | winE h1 h3 => exact fun _ => .winE h1 h3
  | agg cs vs hl _ ih => intro hb; simp only [bare] at hb; exact .agg cs vs hl (fun i x v hx hv => ih i x v hx hv (bareL_mem hb i x hx))
  | tup cs vs hl _ ih => intro hb; simp only [bare] at hb; exact .tup cs vs hl (fun i x v hx hv => ih i x v hx hv (bareL_mem hb i x hx))
  | fn _ _ _ _ _ _ _ _ _ => intro hb; cases hb
theorem bare_cells {es : List AV} (hb : bareL es = true) {j : Nat} {x : AV} (hx : (flat es)[j]? = some x) : bare x = true := by
  have hm := List.mem_of_getElem? hx
  unfold flat at hm
  obtain ⟨e, he, hxe⟩ := List.mem_flatMap.1 hm
  obtain ⟨i, hi⟩ := List.getElem?_of_mem he
  have hbe := bareL_mem hb i e hi
  cases e with
  | agg cs => obtain ⟨k, hk⟩ := List.getElem?_of_mem hxe; exact bareL_mem (by simpa [bare, AV.cells] using hbe) k x hk
  | _ => simp [AV.cells] at hxe; subst hxe; exact hbe
theorem bareObj {id : Nat} {o : AO} (h : ObjOK S w φ η id o) (hb : bareO o = true) : ObjOK S' w φ η id o := by
  cases o with
  | box cs =>
    obtain ⟨hm, C, E, hC, hsz, hrep⟩ := h
    exact ⟨hm, C, E, hC, hsz, fun i x v hx hv => bareV (hrep i x v hx hv) (bareL_mem hb i x hx)⟩
  | arr k sz E es =>
    obtain ⟨h0, hl, hone, hob⟩ := h
    refine ⟨h0, hl, hone, ?_⟩
    rcases hob with hob | ⟨hm, C, hC, h1, h2, h3, h4⟩
    · exact .inl hob
    · refine .inr ⟨hm, C, hC, h1, h2, h3, ?_⟩
      unfold CellsOK at *
      cases hk : k.d with
      | true => rw [hk] at h4; exact h4
      | false =>
        rw [hk] at h4
        have hb' : bareL es = true := by simpa [bareO, hk] using hb
        exact fun j x v hx hv => bareT (h4 j x v hx hv) (bare_cells hb' hx)
end
theorem bareRet {w w' : World} {S1 S2 : Nat → Prop} {φ φ' : Nat → Loc} {L' : Heap} {r : AV} {v : Value} (h : Ret ⟨w, S1, φ, []⟩ w' φ' L' r v) (hr : bare r = true) (hL : bareH L' = true) :
    Ret ⟨w, S2, φ, []⟩ w' φ' L' r v := by
  refine ⟨h.sys, h.grow, ⟨fun id o ho => bareObj (h.heap.obj id o ho) (List.all_eq_true.1 hL _ (lk_mem ho)), h.heap.injO, fun b hb => hb.1, fun id o b ho hm hst => hst.2.2 id o ho hm, h.heap.ltO⟩,
    bareV h.val hr, h.mine, (fun id o ho => by cases ho), (fun id o ho => by cases ho), h.frame⟩
section
variable {P : Program} {F : Fr} {N : Nat} {Q : Exit → St → Prop} {c : Code} {K : St → Prop} {ops : Array Oper} {l rest : List Oper} {ex : Bool}
variable {ty : TypeId} {pos : String} {after : Array Edge} {d : Nat} {s s' : Xb} {h h' : Heap}
theorem Qt {f : FuncId} {args : Array Operand} {tys : Array TypeId} {zs xs : List AV} {L' Lc' : Heap} {r r' : AV} (ρn : List (Nat × Nat)) (hc : ACallF F P f xs [] r L')
    (hcall : ∀ args w, (callFunc f args).run P w = .ok (.enter f args) w) (hz : aevL s args.toList = some zs) (hv : viewL h zs = some xs) (hb : bare r = true) (hbL : bareH L' = true)
    (hinj : injB ρn = true) (hL' : renH ρn L' = some Lc') (hdom' : ρn.all (fun p => (lk L' p.1).isSome) = true) (hkeys : keysB Lc' = true)
    (hfresh : ρn.all (fun p => (lk h p.2).isNone) = true) (hr' : renO ρn r = some r') (hh' : putAll h Lc' = some h') (hN : Nat.blt d N = true) (hs : sput s d r' = some s')
    (k : TLE ex P F N ops rest K ⟨s', h'⟩) : TLE ex P F N ops (⟨some d, .call ⟨.value (.func f), args, tys⟩, ty, pos, after, none⟩ :: rest) K ⟨s, h⟩ := by
  refine TL_enter (vs := fun a => args.map a.eval) rfl (fun φ a w hr => exec_call rfl rfl hcall) (fun φ a w hr => ?_) k
  obtain ⟨g1, g2⟩ := aevL_rep (fun y z hy => aev_rep hr hy) hz
  obtain ⟨e1, e2⟩ := viewL_eq hv
  refine (hr.call0 (f := f) (vs := args.map a.eval) (r := r) (L := []) (Lc := []) (ρ := []) (ρn := ρn) (ks := []) (fun φc _ _ => ?_) hinj rfl rfl trivial hL' hdom' hkeys hfresh hr' rfl killSL_nil killHL_nil hh').mono ?_
  · refine (hc w (Sall w) φc _ hr.keepsAll (HeapOK.nil φc (fun b hb => hb)) ⟨by rw [← e1, g1, Array.length_toList], fun i y v hy hv => ?_⟩).mono ?_
    · obtain ⟨x, hx, hxy⟩ := e2 i y hy
      exact .pure (viewO_rep hr.heap (g2 i x v hx (by simpa using hv)) hxy)
    · rintro e w' ⟨v, φ', rfl, hret⟩
      exact ⟨v, φ', rfl, bareRet hret hb hbL⟩
  · rintro e w' ⟨v, φ', rfl, hr2, hv, hext⟩
    exact ⟨v, rfl, ⟨φ', hr2.put (Nat.le_of_ble_eq_true hN) hs hv⟩, fun _ => hext rfl⟩
end
end Go.AM

namespace Go.AM
open Go
section
variable {P : Program} {F : Fr} {N : Nat} {Q : Exit → St → Prop} {c : Code} {K : St → Prop} {ops : Array Oper} {l rest : List Oper} {ex : Bool} {s s' : Xb} {h h' : Heap}
theorem all_some {η h' : Heap} (hall : η.all (fun p => (lk h' p.1).isSome) = true) (id : Nat) (o : AO) (ho : lk η id = some o) : ∃ o', lk h' id = some o' :=
  Option.isSome_iff_exists.1 ((List.all_eq_true.1 hall) _ (lk_mem ho))
theorem RelP.keepH {φ : Nat → Loc} {a : Act} {w : World} {ids hids : List Nat} (hr : RelP F N ⟨s, h⟩ φ a w) (hk : keepO ids s = some s') (hk2 : keepO hids h = some h')
    (hc : s'.all (fun p => closed h' p.2) = true) (hcH : closedH h' h' = true) (hall : F.η.all (fun p => (lk h' p.1).isSome) = true) : RelP F N ⟨s', h'⟩ φ a w := by
  have hlk := keepO_lk hk2
  have hS : ∀ b, Stab F w φ h b → Stab F w φ h' b := fun b hb => ⟨hb.1, hb.2.1, fun i o ho hm => hb.2.2 i o (hlk i o ho) hm⟩
  have hρ : ∀ i j, (i = j ∧ (lk h' i).isSome = true) → (∀ o, lk h i = some o → φ j = φ i) ∧ objAlike h h' i j := by
    rintro i j ⟨rfl, hi⟩
    refine ⟨fun _ _ => rfl, fun k sz E es ho => ⟨k, es, rfl, ?_⟩, fun cs ho => ⟨cs, ?_⟩⟩
    · obtain ⟨o, hl⟩ := Option.isSome_iff_exists.1 hi
      have := hlk i o hl
      rw [ho] at this; cases this; exact hl
    · obtain ⟨o, hl⟩ := Option.isSome_iff_exists.1 hi
      have := hlk i o hl
      rw [ho] at this; cases this; exact hl
  have hR : ∀ {x v}, Ren (fun i j => i = j ∧ (lk h' i).isSome = true) x x → RepV (Stab F w φ h) w φ h x v → RepV (Stab F w φ h') w φ h' x v :=
    fun hx h => h.ren hS (fun _ _ => rfl) hρ hx
  refine hr.sub hS (fun i y hy => ⟨y, keepO_lk hk i y hy, fun v hv => hR (closed_ren y ((List.all_eq_true.1 hc) _ (lk_mem hy))) hv⟩) (fun i k sz E es ho => hlk i _ ho)
    (fun i cs' ho => ⟨cs', hlk i _ ho, rfl, fun n y hy => ⟨y, hy, fun v hv => hR (closedL_ren cs' (closedH_lk hcH i cs' ho) n y hy) hv⟩⟩) (fun i o ho => all_some hall i o ho)
theorem Qm (ids hids : List Nat) (hk : keepO ids s = some s') (hk2 : keepO hids h = some h') (hc : s'.all (fun p => closed h' p.2) = true) (hcH : closedH h' h' = true)
    (hall : F.η.all (fun p => (lk h' p.1).isSome) = true) (k : T P F N c Q ⟨s', h'⟩) : T P F N c Q ⟨s, h⟩ := T_sub (fun φ _ _ hr => ⟨φ, hr.keepH hk hk2 hc hcH hall⟩) k
theorem Q5 (ids hids : List Nat) (hk : keepO ids s = some s') (hk2 : keepO hids h = some h') (hc : s'.all (fun p => closed h' p.2) = true) (hcH : closedH h' h' = true)
    (hall : F.η.all (fun p => (lk h' p.1).isSome) = true) (k : TR P F N c Q ⟨s', h'⟩) : TR P F N c Q ⟨s, h⟩ := TR_sub (fun φ _ _ hr => ⟨φ, hr.keepH hk hk2 hc hcH hall⟩) k
theorem TL_keepH (ids hids : List Nat) (hk : keepO ids s = some s') (hk2 : keepO hids h = some h') (hc : s'.all (fun p => closed h' p.2) = true) (hcH : closedH h' h' = true)
    (hall : F.η.all (fun p => (lk h' p.1).isSome) = true) (k : TLE ex P F N ops l K ⟨s', h'⟩) : TLE ex P F N ops l K ⟨s, h⟩ := TL_sub (fun φ _ _ hr => ⟨φ, hr.keepH hk hk2 hc hcH hall⟩) k
end
end Go.AM

namespace Go.AM
open Go
section
variable {P : Program} {s : Xb} {h : Heap} {dst : Option Tmp} {ty : TypeId} {pos : String} {after : Array Edge} {gd : Option (Nat × Bool)}
variable {x y : Operand} {t t' : TypeId} {a b : Int} {k k' : IntKind}
end
end Go.AM

namespace Go.AM
open Go
def sameHead (l l' : Loc) : Prop := l'.blk = l.blk ∧ l'.cap = l.cap ∧ l'.mat = l.mat ∧ l'.va = l.va
mutual
def noSub (id : Nat) : AV → Bool
  | .sub i _ => !Nat.beq i id
  | .agg cs => noSubL id cs
  | .tup vs => noSubL id vs
  | .fn _ as bs => noSubL id as && noSubL id bs
  | _ => true
def noSubL (id : Nat) : List AV → Bool
  | [] => true
  | x :: r => noSub id x && noSubL id r
end
theorem noSubL_mem {id : Nat} : ∀ {l : List AV}, noSubL id l = true → ∀ (i : Nat) x, l[i]? = some x → noSub id x = true := by
  intro l
  induction l with
  | nil => intro _ i x hx; simp at hx
  | cons y l ih =>
    intro h i x hx
    simp only [noSubL, Bool.and_eq_true] at h
    cases i with
    | zero => simp at hx; subst hx; exact h.1
    | succ i => simp at hx; exact ih h.2 i x hx
theorem RepV.move {S S' : Nat → Prop} {w w' : World} {φ φ' : Nat → Loc} {η η' : Heap} {id : Nat} {gone : Nat → Prop} (hS : ∀ b, S b → S' b)
    (hw : ∀ b, S b → w'.heap[b]? = w.heap[b]?) (hφ : ∀ i, i ≠ id → ¬ gone i → φ' i = φ i) (hid : ∀ o, lk η id = some o → ¬ gone id → sameHead (φ id) (φ' id))
    (hb : ∀ i cs, ¬ gone i → lk η i = some (.box cs) → ∃ cs', lk η' i = some (.box cs'))
    (ha : ∀ i k sz E es, ¬ gone i → lk η i = some (.arr k sz E es) → ∃ k' es', es'.length = es.length ∧ lk η' i = some (.arr k' sz E es'))
    {x : AV} {v : Value} (h : RepV S w φ η x v) : (∀ i, gone i → men i x = false) → noSub id x = true → RepV S' w' φ' η' x v := by
  have hhd : ∀ i o, lk η i = some o → ¬ gone i → sameHead (φ i) (φ' i) := by
    intro i o ho hg
    by_cases hi : i = id
    · subst hi; exact hid o ho hg
    · rw [hφ i hi hg]; exact ⟨rfl, rfl, rfl, rfl⟩
  induction h with
  | pure h => exact fun _ _ => .pure (h.mono hS hw)
  | @ow i sz k E es h hm =>
    intro hg _
    have hg' : ¬ gone i := fun e => by have := hg i e; simp [men] at this
    obtain ⟨e1, e2, e3, e4⟩ := hhd i _ h hg'
    obtain ⟨k', es', hl, h'⟩ := ha i _ _ _ _ hg' h
    have := RepV.ow (S := S') (w := w') (φ := φ') h' (by rw [e3]; exact hm)
    rw [e1, e2, hl] at this
    exact this
  | @mp i cs h hm =>
    intro hg _
    have hg' : ¬ gone i := fun e => by have := hg i e; simp [men] at this
    obtain ⟨e1, e2, e3, e4⟩ := hhd i _ h hg'
    obtain ⟨cs', h'⟩ := hb i _ hg' h
    have := RepV.mp (S := S') (w := w') (φ := φ') h' (by rw [e3]; exact hm)
    rw [e1] at this
    exact this
  | @ow0 i sz k E h hm =>
    intro hg _
    have hg' : ¬ gone i := fun e => by have := hg i e; simp [men] at this
    obtain ⟨e1, e2, e3, e4⟩ := hhd i _ h hg'
    obtain ⟨k', es', hl, h'⟩ := ha i _ _ _ _ hg' h
    have : es' = [] := List.eq_nil_of_length_eq_zero (by simpa using hl)
    subst this
    have := RepV.ow0 (S := S') (w := w') (φ := φ') h' (by rw [e3]; exact hm)
    rw [e4] at this
    exact this
  | @box i off cs h hm =>
    intro hg _
    have hg' : ¬ gone i := fun e => by have := hg i e; simp [men] at this
    obtain ⟨e1, e2, e3, e4⟩ := hhd i _ h hg'
    obtain ⟨cs', h'⟩ := hb i _ hg' h
    have := RepV.box (S := S') (w := w') (φ := φ') (off := off) h' (by rw [e3]; exact hm)
    rw [e1] at this
    exact this
  | @elt i k off sz kd E es h hm =>
    intro hg _
    have hg' : ¬ gone i := fun e => by have := hg i e; simp [men] at this
    obtain ⟨e1, e2, e3, e4⟩ := hhd i _ h hg'
    obtain ⟨k', es', hl, h'⟩ := ha i _ _ _ _ hg' h
    have := RepV.elt (S := S') (w := w') (φ := φ') (k := k) (off := off) h' (by rw [e3]; exact hm)
    rw [e1] at this
    exact this
  | @sub i n sz k E es h =>
    intro hg hs
    have hg' : ¬ gone i := fun e => by have := hg i e; simp [men] at this
    have hne : i ≠ id := fun e => by subst e; simp [noSub] at hs
    obtain ⟨k', es', hl, h'⟩ := ha i _ _ _ _ hg' h
    have := RepV.sub (S := S') (w := w') (φ := φ') (n := n) h'
    rw [hφ i hne hg'] at this
    exact this
  | @win i lo sz k E es h hm hlo =>
    intro hg _
    have hg' : ¬ gone i := fun e => by have := hg i e; simp [men] at this
    obtain ⟨e1, e2, e3, e4⟩ := hhd i _ h hg'
    obtain ⟨k', es', hl, h'⟩ := ha i _ _ _ _ hg' h
    have := RepV.win (S := S') (w := w') (φ := φ') (lo := lo) h' (by rw [e3]; exact hm) (by rw [hl]; exact hlo)
    rw [e1, e2, hl] at this
    exact this
  | @winE i lo sz k E es a c h hlo =>
    intro hg _
    have hg' : ¬ gone i := fun e => by have := hg i e; simp [men] at this
    obtain ⟨k', es', hl, h'⟩ := ha i _ _ _ _ hg' h
    exact .winE h' (by rw [hl]; exact hlo)
  | agg cs vs hl _ ih =>
    intro hg hs
    exact .agg cs vs hl (fun i x v hx hv => ih i x v hx hv (fun j hj => menL_mem (by simpa [men] using hg j hj) i x hx) (noSubL_mem (by simpa [noSub] using hs) i x hx))
  | tup cs vs hl _ ih =>
    intro hg hs
    exact .tup cs vs hl (fun i x v hx hv => ih i x v hx hv (fun j hj => menL_mem (by simpa [men] using hg j hj) i x hx) (noSubL_mem (by simpa [noSub] using hs) i x hx))
  | fn f first cap as bs h1 h2 _ _ ih1 ih2 =>
    intro hg hs
    simp only [noSub, Bool.and_eq_true] at hs
    have hg1 : ∀ j, gone j → menL j first = false ∧ menL j cap = false := fun j hj => by have := hg j hj; simpa [men, Bool.or_eq_false_iff] using this
    exact .fn f first cap as bs h1 h2 (fun i x v hx hv => ih1 i x v hx hv (fun j hj => menL_mem (hg1 j hj).1 i x hx) (noSubL_mem hs.1 i x hx))
      (fun i x v hx hv => ih2 i x v hx hv (fun j hj => menL_mem (hg1 j hj).2 i x hx) (noSubL_mem hs.2 i x hx))
mutual
theorem men_noSub {id : Nat} : ∀ (x : AV), men id x = false → noSub id x = true
  | .sub i n, h => by simp only [noSub]; simp only [men] at h; rw [h]; rfl
  | .agg cs, h => by simp only [noSub]; exact menL_noSub cs (by simpa [men] using h)
  | .tup vs, h => by simp only [noSub]; exact menL_noSub vs (by simpa [men] using h)
  | .fn f as bs, h => by
    simp only [men, Bool.or_eq_false_iff] at h
    simp only [noSub, Bool.and_eq_true]
    exact ⟨menL_noSub as h.1, menL_noSub bs h.2⟩
  | .int _ _, _ => rfl
  | .bool _, _ => rfl
  | .str _, _ => rfl
  | .snil, _ => rfl
  | .sl _ _, _ => rfl
  | .cp _, _ => rfl
  | .nilp, _ => rfl
  | .tr _, _ => rfl
  | .nilf, _ => rfl
  | .ptr _ _ _, _ => rfl
  | .ow _, _ => rfl
  | .mp _, _ => rfl
  | .win _ _, _ => rfl
  | .junk, _ => rfl
theorem menL_noSub {id : Nat} : ∀ (xs : List AV), menL id xs = false → noSubL id xs = true
  | [], _ => rfl
  | x :: r, h => by
    simp only [menL, Bool.or_eq_false_iff] at h
    simp only [noSubL, Bool.and_eq_true]
    exact ⟨men_noSub x h.1, menL_noSub r h.2⟩
end
def dropH (ids : List Nat) : Heap → Heap
  | [] => []
  | (k, o) :: r => bif ids.any (fun i => Nat.beq i k) then dropH ids r else (k, o) :: dropH ids r
theorem any_beq {ids : List Nat} {k : Nat} : ids.any (fun i => Nat.beq i k) = true ↔ k ∈ ids := by
  rw [List.any_eq_true]
  constructor
  · rintro ⟨i, hi, he⟩; rw [(beq_iff _ _).1 he] at hi; exact hi
  · intro h; exact ⟨k, h, Nat.beq_refl k⟩
theorem lk_dropH {ids : List Nat} : ∀ {h : Heap} (j : Nat), lk (dropH ids h) j = if j ∈ ids then none else lk h j := by
  intro h
  induction h with
  | nil => intro j; simp [dropH, lk]
  | cons p h ih =>
    obtain ⟨k, o⟩ := p
    intro j
    unfold dropH
    by_cases hk : ids.any (fun i => Nat.beq i k) = true
    · rw [hk, cond_true, ih j, Q7]
      by_cases hj : j ∈ ids
      · rw [if_pos hj, if_pos hj]
      · rw [if_neg hj, if_neg hj, if_neg (fun e => hj (by subst e; exact any_beq.1 hk))]
    · rw [Bool.eq_false_iff.2 hk, cond_false, Q7, Q7, ih j]
      by_cases hj : j ∈ ids
      · rw [if_pos hj, if_neg (fun e => hk (any_beq.2 (by subst e; exact hj)))]
        simp [hj]
      · by_cases hkj : k = j
        · simp [hkj, hj]
        · rw [if_neg hkj, if_neg hkj]
section
variable {F : Fr} {N : Nat} {P : Program}
def oldsOf (w : World) (l : Loc) (n : Nat) : List Value :=
  if l.mat then (match w.heap[l.blk]? with | some (.cells C _ _) => C.toList.take n | _ => []) else []
theorem RelP.appX {s : Xb} {h : Heap} {φ : Nat → Loc} {a : Act} {w : World} {k : Kd} {sz id : Nat} {E : TypeId} {es : List AV} {x : Operand} (hr : RelP F N ⟨s, h⟩ φ a w)
    (hx : aev s x = some (.ow id)) (hl : lk h id = some (.arr k sz E es)) : AppX w E sz (φ id) es.length (a.eval x) (oldsOf w (φ id) (es.length * sz)) := by
  obtain ⟨_, hlens, hones, hob⟩ := hr.heap.obj _ _ hl
  rcases (aev_rep hr hx).ow_inv hl with ⟨hm, hv⟩ | ⟨hm, rfl, hv⟩
  · rcases hob with ⟨hf, _⟩ | ⟨_, C, hC, hle, hcm, hCs, hrep⟩
    · rw [hm] at hf; cases hf
    · refine ⟨.inl ⟨hm, hv, C, hC, hle, hcm, hCs, ?_⟩⟩
      simp only [oldsOf, hm, if_true, hC]
  · refine ⟨.inr ⟨hm, rfl, ?_, hv⟩⟩
    simp [oldsOf, hm]
theorem olds_cells {S : Nat → Prop} {w : World} {φ : Nat → Loc} {h : Heap} {id sz : Nat} {k : Kd} {E : TypeId} {es : List AV} (hO : ObjOK S w φ h id (.arr k sz E es)) :
    (oldsOf w (φ id) (es.length * sz)).length = es.length * sz ∧ ∃ C : Array Value, CellsOK k S w (φ id) (flat es) C ∧ ((φ id).mat = true → w.heap[(φ id).blk]? = some (.cells C E (0, 0))) ∧
      ∀ (j : Nat) x v, (flat es)[j]? = some x → (oldsOf w (φ id) (es.length * sz))[j]? = some v → C[j]? = some v := by
  obtain ⟨_, hlens, hones, hob⟩ := hO
  rcases hob with ⟨hm, rfl⟩ | ⟨hm, C, hC, hle, hcm, hCs, hrep⟩
  · refine ⟨by simp [oldsOf, hm], #[], ?_, fun hmt => (by rw [hm] at hmt; cases hmt), fun j x v hx => by simp [flat] at hx⟩
    unfold CellsOK
    cases k.d with
    | false => exact fun j x v hx => by simp [flat] at hx
    | true => exact ⟨[], by simp [flat], fun j x v fp hx => by simp [flat] at hx, by simp, by simp, fun j x v hx => by simp [flat] at hx⟩
  · have hcap : es.length * sz ≤ (φ id).cap * sz := Nat.mul_le_mul_right _ hle
    refine ⟨?_, C, hrep, fun _ => hC, fun j x v hx hv => ?_⟩
    · simp only [oldsOf, hm, if_true, hC]; simp; omega
    · simp only [oldsOf, hm, if_true, hC] at hv
      rw [List.getElem?_take] at hv
      split at hv
      · simpa using hv
      · cases hv
variable {s s1 : Xb} {h h1 h' : Heap} {id sz : Nat} {k : Kd} {E : TypeId}
theorem RelP.appended {es es' : List AV} {φ : Nat → Loc} {a : Act} {w w' : World} {l' : Loc} {v' : Value} {cs : List Value} (gone : List Nat) (fp' : List Nat) (sv' : Nat → Option Addr × Nat × Nat)
    (hr : RelP F N ⟨s, h⟩ φ a w) (hl : lk h id = some (.arr k sz E es)) (hkp : k.p = false) (hgid : id ∉ gone) (hgF : ∀ j ∈ gone, lk F.η j = none)
    (hks : killSL (id :: gone) s = some s1) (hkh : killHL (id :: gone) h = some h1) (hh : sput (dropH gone h1) id (.arr k sz E es') = some h')
    (hres : AppR w w' E sz (φ id) l' es'.length v' cs) (hfp : ∀ b ∈ fp', b ∈ (φ id).fp ∨ ∃ j o, j ∈ gone ∧ lk h j = some o ∧ (φ j).owns b)
    (hlens : ∀ e ∈ es', e.cells.length = sz) (hones : ∀ (j : Nat) x, (flat es')[j]? = some x → one x = true)
    (hcells : ∀ C' : Array Value, C'.toList.take (es'.length * sz) = cs → l'.mat = true → CellsOK k (Stab F w φ h) w { l' with fp := fp', sv := sv' } (flat es') C') :
    RelP F N ⟨s1, h'⟩ (updLoc φ id { l' with fp := fp', sv := sv' }) a w' ∧ RepV (Stab F w' (updLoc φ id { l' with fp := fp', sv := sv' }) h') w' (updLoc φ id { l' with fp := fp', sv := sv' }) h' (.ow id) v' := by
  obtain ⟨hHn, hH⟩ := killHL_spec hkh
  have hkS := killSL_spec hks
  have hrk : RelP F N ⟨s1, h1⟩ φ a w := hr.weaken (fun i x hx => (hkS i x hx).2) hHn (fun i o ho => (hH i o ho).2)
  have hlk := lk_sput hh
  have hl1 : lk h1 id = some (.arr k sz E es) := by
    cases hq : lk h1 id with
    | none => rw [(hHn id).1 hq] at hl; cases hl
    | some o =>
      obtain ⟨_, o2, ho2, hw⟩ := hH id o hq
      rw [hl] at ho2
      cases ho2
      cases o with
      | box _ => exact hw.elim
      | arr _ _ _ _ => obtain ⟨rfl, rfl, rfl, rfl⟩ := hw; rfl
  have hh1h : ∀ {j o}, lk h1 j = some o → ∃ o', lk h j = some o' := fun {j o} e => by obtain ⟨_, o', ho', _⟩ := hH j o e; exact ⟨o', ho'⟩
  have hhh1 : ∀ {j o}, lk h j = some o → ∃ o', lk h1 j = some o' := fun {j o} e => by
    cases hq : lk h1 j with
    | none => rw [(hHn j).1 hq] at e; cases e
    | some o' => exact ⟨o', rfl⟩
  have hSk : ∀ b, Stab F w φ h b → Stab F w φ h1 b := fun b hb => ⟨hb.1, hb.2.1, fun i o ho hm => by
    obtain ⟨o1, ho1⟩ := hh1h ho
    exact hb.2.2 i o1 ho1 hm⟩
  have h1id : lk h' id = some (.arr k sz E es') := by rw [hlk, if_pos rfl]
  have hobj1 := hrk.heap.obj _ _ hl1
  obtain ⟨hsz, _, _, hob1⟩ := hobj1
  have hown : ∀ b, ({ l' with fp := fp', sv := sv' } : Loc).owns b → (w.heap.size ≤ b ∧ b < w'.heap.size) ∨ (∃ o, lk h1 id = some o ∧ (φ id).owns b) ∨ ∃ j o, j ∈ gone ∧ lk h1 j = some o ∧ (φ j).owns b := by
    rintro b (⟨hm, hb⟩ | hb)
    · rcases hres.go with ⟨hm', _⟩ | ⟨_, _, _, h3⟩
      · have hm2 : l'.mat = true := hm
        rw [hm'] at hm2; cases hm2
      · have hb' : l'.blk = b := hb
        rcases h3 with ⟨h4, h5⟩ | h4
        · exact .inr (.inl ⟨_, hl1, .inl ⟨h4, by rw [← h5]; exact hb'⟩⟩)
        · rw [hb'] at h4; exact .inl h4
    · rcases hfp b hb with h1 | ⟨j, o, h1, h2, h3⟩
      · exact .inr (.inl ⟨_, hl1, .inr h1⟩)
      · obtain ⟨o', ho'⟩ := hhh1 h2
        exact .inr (.inr ⟨j, o', h1, ho', h3⟩)
  have hdrop := @lk_dropH gone h1
  have hrel : RelP F N ⟨s1, h'⟩ (updLoc φ id { l' with fp := fp', sv := sv' }) a w' := by
    refine hrk.updX (fun j => j ∈ gone) h1id (fun j hj hg => by rw [hlk, if_neg (Ne.symm hj), hdrop, if_neg hg]) (fun j hj hg => by rw [hlk, if_neg (Ne.symm hj), hdrop, if_pos hg])
      (fun j hg => ⟨fun e => hgid (e ▸ hg), hgF j hg⟩) (updLoc_ne φ id _) hres.sys hres.grow (fun b hb hno => hres.same b hb (fun hm _ e => hno _ hl1 (.inl ⟨hm, e⟩))) (fun b hb => ?_) (fun o hcs hne => ?_)
      (fun o ho => by rw [hl1] at ho; cases ho; exact ⟨rfl, fun hp => by rw [hkp] at hp; cases hp⟩) (fun hS hw x v hx hv => ?_) (fun hS hw => ?_)
    · rw [Qu] at hb; exact hown b hb
    · exfalso
      obtain ⟨o1, ho1, hb1⟩ := hr.keep id _ hcs
      have ho1' : lk h id = some o1 := ho1
      rw [hl] at ho1'
      cases ho1'
      have := AO.alike_box hb1
      apply hne
      rw [← this]
      simp [AO.isBox, hkp]
    · have hm : ∀ i ∈ id :: gone, men i x = false := by
        rcases hx with ⟨i, hi⟩ | ⟨i, cs, _, hi, hxc⟩
        · exact (hkS i x hi).1
        · intro m hm; exact (hH i _ hi).1 cs rfl x hxc m hm
      refine hv.move (id := id) (gone := fun j => j ∈ id :: gone) hS hw (fun i hi _ => updLoc_ne φ id _ i hi) (fun o ho hg => (hg (by simp)).elim) (fun i cs hg ho => ⟨cs, ?_⟩) (fun i k sz E es hg ho => ⟨k, es, rfl, ?_⟩)
        hm (men_noSub x (hm id (by simp)))
      · simp only [List.mem_cons, not_or] at hg
        rw [hlk, if_neg (Ne.symm hg.1), hdrop, if_neg hg.2]; exact ho
      · simp only [List.mem_cons, not_or] at hg
        rw [hlk, if_neg (Ne.symm hg.1), hdrop, if_neg hg.2]; exact ho
    · refine ⟨hsz, hlens, hones, ?_⟩
      rw [Qu]
      rcases hres.go with ⟨hm, _, h0, _⟩ | ⟨hm, _, ⟨C', hC', hle, hcm, hCs, htk⟩, _⟩
      · exact .inl ⟨hm, List.eq_nil_of_length_eq_zero h0⟩
      · refine .inr ⟨hm, C', hC', hle, hcm, hCs, ?_⟩
        refine (hcells C' htk hm).mono (fun b hb => hS b (hSk b hb)) (fun b hb => hw b (hSk b hb)) (fun b hb hne => ?_) rfl
        have hbl : b < w.heap.size := by
          rcases hfp b hb with h1 | ⟨j, o, _, h2, h3⟩
          · exact hr.heap.ltO id _ b hl (.inr h1)
          · exact hr.heap.ltO j o b h2 h3
        exact hres.same b hbl (fun hm0 e1 e => hne (by show b = l'.blk; rw [e1]; exact e.symm))
  refine ⟨hrel, ?_⟩
  rcases hres.go with ⟨hm, _, h0, _, rfl⟩ | ⟨hm, rfl, _, _⟩
  · have h0' : es' = [] := List.eq_nil_of_length_eq_zero h0
    subst h0'
    have := RepV.ow0 (S := Stab F w' (updLoc φ id { l' with fp := fp', sv := sv' }) h') (w := w') (φ := updLoc φ id { l' with fp := fp', sv := sv' }) h1id (by rw [Qu]; exact hm)
    rw [Qu] at this
    exact this
  · have := RepV.ow (S := Stab F w' (updLoc φ id { l' with fp := fp', sv := sv' }) h') (w := w') (φ := updLoc φ id { l' with fp := fp', sv := sv' }) h1id (by rw [Qu]; exact hm)
    rw [Qu] at this
    exact this
end
end Go.AM

namespace Go.AM
open Go
section
variable {F : Fr} {N : Nat} {P : Program}
theorem flat_app (xs ys : List AV) : flat (xs ++ ys) = flat xs ++ flat ys := by simp [flat]
theorem src_appY {S : Nat → Prop} {w : World} {φ : Nat → Loc} {h : Heap} {sz : Nat} {z : AV} {v : Value} {xs : List AV} (hh : HeapOK S w φ h) (hv : RepV S w φ h z v) (hsrc : asrc h sz z = some xs) :
    ∃ news, AppY w sz xs.length v news ∧ (∀ (j : Nat) c u, (flat xs)[j]? = some c → news[j]? = some u → RepT S w c u) ∧ (∀ e ∈ xs, e.cells.length = sz) ∧
      (∀ (j : Nat) c, (flat xs)[j]? = some c → one c = true) ∧ news.length = xs.length * sz := by
  rcases src_cells hh hv hsrc with ⟨va, rfl, rfl⟩ | ⟨ad, c, news, rfl, h1, h2, h3, h4, h5, h6⟩
  · exact ⟨[], ⟨.inl ⟨va, rfl, rfl, rfl⟩⟩, fun j c u hc => by simp [flat] at hc, fun e he => by simp at he, fun j c hc => by simp [flat] at hc, by simp⟩
  · exact ⟨news, ⟨.inr ⟨ad, c, rfl, h1, h2, h4⟩⟩, h3, h5, h6, h1⟩
variable {ops : Array Oper} {rest : List Oper} {K : St → Prop}
variable {ty : TypeId} {pos : String} {after : Array Edge} {d id : Nat} {s s' s1 : Xb} {h h' h1 : Heap} {x y : Operand}
theorem TL_append {t E : TypeId} {sz bz : Nat} {zv : Value} {z : AV} {es xs : List AV}
    (ht : tyElem P t = some (E, sz)) (hz : tyZero P E = some (zv, sz, bz)) (hzs : Nat.beq zv.cells.size sz = true)
    (hsz : Nat.blt 0 sz = true) (hb : Nat.blt 0 bz = true) (hx : aev s x = some (.ow id)) (hl : lk h id = some (.arr ⟨false, false⟩ sz E es)) (hy : aev s y = some z) (hsrc : asrc h sz z = some xs)
    (hbig : (es.length + xs.length) * bz ≤ 140737488355328)
    (hks : killSL [id] s = some s1) (hkh : killHL [id] h = some h1) (hh : sput (dropH [] h1) id (.arr ⟨false, false⟩ sz E (es ++ xs)) = some h') (hN : Nat.blt d N = true) (hs : sput s1 d (.ow id) = some s')
    (k : TL P F N ops rest K ⟨s', h'⟩) : TL P F N ops (⟨some d, .call ⟨.builtin .append, #[x, y], #[t, t]⟩, ty, pos, after, none⟩ :: rest) K ⟨s, h⟩ := by
  refine TL_val rfl (fun φ a w hr => ?_) k
  have hX := hr.appX hx hl
  obtain ⟨news, hY, hnrep, hxl, hxo, hnl⟩ := src_appY hr.heap (aev_rep hr hy) hsrc
  obtain ⟨v', w', l', hrun, hres⟩ := append_core (P := P) (ty := ty) ht hz ((beq_iff _ _).1 hzs) (Nat.le_of_ble_eq_true hsz) (Nat.le_of_ble_eq_true hb) hX hY hbig
  obtain ⟨hsz0, hlens, hones, hob⟩ := hr.heap.obj _ _ hl
  obtain ⟨hol, C, hC1, _, hC2⟩ := olds_cells (hr.heap.obj _ _ hl)
  have hfe := Xa hlens
  have hfx := Xa hxl
  rw [← List.length_append] at hres
  obtain ⟨hr', hv'⟩ := hr.appended [] [] (fun _ => (none, 0, 0)) hl rfl (by simp) (by simp) hks hkh hh hres (by simp)
    (fun e he => by rcases List.mem_append.1 he with he | he; exact hlens e he; exact hxl e he)
    (fun j c hc => by
      rw [flat_app] at hc
      by_cases hj : j < (flat es).length
      · rw [List.getElem?_append_left hj] at hc; exact hones j c hc
      · rw [List.getElem?_append_right (by omega)] at hc; exact hxo _ c hc)
    (fun C' htk _ => CellsOK.ofTrees rfl (fun j c v hc hv => by
      have hj := (List.getElem?_eq_some_iff.1 hc).1
      rw [flat_app, List.length_append, hfe, hfx, ← Nat.add_mul] at hj
      have hv2 : (oldsOf w (φ id) (es.length * sz) ++ news)[j]? = some v := by rw [← htk, List.getElem?_take, if_pos (by simpa using hj)]; simpa using hv
      rw [flat_app] at hc
      by_cases hj2 : j < (flat es).length
      · rw [List.getElem?_append_left hj2] at hc
        rw [List.getElem?_append_left (by rw [hol, ← hfe]; exact hj2)] at hv2
        exact hC1.trees rfl j c v hc (hC2 j c v hc hv2)
      · rw [List.getElem?_append_right (by omega)] at hc
        rw [List.getElem?_append_right (by rw [hol, ← hfe]; omega), hol, ← hfe] at hv2
        exact hnrep _ c v hc hv2))
  exact ⟨v', w', (fun h => nomatch h), by rw [exec_append]; simp only [Sem.run_bind, hrun, Result.andThen_ok, Sem.run_pure], _, hr'.put (Nat.le_of_ble_eq_true hN) hs hv'⟩
theorem TL_appendD {t E E2 : TypeId} {sz bz id2 : Nat} {p2 : Bool} {zv : Value} {es xs : List AV}
    (ht : tyElem P t = some (E, sz)) (hz : tyZero P E = some (zv, sz, bz)) (hzs : Nat.beq zv.cells.size sz = true)
    (hsz : Nat.blt 0 sz = true) (hb : Nat.blt 0 bz = true) (hx : aev s x = some (.ow id)) (hl : lk h id = some (.arr ⟨false, true⟩ sz E es)) (hy : aev s y = some (.ow id2)) (hl2 : lk h id2 = some (.arr ⟨p2, true⟩ sz E2 xs))
    (hne : Nat.beq id id2 = false) (hF2 : lk F.η id2 = none)
    (hbig : (es.length + xs.length) * bz ≤ 140737488355328)
    (hks : killSL [id, id2] s = some s1) (hkh : killHL [id, id2] h = some h1) (hh : sput (dropH [id2] h1) id (.arr ⟨false, true⟩ sz E (es ++ xs)) = some h') (hN : Nat.blt d N = true) (hs : sput s1 d (.ow id) = some s')
    (k : TL P F N ops rest K ⟨s', h'⟩) : TL P F N ops (⟨some d, .call ⟨.builtin .append, #[x, y], #[t, t]⟩, ty, pos, after, none⟩ :: rest) K ⟨s, h⟩ := by
  refine TL_val rfl (fun φ a w hr => ?_) k
  have hne' : id ≠ id2 := fun e => by rw [(beq_iff id id2).2 e] at hne; cases hne
  have hX := hr.appX hx hl
  obtain ⟨hsz0, hlens, hones, hob⟩ := hr.heap.obj _ _ hl
  obtain ⟨_, hxl, hxo, hob2⟩ := hr.heap.obj _ _ hl2
  obtain ⟨hol, C, hC1, hCh, hC2⟩ := olds_cells (hr.heap.obj _ _ hl)
  obtain ⟨hol2, D, hD1, hDh, hD2⟩ := olds_cells (hr.heap.obj _ _ hl2)
  have hfe := Xa hlens
  have hfx := Xa hxl
  obtain ⟨fps1, f1, f2, f3, f4, f5⟩ := (show CellsOK ⟨false, true⟩ (Stab F w φ h) w (φ id) (flat es) C from hC1)
  obtain ⟨fps2, g1, g2, g3, g4, g5⟩ := (show CellsOK ⟨p2, true⟩ (Stab F w φ h) w (φ id2) (flat xs) D from hD1)
  have hX2 := hr.appX hy hl2
  have hY : AppY w sz xs.length (a.eval y) (oldsOf w (φ id2) (xs.length * sz)) := by
    rcases hX2.go with ⟨hm, hv, C2, hC2', hle, hcm, hCs, hol'⟩ | ⟨hm, h0, hol', hv⟩
    · refine ⟨.inr ⟨_, _, hv, hol2, fun j u hu => ?_, fun u hu => ?_⟩⟩
      · rw [Addr.add_lit, Nat.zero_add, cell_at hC2']
        rw [hol', List.getElem?_take] at hu
        split at hu
        · simpa using hu
        · cases hu
      · obtain ⟨j, hj⟩ := List.getElem?_of_mem hu
        have hjl := (List.getElem?_eq_some_iff.1 hj).1
        rw [hol2, ← hfx] at hjl
        have hc : (flat xs)[j]? = some ((flat xs)[j]) := by simp [hjl]
        have hd := hD2 j _ u hc hj
        have hp : fps2[j]? = some (fps2[j]'(by omega)) := by simp [g1, hjl]
        exact (g2 j _ u _ hc hd hp).tree.one (hxo j _ hc)
    · have hx0 : xs = [] := List.eq_nil_of_length_eq_zero h0
      subst hx0
      exact ⟨.inl ⟨_, hv, rfl, hol'⟩⟩
  obtain ⟨v', w', l', hrun, hres⟩ := append_core (P := P) (ty := ty) ht hz ((beq_iff _ _).1 hzs) (Nat.le_of_ble_eq_true hsz) (Nat.le_of_ble_eq_true hb) hX hY hbig
  rw [← List.length_append] at hres
  obtain ⟨hr', hv'⟩ := hr.appended [id2] ((φ id).fp ++ (φ id2).fp) (fun j => if j < (flat es).length then (φ id).sv j else (φ id2).sv (j - (flat es).length)) hl rfl (by simpa using hne')
    (by simpa using hF2) hks hkh hh hres (fun b hb => by
      rcases List.mem_append.1 hb with hb | hb
      · exact .inl hb
      · exact .inr ⟨id2, _, by simp, hl2, .inr hb⟩)
    (fun e he => by rcases List.mem_append.1 he with he | he; exact hlens e he; exact hxl e he)
    (fun j c hc => by
      rw [flat_app] at hc
      by_cases hj : j < (flat es).length
      · rw [List.getElem?_append_left hj] at hc; exact hones j c hc
      · rw [List.getElem?_append_right (by omega)] at hc; exact hxo _ c hc)
    (fun C' htk hml => by
      have hget : ∀ (j : Nat) c v, (flat (es ++ xs))[j]? = some c → C'[j]? = some v →
          (j < (flat es).length ∧ (flat es)[j]? = some c ∧ C[j]? = some v) ∨ ((flat es).length ≤ j ∧ (flat xs)[j - (flat es).length]? = some c ∧ D[j - (flat es).length]? = some v) := by
        intro j c v hc hv
        have hj := (List.getElem?_eq_some_iff.1 hc).1
        rw [flat_app, List.length_append, hfe, hfx, ← Nat.add_mul] at hj
        have hv2 : (oldsOf w (φ id) (es.length * sz) ++ oldsOf w (φ id2) (xs.length * sz))[j]? = some v := by rw [← htk, List.getElem?_take, if_pos (by simpa using hj)]; simpa using hv
        rw [flat_app] at hc
        by_cases hj2 : j < (flat es).length
        · rw [List.getElem?_append_left hj2] at hc
          rw [List.getElem?_append_left (by rw [hol, ← hfe]; exact hj2)] at hv2
          exact .inl ⟨hj2, hc, hC2 j c v hc hv2⟩
        · rw [List.getElem?_append_right (by omega)] at hc
          rw [List.getElem?_append_right (by rw [hol, ← hfe]; omega), hol, ← hfe] at hv2
          exact .inr ⟨by omega, hc, hD2 _ c v hc hv2⟩
      refine ⟨fps1 ++ fps2, by rw [List.length_append, f1, g1, flat_app, List.length_append], fun j c v fp hc hv hp => ?_, ?_, fun b hb => ?_, fun j c v hc hv hs => ?_⟩
      · rcases hget j c v hc hv with ⟨k1, k2, k3⟩ | ⟨k1, k2, k3⟩
        · rw [List.getElem?_append_left (by rw [f1]; exact k1)] at hp
          exact f2 j c v fp k2 k3 hp
        · rw [List.getElem?_append_right (by rw [f1]; exact k1), f1] at hp
          exact g2 _ c v fp k2 k3 hp
      · -- no block twice
        have n1 := (List.nodup_cons.1 f3)
        have n2 := (List.nodup_cons.1 g3)
        have hdis : ∀ b, b ∈ fps1.flatten → b ∈ fps2.flatten → False := fun b hb1 hb2 => hne' (hr.heap.injO id id2 _ _ b hl hl2 (.inr (f4 b hb1)) (.inr (g4 b hb2)))
        rw [List.flatten_append, List.nodup_cons]
        refine ⟨fun hb => ?_, List.nodup_append.2 ⟨n1.2, n2.2, fun b hb1 c hc2 e => hdis b hb1 (e ▸ hc2)⟩⟩
        have hb' : l'.blk ∈ fps1.flatten ++ fps2.flatten := hb
        rcases hres.go with ⟨hm', _⟩ | ⟨_, _, _, h3⟩
        · rw [hml] at hm'; cases hm'
        · rcases List.mem_append.1 hb' with hb | hb
          · rcases h3 with ⟨_, h5⟩ | ⟨h5, _⟩
            · rw [h5] at hb; exact n1.1 hb
            · have := hr.heap.ltO id _ _ hl (.inr (f4 _ hb)); omega
          · rcases h3 with ⟨h4, h5⟩ | ⟨h5, _⟩
            · exact hne' (hr.heap.injO id id2 _ _ _ hl hl2 (.inl ⟨h4, h5.symm⟩) (.inr (g4 _ hb)))
            · have := hr.heap.ltO id2 _ _ hl2 (.inr (g4 _ hb)); omega
      · rw [List.flatten_append] at hb
        rcases List.mem_append.1 hb with hb | hb
        · exact List.mem_append.2 (.inl (f4 b hb))
        · exact List.mem_append.2 (.inr (g4 b hb))
      · rcases hget j c v hc hv with ⟨k1, k2, k3⟩ | ⟨k1, k2, k3⟩
        · simp only [if_pos k1]; exact f5 j c v k2 k3 hs
        · simp only [if_neg (Nat.not_lt.2 k1)]; exact g5 _ c v k2 k3 hs)
  exact ⟨v', w', (fun h => nomatch h), by rw [exec_append]; simp only [Sem.run_bind, hrun, Result.andThen_ok, Sem.run_pure], _, hr'.put (Nat.le_of_ble_eq_true hN) hs hv'⟩
end
end Go.AM

namespace Go.AM
open Go
def isSnil : AV → Bool
  | .snil => true
  | _ => false
def absC (h : Heap) : AV → Option (AV × List Nat)
  | .ow i => match lk h i with
    | some (.arr ⟨_, true⟩ sz _ es) => some (.sl sz es, [i])
    | _ => none
  | x => bif flat1 x || isSnil x then some (x, []) else none
def absL (h : Heap) : List AV → Option (List AV × List Nat)
  | [] => some ([], [])
  | x :: r => match absC h x with
    | some (y, i) => match absL h r with
      | some (ys, is) => some (y :: ys, i ++ is)
      | none => none
    | none => none
section
variable {S : Nat → Prop} {w : World} {φ : Nat → Loc} {h : Heap}
theorem absC_one {x y : AV} {ids : List Nat} (ha : absC h x = some (y, ids)) : one y = true := by
  unfold absC at ha
  split at ha
  · split at ha
    · cases ha; rfl
    · cases ha
  · cases hb : flat1 x || isSnil x with
    | false => rw [hb] at ha; cases ha
    | true =>
      rw [hb] at ha
      cases ha
      cases x <;> first | rfl | (simp [flat1, isSnil] at hb)
theorem absC_rep (hh : HeapOK S w φ h) {x y : AV} {v : Value} {ids : List Nat} (hv : RepV S w φ h x v) (ha : absC h x = some (y, ids)) :
    ∃ fp, LinT w y v fp ∧ fp.Nodup ∧ ∀ b ∈ fp, ∃ i ∈ ids, ∃ o, lk h i = some o ∧ (φ i).owns b := by
  unfold absC at ha
  split at ha
  · rename_i i
    split at ha
    · rename_i p sz E es hl
      cases ha
      obtain ⟨hsz, hlens, hones, hob⟩ := hh.obj _ _ hl
      rcases hv.ow_inv hl with ⟨hm, rfl⟩ | ⟨hm, rfl, rfl⟩
      · rcases hob with ⟨hf, _⟩ | ⟨_, C, hC, hle, hcm, hCs, hrep⟩
        · rw [hm] at hf; cases hf
        · obtain ⟨fps, f1, f2, f3, f4, _⟩ := (show CellsOK ⟨p, true⟩ S w (φ i) (flat es) C from hrep)
          refine ⟨_, .sl sz es _ _ C E fps hC hCs hle hcm hsz hlens hones f1 f2, f3, fun b hb => ⟨i, by simp, _, hl, ?_⟩⟩
          rcases List.mem_cons.1 hb with rfl | hb
          · exact .inl ⟨hm, rfl⟩
          · exact .inr (f4 b hb)
      · exact ⟨[], .sl0 _ _, by simp, fun b hb => by simp at hb⟩
    · cases ha
  · cases hb : flat1 x || isSnil x with
    | false => rw [hb] at ha; cases ha
    | true =>
      rw [hb] at ha
      cases ha
      have hno : noIds x = true := by cases x <;> first | rfl | (simp [flat1, isSnil] at hb)
      have ht := hv.tree hno
      refine ⟨[], ?_, by simp, fun b hb => by simp at hb⟩
      cases x with
      | snil => cases ht; exact .snil
      | int _ _ => exact ht.lin rfl
      | bool _ => exact ht.lin rfl
      | str _ => exact ht.lin rfl
      | _ => simp [flat1, isSnil] at hb
theorem absL_rep (hh : HeapOK S w φ h) : ∀ {xs ys : List AV} {vs : List Value} {ids : List Nat}, PW S w φ h xs vs → absL h xs = some (ys, ids) → ids.Nodup →
    ys.length = xs.length ∧ (∀ y ∈ ys, one y = true) ∧ ∃ fps : List (List Nat), fps.length = ys.length ∧ (∀ (j : Nat) y v fp, ys[j]? = some y → vs[j]? = some v → fps[j]? = some fp → LinT w y v fp) ∧
      fps.flatten.Nodup ∧ ∀ b ∈ fps.flatten, ∃ i ∈ ids, ∃ o, lk h i = some o ∧ (φ i).owns b := by
  intro xs
  induction xs with
  | nil => intro ys vs ids hp ha _; cases ha; exact ⟨rfl, fun y hy => by simp at hy, [], rfl, fun j y v fp hy => by simp at hy, by simp, fun b hb => by simp at hb⟩
  | cons x r ih =>
    intro ys vs ids hp ha hnd
    unfold absL at ha
    cases hx : absC h x with
    | none => simp [hx] at ha
    | some p =>
      obtain ⟨y, i⟩ := p
      simp only [hx] at ha
      cases hr : absL h r with
      | none => simp [hr] at ha
      | some q =>
        obtain ⟨ys', is⟩ := q
        simp only [hr, Option.some.injEq, Prod.mk.injEq] at ha
        obtain ⟨rfl, rfl⟩ := ha
        cases vs with
        | nil => have := hp.1; simp at this
        | cons v vs =>
          obtain ⟨n1, n2, n3⟩ := List.nodup_append.1 hnd
          obtain ⟨fp, a1, a2, a3⟩ := absC_rep hh (hp.2 0 x v (by simp) (by simp)) hx
          obtain ⟨b1, b2, fps, b3, b4, b5, b6⟩ := ih (vs := vs) ⟨by have := hp.1; simpa using this, fun i x v hx hv => hp.2 (i + 1) x v (by simpa using hx) (by simpa using hv)⟩ hr n2
          refine ⟨by simp [b1], fun z hz => ?_, fp :: fps, by simp [b3], fun j z u fp' hz hu hf => ?_, ?_, fun b hb => ?_⟩
          · rcases List.mem_cons.1 hz with rfl | hz
            · exact absC_one hx
            · exact b2 z hz
          · cases j with
            | zero => simp at hz hu hf; subst hz hu hf; exact a1
            | succ j => simp at hz hu hf; exact b4 j z u fp' hz hu hf
          · rw [List.flatten_cons]
            refine List.nodup_append.2 ⟨a2, b5, fun b hb1 c hc e => ?_⟩
            subst e
            obtain ⟨i1, m1, o1, l1, w1⟩ := a3 b hb1
            obtain ⟨i2, m2, o2, l2, w2⟩ := b6 b hc
            have := hh.injO i1 i2 o1 o2 b l1 l2 w1 w2
            subst this
            exact n3 i1 m1 i1 m2 rfl
          · rw [List.flatten_cons] at hb
            rcases List.mem_append.1 hb with hb | hb
            · obtain ⟨i1, m1, r1⟩ := a3 b hb; exact ⟨i1, List.mem_append.2 (.inl m1), r1⟩
            · obtain ⟨i1, m1, r1⟩ := b6 b hb; exact ⟨i1, List.mem_append.2 (.inr m1), r1⟩
end
def Loc.all (l : Loc) : List Nat := (if l.mat then [l.blk] else []) ++ l.fp
theorem Loc.mem_all {l : Loc} {b : Nat} : b ∈ l.all ↔ l.owns b := by
  unfold Loc.all Loc.owns
  cases l.mat <;> simp [eq_comm]
def comps : Value → Option Addr × Nat × Nat
  | .slice a n c => (a, n, c)
  | _ => (none, 0, 0)
theorem LinT.comps {w : World} {x : AV} {v : Value} {fp : List Nat} (h : LinT w x v fp) (hs : isSl x = true) : v = .slice (AM.comps v).1 (AM.comps v).2.1 (AM.comps v).2.2 := by
  cases h <;> first | rfl | (simp [isSl] at hs)
theorem getElem?_mid {α : Type} (l m : List α) (b n j : Nat) (hb : b + n ≤ l.length) (hm : m.length = n) :
    (l.take b ++ m ++ l.drop (b + n))[j]? = if j < b then l[j]? else if j < b + n then m[j - b]? else l[j]? := by
  have h1 : (l.take b).length = b := by simp; omega
  by_cases hj : j < b
  · rw [if_pos hj, List.append_assoc, List.getElem?_append_left (by omega), List.getElem?_take, if_pos hj]
  · rw [if_neg hj]
    by_cases hj2 : j < b + n
    · rw [if_pos hj2, List.getElem?_append_left (by simp; omega), List.getElem?_append_right (by omega), h1]
    · rw [if_neg hj2, List.getElem?_append_right (by simp; omega), List.getElem?_drop]
      congr 1
      simp; omega
theorem CellsOK.put {k : Kd} {S : Nat → Prop} {w : World} {l l' : Loc} {sz k0 off : Nat} {es : List AV} {e e' : AV} {zy : List AV} {vs : List Value} {C : Array Value} {nf : List (List Nat)} (hk : k.d = true)
    (hc : CellsOK k S w l (flat es) C) (hsz : 0 < sz) (hl : ∀ e ∈ es, e.cells.length = sz) (he : es[k0]? = some e)
    (he' : e'.cells = e.cells.take off ++ zy ++ e.cells.drop (off + zy.length)) (hoff : off + zy.length ≤ sz) (hCs : es.length * sz ≤ C.size) (hvl : vs.length = zy.length)
    (hnl : nf.length = zy.length) (hlin : ∀ (j : Nat) y v fp, zy[j]? = some y → vs[j]? = some v → nf[j]? = some fp → LinT w y v fp) (hnd : nf.flatten.Nodup)
    (hdis : ∀ b ∈ nf.flatten, b ≠ l.blk ∧ b ∉ l.fp) (hblk : l'.blk = l.blk) (hfp : ∀ b, b ∈ l.fp → b ∈ l'.fp) (hfp2 : ∀ b ∈ nf.flatten, b ∈ l'.fp)
    (hsv1 : ∀ j, (j < k0 * sz + off ∨ k0 * sz + off + zy.length ≤ j) → l'.sv j = l.sv j)
    (hsv2 : ∀ (i : Nat) x v, zy[i]? = some x → vs[i]? = some v → isSl x = true → l'.sv (k0 * sz + off + i) = comps v) :
    CellsOK k S w l' (flat (es.set k0 e')) (C.toList.take (k0 * sz + off) ++ vs ++ C.toList.drop (k0 * sz + off + vs.length)).toArray := by
  obtain ⟨fps, f1, f2, f3, f4, f5⟩ : ∃ fps : List (List Nat), fps.length = (flat es).length ∧ (∀ (j : Nat) x v fp, (flat es)[j]? = some x → C[j]? = some v → fps[j]? = some fp → LinT w x v fp) ∧
      (l.blk :: fps.flatten).Nodup ∧ (∀ b ∈ fps.flatten, b ∈ l.fp) ∧ (∀ (j : Nat) x v, (flat es)[j]? = some x → C[j]? = some v → isSl x = true → v = .slice (l.sv j).1 (l.sv j).2.1 (l.sv j).2.2) := by
    unfold CellsOK at hc
    rw [hk] at hc
    exact hc
  have hfe := Xa hl
  have hk0 := (List.getElem?_eq_some_iff.1 he).1
  have hin : k0 * sz + sz ≤ es.length * sz := by rw [← Nat.succ_mul]; exact Nat.mul_le_mul_right _ hk0
  have hb1 : k0 * sz + off + zy.length ≤ fps.length := by rw [f1, hfe]; omega
  have hek : e.cells.length = sz := hl e (List.mem_of_getElem? he)
  have he'k : e'.cells.length = sz := by rw [he']; simp; omega
  have hl' : ∀ u ∈ es.set k0 e', u.cells.length = sz := by
    intro u hu
    rcases List.mem_or_eq_of_mem_set hu with hu | rfl
    · exact hl u hu
    · exact he'k
  have hcl : ∀ (j : Nat) v, (C.toList.take (k0 * sz + off) ++ vs ++ C.toList.drop (k0 * sz + off + vs.length)).toArray[j]? = some v →
      (j < k0 * sz + off ∨ k0 * sz + off + zy.length ≤ j) ∧ C[j]? = some v ∨ (k0 * sz + off ≤ j ∧ j < k0 * sz + off + zy.length) ∧ vs[j - (k0 * sz + off)]? = some v := by
    intro j v hv
    rw [List.getElem?_toArray, getElem?_mid C.toList vs _ _ j (by simp; omega) rfl] at hv
    split at hv
    · exact .inl ⟨.inl ‹_›, by simpa using hv⟩
    · split at hv
      · exact .inr ⟨⟨by omega, by omega⟩, hv⟩
      · exact .inl ⟨.inr (by omega), by simpa using hv⟩
  unfold CellsOK
  rw [hk]
  have hsplit : fps = fps.take (k0 * sz + off) ++ ((fps.drop (k0 * sz + off)).take zy.length ++ fps.drop (k0 * sz + off + zy.length)) := by
    generalize k0 * sz + off = q
    rw [← List.drop_drop, List.take_append_drop, List.take_append_drop]
  have hmem : ∀ b, b ∈ (fps.take (k0 * sz + off) ++ nf ++ fps.drop (k0 * sz + off + zy.length)).flatten → b ∈ nf.flatten ∨ b ∈ fps.flatten := by
    intro b hb
    rw [List.flatten_append, List.flatten_append] at hb
    rcases List.mem_append.1 hb with hb | hb
    · rcases List.mem_append.1 hb with hb | hb
      · obtain ⟨l, h1, h2⟩ := List.mem_flatten.1 hb
        exact .inr (List.mem_flatten.2 ⟨l, List.mem_of_mem_take h1, h2⟩)
      · exact .inl hb
    · obtain ⟨l, h1, h2⟩ := List.mem_flatten.1 hb
      exact .inr (List.mem_flatten.2 ⟨l, List.mem_of_mem_drop h1, h2⟩)
  refine ⟨fps.take (k0 * sz + off) ++ nf ++ fps.drop (k0 * sz + off + zy.length), ?_, fun j c v fp hc hv hp => ?_, ?_, fun b hb => ?_, fun j c v hc hv hs => ?_⟩
  · rw [Xa hl', List.length_set, List.length_append, List.length_append, List.length_take, List.length_drop, f1, hfe, hnl]
    rw [f1, hfe] at hb1
    omega
  · rw [getElem?_mid fps nf _ _ j hb1 hnl] at hp
    rcases flat_set hsz hl he he' hoff hc with ⟨i, rfl, hi⟩ | ⟨hi, hj⟩
    · have hil := (List.getElem?_eq_some_iff.1 hi).1
      rw [if_neg (by omega), if_pos (by omega)] at hp
      rcases hcl _ v hv with ⟨h1, _⟩ | ⟨_, h2⟩
      · omega
      · rw [Nat.add_sub_cancel_left] at hp h2
        exact hlin i c v fp hi h2 hp
    · rcases hcl _ v hv with ⟨_, h2⟩ | ⟨h1, _⟩
      · rcases hj with hj | hj
        · rw [if_pos hj] at hp; exact f2 j c v fp hi h2 hp
        · rw [if_neg (by omega), if_neg (by omega)] at hp; exact f2 j c v fp hi h2 hp
      · omega
  · rw [hblk, List.nodup_cons]
    obtain ⟨n1, n2⟩ := List.nodup_cons.1 f3
    refine ⟨fun hb => ?_, ?_⟩
    · rcases hmem _ hb with hb | hb
      · exact (hdis _ hb).1 rfl
      · exact n1 hb
    · rw [hsplit, List.flatten_append, List.flatten_append] at n2
      obtain ⟨a1, a2, a3⟩ := List.nodup_append.1 n2
      obtain ⟨b1, b2, b3⟩ := List.nodup_append.1 a2
      have inL : ∀ b, b ∈ (fps.take (k0 * sz + off)).flatten → b ∈ fps.flatten := fun b hb => by
        obtain ⟨l, h1, h2⟩ := List.mem_flatten.1 hb
        exact List.mem_flatten.2 ⟨l, List.mem_of_mem_take h1, h2⟩
      have inR : ∀ b, b ∈ (fps.drop (k0 * sz + off + zy.length)).flatten → b ∈ fps.flatten := fun b hb => by
        obtain ⟨l, h1, h2⟩ := List.mem_flatten.1 hb
        exact List.mem_flatten.2 ⟨l, List.mem_of_mem_drop h1, h2⟩
      rw [List.flatten_append, List.flatten_append]
      refine List.nodup_append.2 ⟨List.nodup_append.2 ⟨a1, hnd, fun b hb1 c hc e => ?_⟩, b2, fun b hb1 c hc e => ?_⟩
      · subst e; exact (hdis b hc).2 (f4 b (inL b hb1))
      · subst e
        rcases List.mem_append.1 hb1 with hb1 | hb1
        · exact a3 b hb1 b (List.mem_append.2 (.inr hc)) rfl
        · exact (hdis b hb1).2 (f4 b (inR b hc))
  · rcases hmem b hb with hb | hb
    · exact hfp2 b hb
    · exact hfp b (f4 b hb)
  · rcases flat_set hsz hl he he' hoff hc with ⟨i, rfl, hi⟩ | ⟨hi, hj⟩
    · have hil := (List.getElem?_eq_some_iff.1 hi).1
      rcases hcl _ v hv with ⟨h1, _⟩ | ⟨_, h2⟩
      · omega
      · rw [Nat.add_sub_cancel_left] at h2
        rw [hsv2 i c v hi h2 hs]
        obtain ⟨fp, hfp'⟩ : ∃ fp, nf[i]? = some fp := ⟨nf[i]'(by omega), by simp⟩
        exact (hlin i c v fp hi h2 hfp').comps hs
    · rcases hcl _ v hv with ⟨_, h2⟩ | ⟨h1, _⟩
      · rw [hsv1 j hj]; exact f5 j c v hi h2 hs
      · omega
end Go.AM

namespace Go.AM
open Go
section
variable {F : Fr} {N : Nat} {P : Program}
variable {ops : Array Oper} {rest : List Oper} {K : St → Prop} {ex : Bool}
variable {ty : TypeId} {pos : String} {after : Array Edge} {d id : Nat} {s s' s1 : Xb} {h h' h1 : Heap} {x y : Operand}
theorem lk_all {α : Type} {p : α → Bool} {l : List (Nat × α)} (hp : l.all (fun q => p q.2) = true) {i : Nat} {x : α} (h : lk l i = some x) : p x = true := List.all_eq_true.1 hp _ (lk_mem h)
def noSubH (id : Nat) (h : Heap) : Bool := h.all fun p => match p.2 with
  | .box cs => noSubL id cs
  | _ => true
theorem noSubH_box {h : Heap} (hp : noSubH id h = true) {i : Nat} {cs : List AV} (hl : lk h i = some (.box cs)) {x : AV} (hx : x ∈ cs) : noSub id x = true := by
  have := List.all_eq_true.1 hp _ (lk_mem hl)
  obtain ⟨j, hj⟩ := List.getElem?_of_mem hx
  exact noSubL_mem this j x hj
def nodupL : List Nat → Bool
  | [] => true
  | i :: r => !(r.any fun j => Nat.beq i j) && nodupL r
theorem nodupL_spec : ∀ {l : List Nat}, nodupL l = true → l.Nodup := by
  intro l
  induction l with
  | nil => intro _; simp
  | cons i r ih =>
    intro h
    simp only [nodupL, Bool.and_eq_true, Bool.not_eq_true'] at h
    rw [List.nodup_cons]
    refine ⟨fun hm => ?_, ih h.2⟩
    have : (r.any fun j => Nat.beq i j) = true := List.any_eq_true.2 ⟨i, hm, Nat.beq_refl i⟩
    rw [this] at h
    cases h.1
theorem RelP.storeD {t n off k0 sz : Nat} {k : Kd} {E : TypeId} {z e e' : AV} {es zc zy : List AV} {ids : List Nat} {φ : Nat → Loc} {a : Act} {w : World} (hr : RelP F N ⟨s, h⟩ φ a w)
    (hs : tySize P t = some n) (hx : aev s x = some (.ptr id k0 off)) (hl : lk h id = some (.arr k sz E es)) (hk : k.d = true) (he : es[k0]? = some e)
    (hy : aev s y = some z) (hj : isJunk z = false) (hc : cellsO z = some zc) (hn : zc.length = n) (hab : absL h zc = some (zy, ids)) (hnd : ids.Nodup) (hid : id ∉ ids) (hgF : ∀ j ∈ ids, lk F.η j = none)
    (he' : e'.cells = e.cells.take off ++ zy ++ e.cells.drop (off + zy.length)) (hoff : off + zy.length ≤ sz)
    (hks : killSL ids s = some s1) (hkh : killHL ids h = some h1) (hh : sput (dropH ids h1) id (.arr k sz E (es.set k0 e')) = some h')
    (hpin : (k.p = false ∧ s1.all (fun q => noSub id q.2) = true ∧ noSubH id h1 = true) ∨ (ids = [] ∧ zy.all flat1 = true)) :
    ∃ w', (execOp a.eval ⟨none, .store t x y, ty, pos, after, none⟩).run P w = .ok .skip w' ∧ Rel F N ⟨s1, h'⟩ a w' := by
  obtain ⟨hsz, hlens, hones, hob⟩ := hr.heap.obj _ _ hl
  have hek : e.cells.length = sz := hlens e (List.mem_of_getElem? he)
  have hk0 := (List.getElem?_eq_some_iff.1 he).1
  rcases hob with ⟨_, rfl⟩ | ⟨hm, C, hC, hle, hcm, hCs, hrep⟩
  · simp at he
  have hzv := aev_rep hr hy
  have hcells := hzv.cells hc (fun u hu => by subst hu; cases hj)
  have hvs : (a.eval y).cells.size = n := by rw [← hn]; simpa using hcells.1.symm
  obtain ⟨hyl, hyone, nf, hnl, hlin, hnnd, hnown⟩ := absL_rep hr.heap hcells hab hnd
  have hptr : a.eval x = .pointer (some ⟨(φ id).blk, k0 * sz + off, none⟩) := by
    have := aev_rep hr hx
    generalize a.eval x = v at this
    cases this with
    | pure h => cases h
    | box h _ => rw [hl] at h; cases h
    | elt h _ => rw [hl] at h; cases h; rfl
  have h1c : ∀ u ∈ (a.eval y).cells.toList, u.oneCell' = true := by
    intro u hu
    obtain ⟨i, hi⟩ := List.getElem?_of_mem hu
    have hlt := (List.getElem?_eq_some_iff.1 hi).1
    have hil : i < zy.length := by rw [hyl, hcells.1]; exact hlt
    have hp : nf[i]? = some (nf[i]'(by omega)) := by simp [hnl, hil]
    exact (hlin i zy[i] u _ (by simp [hil]) hi hp).tree.one (hyone _ (List.getElem_mem hil))
  have hcapsz : k0 * sz + sz ≤ (φ id).cap * sz := by
    rw [← Nat.succ_mul]; exact Nat.mul_le_mul_right _ (by omega)
  have hnz : zy.length = n := by rw [hyl, hn]
  have hrun := run_storeAt (P := P) (E := E) hs hvs hC (off := k0 * sz + off) (by rw [hCs]; omega) h1c
  refine ⟨_, by rw [exec_store, hptr]; simp only [Sem.run_bind, hrun, Result.andThen_ok, Sem.run_pure]; rfl, ?_⟩
  obtain ⟨hHn, hH⟩ := killHL_spec hkh
  have hkS := killSL_spec hks
  have hrk : RelP F N ⟨s1, h1⟩ φ a w := hr.weaken (fun i x hx => (hkS i x hx).2) hHn (fun i o ho => (hH i o ho).2)
  have hl1 : lk h1 id = some (.arr k sz E es) := by
    cases hq : lk h1 id with
    | none => rw [(hHn id).1 hq] at hl; cases hl
    | some o =>
      obtain ⟨_, o2, ho2, hw⟩ := hH id o hq
      rw [hl] at ho2
      cases ho2
      cases o with
      | box _ => exact hw.elim
      | arr _ _ _ _ => obtain ⟨rfl, rfl, rfl, rfl⟩ := hw; rfl
  have hh1h : ∀ {j o}, lk h1 j = some o → ∃ o', lk h j = some o' := fun {j o} e => by obtain ⟨_, o', ho', _⟩ := hH j o e; exact ⟨o', ho'⟩
  have hhh1 : ∀ {j o}, lk h j = some o → ∃ o', lk h1 j = some o' := fun {j o} e => by
    cases hq : lk h1 j with
    | none => rw [(hHn j).1 hq] at e; cases e
    | some o' => exact ⟨o', rfl⟩
  have hSk : ∀ b, Stab F w φ h b → Stab F w φ h1 b := fun b hb => ⟨hb.1, hb.2.1, fun i o ho hm => by
    obtain ⟨o1, ho1⟩ := hh1h ho
    exact hb.2.2 i o1 ho1 hm⟩
  have hlk := lk_sput hh
  have hdrop := @lk_dropH ids h1
  have h1id : lk h' id = some (.arr k sz E (es.set k0 e')) := by rw [hlk, if_pos rfl]
  -- the new place
  let l' : Loc := { φ id with
    fp := (φ id).fp ++ ids.flatMap (fun i => (φ i).all),
    sv := fun j => if k0 * sz + off ≤ j ∧ ((zy[j - (k0 * sz + off)]?).map isSl).getD false = true then comps (((a.eval y).cells.toList[j - (k0 * sz + off)]?).getD undef) else (φ id).sv j }
  have hfl' : ids = [] → zy.all flat1 = true → l' = φ id := by
    intro h1 h2
    have e1 : l'.sv = (φ id).sv := by
      funext j
      show (if _ then _ else _) = _
      rw [if_neg]
      rintro ⟨_, h4⟩
      cases hz : zy[j - (k0 * sz + off)]? with
      | none => rw [hz] at h4; cases h4
      | some q =>
        rw [hz] at h4
        have := List.all_eq_true.1 h2 q (List.mem_of_getElem? hz)
        cases q <;> first | (simp [flat1] at this; done) | (simp [isSl] at h4)
    have e2 : l'.fp = (φ id).fp := by show _ ++ _ = _; rw [h1]; simp
    show ({ φ id with fp := l'.fp, sv := l'.sv } : Loc) = φ id
    rw [e1, e2]
  have hnew := CellsOK.put (l' := l') (vs := (a.eval y).cells.toList) (nf := nf) hk hrep hsz hlens he he' hoff (by rw [hCs]; exact Nat.mul_le_mul_right _ hle) (by rw [Array.length_toList, hvs, hnz]) hnl hlin hnnd
    (fun b hb => by
      obtain ⟨i, hi, o, ho, hw⟩ := hnown b hb
      have hne : i ≠ id := fun e => hid (e ▸ hi)
      exact ⟨fun e => hne (hr.heap.injO i id o _ b ho hl hw (.inl ⟨hm, e.symm⟩)), fun e => hne (hr.heap.injO i id o _ b ho hl hw (.inr e))⟩)
    rfl (fun b hb => List.mem_append.2 (.inl hb)) (fun b hb => by
      obtain ⟨i, hi, o, ho, hw⟩ := hnown b hb
      exact List.mem_append.2 (.inr (List.mem_flatMap.2 ⟨i, hi, Loc.mem_all.2 hw⟩)))
    (fun j hj => by
      show (if _ then _ else _) = _
      rw [if_neg]
      rintro ⟨h3, h4⟩
      rcases hj with hj | hj
      · omega
      · rw [List.getElem?_eq_none (by omega)] at h4; cases h4)
    (fun i c v hc hv hsl => by
      show (if _ then _ else _) = _
      rw [Nat.add_sub_cancel_left, hc, hv, if_pos ⟨by omega, hsl⟩]
      rfl)
  rw [Array.length_toList, hvs] at hnew
  have he'k : e'.cells.length = sz := by rw [he']; simp; omega
  refine ⟨updLoc φ id l', hrk.updX (fun j => j ∈ ids) h1id (fun j hj hg => by rw [hlk, if_neg (Ne.symm hj), hdrop, if_neg hg]) (fun j hj hg => by rw [hlk, if_neg (Ne.symm hj), hdrop, if_pos hg])
      (fun j hg => ⟨fun e => hid (e ▸ hg), hgF j hg⟩) (updLoc_ne φ id _) (setRow_sys _ _ _) (by simp) (fun b _ hb => setRow_other _ _ _ _ (fun e => hb _ hl1 (.inl ⟨hm, e.symm⟩))) (fun b hb => ?_) (fun o ho hne => ?_)
      (fun o ho => by rw [hl1] at ho; cases ho; exact ⟨rfl, fun _ => ⟨rfl, rfl, by simp⟩⟩) (fun hS hw x v hx hv => ?_) (fun hS hw => ?_)⟩
  · rw [Qu] at hb
    rcases hb with hb | hb
    · exact .inr (.inl ⟨_, hl1, .inl hb⟩)
    · rcases List.mem_append.1 hb with hb | hb
      · exact .inr (.inl ⟨_, hl1, .inr hb⟩)
      · obtain ⟨i, hi, hb⟩ := List.mem_flatMap.1 hb
        have hown := Loc.mem_all.1 hb
        -- an object that is named is there
        have : ∃ o, lk h i = some o := by
          have hq : ∀ {zc zy : List AV} {ids : List Nat}, absL h zc = some (zy, ids) → ∀ i ∈ ids, ∃ o, lk h i = some o := by
            intro zc
            induction zc with
            | nil => intro zy ids e i hi; cases e; simp at hi
            | cons c r ih =>
              intro zy ids e i hi
              unfold absL at e
              cases hx : absC h c with
              | none => simp [hx] at e
              | some p =>
                obtain ⟨y, i1⟩ := p
                simp only [hx] at e
                cases hr : absL h r with
                | none => simp [hr] at e
                | some q =>
                  obtain ⟨ys', is⟩ := q
                  simp only [hr, Option.some.injEq, Prod.mk.injEq] at e
                  obtain ⟨_, rfl⟩ := e
                  rcases List.mem_append.1 hi with hi | hi
                  · unfold absC at hx
                    split at hx
                    · split at hx
                      · rename_i hl; cases hx; simp at hi; subst hi; exact ⟨_, hl⟩
                      · cases hx
                    · cases hb : flat1 c || isSnil c with
                      | false => rw [hb] at hx; cases hx
                      | true => rw [hb] at hx; cases hx; simp at hi
                  · exact ih hr i hi
          exact hq hab i hi
        obtain ⟨o, ho⟩ := this
        obtain ⟨o', ho'⟩ := hhh1 ho
        exact .inr (.inr ⟨i, o', hi, ho', hown⟩)
  · rw [Qu]
    rcases hpin with ⟨hp, _, _⟩ | ⟨h2, h3⟩
    · exfalso
      obtain ⟨o1, ho1, hb1⟩ := hr.keep id _ ho
      have ho1' : lk h id = some o1 := ho1
      rw [hl] at ho1'
      cases ho1'
      have := AO.alike_box hb1
      apply hne
      rw [← this]
      simp [AO.isBox, hp]
    · rw [hfl' h2 h3]; exact hr.fix id _ ho hne
  · have hm : ∀ i ∈ ids, men i x = false := by
      rcases hx with ⟨i, hi⟩ | ⟨i, cs, _, hi, hxc⟩
      · exact (hkS i x hi).1
      · intro m hm; exact (hH i _ hi).1 cs rfl x hxc m hm
    have hbx : ∀ i cs, ¬ i ∈ ids → lk h1 i = some (.box cs) → ∃ cs', lk h' i = some (.box cs') := by
      intro i cs hg ho
      have hne : id ≠ i := fun e => by subst e; rw [hl1] at ho; cases ho
      exact ⟨cs, by rw [hlk, if_neg hne, hdrop, if_neg hg]; exact ho⟩
    have har : ∀ i k2 sz2 E2 es2, ¬ i ∈ ids → lk h1 i = some (.arr k2 sz2 E2 es2) → ∃ k' es', es'.length = es2.length ∧ lk h' i = some (.arr k' sz2 E2 es') := by
      intro i k2 sz2 E2 es2 hg ho
      by_cases hii : id = i
      · subst hii
        rw [hl1] at ho
        cases ho
        exact ⟨_, _, by simp, h1id⟩
      · exact ⟨k2, es2, rfl, by rw [hlk, if_neg hii, hdrop, if_neg hg]; exact ho⟩
    rcases hpin with ⟨_, h2, h3⟩ | ⟨h2, h3⟩
    · refine hv.move (id := id) (gone := fun j => j ∈ ids) hS hw (fun i hi _ => updLoc_ne φ id _ i hi) (fun o ho hg => by rw [Qu]; exact ⟨rfl, rfl, rfl, rfl⟩) hbx har hm ?_
      rcases hx with ⟨i, hi⟩ | ⟨i, cs, _, hi, hxc⟩
      · exact lk_all (p := noSub id) h2 hi
      · exact noSubH_box h3 hi hxc
    · rw [hfl' h2 h3] at hS ⊢
      have hfe : updLoc φ id (φ id) = φ := by funext i; by_cases hi : i = id <;> simp [updLoc, hi]
      rw [hfe] at hS ⊢
      subst h2
      exact hv.mono hS hw ⟨fun i cs ho _ => ⟨hbx i cs (by simp) ho, rfl⟩, fun i k2 sz2 E2 es2 ho => by
        obtain ⟨k', es', q1, q2⟩ := har i k2 sz2 E2 es2 (by simp) ho
        exact ⟨rfl, k', es', q1, q2⟩⟩
  · refine ⟨hsz, ?_, ?_, .inr ⟨by rw [Qu]; exact hm, _, by rw [Qu]; exact setRow_heap _ _ _ _ _ _ hC, by rw [Qu]; simpa using hle, by rw [Qu]; exact hcm, ?_, ?_⟩⟩
    · intro u hu
      rcases List.mem_or_eq_of_mem_set hu with hu | rfl
      · exact hlens u hu
      · exact he'k
    · intro j c hcj
      rcases flat_set hsz hlens he he' hoff hcj with ⟨i, _, hi⟩ | ⟨hi, _⟩
      · exact hyone c (List.mem_of_getElem? hi)
      · exact hones j c hi
    · rw [Qu]
      show _ = (φ id).cap * sz
      simp [hvs]; omega
    · rw [Qu]
      have hnewS : CellsOK k (Stab F w φ h) w l' (flat (es.set k0 e')) (C.toList.take (k0 * sz + off) ++ (a.eval y).cells.toList ++ C.toList.drop (k0 * sz + off + n)).toArray := hnew
      refine hnewS.mono (fun b hb => hS b (hSk b hb)) (fun b hb => hw b (hSk b hb)) (fun b _ hne => setRow_other _ _ _ _ (fun e => hne e)) rfl
theorem TL_storeF {t n off k0 sz : Nat} {p : Bool} {E : TypeId} {z : AV} {es es' ec zc ec' : List AV} (hs : tySize P t = some n) (hx : aev s x = some (.ptr id k0 off))
    (hl : lk h id = some (.arr ⟨p, true⟩ sz E es)) {e e' : AV} (he : es[k0]? = some e) (hec : cellsO e = some ec) (hy : aev s y = some z) (hj : isJunk z = false) (hc : cellsO z = some zc) (hn : Nat.beq zc.length n = true)
    (hfl : zc.all flat1 = true) (hset : setO ec off zc = some ec') (hec' : cellsO e' = some ec') (hes : es' = es.set k0 e')
    (hh : sput h id (.arr ⟨p, true⟩ sz E es') = some h') (k : TL P F N ops rest K ⟨s, h'⟩) :
    TL P F N ops (⟨none, .store t x y, ty, pos, after, none⟩ :: rest) K ⟨s, h⟩ := by
  refine TL_skip rfl rfl (fun φ a w hr => ?_) k
  subst hes
  obtain rfl := cellsO_eq hec
  obtain hee := cellsO_eq hec'
  obtain ⟨rfl, hlen⟩ := setO_eq hset
  have hek : e.cells.length = sz := (hr.heap.obj _ _ hl).2.1 _ (List.mem_of_getElem? he)
  have hab : absL h zc = some (zc, []) := by
    clear hset hec' hee hc hn hlen
    induction zc with
    | nil => rfl
    | cons c r ih =>
      simp only [List.all_cons, Bool.and_eq_true] at hfl
      have hcc : absC h c = some (c, []) := by cases c <;> first | rfl | (have := hfl.1; simp [flat1] at this)
      unfold absL
      rw [hcc, ih hfl.2]
      rfl
  exact hr.storeD hs hx hl rfl he hy hj hc ((beq_iff _ _).1 hn) hab (by simp) (by simp) (by simp) hee.symm (by omega) (by rfl) (by rfl) (by
    have : dropH [] h = h := by
      have : ∀ h : Heap, dropH [] h = h := by
        intro h
        induction h with
        | nil => rfl
        | cons p r ih => obtain ⟨k, o⟩ := p; simp [dropH, ih]
      exact this h
    rw [this]; exact hh) (.inr ⟨rfl, hfl⟩)
theorem TL_storeX {t n off k0 sz : Nat} {E : TypeId} {z : AV} {es es' ec zc zy ec' : List AV} {ids : List Nat} (hs : tySize P t = some n) (hx : aev s x = some (.ptr id k0 off))
    (hl : lk h id = some (.arr ⟨false, true⟩ sz E es)) {e e' : AV} (he : es[k0]? = some e) (hec : cellsO e = some ec) (hy : aev s y = some z) (hj : isJunk z = false) (hc : cellsO z = some zc) (hn : Nat.beq zc.length n = true)
    (hab : absL h zc = some (zy, ids)) (hnd : nodupL (id :: ids) = true) (hgF : ∀ j ∈ ids, lk F.η j = none) (hset : setO ec off zy = some ec') (hec' : cellsO e' = some ec') (hes : es' = es.set k0 e')
    (hks : killSL ids s = some s1) (hkh : killHL ids h = some h1) (hns : s1.all (fun q => noSub id q.2) = true) (hnh : noSubH id h1 = true)
    (hh : sput (dropH ids h1) id (.arr ⟨false, true⟩ sz E es') = some h') (k : TL P F N ops rest K ⟨s1, h'⟩) :
    TL P F N ops (⟨none, .store t x y, ty, pos, after, none⟩ :: rest) K ⟨s, h⟩ := by
  refine TL_skip rfl rfl (fun φ a w hr => ?_) k
  subst hes
  obtain rfl := cellsO_eq hec
  obtain hee := cellsO_eq hec'
  obtain ⟨rfl, hlen⟩ := setO_eq hset
  have hnd' := List.nodup_cons.1 (nodupL_spec hnd)
  have hek : e.cells.length = sz := (hr.heap.obj _ _ hl).2.1 _ (List.mem_of_getElem? he)
  exact hr.storeD hs hx hl rfl he hy hj hc ((beq_iff _ _).1 hn) hab hnd'.2 hnd'.1 hgF hee.symm (by omega) hks hkh hh (.inl ⟨rfl, hns, hnh⟩)
end
end Go.AM
