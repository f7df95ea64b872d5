/- Calls from the caller's side. -/
import Derived.Test.YtlijhkhbdfgapaaAmJ
namespace Go.AM
open Go

/-! ### Looking at what one owns as at a tree -/

def view1 (h : Heap) : AV → Option AV
  | .ow i => match lk h i with
    | some (.arr _ sz _ es) => some (.sl sz es)
    | _ => none
  | x => bif noIds x then some x else none

def viewC (h : Heap) : List AV → Option (List AV)
  | [] => some []
  | x :: r => match view1 h x with
    | some y => match viewC h r with
      | some l => some (y :: l)
      | none => none
    | none => none

def viewO (h : Heap) : AV → Option AV
  | .ptr i 0 off => match lk h i with
    | some (.box cs) => match dropO cs off with
      | some cs' => match viewC h cs' with
        | some l => some (.cp l)
        | none => none
      | none => none
    | _ => none
  | .agg cs => match viewC h cs with
    | some l => some (.agg l)
    | none => none
  | x => view1 h x

def viewL (h : Heap) : List AV → Option (List AV)
  | [] => some []
  | x :: r => match viewO h x with
    | some y => match viewL h r with
      | some l => some (y :: l)
      | none => none
    | none => none

/-- Values without any address. -/
def flatV : AV → Bool
  | .int _ _ => true
  | .bool _ => true
  | .str _ => true
  | .tup vs => vs.all fun | .int _ _ => true | .bool _ => true | .str _ => true | _ => false
  | _ => false

section
variable {S : Nat → Prop} {w : World} {φ : Nat → Loc} {h η0 : Heap}

def Sall (w : World) (b : Nat) : Prop := b < w.heap.size

theorem view1_other {x : AV} (hx : ∀ i, x ≠ .ow i) : view1 h x = bif noIds x then some x else none := by
  cases x <;> first | rfl | exact absurd rfl (hx _)

theorem tree_of_bif (hh : HeapOK S w φ h) {x y : AV} {v : Value} (hv : RepV S w φ h x v) (hy : (bif noIds x then some x else none) = some y) : RepT (Sall w) w y v := by
  cases hn : noIds x with
  | false => rw [hn] at hy; cases hy
  | true =>
    rw [hn] at hy
    cases hy
    exact (hv.tree hn).mono hh.free (fun _ _ => rfl)

/-- An owned tree, looked at. -/
theorem LinT.tree {w : World} {x : AV} {v : Value} {fp : List Nat} (h : LinT w x v fp) : RepT (Sall w) w x v := by
  induction h with
  | int k n => exact .int k n
  | bool b => exact .bool b
  | str s => exact .str s
  | snil => exact .snil
  | agg cs vs fps h1 h2 _ ih =>
    refine .agg cs vs h1 (fun i x v hx hv => ?_)
    have hlt := (List.getElem?_eq_some_iff.1 hx).1
    exact ih i x v fps[i] hx hv (by simp [h2, hlt])
  | sl0 sz a => exact .sl0 sz a 0 (fun _ => rfl)
  | sl sz es b cap C E fps hC h3 h4 h5 h6 h7 h8 h9 _ ih =>
    by_cases h1 : es = []
    · subst h1; exact .sl0 _ _ _ (fun h => nomatch h)
    have hcap : es.length * sz ≤ cap * sz := Nat.mul_le_mul_right _ h4
    have hin : ∀ (j : Nat) c, (flat es)[j]? = some c → C[j]? = some (C.getD j undef) := by
      intro j c hc
      have hj := (List.getElem?_eq_some_iff.1 hc).1
      rw [flat_length h7] at hj
      have : j < C.size := by omega
      simp [this]
    refine .sl sz es _ 0 _ (fun j => C.getD j undef) h1 (Array.getElem?_eq_some_iff.1 hC).1 h4 h5 h6 h7 h8 (fun j c hc => ?_) (fun j c hc => ?_)
    · rw [Nat.zero_add, cell_at hC]; exact hin j c hc
    · have hlt := (List.getElem?_eq_some_iff.1 hc).1
      exact ih j c _ fps[j] hc (hin j c hc) (by simp [h9, hlt])

theorem CellsOK.tree {k : Kd} {l : Loc} {xs : List AV} {C : Array Value} (h : CellsOK k S w l xs C) (hS : ∀ b, S b → Sall w b) :
    ∀ (j : Nat) x v, xs[j]? = some x → C[j]? = some v → RepT (Sall w) w x v := by
  unfold CellsOK at h
  cases hk : k.d with
  | false => rw [hk] at h; exact fun j x v hx hv => (h j x v hx hv).mono hS (fun _ _ => rfl)
  | true =>
    rw [hk] at h
    obtain ⟨fps, h1, h2, _⟩ := h
    intro j x v hx hv
    have hlt := (List.getElem?_eq_some_iff.1 hx).1
    exact (h2 j x v fps[j] hx hv (by simp [h1, hlt])).tree

theorem LinT.toTree {S : Nat → Prop} {w : World} {x : AV} {v : Value} {fp : List Nat} (h : LinT w x v fp) : (∀ b ∈ fp, S b) → RepT S w x v := by
  induction h with
  | int k n => exact fun _ => .int k n
  | bool b => exact fun _ => .bool b
  | str s => exact fun _ => .str s
  | snil => exact fun _ => .snil
  | agg cs vs fps h1 h2 _ ih =>
    intro hS
    refine .agg cs vs h1 (fun i x v hx hv => ?_)
    have hlt := (List.getElem?_eq_some_iff.1 hx).1
    have hf : fps[i]? = some (fps[i]'(by omega)) := by simp [h2, hlt]
    exact ih i x v _ hx hv hf (fun b hb => hS b (List.mem_flatten.2 ⟨_, List.mem_of_getElem? hf, hb⟩))
  | sl0 sz a => exact fun _ => .sl0 sz a 0 (fun _ => rfl)
  | sl sz es b cap C E fps hC h3 h4 h5 h6 h7 h8 h9 _ ih =>
    intro hS
    by_cases h1 : es = []
    · subst h1; exact .sl0 _ _ _ (fun h => nomatch h)
    have hcap : es.length * sz ≤ cap * sz := Nat.mul_le_mul_right _ h4
    have hin : ∀ (j : Nat) c, (flat es)[j]? = some c → C[j]? = some (C.getD j undef) := by
      intro j c hc
      have hj := (List.getElem?_eq_some_iff.1 hc).1
      rw [flat_length h7] at hj
      have : j < C.size := by omega
      simp [this]
    refine .sl sz es _ 0 _ (fun j => C.getD j undef) h1 (hS b (by simp)) h4 h5 h6 h7 h8 (fun j c hc => ?_) (fun j c hc => ?_)
    · rw [Nat.zero_add, cell_at hC]; exact hin j c hc
    · have hlt := (List.getElem?_eq_some_iff.1 hc).1
      have hf : fps[j]? = some (fps[j]'(by omega)) := by simp [h9, hlt]
      exact ih j c _ _ hc (hin j c hc) hf (fun b hb => hS b (by simp only [List.mem_cons]; exact .inr (List.mem_flatten.2 ⟨_, List.mem_of_getElem? hf, hb⟩)))

theorem CellsOK.frozen {k : Kd} {S' : Nat → Prop} {l : Loc} {xs : List AV} {C : Array Value} (h : CellsOK k S w l xs C) (hS : ∀ b, S b → S' b) (hf : ∀ b ∈ l.fp, S' b) :
    ∀ (j : Nat) x v, xs[j]? = some x → C[j]? = some v → RepT S' w x v := by
  unfold CellsOK at h
  cases hk : k.d with
  | false => rw [hk] at h; exact fun j x v hx hv => (h j x v hx hv).mono hS (fun _ _ => rfl)
  | true =>
    rw [hk] at h
    obtain ⟨fps, h1, h2, h3, h4, _⟩ := h
    intro j x v hx hv
    have hlt := (List.getElem?_eq_some_iff.1 hx).1
    have hp : fps[j]? = some (fps[j]'(by omega)) := by simp [h1, hlt]
    exact (h2 j x v _ hx hv hp).toTree (fun b hb => hf b (h4 b (List.mem_flatten.2 ⟨_, List.mem_of_getElem? hp, hb⟩)))

theorem view1_rep (hh : HeapOK S w φ h) {x y : AV} {v : Value} (hv : RepV S w φ h x v) (hy : view1 h x = some y) : RepT (Sall w) w y v := by
  have hS : ∀ b, S b → Sall w b := hh.free
  cases x with
  | ow i =>
    unfold view1 at hy
    cases hl : lk h i with
    | none => simp [hl] at hy
    | some o =>
      cases o with
      | box cs => simp [hl] at hy
      | arr kd sz E es =>
        simp only [hl, Option.some.injEq] at hy
        subst hy
        obtain ⟨hsz, hlens, hones, hob⟩ := hh.obj _ _ hl
        rcases hv.ow_inv hl with ⟨hm, rfl⟩ | ⟨hm, rfl, rfl⟩
        · rcases hob with ⟨hf, _⟩ | ⟨_, C, hC, hle, hcm, hCs, hrep⟩
          · rw [hm] at hf; cases hf
          · by_cases hne : es = []
            · subst hne; exact .sl0 _ _ _ (fun hn => by cases hn)
            · have hcap : es.length * sz ≤ (φ i).cap * sz := Nat.mul_le_mul_right _ hle
              have hin : ∀ (j : Nat) c, (flat es)[j]? = some c → C[j]? = some (C.getD j undef) := by
                intro j c hc
                have hj := (List.getElem?_eq_some_iff.1 hc).1
                rw [flat_length hlens] at hj
                have : j < C.size := by omega
                simp [this]
              refine .sl sz es _ 0 _ (fun j => C.getD j undef) hne (Array.getElem?_eq_some_iff.1 hC).1 hle hcm hsz hlens hones (fun j c hc => ?_) (fun j c hc => hrep.tree hS j c _ hc (hin j c hc))
              rw [Nat.zero_add, cell_at hC]; exact hin j c hc
        · exact .sl0 _ _ _ (fun _ => rfl)
  | _ => exact tree_of_bif hh hv (by rw [view1_other (by intro i e; cases e)] at hy; exact hy)

theorem viewC_eq : ∀ {l l' : List AV}, viewC h l = some l' → l.length = l'.length ∧ ∀ (i : Nat) y, l'[i]? = some y → ∃ x, l[i]? = some x ∧ view1 h x = some y := by
  intro l
  induction l with
  | nil => intro l' e; cases e; exact ⟨rfl, fun i y hy => by simp at hy⟩
  | cons x l ih =>
    intro l' e
    unfold viewC at e
    cases hx : view1 h x with
    | none => simp [hx] at e
    | some y0 =>
      simp only [hx] at e
      cases hr : viewC h l with
      | none => simp [hr] at e
      | some l0 =>
        simp only [hr, Option.some.injEq] at e
        subst e
        obtain ⟨h1, h2⟩ := ih hr
        refine ⟨by simp [h1], fun i y hy => ?_⟩
        cases i with
        | zero => simp at hy; subst hy; exact ⟨x, by simp, hx⟩
        | succ i => simp at hy; obtain ⟨z, hz, hz'⟩ := h2 i y hy; exact ⟨z, by simpa using hz, hz'⟩

theorem viewO_rep (hh : HeapOK S w φ h) {x y : AV} {v : Value} (hv : RepV S w φ h x v) (hy : viewO h x = some y) : RepT (Sall w) w y v := by
  unfold viewO at hy
  split at hy
  · rename_i i off
    cases hl : lk h i with
    | none => simp [hl] at hy
    | some o =>
      cases o with
      | arr _ _ _ _ => simp [hl] at hy
      | box cs =>
        simp only [hl] at hy
        cases hd : dropO cs off with
        | none => simp [hd] at hy
        | some cs' =>
          simp only [hd] at hy
          cases hc : viewC h cs' with
          | none => simp [hc] at hy
          | some l =>
            simp only [hc, Option.some.injEq] at hy
            subst hy
            obtain ⟨h1, h2⟩ := viewC_eq hc
            obtain ⟨b, o', f, rfl, hf⟩ := PT_box hh hv hl hd
            have hb : b = (φ i).blk ∧ (φ i).mat = true := by
              cases hv with
              | pure hv => cases hv
              | box _ hm => exact ⟨rfl, hm⟩
              | elt ho _ => rw [hl] at ho; cases ho
            refine .cp l b o' f (by rw [hb.1]; exact (hh.obj _ _ hl).lt hb.2) (fun j y hy => ?_) (fun j y hy => ?_)
            · obtain ⟨x, hx, _⟩ := h2 j y hy
              exact (hf j x hx).1
            · obtain ⟨x, hx, hxy⟩ := h2 j y hy
              exact view1_rep hh (hf j x hx).2 hxy
  · rename_i cs
    cases hc : viewC h cs with
    | none => simp [hc] at hy
    | some l =>
      simp only [hc, Option.some.injEq] at hy
      subst hy
      obtain ⟨h1, h2⟩ := viewC_eq hc
      obtain ⟨us, rfl, h3, h4⟩ := hv.agg_inv
      refine .agg l us (by rw [← h1]; exact h3) (fun i y v hy hv => ?_)
      obtain ⟨x, hx, hxy⟩ := h2 i y hy
      exact view1_rep hh (h4 i x v hx hv) hxy
  · exact view1_rep hh hv hy

theorem viewL_eq : ∀ {l l' : List AV}, viewL h l = some l' → l.length = l'.length ∧ ∀ (i : Nat) y, l'[i]? = some y → ∃ x, l[i]? = some x ∧ viewO h x = some y := by
  intro l
  induction l with
  | nil => intro l' e; cases e; exact ⟨rfl, fun i y hy => by simp at hy⟩
  | cons x l ih =>
    intro l' e
    unfold viewL at e
    cases hx : viewO h x with
    | none => simp [hx] at e
    | some y0 =>
      simp only [hx] at e
      cases hr : viewL h l with
      | none => simp [hr] at e
      | some l0 =>
        simp only [hr, Option.some.injEq] at e
        subst e
        obtain ⟨h1, h2⟩ := ih hr
        refine ⟨by simp [h1], fun i y hy => ?_⟩
        cases i with
        | zero => simp at hy; subst hy; exact ⟨x, by simp, hx⟩
        | succ i => simp at hy; obtain ⟨z, hz, hz'⟩ := h2 i y hy; exact ⟨z, by simpa using hz, hz'⟩

theorem flatV_rep {S' : Nat → Prop} {w' : World} {φ' : Nat → Loc} {h' : Heap} {r : AV} {v : Value} (hf : flatV r = true) (hv : RepV S' w' φ' h' r v) : RepT S w r v := by
  cases r with
  | int k n => rw [hv.int_inv]; exact .int _ _
  | bool b => rw [hv.bool_inv]; exact .bool _
  | str l => rw [hv.str_inv]; exact .str _
  | tup vs =>
    obtain ⟨us, rfl, h1, h2⟩ := hv.tup_inv
    refine .tup vs us h1 (fun i x u hx hu => ?_)
    have hx' := (List.all_eq_true.1 hf) x (List.mem_of_getElem? hx)
    have := h2 i x u hx hu
    cases x with
    | int k n => rw [this.int_inv]; exact .int _ _
    | bool b => rw [this.bool_inv]; exact .bool _
    | str l => rw [this.str_inv]; exact .str _
    | _ => cases hx'
  | _ => cases hf

end

section
variable {P : Program} {F : Fr} {N : Nat} {ops : Array Oper} {rest : List Oper} {K : St → Prop}
variable {ty : TypeId} {pos : String} {after : Array Edge} {d : Nat} {s s' s1 : Slots} {h h' h1 : Heap}

theorem HeapOK.nil {S : Nat → Prop} {w : World} (φ : Nat → Loc) (hS : ∀ b, S b → b < w.heap.size) : HeapOK S w φ [] :=
  ⟨fun _ _ ho => (by cases ho), fun _ _ _ _ _ ho => (by cases ho), hS, fun _ _ _ ho => (by cases ho), fun _ _ _ ho => (by cases ho)⟩

/-- A call operation: its walk is the callee's contract. -/
theorem TL_enter {ex : Bool} {o : Oper} {f : FuncId} {st st' : St} {vs : Act → Array Value} (hg : o.guard = none)
    (hrun : ∀ φ a w, RelP F N st φ a w → (execOp a.eval o).run P w = .ok (.enter f (vs a)) w)
    (h : ∀ φ a w, RelP F N st φ a w → Calls P f (vs a) w fun e w' => ∃ v, e = .returned v ∧ Rel F N st' (a.put o.dst v) w' ∧ (ex = true → Ext w w'))
    (k : TLE ex P F N ops rest K st') : TLE ex P F N ops (o :: rest) K st := by
  intro a w R hr hQ
  obtain ⟨φ, hp⟩ := hr
  refine wpList_plain hg fun K' hK' => ?_
  unfold Oper.wp
  rw [hrun φ a w hp]
  refine (h φ a w hp).mono ?_
  rintro e w' ⟨v, rfl, hr', hext⟩
  exact hK' _ _ (k _ _ R hr' (fun st' a' w'' hk hr'' he => hQ st' a' w'' hk hr'' (fun h => (hext h).trans (he h))))

theorem exec_call {o : Oper} {f : FuncId} {args : Array Operand} {tys : Array TypeId} {w : World} {ρ : Operand → Value} (ho : o.op = .call ⟨.value (.func f), args, tys⟩)
    (hρ : ρ (.func f) = .func (.func f) #[] #[]) (hcall : ∀ args w, (callFunc f args).run P w = .ok (.enter f args) w) :
    (execOp ρ o).run P w = .ok (.enter f (args.map ρ)) w := by
  unfold execOp
  rw [ho]
  simp only [resolve, hρ, Deferred.ofValue, Sem.run_bind, Sem.run_pure, Result.andThen_ok, invoke, Array.empty_append, Array.append_empty]
  exact hcall _ _

/-- A call whose result has no addresses: what one owns may be looked at. -/
theorem TL_callF {ex : Bool} {f : FuncId} {args : Array Operand} {tys : Array TypeId} {zs xs : List AV} {r : AV} (hc : ACall P f xs [] r []) (hcall : ∀ args w, (callFunc f args).run P w = .ok (.enter f args) w)
    (hz : aevL s args.toList = some zs) (hv : viewL h zs = some xs) (hf : flatV r = true) (hN : Nat.blt d N = true) (hs : sput s d r = some s')
    (k : TLE ex P F N ops rest K ⟨s', h⟩) : TLE ex P F N ops (⟨some d, .call ⟨.value (.func f), args, tys⟩, ty, pos, after, none⟩ :: rest) K ⟨s, h⟩ := by
  refine TL_enter (vs := fun a => args.map a.eval) rfl (fun φ a w hr => exec_call rfl rfl hcall) (fun φ a w hr => ?_) k
  obtain ⟨g1, g2⟩ := aevL_rep (fun y z hy => aev_rep hr hy) hz
  obtain ⟨e1, e2⟩ := viewL_eq hv
  refine (hc w (Sall w) φ _ (HeapOK.nil φ (fun b hb => hb)) ⟨by rw [← e1, g1, Array.length_toList], fun i y v hy hv => ?_⟩).mono ?_
  · obtain ⟨x, hx, hxy⟩ := e2 i y hy
    exact .pure (viewO_rep hr.heap (g2 i x v hx (by simpa using hv)) hxy)
  · rintro e w' ⟨v, φ', rfl, hret⟩
    have hfr : ∀ b, b < w.heap.size → w'.heap[b]? = w.heap[b]? := fun b hb => hret.frame b hb (fun ⟨id, o, ho, _⟩ => by cases ho)
    exact ⟨v, rfl, ⟨φ, (hr.world hret.sys hret.grow hfr).put (Nat.le_of_ble_eq_true hN) hs (.pure (flatV_rep hf hret.val))⟩, fun _ => ⟨hret.grow, hfr⟩⟩

end
end Go.AM
