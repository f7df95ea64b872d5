/- Elements of what one owns, shown as trees in a call. -/
import Derived.Test.YtlijhkhbdfgapaaAmZh
namespace Go.AM
open Go

/-- What one holds, and how it is shown. -/
def Vw0 (h : Heap) (z x : AV) : Prop := viewO h z = some x ∨
  (∃ id k off kd sz E es e cs cs', z = .ptr id k off ∧ lk h id = some (.arr kd sz E es) ∧ es[k]? = some e ∧ cellsO e = some cs ∧ dropO cs off = some cs' ∧ x = .cp cs') ∨
  (∃ id n k j p sz E es e cs, z = .sub id n ∧ lk h id = some (.arr ⟨p, true⟩ sz E es) ∧ es[k]? = some e ∧ cellsO e = some cs ∧ n = k * sz + j ∧ cs[j]? = some x ∧ isSl x = true)
def VwL0 (h : Heap) : List AV → List AV → Prop
  | [], [] => True
  | z :: r, x :: q => Vw0 h z x ∧ VwL0 h r q
  | _, _ => False
def Vw (h : Heap) (z x : AV) : Prop := Vw0 h z x ∨ (∃ cs ds, z = .agg cs ∧ x = .agg ds ∧ VwL0 h cs ds) ∨
  ∃ id off bs cs ds, z = .ptr id 0 off ∧ x = .cp ds ∧ lk h id = some (.box bs) ∧ dropO bs off = some cs ∧ VwL0 h cs ds
def VwL (h : Heap) : List AV → List AV → Prop
  | [], [] => True
  | z :: r, x :: q => Vw h z x ∧ VwL h r q
  | _, _ => False

section
variable {S : Nat → Prop} {w : World} {φ : Nat → Loc} {h : Heap}
theorem Vw0_rep (hh : HeapOK S w φ h) {z x : AV} {v : Value} (hv : RepV S w φ h z v) (hx : Vw0 h z x) : RepT (Sall w) w x v := by
  rcases hx with hx | ⟨id, k, off, kd, sz, E, es, e, cs, cs', rfl, hl, he, hc, hd, rfl⟩ | ⟨id, n, k, j, p, sz, E, es, e, cs, rfl, hl, he, hc, rfl, hx, hs⟩
  · exact viewO_rep hh hv hx
  · obtain ⟨hm, hv', C, hC, hrep, _, _, hin⟩ := arr_part hh hv hl he hc hd
    subst hv'
    have hlt : (φ id).blk < w.heap.size := hh.ltB hl hm
    refine .cp cs' _ _ (fun j => C.getD (k * sz + off + j) undef) hlt (fun j y hy => ?_) (fun j y hy => ?_)
    · obtain ⟨h1, h2⟩ := hin j y hy
      rw [cell_at hC, h2]
    · obtain ⟨h1, h2⟩ := hin j y hy
      exact hrep.tree hh.free _ _ _ h1 h2
  · obtain rfl := cellsO_eq hc
    obtain ⟨hsz0, hlens, _, hob⟩ := hh.obj _ _ hl
    rcases hob with ⟨_, h0⟩ | ⟨hm, C, hC, hle, _, hCs, hrep⟩
    · subst h0; simp at he
    have hel : e.cells.length = sz := hlens e (List.mem_of_getElem? he)
    have hj : j < sz := by have := (List.getElem?_eq_some_iff.1 hx).1; omega
    have h1 : (flat es)[k * sz + j]? = some x := by rw [flat_get hlens he hj]; exact hx
    have hk := (List.getElem?_eq_some_iff.1 he).1
    have hlt : k * sz + j < C.size := by
      have : k * sz + sz ≤ (φ id).cap * sz := by rw [← Nat.succ_mul]; exact Nat.mul_le_mul_right _ (by omega)
      omega
    have h2 : C[k * sz + j]? = some (C.getD (k * sz + j) undef) := by simp [hlt]
    have ht := hrep.tree hh.free _ _ _ h1 h2
    obtain ⟨fps, f1, f2, f3, f4, f5⟩ := (show CellsOK ⟨p, true⟩ S w (φ id) (flat es) C from hrep)
    have e5 := f5 _ _ _ h1 h2 hs
    rw [e5] at ht
    cases hv with
    | pure hp => cases hp
    | sub _ => exact ht
theorem VwL0_eq : ∀ {l l' : List AV}, VwL0 h l l' → l.length = l'.length ∧ ∀ (i : Nat) y, l'[i]? = some y → ∃ x, l[i]? = some x ∧ Vw0 h x y := by
  intro l
  induction l with
  | nil => intro l' e; cases l' with
    | nil => exact ⟨rfl, fun i y hy => by simp at hy⟩
    | cons _ _ => exact e.elim
  | cons z r ih =>
    intro l' e
    cases l' with
    | nil => exact e.elim
    | cons x q =>
      obtain ⟨h1, h2⟩ := ih e.2
      refine ⟨by simp [h1], fun i y hy => ?_⟩
      cases i with
      | zero => simp at hy; subst hy; exact ⟨z, by simp, e.1⟩
      | succ i => simp at hy; obtain ⟨u, hu, hu'⟩ := h2 i y hy; exact ⟨u, by simpa using hu, hu'⟩
theorem Vw_rep (hh : HeapOK S w φ h) {z x : AV} {v : Value} (hv : RepV S w φ h z v) (hx : Vw h z x) : RepT (Sall w) w x v := by
  rcases hx with hx | ⟨cs, ds, rfl, rfl, hd⟩ | ⟨id, off, bs, cs, ds, rfl, rfl, hl, hd, hvw⟩
  · exact Vw0_rep hh hv hx
  · obtain ⟨h1, h2⟩ := VwL0_eq hd
    obtain ⟨us, rfl, h3, h4⟩ := hv.agg_inv
    refine .agg ds us (by rw [← h1]; exact h3) (fun i y v hy hv => ?_)
    obtain ⟨x, hx, hxy⟩ := h2 i y hy
    exact Vw0_rep hh (h4 i x v hx hv) hxy
  · obtain ⟨h1, h2⟩ := VwL0_eq hvw
    obtain ⟨b, o', f, rfl, hf⟩ := PT_box hh hv hl hd
    have hb : b = (φ id).blk ∧ (φ id).mat = true := by
      cases hv with
      | pure hv => cases hv
      | box _ hm => exact ⟨rfl, hm⟩
      | elt ho _ => rw [hl] at ho; cases ho
    refine .cp ds b o' f (by rw [hb.1]; exact hh.ltB hl hb.2) (fun j y hy => ?_) (fun j y hy => ?_)
    · obtain ⟨x, hx, _⟩ := h2 j y hy
      exact (hf j x hx).1
    · obtain ⟨x, hx, hxy⟩ := h2 j y hy
      exact Vw0_rep hh (hf j x hx).2 hxy
theorem VwL_eq : ∀ {l l' : List AV}, VwL h l l' → l.length = l'.length ∧ ∀ (i : Nat) y, l'[i]? = some y → ∃ x, l[i]? = some x ∧ Vw h x y := by
  intro l
  induction l with
  | nil => intro l' e; cases l' with
    | nil => exact ⟨rfl, fun i y hy => by simp at hy⟩
    | cons _ _ => exact e.elim
  | cons z r ih =>
    intro l' e
    cases l' with
    | nil => exact e.elim
    | cons x q =>
      obtain ⟨h1, h2⟩ := ih e.2
      refine ⟨by simp [h1], fun i y hy => ?_⟩
      cases i with
      | zero => simp at hy; subst hy; exact ⟨z, by simp, e.1⟩
      | succ i => simp at hy; obtain ⟨u, hu, hu'⟩ := h2 i y hy; exact ⟨u, by simpa using hu, hu'⟩
end

section
variable {P : Program} {F : Fr} {N : Nat} {ops : Array Oper} {l rest : List Oper} {K : St → Prop} {ex : Bool}
variable {ty : TypeId} {pos : String} {after : Array Edge} {d : Nat} {s s' : Slots} {h h' : Heap}
theorem TL_callOX {f : FuncId} {args : Array Operand} {tys : Array TypeId} {zs xs : List AV} {L' Lc' : Heap} {r r' : AV} (ρn : List (Nat × Nat)) (hc : ACall P f xs [] r L')
    (hcall : ∀ args w, (callFunc f args).run P w = .ok (.enter f args) w) (hz : aevL s args.toList = some zs) (hv : VwL h zs xs) (hb : bare r = true) (hbL : bareH L' = true)
    (hinj : injB ρn = true) (hL' : renH ρn L' = some Lc') (hdom' : ρn.all (fun p => (lk L' p.1).isSome) = true) (hkeys : keysB Lc' = true)
    (hfresh : ρn.all (fun p => (lk h p.2).isNone) = true) (hr' : renO ρn r = some r') (hh' : putAll h Lc' = some h') (hN : Nat.blt d N = true) (hs : sput s d r' = some s')
    (k : TLE ex P F N ops rest K ⟨s', h'⟩) : TLE ex P F N ops (⟨some d, .call ⟨.value (.func f), args, tys⟩, ty, pos, after, none⟩ :: rest) K ⟨s, h⟩ := by
  refine TL_enter (vs := fun a => args.map a.eval) rfl (fun φ a w hr => exec_call rfl rfl hcall) (fun φ a w hr => ?_) k
  obtain ⟨g1, g2⟩ := aevL_rep (fun y z hy => aev_rep hr hy) hz
  obtain ⟨e1, e2⟩ := VwL_eq hv
  refine (hr.call0 (f := f) (vs := args.map a.eval) (r := r) (L := []) (Lc := []) (ρ := []) (ρn := ρn) (ks := []) (fun φc _ _ => ?_) hinj rfl rfl trivial hL' hdom' hkeys hfresh hr' rfl killSL_nil killHL_nil hh').mono ?_
  · refine (hc w (Sall w) φc _ (HeapOK.nil φc (fun b hb => hb)) ⟨by rw [← e1, g1, Array.length_toList], fun i y v hy hv => ?_⟩).mono ?_
    · obtain ⟨x, hx, hxy⟩ := e2 i y hy
      exact .pure (Vw_rep hr.heap (g2 i x v hx (by simpa using hv)) hxy)
    · rintro e w' ⟨v, φ', rfl, hret⟩
      exact ⟨v, φ', rfl, bareRet hret hb hbL⟩
  · rintro e w' ⟨v, φ', rfl, hr2, hv, hext⟩
    exact ⟨v, rfl, ⟨φ', hr2.put (Nat.le_of_ble_eq_true hN) hs hv⟩, fun _ => hext rfl⟩
theorem TL_callFX {f : FuncId} {args : Array Operand} {tys : Array TypeId} {zs xs : List AV} {r : AV} (hc : ACall P f xs [] r []) (hcall : ∀ args w, (callFunc f args).run P w = .ok (.enter f args) w)
    (hz : aevL s args.toList = some zs) (hv : VwL h zs xs) (hf : flatV r = true) (hN : Nat.blt d N = true) (hs : sput s d r = some s')
    (k : TLE ex P F N ops rest K ⟨s', h⟩) : TLE ex P F N ops (⟨some d, .call ⟨.value (.func f), args, tys⟩, ty, pos, after, none⟩ :: rest) K ⟨s, h⟩ := by
  refine TL_enter (vs := fun a => args.map a.eval) rfl (fun φ a w hr => exec_call rfl rfl hcall) (fun φ a w hr => ?_) k
  obtain ⟨g1, g2⟩ := aevL_rep (fun y z hy => aev_rep hr hy) hz
  obtain ⟨e1, e2⟩ := VwL_eq hv
  refine (hc w (Sall w) φ _ (HeapOK.nil φ (fun b hb => hb)) ⟨by rw [← e1, g1, Array.length_toList], fun i y v hy hv => ?_⟩).mono ?_
  · obtain ⟨x, hx, hxy⟩ := e2 i y hy
    exact .pure (Vw_rep hr.heap (g2 i x v hx (by simpa using hv)) hxy)
  · rintro e w' ⟨v, φ', rfl, hret⟩
    have hfr : ∀ b, b < w.heap.size → w'.heap[b]? = w.heap[b]? := fun b hb => hret.frame b hb (fun ⟨id, o, ho, _⟩ => by cases ho)
    exact ⟨v, rfl, ⟨φ, (hr.world hret.sys hret.grow hfr).put (Nat.le_of_ble_eq_true hN) hs (.pure (flatV_rep hf hret.val))⟩, fun _ => ⟨hret.grow, hfr⟩⟩
end
end Go.AM
