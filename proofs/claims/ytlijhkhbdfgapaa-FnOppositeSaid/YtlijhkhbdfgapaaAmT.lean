/- Calls that are shown what one owns, and hand back new objects; the nil slice within a struct. -/
import Derived.Test.YtlijhkhbdfgapaaAmS
namespace Go.AM
open Go

mutual
/-- Values in which no tree lies. -/
def bare : AV → Bool
  | .sl _ _ => false
  | .cp _ => false
  | .fn _ _ _ => false
  | .junk => false
  | .agg cs => bareL cs
  | .tup vs => bareL vs
  | _ => true
def bareL : List AV → Bool
  | [] => true
  | x :: r => bare x && bareL r
end

theorem bareL_mem : ∀ {l : List AV}, bareL l = true → ∀ (i : Nat) x, l[i]? = some x → bare x = true := by
  intro l
  induction l with
  | nil => intro _ i x hx; simp at hx
  | cons y l ih =>
    intro h i x hx
    simp only [bareL, Bool.and_eq_true] at h
    cases i with
    | zero => simp at hx; subst hx; exact h.1
    | succ i => simp at hx; exact ih h.2 i x hx

def bareO : AO → Bool
  | .box cs => bareL cs
  | .arr k _ _ es => k.d || bareL es

def bareH (h : Heap) : Bool := h.all fun p => bareO p.2

section
variable {S S' : Nat → Prop} {w : World} {φ : Nat → Loc} {η : Heap}

theorem bareT {x : AV} {v : Value} (h : RepT S w x v) : bare x = true → RepT S' w x v := by
  induction h with
  | int k n => exact fun _ => .int k n
  | bool b => exact fun _ => .bool b
  | str s => exact fun _ => .str s
  | agg cs vs hl _ ih => intro hb; simp only [bare] at hb; exact .agg cs vs hl (fun i x v hx hv => ih i x v hx hv (bareL_mem hb i x hx))
  | tup cs vs hl _ ih => intro hb; simp only [bare] at hb; exact .tup cs vs hl (fun i x v hx hv => ih i x v hx hv (bareL_mem hb i x hx))
  | snil => exact fun _ => .snil
  | nilp => exact fun _ => .nilp
  | nilf => exact fun _ => .nilf
  | _ => intro hb; cases hb

theorem bareV {x : AV} {v : Value} (h : RepV S w φ η x v) : bare x = true → RepV S' w φ η x v := by
  induction h with
  | pure h => exact fun hb => .pure (bareT h hb)
  | ow h1 h2 => exact fun _ => .ow h1 h2
  | ow0 h1 h2 => exact fun _ => .ow0 h1 h2
  | box h1 h2 => exact fun _ => .box h1 h2
  | elt h1 h2 => exact fun _ => .elt h1 h2
  | sub h1 => exact fun _ => .sub h1
  | agg cs vs hl _ ih => intro hb; simp only [bare] at hb; exact .agg cs vs hl (fun i x v hx hv => ih i x v hx hv (bareL_mem hb i x hx))
  | tup cs vs hl _ ih => intro hb; simp only [bare] at hb; exact .tup cs vs hl (fun i x v hx hv => ih i x v hx hv (bareL_mem hb i x hx))
  | fn _ _ _ _ _ _ _ _ _ => intro hb; cases hb

theorem bare_cells {es : List AV} (hb : bareL es = true) {j : Nat} {x : AV} (hx : (flat es)[j]? = some x) : bare x = true := by
  have hm := List.mem_of_getElem? hx
  unfold flat at hm
  obtain ⟨e, he, hxe⟩ := List.mem_flatMap.1 hm
  obtain ⟨i, hi⟩ := List.getElem?_of_mem he
  have hbe := bareL_mem hb i e hi
  cases e with
  | agg cs => obtain ⟨k, hk⟩ := List.getElem?_of_mem hxe; exact bareL_mem (by simpa [bare, AV.cells] using hbe) k x hk
  | _ => simp [AV.cells] at hxe; subst hxe; exact hbe

theorem bareObj {id : Nat} {o : AO} (h : ObjOK S w φ η id o) (hb : bareO o = true) : ObjOK S' w φ η id o := by
  cases o with
  | box cs =>
    obtain ⟨hm, C, E, hC, hsz, hrep⟩ := h
    exact ⟨hm, C, E, hC, hsz, fun i x v hx hv => bareV (hrep i x v hx hv) (bareL_mem hb i x hx)⟩
  | arr k sz E es =>
    obtain ⟨h0, hl, hone, hob⟩ := h
    refine ⟨h0, hl, hone, ?_⟩
    rcases hob with hob | ⟨hm, C, hC, h1, h2, h3, h4⟩
    · exact .inl hob
    · refine .inr ⟨hm, C, hC, h1, h2, h3, ?_⟩
      unfold CellsOK at *
      cases hk : k.d with
      | true => rw [hk] at h4; exact h4
      | false =>
        rw [hk] at h4
        have hb' : bareL es = true := by simpa [bareO, hk] using hb
        exact fun j x v hx hv => bareT (h4 j x v hx hv) (bare_cells hb' hx)
end

theorem lk_mem' {α : Type} : ∀ {l : List (Nat × α)} {i : Nat} {x : α}, lk l i = some x → (i, x) ∈ l := lk_mem

theorem bareRet {w w' : World} {S1 S2 : Nat → Prop} {φ φ' : Nat → Loc} {L' : Heap} {r : AV} {v : Value} (h : Ret ⟨w, S1, φ, []⟩ w' φ' L' r v) (hr : bare r = true) (hL : bareH L' = true) :
    Ret ⟨w, S2, φ, []⟩ w' φ' L' r v := by
  refine ⟨h.sys, h.grow, ⟨fun id o ho => bareObj (h.heap.obj id o ho) (List.all_eq_true.1 hL _ (lk_mem ho)), h.heap.injO, fun b hb => hb.1, fun id o b ho hm hst => hst.2.2 id o ho hm, h.heap.ltO⟩,
    bareV h.val hr, h.mine, (fun id o ho => by cases ho), (fun id o ho => by cases ho), h.frame⟩

section
variable {P : Program} {F : Fr} {N : Nat} {Q : Exit → St → Prop} {c : Code} {K : St → Prop} {ops : Array Oper} {l rest : List Oper} {ex : Bool}
variable {ty : TypeId} {pos : String} {after : Array Edge} {d : Nat} {s s' : Slots} {h h' : Heap}

/-- A call that is shown what one owns as trees, and hands back new objects. -/
theorem TL_callO {f : FuncId} {args : Array Operand} {tys : Array TypeId} {zs xs : List AV} {L' Lc' : Heap} {r r' : AV} (ρn : List (Nat × Nat)) (hc : ACall P f xs [] r L')
    (hcall : ∀ args w, (callFunc f args).run P w = .ok (.enter f args) w) (hz : aevL s args.toList = some zs) (hv : viewL h zs = some xs) (hb : bare r = true) (hbL : bareH L' = true)
    (hinj : injB ρn = true) (hL' : renH ρn L' = some Lc') (hdom' : ρn.all (fun p => (lk L' p.1).isSome) = true) (hkeys : keysB Lc' = true)
    (hfresh : ρn.all (fun p => (lk h p.2).isNone) = true) (hr' : renO ρn r = some r') (hh' : putAll h Lc' = some h') (hN : Nat.blt d N = true) (hs : sput s d r' = some s')
    (k : TLE ex P F N ops rest K ⟨s', h'⟩) : TLE ex P F N ops (⟨some d, .call ⟨.value (.func f), args, tys⟩, ty, pos, after, none⟩ :: rest) K ⟨s, h⟩ := by
  refine TL_enter (vs := fun a => args.map a.eval) rfl (fun φ a w hr => exec_call rfl rfl hcall) (fun φ a w hr => ?_) k
  obtain ⟨g1, g2⟩ := aevL_rep (fun y z hy => aev_rep hr hy) hz
  obtain ⟨e1, e2⟩ := viewL_eq hv
  refine (hr.call0 (f := f) (vs := args.map a.eval) (r := r) (L := []) (Lc := []) (ρ := []) (ρn := ρn) (ks := []) (fun φc _ _ => ?_) hinj rfl rfl trivial hL' hdom' hkeys hfresh hr' rfl killSL_nil killHL_nil hh').mono ?_
  · refine (hc w (Sall w) φc _ (HeapOK.nil φc (fun b hb => hb)) ⟨by rw [← e1, g1, Array.length_toList], fun i y v hy hv => ?_⟩).mono ?_
    · obtain ⟨x, hx, hxy⟩ := e2 i y hy
      exact .pure (viewO_rep hr.heap (g2 i x v hx (by simpa using hv)) hxy)
    · rintro e w' ⟨v, φ', rfl, hret⟩
      exact ⟨v, φ', rfl, bareRet hret hb hbL⟩
  · rintro e w' ⟨v, φ', rfl, hr2, hv, hext⟩
    exact ⟨v, rfl, ⟨φ', hr2.put (Nat.le_of_ble_eq_true hN) hs hv⟩, fun _ => hext rfl⟩

/-! ### The nil slice within a struct -/

theorem RelP.ownNilAt {φ : Nat → Loc} {a : Act} {w : World} {i k id sz : Nat} {kd : Kd} {E : TypeId} {cs cs' : List AV} (hr : RelP F N ⟨s, h⟩ φ a w) (hi : lk s i = some (.agg cs)) (hk : cs[k]? = some .snil)
    (hl : lk h id = none) (hsz : 0 < sz) (hh : sput h id (.arr kd sz E []) = some h') (hc : cs' = cs.set k (.ow id)) (hs : sput s i (.agg cs') = some s') : Rel F N ⟨s', h'⟩ a w := by
  have h1 := hr.newNil none hl hh hsz
  obtain ⟨v, hv, hrep⟩ := h1.slots i _ hi
  have hlk := lk_sput hs
  obtain ⟨vs, rfl, e1, e2⟩ := hrep.agg_inv
  refine ⟨_, h1.size, h1.defers, h1.sys, h1.grow, h1.heap, fun j x hx => ?_, h1.mine, h1.fix, h1.keep, h1.frame⟩
  rw [hlk] at hx
  by_cases hij : i = j
  · subst hij
    rw [if_pos rfl] at hx
    cases hx
    subst hc
    refine ⟨_, hv, .agg _ vs (by simpa using e1) (fun n x v hx hv => ?_)⟩
    rw [List.getElem?_set] at hx
    split at hx
    · rename_i hkn; subst hkn
      split at hx
      · cases hx
        have hvn : v = .slice none 0 0 := by
          have := e2 k _ v hk hv
          cases this with
          | pure h => cases h; rfl
        subst hvn
        have := RepV.ow0 (S := Stab F w (updLoc φ id (mkLoc 0 0 false)) h') (w := w) (φ := updLoc φ id (mkLoc 0 0 false)) (id := id) (by rw [lk_sput hh, if_pos rfl]) (by rw [updLoc_same])
        rw [updLoc_same] at this
        exact this
      · cases hx
    · exact e2 n x v hx hv
  · rw [if_neg hij] at hx
    exact h1.slots j x hx

theorem T_ownNilAt (i k id : Nat) {sz : Nat} (kd : Kd) (E : TypeId) {cs cs' : List AV} (hi : lk s i = some (.agg cs)) (hk : cs[k]? = some .snil) (hl : lk h id = none) (hsz : Nat.blt 0 sz = true)
    (hh : sput h id (.arr kd sz E []) = some h') (hc : cs' = cs.set k (.ow id)) (hs : sput s i (.agg cs') = some s') (k : T P F N c Q ⟨s', h'⟩) : T P F N c Q ⟨s, h⟩ :=
  T_sub (fun _ _ _ hr => hr.ownNilAt hi hk hl (Nat.le_of_ble_eq_true hsz) hh hc hs) k

end
end Go.AM
