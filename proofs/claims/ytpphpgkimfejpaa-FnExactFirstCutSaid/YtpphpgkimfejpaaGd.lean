import Derived.Test.YtpphpgkimfejpaaGc
/- Elements of what one owns, shown as trees in a call. -/
namespace Go.AM
open Go

/-- What one holds, and how it is shown. -/
def Vw0 (h : Heap) (z x : AV) : Prop := viewO h z = some x ∨
  (∃ id k off kd sz E es e cs cs', z = .ptr id k off ∧ lk h id = some (.arr kd sz E es) ∧ es[k]? = some e ∧ cellsO e = some cs ∧ dropO cs off = some cs' ∧ x = .cp cs') ∨
  (∃ id n k j p sz E es e cs, z = .sub id n ∧ lk h id = some (.arr ⟨p, true⟩ sz E es) ∧ es[k]? = some e ∧ cellsO e = some cs ∧ n = k * sz + j ∧ cs[j]? = some x ∧ isSl x = true)
def VwL0 (h : Heap) : List AV → List AV → Prop
  | [], [] => True
  | z :: r, x :: q => Vw0 h z x ∧ VwL0 h r q
  | _, _ => False
def Vw (h : Heap) (z x : AV) : Prop := Vw0 h z x ∨ (∃ cs ds, z = .agg cs ∧ x = .agg ds ∧ VwL0 h cs ds) ∨
  ∃ id off bs cs ds, z = .ptr id 0 off ∧ x = .cp ds ∧ lk h id = some (.box bs) ∧ dropO bs off = some cs ∧ VwL0 h cs ds
def VwL (h : Heap) : List AV → List AV → Prop
  | [], [] => True
  | z :: r, x :: q => Vw h z x ∧ VwL h r q
  | _, _ => False

section
variable {S : Nat → Prop} {w : World} {φ : Nat → Loc} {h : Heap}
theorem Vw0_rep (hh : HeapOK S w φ h) {z x : AV} {v : Value} (hv : RepV S w φ h z v) (hx : Vw0 h z x) : RepT (Sall w) w x v := by
  rcases hx with hx | ⟨id, k, off, kd, sz, E, es, e, cs, cs', rfl, hl, he, hc, hd, rfl⟩ | ⟨id, n, k, j, p, sz, E, es, e, cs, rfl, hl, he, hc, rfl, hx, hs⟩
  · exact viewO_rep hh hv hx
  · obtain ⟨hm, hv', C, hC, hrep, _, _, hin⟩ := arr_part hh hv hl he hc hd
    subst hv'
    have hlt : (φ id).blk < w.heap.size := hh.ltB hl hm
    refine .cp cs' _ _ (fun j => C.getD (k * sz + off + j) undef) hlt (fun j y hy => ?_) (fun j y hy => ?_)
    · obtain ⟨h1, h2⟩ := hin j y hy
      rw [cell_at hC, h2]
    · obtain ⟨h1, h2⟩ := hin j y hy
      exact hrep.tree hh.free _ _ _ h1 h2
  · obtain rfl := cellsO_eq hc
    obtain ⟨hsz0, hlens, _, hob⟩ := hh.obj _ _ hl
    rcases hob with ⟨_, h0⟩ | ⟨hm, C, hC, hle, _, hCs, hrep⟩
    · subst h0; simp at he
    have hel : e.cells.length = sz := hlens e (List.mem_of_getElem? he)
    have hj : j < sz := by have := (List.getElem?_eq_some_iff.1 hx).1; omega
    have h1 : (flat es)[k * sz + j]? = some x := by rw [flat_get hlens he hj]; exact hx
    have hk := (List.getElem?_eq_some_iff.1 he).1
    have hlt : k * sz + j < C.size := by
      have : k * sz + sz ≤ (φ id).cap * sz := by rw [← Nat.succ_mul]; exact Nat.mul_le_mul_right _ (by omega)
      omega
    have h2 : C[k * sz + j]? = some (C.getD (k * sz + j) undef) := by simp [hlt]
    have ht := hrep.tree hh.free _ _ _ h1 h2
    obtain ⟨fps, f1, f2, f3, f4, f5⟩ := (show CellsOK ⟨p, true⟩ S w (φ id) (flat es) C from hrep)
    have e5 := f5 _ _ _ h1 h2 hs
    rw [e5] at ht
    cases hv with
    | pure hp => cases hp
    | sub _ => exact ht
theorem VwL0_eq : ∀ {l l' : List AV}, VwL0 h l l' → l.length = l'.length ∧ ∀ (i : Nat) y, l'[i]? = some y → ∃ x, l[i]? = some x ∧ Vw0 h x y := by
  intro l
  induction l with
  | nil => intro l' e; cases l' with
    | nil => exact ⟨rfl, fun i y hy => by simp at hy⟩
    | cons _ _ => exact e.elim
  | cons z r ih =>
    intro l' e
    cases l' with
    | nil => exact e.elim
    | cons x q =>
      obtain ⟨h1, h2⟩ := ih e.2
      refine ⟨by simp [h1], fun i y hy => ?_⟩
      cases i with
      | zero => simp at hy; subst hy; exact ⟨z, by simp, e.1⟩
      | succ i => simp at hy; obtain ⟨u, hu, hu'⟩ := h2 i y hy; exact ⟨u, by simpa using hu, hu'⟩
theorem Vw_rep (hh : HeapOK S w φ h) {z x : AV} {v : Value} (hv : RepV S w φ h z v) (hx : Vw h z x) : RepT (Sall w) w x v := by
  rcases hx with hx | ⟨cs, ds, rfl, rfl, hd⟩ | ⟨id, off, bs, cs, ds, rfl, rfl, hl, hd, hvw⟩
  · exact Vw0_rep hh hv hx
  · obtain ⟨h1, h2⟩ := VwL0_eq hd
    obtain ⟨us, rfl, h3, h4⟩ := hv.agg_inv
    refine .agg ds us (by rw [← h1]; exact h3) (fun i y v hy hv => ?_)
    obtain ⟨x, hx, hxy⟩ := h2 i y hy
    exact Vw0_rep hh (h4 i x v hx hv) hxy
  · obtain ⟨h1, h2⟩ := VwL0_eq hvw
    obtain ⟨b, o', f, rfl, hf⟩ := PT_box hh hv hl hd
    have hb : b = (φ id).blk ∧ (φ id).mat = true := by
      cases hv with
      | pure hv => cases hv
      | box _ hm => exact ⟨rfl, hm⟩
      | elt ho _ => rw [hl] at ho; cases ho
    refine .cp ds b o' f (by rw [hb.1]; exact hh.ltB hl hb.2) (fun j y hy => ?_) (fun j y hy => ?_)
    · obtain ⟨x, hx, _⟩ := h2 j y hy
      exact (hf j x hx).1
    · obtain ⟨x, hx, hxy⟩ := h2 j y hy
      exact Vw0_rep hh (hf j x hx).2 hxy
theorem VwL_eq : ∀ {l l' : List AV}, VwL h l l' → l.length = l'.length ∧ ∀ (i : Nat) y, l'[i]? = some y → ∃ x, l[i]? = some x ∧ Vw h x y := by
  intro l
  induction l with
  | nil => intro l' e; cases l' with
    | nil => exact ⟨rfl, fun i y hy => by simp at hy⟩
    | cons _ _ => exact e.elim
  | cons z r ih =>
    intro l' e
    cases l' with
    | nil => exact e.elim
    | cons x q =>
      obtain ⟨h1, h2⟩ := ih e.2
      refine ⟨by simp [h1], fun i y hy => ?_⟩
      cases i with
      | zero => simp at hy; subst hy; exact ⟨z, by simp, e.1⟩
      | succ i => simp at hy; obtain ⟨u, hu, hu'⟩ := h2 i y hy; exact ⟨u, by simpa using hu, hu'⟩
end

section
variable {P : Program} {F : Fr} {N : Nat} {ops : Array Oper} {l rest : List Oper} {K : St → Prop} {ex : Bool}
variable {ty : TypeId} {pos : String} {after : Array Edge} {d : Nat} {s s' : Slots} {h h' : Heap}
theorem TL_callOX {f : FuncId} {args : Array Operand} {tys : Array TypeId} {zs xs : List AV} {L' Lc' : Heap} {r r' : AV} (ρn : List (Nat × Nat)) (hc : ACall P f xs [] r L')
    (hcall : ∀ args w, (callFunc f args).run P w = .ok (.enter f args) w) (hz : aevL s args.toList = some zs) (hv : VwL h zs xs) (hb : bare r = true) (hbL : bareH L' = true)
    (hinj : injB ρn = true) (hL' : renH ρn L' = some Lc') (hdom' : ρn.all (fun p => (lk L' p.1).isSome) = true) (hkeys : keysB Lc' = true)
    (hfresh : ρn.all (fun p => (lk h p.2).isNone) = true) (hr' : renO ρn r = some r') (hh' : putAll h Lc' = some h') (hN : Nat.blt d N = true) (hs : sput s d r' = some s')
    (k : TLE ex P F N ops rest K ⟨s', h'⟩) : TLE ex P F N ops (⟨some d, .call ⟨.value (.func f), args, tys⟩, ty, pos, after, none⟩ :: rest) K ⟨s, h⟩ := by
  refine TL_enter (vs := fun a => args.map a.eval) rfl (fun φ a w hr => exec_call rfl rfl hcall) (fun φ a w hr => ?_) k
  obtain ⟨g1, g2⟩ := aevL_rep (fun y z hy => aev_rep hr hy) hz
  obtain ⟨e1, e2⟩ := VwL_eq hv
  refine (hr.call0 (f := f) (vs := args.map a.eval) (r := r) (L := []) (Lc := []) (ρ := []) (ρn := ρn) (ks := []) (fun φc _ _ => ?_) hinj rfl rfl trivial hL' hdom' hkeys hfresh hr' rfl killSL_nil killHL_nil hh').mono ?_
  · refine (hc w (Sall w) φc _ (HeapOK.nil φc (fun b hb => hb)) ⟨by rw [← e1, g1, Array.length_toList], fun i y v hy hv => ?_⟩).mono ?_
    · obtain ⟨x, hx, hxy⟩ := e2 i y hy
      exact .pure (Vw_rep hr.heap (g2 i x v hx (by simpa using hv)) hxy)
    · rintro e w' ⟨v, φ', rfl, hret⟩
      exact ⟨v, φ', rfl, bareRet hret hb hbL⟩
  · rintro e w' ⟨v, φ', rfl, hr2, hv, hext⟩
    exact ⟨v, rfl, ⟨φ', hr2.put (Nat.le_of_ble_eq_true hN) hs hv⟩, fun _ => hext rfl⟩
theorem TL_callFX {f : FuncId} {args : Array Operand} {tys : Array TypeId} {zs xs : List AV} {r : AV} (hc : ACall P f xs [] r []) (hcall : ∀ args w, (callFunc f args).run P w = .ok (.enter f args) w)
    (hz : aevL s args.toList = some zs) (hv : VwL h zs xs) (hf : flatV r = true) (hN : Nat.blt d N = true) (hs : sput s d r = some s')
    (k : TLE ex P F N ops rest K ⟨s', h⟩) : TLE ex P F N ops (⟨some d, .call ⟨.value (.func f), args, tys⟩, ty, pos, after, none⟩ :: rest) K ⟨s, h⟩ := by
  refine TL_enter (vs := fun a => args.map a.eval) rfl (fun φ a w hr => exec_call rfl rfl hcall) (fun φ a w hr => ?_) k
  obtain ⟨g1, g2⟩ := aevL_rep (fun y z hy => aev_rep hr hy) hz
  obtain ⟨e1, e2⟩ := VwL_eq hv
  refine (hc w (Sall w) φ _ (HeapOK.nil φ (fun b hb => hb)) ⟨by rw [← e1, g1, Array.length_toList], fun i y v hy hv => ?_⟩).mono ?_
  · obtain ⟨x, hx, hxy⟩ := e2 i y hy
    exact .pure (Vw_rep hr.heap (g2 i x v hx (by simpa using hv)) hxy)
  · rintro e w' ⟨v, φ', rfl, hret⟩
    have hfr : ∀ b, b < w.heap.size → w'.heap[b]? = w.heap[b]? := fun b hb => hret.frame b hb (fun ⟨id, o, ho, _⟩ => by cases ho)
    exact ⟨v, rfl, ⟨φ, (hr.world hret.sys hret.grow hfr).put (Nat.le_of_ble_eq_true hN) hs (.pure (flatV_rep hf hret.val))⟩, fun _ => ⟨hret.grow, hfr⟩⟩
end
end Go.AM

/- The front of what one owns. -/
namespace Go.AM
open Go
section
variable {P : Program} {F : Fr} {N : Nat} {ops : Array Oper} {l rest : List Oper} {K : St → Prop} {ex : Bool}
variable {ty : TypeId} {pos : String} {after : Array Edge} {d : Nat} {s s1 s' : Slots} {h h1 h' : Heap} {x : Operand} {id : Nat}

theorem CellsOK.front {k : Kd} {S : Nat → Prop} {w : World} {l : Loc} {xs ys : List AV} {C C' : Array Value} (hc : CellsOK k S w l xs C) (hx : ∀ (j : Nat) c, ys[j]? = some c → xs[j]? = some c)
    (hl : ys.length ≤ xs.length) (hC : ∀ (j : Nat) v, j < ys.length → C'[j]? = some v → C[j]? = some v) : CellsOK k S w l ys C' := by
  unfold CellsOK at hc ⊢
  cases hk : k.d with
  | false =>
    rw [hk] at hc
    exact fun j x v hx' hv => hc j x v (hx j x hx') (hC j v (List.getElem?_eq_some_iff.1 hx').1 hv)
  | true =>
    rw [hk] at hc
    obtain ⟨fps, h1, h2, h3, h4, h5⟩ := hc
    refine ⟨fps.take ys.length, by simp; omega, fun j x v fp hx' hv hf => ?_, ?_, fun b hb => ?_, fun j x v hx' hv hs => ?_⟩
    · have hj := (List.getElem?_eq_some_iff.1 hx').1
      rw [List.getElem?_take, if_pos hj] at hf
      exact h2 j x v fp (hx j x hx') (hC j v hj hv) hf
    · rw [List.nodup_cons] at h3 ⊢
      have hsub : (fps.take ys.length).flatten.Sublist fps.flatten := by
        have : fps = fps.take ys.length ++ fps.drop ys.length := (List.take_append_drop _ _).symm
        rw [show fps.flatten = (fps.take ys.length).flatten ++ (fps.drop ys.length).flatten by rw [← List.flatten_append, ← this]]
        exact List.sublist_append_left _ _
      exact ⟨fun hm => h3.1 (hsub.subset hm), h3.2.sublist hsub⟩
    · refine h4 b ?_
      obtain ⟨l', hl', hb'⟩ := List.mem_flatten.1 hb
      exact List.mem_flatten.2 ⟨l', List.mem_of_mem_take hl', hb'⟩
    · exact h5 j x v (hx j x hx') (hC j v (List.getElem?_eq_some_iff.1 hx').1 hv) hs

theorem TL_take {α : Type} {f : α → AV} {t E E2 : TypeId} {sz : Nat} {dd : Bool} {a b : List α} {lo hi : Option Operand} {u : Int}
    (ht : tyElem P t = some (E2, sz)) (hx : aev s x = some (.ow id)) (hl : lk h id = some (.arr ⟨false, dd⟩ sz E (a.map f))) (hb : BndI s a.length lo hi 0 u) (hsl : sliceI a 0 u = some b)
    (hks : killSL [id] s = some s1) (hkh : killHL [id] h = some h1) (hh : sput (dropH [] h1) id (.arr ⟨false, dd⟩ sz E (b.map f)) = some h') (hN : Nat.blt d N = true) (hs : sput s1 d (.ow id) = some s')
    (k : TL P F N ops rest K ⟨s', h'⟩) : TL P F N ops (⟨some d, .slice t x lo hi none, ty, pos, after, none⟩ :: rest) K ⟨s, h⟩ := by
  refine TL_val rfl (fun φ act w hr => ?_) k
  obtain ⟨q1, q2, q3, q4, q5⟩ := sliceI_spec hsl
  have hbn := hb.bnds hsl
  obtain ⟨hsz0, hlens, hones, hob⟩ := hr.heap.obj _ _ hl
  have hX := hr.appX hx hl
  have hblen : b.length = u.toNat := by rw [q5]; simp at q4 ⊢; omega
  have hbt : b.map f = (a.map f).take u.toNat := by rw [q5, List.map_take]; simp
  have hbl : ∀ (j : Nat) c, (flat (b.map f))[j]? = some c → (flat (a.map f))[j]? = some c := by
    intro j c hc
    have : flat (a.map f) = flat (b.map f) ++ flat ((a.map f).drop u.toNat) := by
      rw [← flat_app, hbt, List.take_append_drop]
    rw [this, List.getElem?_append_left (List.getElem?_eq_some_iff.1 hc).1]; exact hc
  have hlens' : ∀ e ∈ b.map f, e.cells.length = sz := fun e he => hlens e (by rw [hbt] at he; exact List.mem_of_mem_take he)
  have hfb := flat_length hlens'
  have hfa := flat_length hlens
  suffices hfin : ∃ v' cs, (Instr.sliceAt t (act.eval x) (lo.map act.eval) (hi.map act.eval) none).run P w = .ok v' w ∧ AppR w w E sz (φ id) (φ id) (b.map f).length v' cs ∧
      (∀ C' : Array Value, C'.toList.take ((b.map f).length * sz) = cs → (φ id).mat = true → CellsOK ⟨false, dd⟩ (Stab F w φ h) w (φ id) (flat (b.map f)) C') by
    obtain ⟨v', cs, hrun, hres, hcells⟩ := hfin
    obtain ⟨hr', hv'⟩ := hr.appended [] (φ id).fp (φ id).sv hl rfl (by simp) (by simp) hks hkh hh hres (fun b hb => .inl hb) hlens' (fun j c hc => hones j c (hbl j c hc)) hcells
    exact ⟨v', w, (fun h => nomatch h), by rw [exec_slice]; simp only [Option.map_none, Sem.run_bind, hrun, Result.andThen_ok, Sem.run_pure], _, hr'.put (Nat.le_of_ble_eq_true hN) hs hv'⟩
  rcases hX.go with ⟨hm, hxv, C, hC, hle, hcm, hCs, _⟩ | ⟨hm, h0, _, hxv⟩
  · have hbr := run_bounds w (P := P) (isS := true) (cap := (φ id).cap) (fun y z hy => aev_rep hr hy) hbn (by omega) (by simp at hle; omega)
    have hrun : (Instr.sliceAt t (act.eval x) (lo.map act.eval) (hi.map act.eval) none).run P w = .ok (.slice (some ⟨(φ id).blk, 0, none⟩) (b.map f).length (φ id).cap) w := by
      rw [hxv, List.length_map, run_slice_slice ht hbr]
      have e0 : (if (φ id).cap = (0 : Int).toNat then some (⟨(φ id).blk, 0, none⟩ : Addr) else (some (⟨(φ id).blk, 0, none⟩ : Addr)).map (·.add ((0 : Int).toNat * sz))) = some ⟨(φ id).blk, 0, none⟩ := by
        split
        · rfl
        · simp [Addr.add]
      rw [e0]
      simp [hblen]
    refine ⟨_, C.toList.take ((b.map f).length * sz), hrun, ⟨SameSys.refl w, Nat.le_refl _, fun _ _ _ => rfl, rfl, rfl, .inr ⟨hm, rfl, ⟨C, hC, by simp at hle ⊢; omega, hcm, hCs, rfl⟩, .inl ⟨hm, rfl⟩⟩⟩, fun C' hC' _ => ?_⟩
    rcases hob with ⟨hf, _⟩ | ⟨_, C0, hC0, _, _, _, hrep⟩
    · rw [hm] at hf; cases hf
    · rw [hC] at hC0
      cases hC0
      refine hrep.front hbl (by rw [hfb, hfa]; exact Nat.mul_le_mul_right _ (by rw [List.length_map, List.length_map, hblen]; exact q4)) (fun j v hj hv => ?_)
      rw [hfb] at hj
      have h1 : (C'.toList.take ((b.map f).length * sz))[j]? = some v := by rw [List.getElem?_take, if_pos hj]; simpa using hv
      rw [hC', List.getElem?_take, if_pos hj] at h1
      simpa using h1
  · have hbr := run_bounds w (P := P) (isS := true) (cap := 0) (fun y z hy => aev_rep hr hy) hbn (by omega) (by rw [List.length_map] at h0; omega)
    have hb0 : (b.map f).length = 0 := by rw [List.length_map] at h0 ⊢; omega
    have hrun : (Instr.sliceAt t (act.eval x) (lo.map act.eval) (hi.map act.eval) none).run P w = .ok (.slice (φ id).va 0 0) w := by
      have h0' : a.length = 0 := by rw [List.length_map] at h0; exact h0
      rw [hxv]
      rw [h0'] at hbr
      rw [run_slice_slice ht hbr]
      simp
      omega
    refine ⟨_, [], hrun, ⟨SameSys.refl w, Nat.le_refl _, fun _ _ _ => rfl, rfl, rfl, .inl ⟨hm, hm, hb0, rfl, rfl⟩⟩, fun C' _ hm' => ?_⟩
    rw [hm] at hm'; cases hm'
end
end Go.AM

/- A slice against nil. -/
namespace Go.AM
open Go
section
variable {P : Program} {F : Fr} {N : Nat} {ops : Array Oper} {l rest : List Oper} {K : St → Prop} {ex : Bool}
variable {ty t t' : TypeId} {pos : String} {after : Array Edge} {d : Nat} {s s1 s2 : Slots} {h : Heap} {x y : Operand}

theorem run_equalIn {w : World} {e : TypeId} {a : Option Addr} {n c : Nat} (hu : P.underlying t = some (.slice e)) (k : Nat) :
    (Op.equalIn (k + 1) t (.slice a n c) (.slice none 0 0)).run P w = .ok a.isNone w := by
  unfold Op.equalIn
  simp only [Sem.run_bind, run_underlying hu, Result.andThen_ok]
  cases a <;> rfl
theorem run_equal {w : World} {e : TypeId} {a : Option Addr} {n c : Nat} (hu : P.underlying t = some (.slice e)) : (Op.equal t (.slice a n c) (.slice none 0 0)).run P w = .ok a.isNone w := by
  unfold Op.equal
  have : ∃ k, Op.maxDepth = k + 1 := ⟨Op.maxDepth - 1, rfl⟩
  obtain ⟨k, hk⟩ := this
  rw [hk]
  exact run_equalIn hu k
theorem run_eqNil {w : World} {e : TypeId} {a : Option Addr} {n c : Nat} (hu : P.underlying t = some (.slice e)) :
    (binOp .eql t (.slice a n c) (.slice none 0 0)).run P w = .ok (.bool a.isNone) w := by
  have : binOp .eql t (.slice a n c) (.slice none 0 0) = (do pure (.bool (← Op.equal t (.slice a n c) (.slice none 0 0)))) := rfl
  rw [this]
  simp only [Sem.run_bind, run_equal hu, Result.andThen_ok, Sem.run_pure]
theorem run_neNil {w : World} {e : TypeId} {a : Option Addr} {n c : Nat} (hu : P.underlying t = some (.slice e)) :
    (binOp .neq t (.slice a n c) (.slice none 0 0)).run P w = .ok (.bool (!a.isNone)) w := by
  have : binOp .neq t (.slice a n c) (.slice none 0 0) = (do pure (.bool (!(← Op.equal t (.slice a n c) (.slice none 0 0))))) := rfl
  rw [this]
  simp only [Sem.run_bind, run_equal hu, Result.andThen_ok, Sem.run_pure]
theorem eqGuard_sl (op : BinOp) (w : World) (a : Option Addr) (n c : Nat) (v : Value) : (eqGuard op t x y (.slice a n c) v).run P w = .ok () w := by
  have : eqGuard op t x y (.slice a n c) v = pure () := by cases op <;> rfl
  rw [this]; rfl
theorem sl_addr {S : Nat → Prop} {w : World} {φ : Nat → Loc} {η : Heap} {sz : Nat} {es : List AV} {v : Value} (hv : RepV S w φ η (.sl sz es) v) : ∃ a n c, v = .slice a n c ∧ (a = none → es = []) := by
  cases hv with
  | pure hv =>
    cases hv with
    | sl0 _ a cap _ => exact ⟨a, 0, cap, rfl, fun _ => rfl⟩
    | sl _ _ b off cap f _ => exact ⟨_, _, _, rfl, fun h => by cases h⟩
theorem snil_val {S : Nat → Prop} {w : World} {φ : Nat → Loc} {η : Heap} {v : Value} (hv : RepV S w φ η .snil v) : v = .slice none 0 0 := by
  cases hv with
  | pure h => cases h; rfl

/-- Whether a tree is nil: if so, it is empty. -/
theorem TL_eqNil {e : TypeId} {sz : Nat} {es : List AV} (hu : P.underlying t = some (.slice e)) (hx : aev s x = some (.sl sz es)) (hy : aev s y = some .snil) (hN : Nat.blt d N = true)
    (hs1 : sput s d (.bool true) = some s1) (hs2 : sput s d (.bool false) = some s2) (k1 : es = [] → TLE ex P F N ops rest K ⟨s1, h⟩) (k2 : TLE ex P F N ops rest K ⟨s2, h⟩) :
    TLE ex P F N ops (⟨some d, .binOp .eql t x y t', ty, pos, after, none⟩ :: rest) K ⟨s, h⟩ := by
  intro a w R hr hQ
  obtain ⟨φ, hp⟩ := hr
  obtain ⟨ad, n, c, hv, he⟩ := sl_addr (aev_rep hp hx)
  have hv2 := snil_val (aev_rep hp hy)
  have hrun : (execOp a.eval ⟨some d, .binOp .eql t x y t', ty, pos, after, none⟩).run P w = .ok (.value (.bool ad.isNone)) w := by
    simp only [exec_binOp, hv, hv2, Sem.run_bind, Sem.run_pure, eqGuard_sl, run_eqNil hu, Result.andThen_ok]
  refine wpList_plain rfl fun K' hK' => ?_
  unfold Oper.wp
  rw [hrun]
  cases ad with
  | none => exact hK' _ _ (k1 (he rfl) _ _ R ⟨φ, hp.put (Nat.le_of_ble_eq_true hN) hs1 (.pure (.bool true))⟩ (fun st' a' w'' hk hr'' he => hQ st' a' w'' hk hr'' he))
  | some ad => exact hK' _ _ (k2 _ _ R ⟨φ, hp.put (Nat.le_of_ble_eq_true hN) hs2 (.pure (.bool false))⟩ (fun st' a' w'' hk hr'' he => hQ st' a' w'' hk hr'' he))
theorem TL_neNil {e : TypeId} {sz : Nat} {es : List AV} (hu : P.underlying t = some (.slice e)) (hx : aev s x = some (.sl sz es)) (hy : aev s y = some .snil) (hN : Nat.blt d N = true)
    (hs1 : sput s d (.bool false) = some s1) (hs2 : sput s d (.bool true) = some s2) (k1 : es = [] → TLE ex P F N ops rest K ⟨s1, h⟩) (k2 : TLE ex P F N ops rest K ⟨s2, h⟩) :
    TLE ex P F N ops (⟨some d, .binOp .neq t x y t', ty, pos, after, none⟩ :: rest) K ⟨s, h⟩ := by
  intro a w R hr hQ
  obtain ⟨φ, hp⟩ := hr
  obtain ⟨ad, n, c, hv, he⟩ := sl_addr (aev_rep hp hx)
  have hv2 := snil_val (aev_rep hp hy)
  have hrun : (execOp a.eval ⟨some d, .binOp .neq t x y t', ty, pos, after, none⟩).run P w = .ok (.value (.bool (!ad.isNone))) w := by
    simp only [exec_binOp, hv, hv2, Sem.run_bind, Sem.run_pure, eqGuard_sl, run_neNil hu, Result.andThen_ok]
  refine wpList_plain rfl fun K' hK' => ?_
  unfold Oper.wp
  rw [hrun]
  cases ad with
  | none => exact hK' _ _ (k1 (he rfl) _ _ R ⟨φ, hp.put (Nat.le_of_ble_eq_true hN) hs1 (.pure (.bool false))⟩ (fun st' a' w'' hk hr'' he => hQ st' a' w'' hk hr'' he))
  | some ad => exact hK' _ _ (k2 _ _ R ⟨φ, hp.put (Nat.le_of_ble_eq_true hN) hs2 (.pure (.bool true))⟩ (fun st' a' w'' hk hr'' he => hQ st' a' w'' hk hr'' he))
end
end Go.AM

/- A window of what one owns. -/
namespace Go.AM
open Go
section
variable {P : Program} {s : Slots} {h : Heap} {dst : Option Tmp} {ty : TypeId} {pos : String} {after : Array Edge} {gd : Option (Nat × Bool)} {x y : Operand} {t : TypeId}

theorem op_win {α : Type} {f : α → AV} {E E2 : TypeId} {sz id : Nat} {kd : Kd} {a b : List α} {lo : Option Operand} {l : Int}
    (ht : tyElem P t = some (E2, sz)) (hx : aev s x = some (.ow id)) (hl : lk h id = some (.arr kd sz E (a.map f))) (hb : BndI s a.length lo none l (a.length : Int)) (hsl : sliceI a l (a.length : Int) = some b) :
    OpP P ⟨dst, .slice t x lo none none, ty, pos, after, gd⟩ s h (.win id l.toNat) := by
  intro S w φ η ρ hh hη hρ
  obtain ⟨h1, h2, h3, h4, h5⟩ := sliceI_spec hsl
  have hbn := hb.bnds hsl
  rw [Int.toNat_natCast] at hbn h3
  have hv := hρ _ _ hx
  have hl' := hη _ _ hl
  rw [exec_slice]
  generalize ρ x = v at hv
  cases hv with
  | pure hv => cases hv
  | ow0 g1 g2 =>
    rw [hl'] at g1
    have ha : a = [] := by have := (AO.arr.inj (Option.some.inj g1)).2.2.2; simpa using this
    subst ha
    obtain h0 : l.toNat = 0 := by simp at h3; omega
    have hbr := fun w' => run_bounds w' (P := P) (isS := true) (cap := 0) hρ hbn h3 (by simp)
    simp only [List.length_nil] at hbr
    refine ⟨_, fun w _ => by simp only [Option.map_none, Sem.run_bind] at hbr ⊢; rw [run_slice_slice ht (hbr w)]; simp only [Result.andThen_ok, Sem.run_pure]; rfl, ?_⟩
    rw [h0]
    exact .winE hl' (by simp)
  | ow g1 g2 =>
    rw [hl'] at g1
    cases g1
    obtain ⟨_, _, _, hob⟩ := hh.obj _ _ hl'
    rcases hob with ⟨hf, _⟩ | ⟨_, C, hC, hle, hcm, _, _⟩
    · rw [g2] at hf; cases hf
    · rw [List.length_map] at hle
      have hbr := fun w' => run_bounds w' (P := P) (isS := true) (cap := (φ id).cap) hρ hbn h3 hle
      simp only [List.length_map]
      refine ⟨_, fun w _ => by simp only [Option.map_none, Sem.run_bind] at hbr ⊢; rw [run_slice_slice ht (hbr w)]; simp only [Result.andThen_ok, Sem.run_pure]; rfl, ?_⟩
      by_cases hlt : l.toNat < a.length
      · have := RepV.win (S := S) (w := w) (φ := φ) (lo := l.toNat) hl' g2 (by rw [List.length_map]; exact hlt)
        rw [List.length_map] at this
        rw [if_neg (by omega)]
        simp only [Option.map_some, Addr.add_lit, Nat.zero_add]
        exact this
      · have : a.length - l.toNat = 0 := by omega
        rw [this]
        exact .winE hl' (by rw [List.length_map]; omega)
theorem op_index_win {id sz lo m : Nat} {kd : Kd} {E E' : TypeId} {es : List AV} {k : IntKind} {i : Int} (ht : tyElem P t = some (E, sz))
    (hx : aev s x = some (.win id lo)) (hl : lk h id = some (.arr kd sz E' es)) (hy : aev s y = some (.int k i)) (hi : i = (m : Int)) (he : lo + m < es.length) :
    OpP P ⟨dst, .indexAddr t x y, ty, pos, after, gd⟩ s h (.ptr id (lo + m) 0) := by
  intro S w φ η ρ hh hη hρ
  have hv := hρ _ _ hx
  have hy := (hρ _ _ hy).int_inv
  have hl' := hη _ _ hl
  subst hi
  rw [exec_indexAddr, hy]
  generalize ρ x = v at hv
  cases hv with
  | pure hv => cases hv
  | winE g1 g2 => rw [hl'] at g1; cases g1; omega
  | win g1 g2 g3 =>
    rw [hl'] at g1
    cases g1
    refine ⟨.pointer (some ⟨(φ id).blk, lo * sz + m * sz, none⟩), fun w _ => ?_, ?_⟩
    · simp only [Sem.run_bind, run_indexAt ht (show m < es.length - lo by omega), Result.andThen_ok, Sem.run_pure]
    · have := RepV.elt (S := S) (w := w) (φ := φ) (k := lo + m) (off := 0) hl' g2
      rw [← Nat.add_mul, ← Nat.add_zero ((lo + m) * sz)]
      exact this
theorem op_lenSub {id n k j sz z m : Nat} {p : Bool} {E e0 : TypeId} {es cs us : List AV} {e : AV} (hu : P.underlying t = some (.slice e0)) (hx : aev s x = some (.sub id n))
    (hl : lk h id = some (.arr ⟨p, true⟩ sz E es)) (he : es[k]? = some e) (hc : cellsO e = some cs) (hn : n = k * sz + j) (hj : cs[j]? = some (.sl z us)) (hm : us.length = m) :
    OpP P ⟨dst, .call ⟨.builtin .len, #[x], #[t]⟩, ty, pos, after, gd⟩ s h (.int .i64 (m : Int)) := by
  intro S w φ η ρ hh hη hρ
  have hv := hρ _ _ hx
  have ht := Vw0_rep (z := .sub id n) (x := .sl z us) hh hv (.inr (.inr ⟨id, n, k, j, p, sz, E, es, e, cs, rfl, hη _ _ hl, he, hc, hn, hj, rfl⟩))
  obtain ⟨a, cap, hva⟩ := RepV.sl_inv (S := Sall w) (w := w) (φ := φ) (η := η) (.pure ht)
  exact ⟨.int .i64 (m : Int), fun w' _ => by simp only [exec_len, hva, run_len_slice hu, Sem.run_bind, Sem.run_pure, Result.andThen_ok, hm], .pure (.int _ _)⟩
end
end Go.AM

/- The front of what a pointer shows. -/
namespace Go.AM
open Go
section
variable {P : Program} {s : Slots} {h : Heap} {dst : Option Tmp} {ty : TypeId} {pos : String} {after : Array Edge} {gd : Option (Nat × Bool)} {x y : Operand} {t : TypeId}

theorem op_fieldAddrC {cs cs1 cs2 : List AV} {f o n : Nat} (hf : tyField P t f = some o) (hx : aev s x = some (.cp cs)) (hq : afield o (.cp cs) = some (.cp cs1)) (hc : cs1.take n = cs2) :
    OpP P ⟨dst, .fieldAddr t x f, ty, pos, after, gd⟩ s h (.cp cs2) := by
  intro S w φ η ρ hh hη hρ
  obtain ⟨v, h1, h2⟩ := op_fieldAddr (dst := dst) (ty := ty) (pos := pos) (after := after) (gd := gd) hf hx hq S w φ η ρ hh hη hρ
  refine ⟨v, h1, ?_⟩
  subst hc
  cases h2 with
  | pure h =>
    cases h with
    | cp _ b off g hb hcell hr =>
      exact .pure (.cp _ b off g hb (fun j y hy => hcell j y (by rw [List.getElem?_take] at hy; split at hy; exact hy; cases hy)) (fun j y hy => hr j y (by rw [List.getElem?_take] at hy; split at hy; exact hy; cases hy)))
end
end Go.AM

/- Sizes, copies, comparisons, marks: the loops that every law has. Plain Lean. -/
namespace Go.AM

/-- What is left of a budget. -/
def szOut (c b : Nat) : Int := if c ≤ b then ((b - c : Nat) : Int) else -1
theorem szOut_ok {c b : Nat} (h : c ≤ b) : szOut c b = ((b - c : Nat) : Int) := if_pos h
theorem szOut_no {c b : Nat} (h : ¬ c ≤ b) : szOut c b = -1 := if_neg h
def SzP {α : Type} (sz : α → Int → Option Int) (c : α → Nat) (x : α) : Prop := ∀ b : Nat, b ≤ 1048576 → sz x b = some (szOut (c x) b)

theorem szW {n b : Nat} (hn : n ≤ 9223372036854775807) (hb : b ≤ 1048576) : w64 ((b : Int) - (n : Int)) = (b : Int) - (n : Int) := w64_eq (by omega)

theorem sz_flat {α : Type} {xs : List α} (hl : xs.length ≤ 9223372036854775807) {b : Nat} (hb : b ≤ 1048576) :
    (bif decide (w64 ((b : Int) - (xs.length : Int)) < 0) then some (-1 : Int) else some (w64 ((b : Int) - (xs.length : Int)))) = some (szOut xs.length b) := by
  rw [szW hl hb]
  unfold szOut
  by_cases h : xs.length ≤ b
  · rw [if_pos h, decide_eq_false (by omega)]; simp only [cond_false]; congr 1; omega
  · rw [if_neg h, decide_eq_true (by omega)]; rfl

theorem iter_sz {α : Type} {xs : List α} {c : α → Nat} {sz : α → Int → Option Int} {step : Int × Int → Option (Ctl (Int × Int) (Int ⊕ Int))}
    (hs : ∀ (n : Nat) x b, xs[n]? = some x → step (b, (n : Int)) = (sz x b).bind fun r => bif decide (r < 0) then some (.out (.inr (-1))) else some (.next (r, w64 ((n : Int) + 1))))
    (he : ∀ b, step (b, (xs.length : Int)) = some (.out (.inl b))) (hl : xs.length ≤ 9223372036854775807) (hsz : ∀ x ∈ xs, SzP sz c x) {b : Nat} (hb : b ≤ 1048576) :
    iter step ((b : Int), 0) = some (if (xs.map c).sum ≤ b then .inl ((b - (xs.map c).sum : Nat) : Int) else .inr (-1)) := by
  have key : ∀ (m n : Nat) (b : Nat), n + m = xs.length → b ≤ 1048576 →
      iter step ((b : Int), (n : Int)) = some (if ((xs.drop n).map c).sum ≤ b then .inl ((b - ((xs.drop n).map c).sum : Nat) : Int) else .inr (-1)) := by
    intro m
    induction m with
    | zero =>
      intro n b hn hb
      obtain rfl : n = xs.length := by omega
      rw [iter_out (he b)]; simp
    | succ m ih =>
      intro n b hn hb
      have hlt : n < xs.length := by omega
      have hx : xs[n]? = some xs[n] := by simp [hlt]
      have h := hs n _ b hx
      rw [hsz _ (List.getElem_mem hlt) b hb, Option.bind_some] at h
      rw [List.drop_eq_getElem_cons hlt]
      simp only [List.map_cons, List.sum_cons]
      by_cases hc : c xs[n] ≤ b
      · rw [szOut_ok hc, decide_eq_false (by omega), cond_false, w64_succ (by omega)] at h
        rw [iter_next h, ih (n + 1) (b - c xs[n]) (by omega) (by omega)]
        congr 1
        by_cases h2 : ((xs.drop (n + 1)).map c).sum ≤ b - c xs[n]
        · rw [if_pos h2, if_pos (by omega)]; congr 2; omega
        · rw [if_neg h2, if_neg (by omega)]
      · rw [szOut_no hc] at h
        rw [iter_out h, if_neg (by omega)]
  have := key xs.length 0 b (by omega) hb
  simpa using this

/-- A copy, element by element. -/
theorem iter_to {α : Type} {xs : List α} {z : α} {cp : α → Option α} {step : List α × Int → Option (Ctl (List α × Int) (List α))}
    (hs : ∀ (n : Nat) x ys, xs[n]? = some x → step (ys, (n : Int)) = (cp x).bind fun r => (getI ys (n : Int)).bind fun _ => some (.next (ys.set n r, w64 ((n : Int) + 1))))
    (he : ∀ ys, step (ys, (xs.length : Int)) = some (.out ys)) (hl : xs.length ≤ 1048576) (hc : ∀ x ∈ xs, cp x = some x) :
    iter step (List.replicate xs.length z, 0) = some xs := by
  have key : ∀ (m n : Nat), n + m = xs.length → iter step (xs.take n ++ List.replicate m z, (n : Int)) = some xs := by
    intro m
    induction m with
    | zero =>
      intro n hn
      obtain rfl : n = xs.length := by omega
      rw [iter_out (he _)]; simp
    | succ m ih =>
      intro n hn
      have hlt : n < xs.length := by omega
      have hx : xs[n]? = some xs[n] := by simp [hlt]
      have h := hs n _ (xs.take n ++ List.replicate (m + 1) z) hx
      have hg : getI (xs.take n ++ List.replicate (m + 1) z) (n : Int) = some z := by
        rw [getI_nat, List.getElem?_append_right (by simp; omega)]
        simp [List.getElem?_replicate]; omega
      rw [hc _ (List.getElem_mem hlt), Option.bind_some, hg, Option.bind_some, set_front hx (by omega), w64_succ (by omega)] at h
      rw [iter_next h]
      exact ih (n + 1) (by omega)
  have := key xs.length 0 (by omega)
  simpa using this

/-- A comparison, element by element. -/
theorem iter_eq {α : Type} [DecidableEq α] {xs ys : List α} {eq : α → α → Option Bool} {step : Int → Option (Ctl Int (Unit ⊕ Bool))}
    (hs : ∀ (n : Nat) x y, xs[n]? = some x → ys[n]? = some y → step (n : Int) = (eq x y).bind fun r => bif !r then some (.out (.inr false)) else some (.next (w64 ((n : Int) + 1))))
    (he : step (xs.length : Int) = some (.out (.inl ()))) (hl : xs.length ≤ 9223372036854775807) (hle : xs.length = ys.length) (hc : ∀ x ∈ xs, ∀ y, eq x y = some (decide (x = y))) :
    iter step 0 = some (if xs = ys then .inl () else .inr false) := by
  have key : ∀ (m n : Nat), n + m = xs.length → iter step (n : Int) = some (if xs.drop n = ys.drop n then .inl () else .inr false) := by
    intro m
    induction m with
    | zero =>
      intro n hn
      obtain rfl : n = xs.length := by omega
      rw [iter_out he]; rw [if_pos (by rw [List.drop_length, hle, List.drop_length])]
    | succ m ih =>
      intro n hn
      have hlt : n < xs.length := by omega
      have hlt2 : n < ys.length := by omega
      have h := hs n xs[n] ys[n] (by simp [hlt]) (by simp [hlt2])
      rw [hc _ (List.getElem_mem hlt), Option.bind_some] at h
      rw [List.drop_eq_getElem_cons hlt, List.drop_eq_getElem_cons hlt2]
      by_cases hxy : xs[n] = ys[n]
      · rw [decide_eq_true hxy, Bool.not_true, cond_false, w64_succ (by omega)] at h
        rw [iter_next h, ih (n + 1) (by omega)]
        congr 1
        by_cases h2 : xs.drop (n + 1) = ys.drop (n + 1)
        · rw [if_pos h2, if_pos (by rw [h2, hxy])]
        · rw [if_neg h2, if_neg (fun h => h2 (List.cons.inj h).2)]
      · rw [decide_eq_false hxy] at h
        rw [iter_out h, if_neg (fun h => hxy (List.cons.inj h).1)]
  have := key xs.length 0 (by omega)
  simpa using this

/-- Marks: the numbers from k on are written, and found again. -/
def MkP {α : Type} (mk : α → Int → Option (Int × α)) (held : α → Int → Option Int) (m : α → Nat) (x : α) : Prop :=
  ∀ k : Nat, k + m x ≤ 4611686018427387904 → ∃ x', mk x k = some (((k + m x : Nat) : Int), x') ∧ held x' k = some ((k + m x : Nat) : Int)

theorem iter_mark {α : Type} {xs : List α} {m : α → Nat} {mk : α → Int → Option (Int × α)} {held : α → Int → Option Int} {step : List α × Int × Int → Option (Ctl (List α × Int × Int) (Int × List α))}
    {hstep : List α → Int × Int → Option (Ctl (Int × Int) (Int ⊕ Int))}
    (hs : ∀ (n : Nat) ys x (k : Nat), k ≤ 4611686018427387904 → ys[n]? = some x → step (ys, (k : Int), (n : Int)) = (mk x k).bind fun r => some (.next (ys.set n r.2, r.1, w64 ((n : Int) + 1))))
    (he : ∀ ys k, step (ys, k, (ys.length : Int)) = some (.out (k, ys)))
    (gs : ∀ (n : Nat) (ys : List α) x (k : Nat), k ≤ 4611686018427387904 → ys[n]? = some x → hstep ys ((k : Int), (n : Int)) = (held x k).bind fun r => bif decide (r < 0) then some (.out (.inr (-1))) else some (.next (r, w64 ((n : Int) + 1))))
    (ge : ∀ ys k, hstep ys (k, (ys.length : Int)) = some (.out (.inl k)))
    (hl : xs.length ≤ 9223372036854775807) (hm : ∀ x ∈ xs, MkP mk held m x) {k : Nat} (hk : k + (xs.map m).sum ≤ 4611686018427387904) :
    ∃ xs', iter step (xs, (k : Int), 0) = some (((k + (xs.map m).sum : Nat) : Int), xs') ∧ xs'.length = xs.length ∧ iter (hstep xs') ((k : Int), 0) = some (.inl ((k + (xs.map m).sum : Nat) : Int)) := by
  have key : ∀ (q n : Nat) (ys : List α) (k : Nat), n + q = xs.length → ys.length = xs.length → ys.drop n = xs.drop n → k + ((xs.drop n).map m).sum ≤ 4611686018427387904 →
      ∃ xs', iter step (ys, (k : Int), (n : Int)) = some (((k + ((xs.drop n).map m).sum : Nat) : Int), xs') ∧ xs'.length = xs.length ∧ xs'.take n = ys.take n ∧
        iter (hstep xs') ((k : Int), (n : Int)) = some (.inl ((k + ((xs.drop n).map m).sum : Nat) : Int)) := by
    intro q
    induction q with
    | zero =>
      intro n ys k hn hy _ hk
      obtain rfl : n = xs.length := by omega
      have h1 := he ys k
      have h2 := ge ys k
      rw [hy] at h1 h2
      refine ⟨ys, ?_, hy, rfl, ?_⟩
      · rw [iter_out h1]; simp
      · rw [iter_out h2]; simp
    | succ q ih =>
      intro n ys k hn hy hd hk
      have hlt : n < xs.length := by omega
      have hyn : ys[n]? = some xs[n] := by
        have := congrArg (fun l => l[0]?) hd
        simpa [List.getElem?_drop, hlt] using this
      rw [List.drop_eq_getElem_cons hlt] at hk ⊢
      simp only [List.map_cons, List.sum_cons] at hk ⊢
      obtain ⟨x', m1, m2⟩ := hm _ (List.getElem_mem hlt) k (by omega)
      have h := hs n ys _ k (by omega) hyn
      rw [m1, Option.bind_some, w64_succ (by omega)] at h
      obtain ⟨xs', e1, e2, e3, e4⟩ := ih (n + 1) (ys.set n x') (k + m xs[n]) (by omega) (by simpa using hy)
        (by
          have := congrArg (fun l => l.drop 1) hd
          simp only [List.drop_drop] at this
          rw [List.drop_set_of_lt (by omega)]; exact this) (by omega)
      have e5 : xs'[n]? = some x' := by
        have := congrArg (fun l => l[n]?) e3
        simp only [List.getElem?_take, Nat.lt_succ_self, if_true] at this
        rw [this, List.getElem?_set_self (by omega)]
      refine ⟨xs', ?_, e2, ?_, ?_⟩
      · rw [iter_next h, e1]; congr 2; omega
      · have := congrArg (fun l => l.take n) e3
        simp only [List.take_take, Nat.min_eq_left (Nat.le_succ n)] at this
        rw [this]
        exact List.take_set_of_le (Nat.le_refl _)
      · have g := gs n xs' x' k (by omega) e5
        rw [m2, Option.bind_some, decide_eq_false (by omega), cond_false, w64_succ (by omega)] at g
        rw [iter_next g, e4]; congr 2; omega
  obtain ⟨xs', e1, e2, _, e4⟩ := key xs.length 0 xs k (by omega) rfl rfl (by simpa using hk)
  exact ⟨xs', by simpa using e1, e2, by simpa using e4⟩

end Go.AM
namespace Go.AM
theorem dec_neg (n : Nat) : decide ((n : Int) < 0) = false := decide_eq_false (by omega)
theorem dec_refl {α : Type} [DecidableEq α] (x : α) : decide (x = x) = true := decide_eq_true rfl
theorem bool_beq (b : Bool) : (b == b) = true := by cases b <;> rfl
end Go.AM
