/- A call on a slice within an owned array. -/
import Derived.Test.YtlijhkhbdfgapaaAmZb
namespace Go.AM
open Go

section
variable {F : Fr} {N : Nat} {P : Program}
variable {ops : Array Oper} {rest : List Oper} {K : St → Prop}
variable {ty : TypeId} {pos : String} {after : Array Edge} {d id : Nat} {s s' : Slots} {h h' : Heap}

/-- The callee's arguments: the handle becomes its object, the others are trees. -/
def ArgSub (id n : Nat) : List AV → List AV → Prop
  | [], [] => True
  | z :: r, x :: q => ((z = .sub id n ∧ x = .ow 0) ∨ (noIds z = true ∧ x = z)) ∧ ArgSub id n r q
  | _, _ => False
theorem ArgSub_get {id n : Nat} : ∀ {zs xs : List AV}, ArgSub id n zs xs → xs.length = zs.length ∧ ∀ (i : Nat) z x, zs[i]? = some z → xs[i]? = some x → (z = .sub id n ∧ x = .ow 0) ∨ (noIds z = true ∧ x = z) := by
  intro zs
  induction zs with
  | nil => intro xs h; cases xs with
    | nil => exact ⟨rfl, fun i z x hz => by simp at hz⟩
    | cons _ _ => exact h.elim
  | cons z r ih =>
    intro xs h
    cases xs with
    | nil => exact h.elim
    | cons x q =>
      obtain ⟨h1, h2⟩ := ih h.2
      refine ⟨by simp [h1], fun i a b ha hb => ?_⟩
      cases i with
      | zero => simp at ha hb; subst ha hb; exact h.1
      | succ i => simp at ha hb; exact h2 i a b ha hb

theorem flatV_tree {S S' : Nat → Prop} {w w' : World} {φ φ' : Nat → Loc} {h h' : Heap} {r : AV} {v : Value} (hf : flatV r = true) (hv : RepV S w φ h r v) : RepV S' w' φ' h' r v :=
  .pure (flatV_rep hf hv)

theorem RelP.callSub {f : FuncId} {n sz sz' i j : Nat} {p : Bool} {E : TypeId} {es ec es1 es2 : List AV} {e e' : AV} {zs xs : List AV} {r : AV} {φ : Nat → Loc} {a : Act} {w : World} {vs : Array Value}
    (hr : RelP F N ⟨s, h⟩ φ a w) (hsz' : 0 < sz') (hl : lk h id = some (.arr ⟨p, true⟩ sz E es)) (he : es[i]? = some e) (hec : cellsO e = some ec) (hej : ec[j]? = some (.sl sz' es1)) (hn : n = i * sz + j)
    (hc : ∀ E', ACall P f xs [(0, .arr ⟨true, true⟩ sz' E' es1)] r [(0, .arr ⟨true, true⟩ sz' E' es2)]) (hvs : PW (Stab F w φ h) w φ h zs vs.toList) (hxs : ArgSub id n zs xs) (hf : flatV r = true)
    (hec' : e'.cells = ec.set j (.sl sz' es2)) (hh : sput h id (.arr ⟨p, true⟩ sz E (es.set i e')) = some h') :
    Calls P f vs w fun en w' => ∃ v, en = .returned v ∧ RelP F N ⟨s, h'⟩ φ a w' ∧ RepV (Stab F w' φ h') w' φ h' r v := by
  subst hn
  obtain rfl := cellsO_eq hec
  obtain ⟨hsz, hlens, hones, hob⟩ := hr.heap.obj _ _ hl
  have hek : e.cells.length = sz := hlens e (List.mem_of_getElem? he)
  have hjs : j < sz := by rw [← hek]; exact (List.getElem?_eq_some_iff.1 hej).1
  have hi := (List.getElem?_eq_some_iff.1 he).1
  rcases hob with ⟨_, rfl⟩ | ⟨hm, C, hC, hle, hcm, hCs, hrep⟩
  · simp at he
  obtain ⟨fps, f1, f2, f3, f4, f5⟩ := (show CellsOK ⟨p, true⟩ (Stab F w φ h) w (φ id) (flat es) C from hrep)
  have hfe := flat_length hlens
  have hin : i * sz + sz ≤ es.length * sz := by rw [← Nat.succ_mul]; exact Nat.mul_le_mul_right _ hi
  have hflat : (flat es)[i * sz + j]? = some (.sl sz' es1) := by rw [flat_get hlens he hjs]; exact hej
  have hlt : i * sz + j < C.size := by
    have : es.length * sz ≤ C.size := by rw [hCs]; exact Nat.mul_le_mul_right _ hle
    omega
  obtain ⟨v0, hv0⟩ : ∃ v0, C[i * sz + j]? = some v0 := ⟨C[i * sz + j], by simp [hlt]⟩
  obtain ⟨fp, hfp⟩ : ∃ fp, fps[i * sz + j]? = some fp := ⟨fps[i * sz + j]'(by rw [f1, hfe]; omega), by simp⟩
  have hlin := f2 _ _ _ _ hflat hv0 hfp
  have hsv := f5 _ _ _ hflat hv0 rfl
  have hfpm : ∀ b ∈ fp, b ∈ fps.flatten := fun b hb => List.mem_flatten.2 ⟨fp, List.mem_of_getElem? hfp, hb⟩
  obtain ⟨hroot, hnd⟩ := List.nodup_cons.1 f3
  -- the other cells' blocks are others
  have hothers : ∀ (q : Nat) fq, q ≠ i * sz + j → fps[q]? = some fq → ∀ b ∈ fq, b ∉ fp := by
    intro q fq hq hfq b hb hb2
    rw [List.Nodup, List.pairwise_flatten] at hnd
    have hpw := List.pairwise_iff_getElem.1 hnd.2
    have hq1 := (List.getElem?_eq_some_iff.1 hfq)
    have hq2 := (List.getElem?_eq_some_iff.1 hfp)
    obtain ⟨l1, e1⟩ := hq1
    obtain ⟨l2, e2⟩ := hq2
    rcases Nat.lt_or_gt_of_ne hq with hlt | hgt
    · exact hpw q (i * sz + j) l1 l2 hlt b (by rw [e1]; exact hb) b (by rw [e2]; exact hb2) rfl
    · exact hpw (i * sz + j) q l2 l1 hgt b (by rw [e2]; exact hb2) b (by rw [e1]; exact hb) rfl
  -- the callee's object
  have hloc : ∃ (E' : TypeId) (l0 : Loc), ObjOK (Stab F w φ h) w (fun _ => l0) [(0, .arr ⟨true, true⟩ sz' E' es1)] 0 (.arr ⟨true, true⟩ sz' E' es1) ∧ (∀ b, l0.owns b → b ∈ fp) ∧
      ((l0.mat = true ∧ v0 = .slice (some ⟨l0.blk, 0, none⟩) es1.length l0.cap) ∨ (l0.mat = false ∧ es1 = [] ∧ v0 = .slice l0.va 0 0)) ∧
      (∀ (w' : World) (S' : Nat → Prop) (es2 : List AV), es2.length = es1.length → ObjOK S' w' (fun _ => l0) [(0, .arr ⟨true, true⟩ sz' E' es2)] 0 (.arr ⟨true, true⟩ sz' E' es2) → ∃ fp', LinT w' (.sl sz' es2) v0 fp' ∧ fp'.Nodup ∧ ∀ b ∈ fp', b ∈ fp) := by
    have hnfp : fp.Nodup := by
      rw [List.Nodup, List.pairwise_flatten] at hnd
      exact hnd.1 fp (List.mem_of_getElem? hfp)
    cases hlin with
    | sl0 _ a0 =>
      refine ⟨0, ⟨0, 0, false, [], a0, fun _ => (none, 0, 0)⟩, ⟨hsz', fun e he => by simp at he, fun j x hx => by simp [flat] at hx, .inl ⟨rfl, rfl⟩⟩, fun b hb => ?_, .inr ⟨rfl, rfl, rfl⟩, fun w' S' es2 hl2 _ => ?_⟩
      · rcases hb with ⟨hb, _⟩ | hb
        · cases hb
        · simp at hb
      · have : es2 = [] := List.eq_nil_of_length_eq_zero (by simpa using hl2)
        subst this
        exact ⟨[], .sl0 _ _, by simp, fun b hb => by simp at hb⟩
    | sl _ _ b cap C1 E1 fps1 g2 g3 g4 g5 g6 g7 g8 g9 g10 =>
      refine ⟨E1, ⟨b, cap, true, fps1.flatten, none, fun j => comps (C1.getD j undef)⟩, ⟨g6, g7, g8, .inr ⟨rfl, C1, g2, g4, g5, g3, fps1, g9, g10, hnfp, fun b hb => hb, fun j x v hx hv hs => ?_⟩⟩, fun c hc => ?_,
        .inl ⟨rfl, rfl⟩, fun w' S' es2 hl2 hok => ?_⟩
      · have hp : fps1[j]? = some (fps1[j]'(by rw [g9]; exact (List.getElem?_eq_some_iff.1 hx).1)) := by simp
        have hg : C1.getD j undef = v := by simp [Array.getD_eq_getD_getElem?, hv]
        show v = .slice (comps (C1.getD j undef)).1 (comps (C1.getD j undef)).2.1 (comps (C1.getD j undef)).2.2
        rw [hg]
        exact (g10 j x v _ hx hv hp).comps hs
      · rcases hc with ⟨_, hc⟩ | hc
        · exact List.mem_cons.2 (.inl hc.symm)
        · exact List.mem_cons.2 (.inr hc)
      · obtain ⟨k1, k2, k3, k4⟩ := hok
        rcases k4 with ⟨hf, _⟩ | ⟨_, C2, hC2, k5, k6, k7, k8⟩
        · cases hf
        · obtain ⟨fps2, m1, m2, m3, m4, _⟩ := (show CellsOK ⟨true, true⟩ S' w' _ (flat es2) C2 from k8)
          rw [← hl2]
          exact ⟨_, .sl sz' es2 b cap C2 E1 fps2 hC2 k7 k5 k6 k1 k2 k3 m1 m2, m3, fun c hc => by
            rcases List.mem_cons.1 hc with hc | hc
            · exact List.mem_cons.2 (.inl hc)
            · exact List.mem_cons.2 (.inr (m4 c hc))⟩
  obtain ⟨E', l0, hob0, hown0, hval0, hback⟩ := hloc
  have hown : ∀ b, l0.owns b → (φ id).owns b := fun b hb => .inr (f4 b (hfpm b (hown0 b hb)))
  have hHc : HeapOK (Stab F w φ h) w (fun _ => l0) [(0, .arr ⟨true, true⟩ sz' E' es1)] := by
    refine ⟨fun k o ho => ?_, fun k k' o o' b ho ho' _ _ => ?_, fun b hb => hb.1, fun k o b ho hm hst => hst.2.2 id _ hl (hown b hm), fun k o b ho hm => hr.heap.ltO id _ b hl (hown b hm)⟩
    · rw [lk_cons] at ho
      split at ho
      · rename_i hk; subst hk; cases ho; exact hob0
      · cases ho
    · rw [lk_cons] at ho ho'
      split at ho
      · rename_i hk; subst hk
        split at ho'
        · rename_i hk'; exact hk'
        · cases ho'
      · cases ho
  obtain ⟨hxl, hxr⟩ := ArgSub_get hxs
  have hargs : PW (Stab F w φ h) w (fun _ => l0) [(0, .arr ⟨true, true⟩ sz' E' es1)] xs vs.toList := by
    refine ⟨by rw [hxl]; exact hvs.1, fun q x v hx hv => ?_⟩
    obtain ⟨z, hz⟩ : ∃ z, zs[q]? = some z := ⟨zs[q]'(by rw [← hxl]; exact (List.getElem?_eq_some_iff.1 hx).1), by simp⟩
    have hrz := hvs.2 q z v hz hv
    rcases hxr q z x hz hx with ⟨rfl, rfl⟩ | ⟨hno, rfl⟩
    · have hveq : v = v0 := by
        cases hrz with
        | pure h => cases h
        | sub _ => exact hsv.symm
      subst hveq
      rcases hval0 with ⟨hm0, e0⟩ | ⟨hm0, rfl, e0⟩
      · rw [e0]; exact .ow (by rw [lk_cons, if_pos rfl]) hm0
      · rw [e0]; exact .ow0 (by rw [lk_cons, if_pos rfl]) hm0
    · exact .pure (hrz.tree hno)
  refine (hc E' w (Stab F w φ h) (fun _ => l0) vs hHc hargs).mono ?_
  rintro en w' ⟨v, φ', rfl, hret⟩
  refine ⟨v, rfl, ?_, flatV_tree hf hret.val⟩
  -- the object of the callee's, afterwards
  have hl0 : lk [((0 : Nat), AO.arr ⟨true, true⟩ sz' E' es1)] 0 = some (.arr ⟨true, true⟩ sz' E' es1) := by rw [lk_cons, if_pos rfl]
  have hl0' : lk [((0 : Nat), AO.arr ⟨true, true⟩ sz' E' es2)] 0 = some (.arr ⟨true, true⟩ sz' E' es2) := by rw [lk_cons, if_pos rfl]
  have hφ0 : φ' 0 = l0 := hret.fix 0 _ hl0 (by simp [AO.isBox])
  have hlen2 : es2.length = es1.length := by
    obtain ⟨o', ho', hal⟩ := hret.keep 0 _ hl0
    rw [hl0'] at ho'
    cases ho'
    exact (hal.2 rfl).2.2
  have hobj' : ObjOK (Stab ⟨w, Stab F w φ h, fun _ => l0, [(0, .arr ⟨true, true⟩ sz' E' es1)]⟩ w' φ' [(0, .arr ⟨true, true⟩ sz' E' es2)]) w' (fun _ => l0) [(0, .arr ⟨true, true⟩ sz' E' es2)] 0 (.arr ⟨true, true⟩ sz' E' es2) := by
    have := hret.heap.obj 0 _ hl0'
    obtain ⟨k1, k2, k3, k4⟩ := this
    rw [hφ0] at k4
    exact ⟨k1, k2, k3, k4⟩
  obtain ⟨fp', hlin', hnd', hsub'⟩ := hback w' _ es2 hlen2 hobj'
  have hframe : ∀ b, b < w.heap.size → b ∉ fp → w'.heap[b]? = w.heap[b]? := by
    intro b hb hnb
    refine hret.frame b hb ?_
    rintro ⟨k, o, ho, hw⟩
    exact hnb (hown0 b hw)
  have hlk := lk_sput hh
  have hal : headsAlike φ φ h h' := by
    refine ⟨fun q cs1 hq _ => ?_, fun q k1 sz1 E1 es1 hq => ⟨rfl, ?_⟩⟩
    · have hid : id ≠ q := fun e => by subst e; rw [hl] at hq; cases hq
      exact ⟨⟨cs1, by rw [hlk, if_neg hid]; exact hq⟩, rfl⟩
    · by_cases hid : id = q
      · subst hid
        rw [hl] at hq
        cases hq
        exact ⟨_, _, List.length_set, by rw [hlk, if_pos rfl]⟩
      · exact ⟨k1, es1, rfl, by rw [hlk, if_neg hid]; exact hq⟩
  have he'k : e'.cells.length = sz := by rw [hec']; simp [hek]
  refine hr.upd hh (fun _ _ => rfl) hret.sys hret.grow (fun b hb hno => hframe b hb (fun hbf => hno _ hl (.inr (f4 b (hfpm b hbf))))) (fun b hbo => .inr ⟨_, hl, hbo⟩) (fun o1 h1 h2 => hr.fix id o1 h1 h2)
    (fun o ho => by rw [hl] at ho; cases ho; exact ⟨rfl, fun _ => ⟨rfl, rfl, by simp⟩⟩) (fun hS hw x v _ hv => hv.mono hS hw hal) (fun hS hw => ?_)
  have hlens' : ∀ u ∈ es.set i e', u.cells.length = sz := by
    intro u hu
    rcases List.mem_or_eq_of_mem_set hu with hu | rfl
    · exact hlens u hu
    · exact he'k
  -- the cells of the new row
  have hcell : ∀ (q : Nat) c, (flat (es.set i e'))[q]? = some c → (q = i * sz + j ∧ c = .sl sz' es2) ∨ (q ≠ i * sz + j ∧ (flat es)[q]? = some c) := by
    intro q c hq
    obtain ⟨q1, r1, u, rfl, hr1, hq1, hu, hcu⟩ := flat_get_inv hsz hlens' hq
    rw [List.length_set] at hq1
    by_cases hqi : i = q1
    · subst hqi
      rw [List.getElem?_set_self hi] at hu
      cases hu
      rw [hec', List.getElem?_set] at hcu
      split at hcu
      · rename_i hjr; subst hjr
        split at hcu
        · cases hcu; exact .inl ⟨rfl, rfl⟩
        · cases hcu
      · rename_i hjr
        exact .inr ⟨by omega, by rw [flat_get hlens he hr1]; exact hcu⟩
    · rw [List.getElem?_set_ne hqi] at hu
      refine .inr ⟨fun e => ?_, by rw [flat_get hlens hu hr1]; exact hcu⟩
      have h1 : (q1 * sz + r1) / sz = q1 := by rw [Nat.mul_comm, Nat.mul_add_div hsz, Nat.div_eq_of_lt hr1]; omega
      have h2 : (i * sz + j) / sz = i := by rw [Nat.mul_comm, Nat.mul_add_div hsz, Nat.div_eq_of_lt hjs]; omega
      rw [e, h2] at h1
      exact hqi h1
  have hrootw : w'.heap[(φ id).blk]? = w.heap[(φ id).blk]? := hframe _ (hr.heap.ltB hl hm) (fun hb => hroot (hfpm _ hb))
  refine ⟨hsz, hlens', fun q c hq => ?_, .inr ⟨hm, C, by rw [hrootw]; exact hC, by simpa using hle, hcm, hCs, ?_⟩⟩
  · rcases hcell q c hq with ⟨_, rfl⟩ | ⟨_, hq'⟩
    · rfl
    · exact hones q c hq'
  · refine ⟨fps.set (i * sz + j) fp', ?_, fun q c u fq hc hu hfq => ?_, ?_, fun b hb => ?_, fun q c u hc hu hs => ?_⟩
    · rw [List.length_set, f1, flat_length hlens', List.length_set, hfe]
    · rcases hcell q c hc with ⟨rfl, rfl⟩ | ⟨hne, hq'⟩
      · rw [List.getElem?_set_self (by rw [f1, hfe]; omega)] at hfq
        cases hfq
        rw [hv0] at hu
        cases hu
        exact hlin'
      · rw [List.getElem?_set_ne (Ne.symm hne)] at hfq
        refine (f2 q c u fq hq' hu hfq).mono (fun b hb => hframe b (hr.heap.ltO id _ b hl (.inr (f4 b (List.mem_flatten.2 ⟨fq, List.mem_of_getElem? hfq, hb⟩)))) (hothers q fq hne hfq b hb))
    · -- no block twice
      have hsubm : ∀ b, b ∈ (fps.set (i * sz + j) fp').flatten → b ∈ fps.flatten := by
        intro b hb
        obtain ⟨l, h1, h2⟩ := List.mem_flatten.1 hb
        rcases List.mem_or_eq_of_mem_set h1 with h1 | rfl
        · exact List.mem_flatten.2 ⟨l, h1, h2⟩
        · exact hfpm b (hsub' b h2)
      rw [List.nodup_cons]
      refine ⟨fun hb => hroot (hsubm _ hb), ?_⟩
      have hnd0 := hnd
      rw [List.Nodup, List.pairwise_flatten] at hnd ⊢
      refine ⟨fun l hl => ?_, List.pairwise_iff_getElem.2 (fun q1 q2 l1 l2 hq => ?_)⟩
      · rcases List.mem_or_eq_of_mem_set hl with hl | rfl
        · exact hnd.1 l hl
        · exact hnd'
      · have hpw := List.pairwise_iff_getElem.1 hnd.2
        rw [List.length_set] at l1 l2
        intro b hb c hc e
        subst e
        rw [List.getElem_set] at hb hc
        split at hb
        · rename_i hq1; subst hq1
          rw [if_neg (by omega)] at hc
          exact hothers q2 _ (by omega) (List.getElem?_eq_getElem l2) b hc (hsub' b hb)
        · split at hc
          · rename_i hq2; subst hq2
            exact hothers q1 _ (by omega) (List.getElem?_eq_getElem l1) b hb (hsub' b hc)
          · exact hpw q1 q2 l1 l2 hq b hb b hc rfl
    · obtain ⟨l, h1, h2⟩ := List.mem_flatten.1 hb
      rcases List.mem_or_eq_of_mem_set h1 with h1 | rfl
      · exact f4 b (List.mem_flatten.2 ⟨l, h1, h2⟩)
      · exact f4 b (hfpm b (hsub' b h2))
    · rcases hcell q c hc with ⟨rfl, rfl⟩ | ⟨hne, hq'⟩
      · rw [hv0] at hu; cases hu; exact hsv
      · exact f5 q c u hq' hu hs

/-- A call on a slice within an owned array: the callee writes into it, and makes it no longer. -/
theorem TL_callSub {f : FuncId} {args : Array Operand} {tys : Array TypeId} {n sz sz' i j : Nat} {p : Bool} {E : TypeId} {es es' ec ec' es1 es2 : List AV} {e e' : AV} {zs xs : List AV} {r : AV}
    (hc : ∀ E', ACall P f xs [(0, .arr ⟨true, true⟩ sz' E' es1)] r [(0, .arr ⟨true, true⟩ sz' E' es2)]) (hcall : ∀ args w, (callFunc f args).run P w = .ok (.enter f args) w)
    (hz : aevL s args.toList = some zs) (hl : lk h id = some (.arr ⟨p, true⟩ sz E es)) (he : es[i]? = some e) (hec : cellsO e = some ec) (hej : ec[j]? = some (.sl sz' es1)) (hn : n = i * sz + j)
    (hsz' : Nat.blt 0 sz' = true) (hxs : ArgSub id n zs xs) (hf : flatV r = true) (hec' : cellsO e' = some ec') (hecj : ec' = ec.set j (.sl sz' es2)) (hes : es' = es.set i e')
    (hh : sput h id (.arr ⟨p, true⟩ sz E es') = some h') (hN : Nat.blt d N = true) (hs : sput s d r = some s')
    (k : TL P F N ops rest K ⟨s', h'⟩) : TL P F N ops (⟨some d, .call ⟨.value (.func f), args, tys⟩, ty, pos, after, none⟩ :: rest) K ⟨s, h⟩ := by
  refine TL_enter (vs := fun a => args.map a.eval) rfl (fun φ a w hr => exec_call rfl rfl hcall) (fun φ a w hr => ?_) k
  subst hes
  obtain ⟨g1, g2⟩ := aevL_rep (fun y z hy => aev_rep hr hy) hz
  refine (hr.callSub (Nat.le_of_ble_eq_true hsz') hl he hec hej hn hc ⟨by rw [g1, Array.length_toList], fun i x v hx hv => g2 i x v hx (by simpa using hv)⟩ hxs hf (by rw [← cellsO_eq hec', hecj]) hh).mono ?_
  rintro en w' ⟨v, rfl, hr2, hv⟩
  exact ⟨v, rfl, ⟨φ, hr2.put (Nat.le_of_ble_eq_true hN) hs hv⟩, fun h => nomatch h⟩
end
end Go.AM
