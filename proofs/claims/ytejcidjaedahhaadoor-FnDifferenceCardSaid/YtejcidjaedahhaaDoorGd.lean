import Derived.Test.YtejcidjaedahhaaDoorGc
import Derived.Laws.BytesArg
import Derived.Test.YtejcidjaedahhaaDoorGb
import Derived.Below
namespace Go.AM
open Go Go.RowKit
section
variable {P : Program} {s : Slots} {h : Heap} {dst : Option Tmp} {ty : TypeId} {pos : String} {after : Array Edge} {gd : Option (Nat × Bool)}
variable {x : Operand} {t t' : TypeId}
end
section
variable {P : Program} {F : Fr} {N : Nat} {ops : Array Oper} {l rest : List Oper} {KK : St → Prop} {ex : Bool}
variable {ty t t' : TypeId} {pos : String} {after : Array Edge} {d : Nat} {s s' : Slots} {h h' : Heap} {x : Operand}
theorem TL_callVT {f : FuncId} {g : Operand} {args : Array Operand} {tys : Array TypeId} {zs fs cs xs : List AV} {r : AV} (hg : aev s g = some (.fn (.func f) fs cs)) (hc : ACallF F P f xs [] r [])
    (hcall : ∀ args w, (callFunc f args).run P w = .ok (.enter f args) w)
    (hz : aevL s args.toList = some zs) (hx : fs ++ zs ++ cs = xs) (hn : noIdsL xs = true) (hf : noIds r = true) (hN : Nat.blt d N = true) (hs : sput s d r = some s')
    (k : TLE ex P F N ops rest KK ⟨s', h⟩) : TLE ex P F N ops (⟨some d, .call ⟨.value g, args, tys⟩, ty, pos, after, none⟩ :: rest) KK ⟨s, h⟩ := by
  intro a w R hr hQ
  obtain ⟨φ, hr⟩ := hr
  obtain ⟨as, bs, hgv, a1, b1, a2, b2⟩ := (aev_rep hr hg).fn_inv
  refine wpList_plain rfl fun K' hK' => ?_
  unfold Oper.wp
  rw [exec_callV (o := ⟨some d, .call ⟨.value g, args, tys⟩, ty, pos, after, none⟩) rfl hgv hcall]
  obtain ⟨g1, g2⟩ := aevL_rep (fun y z hy => aev_rep hr hy) hz
  have hpw : PW (Stab F w φ h) w φ h (fs ++ zs ++ cs) (as ++ args.map a.eval ++ bs).toList := by
    simp only [Array.toList_append]
    exact PW.append (PW.append ⟨by simpa using a1, fun i x v hx hv => a2 i x v hx (by simpa using hv)⟩ ⟨by simpa using g1, fun i x v hx hv => g2 i x v hx (by simpa using hv)⟩)
      ⟨by simpa using b1, fun i x v hx hv => b2 i x v hx (by simpa using hv)⟩
  rw [hx] at hpw
  refine (hr.call (ρ := []) (ρn := []) (ks := []) hc rfl hpw (renL_nil _ hn) rfl rfl trivial rfl rfl rfl rfl (renO_nil _ hf) rfl killSL_nil killHL_nil rfl).mono ?_
  rintro e w' ⟨v, φ', rfl, hr2, hv, hext⟩
  have hext := hext rfl
  exact hK' _ _ (k _ _ R ⟨φ', hr2.put (Nat.le_of_ble_eq_true hN) hs hv⟩ (fun st' a' w'' hk hr'' he => hQ st' a' w'' hk hr'' (fun h => hext.trans (he h))))
end
section
variable {P : Program} {s : Slots} {h : Heap} {dst : Option Tmp} {ty t : TypeId} {pos : String} {after : Array Edge} {gd : Option (Nat × Bool)} {x : Operand} {id : Nat}
variable {K V : Type} [DecidableEq K] {encK : K → AV} {encV : V → AV} {val : K → Value} {kt et : TypeId} {f : K × V → AV}
theorem TL_lenM {F : Fr} {N : Nat} {ops : Array Oper} {rest : List Oper} {KK : St → Prop} {ex : Bool} {d : Nat} {s' : Slots} {e : List (K × V)} {J : List AV} (hu : P.underlying t = some (.map kt et)) (ko : KeyOK P kt encK val) (hf : ∀ p, f p = .tup [encK p.1, encV p.2])
    (hm : aev s x = some (.mp id)) (hl : lk h id = some (.box (.tr (.tup (e.map f)) :: J))) (hJ : Nat.beq J.length 18 = true) (hN : Nat.blt d N = true) (hs : sput s d (.int .i64 (e.length : Int)) = some s')
    (k : TLE ex P F N ops rest KK ⟨s', h⟩) : TLE ex P F N ops (⟨some d, .call ⟨.builtin .len, #[x], #[t]⟩, ty, pos, after, none⟩ :: rest) KK ⟨s, h⟩ := by
  intro a w R hr hQ
  obtain ⟨φ, hp⟩ := hr
  obtain ⟨hmat, ents, clock, hC, hk, hv⟩ := map_inv (P := P) hp.heap hl hJ hf ko
  have hxv : a.eval x = .map (some (φ id).blk) := by
    have := aev_rep hp hm
    generalize a.eval x = v at this
    cases this with
    | pure h => cases h
    | mp _ _ => rfl
  have hlen : ents.size = e.length := by simpa using congrArg List.length hk
  have hrun : (execOp a.eval ⟨some d, .call ⟨.builtin .len, #[x], #[t]⟩, ty, pos, after, none⟩).run P w = .ok (.value (.int .i64 (e.length : Int))) w := by
    rw [exec_len, hxv]
    have h1 : (#[t] : Array TypeId)[0]? = some t := rfl
    have h2 : (#[Value.map (some (φ id).blk)] : Array Value)[0]? = some (.map (some (φ id).blk)) := rfl
    unfold Builtin.len_
    simp only [h1, h2, Sem.run_bind, run_underlying hu, Result.andThen_ok, MapKept.run_getObj_map hC, Sem.run_pure, hlen]
    rfl
  refine wpList_plain rfl fun K' hK' => ?_
  unfold Oper.wp
  rw [hrun]
  exact hK' _ _ (k _ _ R ⟨φ, hp.put (Nat.le_of_ble_eq_true hN) hs (.pure (.int _ _))⟩ (fun st' a' w'' hk hr'' he => hQ st' a' w'' hk hr'' he))
end
section
variable {P : Program} {W : World}
theorem law_callsG {g : Glob} {f : FuncId} {xs : List AV} {vs : Array Value} (hc : ACallG g P f xs [] (.bool true) []) (hg : g.G W) (hB : ∀ b ∈ g.B, b < W.heap.size) (hl : xs.length = vs.size)
    (hr : ∀ (i : Nat) x v, xs[i]? = some x → vs[i]? = some v → RepT (fun b => b < W.heap.size) W x v) :
    Calls P f vs W fun e w' => e = .returned (.bool true) ∧ Below W.heap.size W w' := by
  refine (hc W (fun b => b < W.heap.size) (fun _ => mkLoc 0 0 false) vs ⟨hB, hg⟩ (HeapOK.nil _ (fun b hb => hb)) ⟨by simpa using hl, fun i x v hx hv => .pure (hr i x v hx (by simpa using hv))⟩).mono ?_
  rintro e w' ⟨v, φ', rfl, hret⟩
  have := hret.val.bool_inv
  subst this
  exact ⟨rfl, hret.sys.os, hret.sys.tape, hret.sys.output, hret.grow, fun b hb => hret.frame b hb (fun ⟨id, o, ho, _⟩ => by cases ho)⟩
theorem ACallG.lib {g : Glob} {f : FuncId} {args : List AV} {r : AV} 
    (hc : ∀ (w : World) (S : Nat → Prop) (φ : Nat → Loc) (vals : Array Value), g.G w → (∀ b, S b → b < w.heap.size) → PW S w φ [] args vals.toList →
      Calls P f vals w fun e w' => ∃ v, e = .returned v ∧ LibEnd w w' ∧ RepT (fun b => b < w'.heap.size ∧ (S b ∨ w.heap.size ≤ b)) w' r v) : ACallG g P f args [] r [] := by
  intro w S φ vs hG hH hvs
  refine (hc w S φ vs hG.2 hH.free hvs).mono (fun e w' h => ?_)
  obtain ⟨v, he, hl, hr⟩ := h
  exact ⟨v, φ, he, ⟨hl.sys, hl.grow, HeapOK.nil φ (fun b hb => hb.1), .pure (hr.mono (fun b hb => ⟨hb.1, hb.2, fun id o ho => (by cases ho)⟩) (fun _ _ => rfl)), (fun id o b ho => (by cases ho)), (fun id o ho => (by cases ho)), (fun id o ho => (by cases ho)), fun b hb _ => hl.frame b hb⟩⟩
end
end Go.AM

namespace Go.AM
open Go
section
variable {F : Fr} {N : Nat} {P : Program}
variable {ops : Array Oper} {K : St → Prop}
variable {id : Nat} {s s' : Slots} {h h' : Heap}
theorem RelP.viaSub {n sz sz' i j : Nat} {p : Bool} {E : TypeId} {es ec es1 es2 : List AV} {e e' : AV} {r : AV} {v0 : Value} {φ : Nat → Loc} {a : Act} {w : World} {C0 : World → Prop}
    (hr : RelP F N ⟨s, h⟩ φ a w) (hsz' : 0 < sz') (hl : lk h id = some (.arr ⟨p, true⟩ sz E es)) (he : es[i]? = some e) (hec : cellsO e = some ec) (hej : ec[j]? = some (.sl sz' es1)) (hn : n = i * sz + j)
    (hvn : RepV (Stab F w φ h) w φ h (.sub id n) v0)
    (hact : ∀ (E' : TypeId) (l0 : Loc), HeapOK (Stab F w φ h) w (fun _ => l0) [(0, .arr ⟨true, true⟩ sz' E' es1)] → RepV (Stab F w φ h) w (fun _ => l0) [(0, .arr ⟨true, true⟩ sz' E' es1)] (.ow 0) v0 →
      ∃ w' φ' v, C0 w' ∧ Ret ⟨w, Stab F w φ h, fun _ => l0, [(0, .arr ⟨true, true⟩ sz' E' es1)]⟩ w' φ' [(0, .arr ⟨true, true⟩ sz' E' es2)] r v)
    (hec' : e'.cells = ec.set j (.sl sz' es2)) (hh : sput h id (.arr ⟨p, true⟩ sz E (es.set i e')) = some h') :
    ∃ w', C0 w' ∧ RelP F N ⟨s, h'⟩ φ a w' := by
  subst hn
  obtain rfl := cellsO_eq hec
  obtain ⟨hsz, hlens, hones, hob⟩ := hr.heap.obj _ _ hl
  have hek : e.cells.length = sz := hlens e (List.mem_of_getElem? he)
  have hjs : j < sz := by rw [← hek]; exact (List.getElem?_eq_some_iff.1 hej).1
  have hi := (List.getElem?_eq_some_iff.1 he).1
  rcases hob with ⟨_, rfl⟩ | ⟨hm, C, hC, hle, hcm, hCs, hrep⟩
  · simp at he
  obtain ⟨fps, f1, f2, f3, f4, f5⟩ := (show CellsOK ⟨p, true⟩ (Stab F w φ h) w (φ id) (flat es) C from hrep)
  have hfe := flat_length hlens
  have hin : i * sz + sz ≤ es.length * sz := by rw [← Nat.succ_mul]; exact Nat.mul_le_mul_right _ hi
  have hflat : (flat es)[i * sz + j]? = some (.sl sz' es1) := by rw [flat_get hlens he hjs]; exact hej
  have hlt : i * sz + j < C.size := by
    have : es.length * sz ≤ C.size := by rw [hCs]; exact Nat.mul_le_mul_right _ hle
    omega
  obtain ⟨v1, hv0⟩ : ∃ v1, C[i * sz + j]? = some v1 := ⟨C[i * sz + j], by simp [hlt]⟩
  obtain ⟨fp, hfp⟩ : ∃ fp, fps[i * sz + j]? = some fp := ⟨fps[i * sz + j]'(by rw [f1, hfe]; omega), by simp⟩
  have hlin := f2 _ _ _ _ hflat hv0 hfp
  have hsv := f5 _ _ _ hflat hv0 rfl
  obtain rfl : v0 = v1 := by
    cases hvn with
    | pure h => cases h
    | sub _ => exact hsv.symm
  have hfpm : ∀ b ∈ fp, b ∈ fps.flatten := fun b hb => List.mem_flatten.2 ⟨fp, List.mem_of_getElem? hfp, hb⟩
  obtain ⟨hroot, hnd⟩ := List.nodup_cons.1 f3
  -- the other cells' blocks are others
  have hothers : ∀ (q : Nat) fq, q ≠ i * sz + j → fps[q]? = some fq → ∀ b ∈ fq, b ∉ fp := by
    intro q fq hq hfq b hb hb2
    rw [List.Nodup, List.pairwise_flatten] at hnd
    have hpw := List.pairwise_iff_getElem.1 hnd.2
    have hq1 := (List.getElem?_eq_some_iff.1 hfq)
    have hq2 := (List.getElem?_eq_some_iff.1 hfp)
    obtain ⟨l1, e1⟩ := hq1
    obtain ⟨l2, e2⟩ := hq2
    rcases Nat.lt_or_gt_of_ne hq with hlt | hgt
    · exact hpw q (i * sz + j) l1 l2 hlt b (by rw [e1]; exact hb) b (by rw [e2]; exact hb2) rfl
    · exact hpw (i * sz + j) q l2 l1 hgt b (by rw [e2]; exact hb2) b (by rw [e1]; exact hb) rfl
  -- the callee's object
  have hloc : ∃ (E' : TypeId) (l0 : Loc), ObjOK (Stab F w φ h) w (fun _ => l0) [(0, .arr ⟨true, true⟩ sz' E' es1)] 0 (.arr ⟨true, true⟩ sz' E' es1) ∧ (∀ b, l0.owns b → b ∈ fp) ∧
      ((l0.mat = true ∧ v0 = .slice (some ⟨l0.blk, 0, none⟩) es1.length l0.cap) ∨ (l0.mat = false ∧ es1 = [] ∧ v0 = .slice l0.va 0 0)) ∧
      (∀ (w' : World) (S' : Nat → Prop) (es2 : List AV), es2.length = es1.length → ObjOK S' w' (fun _ => l0) [(0, .arr ⟨true, true⟩ sz' E' es2)] 0 (.arr ⟨true, true⟩ sz' E' es2) → ∃ fp', LinT w' (.sl sz' es2) v0 fp' ∧ fp'.Nodup ∧ ∀ b ∈ fp', b ∈ fp) := by
    have hnfp : fp.Nodup := by
      rw [List.Nodup, List.pairwise_flatten] at hnd
      exact hnd.1 fp (List.mem_of_getElem? hfp)
    cases hlin with
    | sl0 _ a0 =>
      refine ⟨0, ⟨0, 0, false, [], a0, fun _ => (none, 0, 0)⟩, ⟨hsz', fun e he => by simp at he, fun j x hx => by simp [flat] at hx, .inl ⟨rfl, rfl⟩⟩, fun b hb => ?_, .inr ⟨rfl, rfl, rfl⟩, fun w' S' es2 hl2 _ => ?_⟩
      · rcases hb with ⟨hb, _⟩ | hb
        · cases hb
        · simp at hb
      · have : es2 = [] := List.eq_nil_of_length_eq_zero (by simpa using hl2)
        subst this
        exact ⟨[], .sl0 _ _, by simp, fun b hb => by simp at hb⟩
    | sl _ _ b cap C1 E1 fps1 g2 g3 g4 g5 g6 g7 g8 g9 g10 =>
      refine ⟨E1, ⟨b, cap, true, fps1.flatten, none, fun j => comps (C1.getD j undef)⟩, ⟨g6, g7, g8, .inr ⟨rfl, C1, g2, g4, g5, g3, fps1, g9, g10, hnfp, fun b hb => hb, fun j x v hx hv hs => ?_⟩⟩, fun c hc => ?_,
        .inl ⟨rfl, rfl⟩, fun w' S' es2 hl2 hok => ?_⟩
      · have hp : fps1[j]? = some (fps1[j]'(by rw [g9]; exact (List.getElem?_eq_some_iff.1 hx).1)) := by simp
        have hg : C1.getD j undef = v := by simp [Array.getD_eq_getD_getElem?, hv]
        show v = .slice (comps (C1.getD j undef)).1 (comps (C1.getD j undef)).2.1 (comps (C1.getD j undef)).2.2
        rw [hg]
        exact (g10 j x v _ hx hv hp).comps hs
      · rcases hc with ⟨_, hc⟩ | hc
        · exact List.mem_cons.2 (.inl hc.symm)
        · exact List.mem_cons.2 (.inr hc)
      · obtain ⟨k1, k2, k3, k4⟩ := hok
        rcases k4 with ⟨hf, _⟩ | ⟨_, C2, hC2, k5, k6, k7, k8⟩
        · cases hf
        · obtain ⟨fps2, m1, m2, m3, m4, _⟩ := (show CellsOK ⟨true, true⟩ S' w' _ (flat es2) C2 from k8)
          rw [← hl2]
          exact ⟨_, .sl sz' es2 b cap C2 E1 fps2 hC2 k7 k5 k6 k1 k2 k3 m1 m2, m3, fun c hc => by
            rcases List.mem_cons.1 hc with hc | hc
            · exact List.mem_cons.2 (.inl hc)
            · exact List.mem_cons.2 (.inr (m4 c hc))⟩
  obtain ⟨E', l0, hob0, hown0, hval0, hback⟩ := hloc
  have hown : ∀ b, l0.owns b → (φ id).owns b := fun b hb => .inr (f4 b (hfpm b (hown0 b hb)))
  have hHc : HeapOK (Stab F w φ h) w (fun _ => l0) [(0, .arr ⟨true, true⟩ sz' E' es1)] := by
    refine ⟨fun k o ho => ?_, fun k k' o o' b ho ho' _ _ => ?_, fun b hb => hb.1, fun k o b ho hm hst => hst.2.2 id _ hl (hown b hm), fun k o b ho hm => hr.heap.ltO id _ b hl (hown b hm)⟩
    · rw [lk_cons] at ho
      split at ho
      · rename_i hk; subst hk; cases ho; exact hob0
      · cases ho
    · rw [lk_cons] at ho ho'
      split at ho
      · rename_i hk; subst hk
        split at ho'
        · rename_i hk'; exact hk'
        · cases ho'
      · cases ho
  have hv00 : RepV (Stab F w φ h) w (fun _ => l0) [(0, .arr ⟨true, true⟩ sz' E' es1)] (.ow 0) v0 := by
    rcases hval0 with ⟨hm0, e0⟩ | ⟨hm0, rfl, e0⟩
    · rw [e0]; exact .ow (by rw [lk_cons, if_pos rfl]) hm0
    · rw [e0]; exact .ow0 (by rw [lk_cons, if_pos rfl]) hm0
  obtain ⟨w', φ', v, hC0, hret⟩ := hact E' l0 hHc hv00
  refine ⟨w', hC0, ?_⟩
  -- the object of the callee's, afterwards
  have hl0 : lk [((0 : Nat), AO.arr ⟨true, true⟩ sz' E' es1)] 0 = some (.arr ⟨true, true⟩ sz' E' es1) := by rw [lk_cons, if_pos rfl]
  have hl0' : lk [((0 : Nat), AO.arr ⟨true, true⟩ sz' E' es2)] 0 = some (.arr ⟨true, true⟩ sz' E' es2) := by rw [lk_cons, if_pos rfl]
  have hφ0 : φ' 0 = l0 := hret.fix 0 _ hl0 (by simp [AO.isBox])
  have hlen2 : es2.length = es1.length := by
    obtain ⟨o', ho', hal⟩ := hret.keep 0 _ hl0
    rw [hl0'] at ho'
    cases ho'
    exact (hal.2 rfl).2.2
  have hobj' : ObjOK (Stab ⟨w, Stab F w φ h, fun _ => l0, [(0, .arr ⟨true, true⟩ sz' E' es1)]⟩ w' φ' [(0, .arr ⟨true, true⟩ sz' E' es2)]) w' (fun _ => l0) [(0, .arr ⟨true, true⟩ sz' E' es2)] 0 (.arr ⟨true, true⟩ sz' E' es2) := by
    have := hret.heap.obj 0 _ hl0'
    obtain ⟨k1, k2, k3, k4⟩ := this
    rw [hφ0] at k4
    exact ⟨k1, k2, k3, k4⟩
  obtain ⟨fp', hlin', hnd', hsub'⟩ := hback w' _ es2 hlen2 hobj'
  have hframe : ∀ b, b < w.heap.size → b ∉ fp → w'.heap[b]? = w.heap[b]? := by
    intro b hb hnb
    refine hret.frame b hb ?_
    rintro ⟨k, o, ho, hw⟩
    exact hnb (hown0 b hw)
  have hlk := lk_sput hh
  have hal : headsAlike φ φ h h' := by
    refine ⟨fun q cs1 hq _ => ?_, fun q k1 sz1 E1 es1 hq => ⟨rfl, ?_⟩⟩
    · have hid : id ≠ q := fun e => by subst e; rw [hl] at hq; cases hq
      exact ⟨⟨cs1, by rw [hlk, if_neg hid]; exact hq⟩, rfl⟩
    · by_cases hid : id = q
      · subst hid
        rw [hl] at hq
        cases hq
        exact ⟨_, _, List.length_set, by rw [hlk, if_pos rfl]⟩
      · exact ⟨k1, es1, rfl, by rw [hlk, if_neg hid]; exact hq⟩
  have he'k : e'.cells.length = sz := by rw [hec']; simp [hek]
  refine hr.upd hh (fun _ _ => rfl) hret.sys hret.grow (fun b hb hno => hframe b hb (fun hbf => hno _ hl (.inr (f4 b (hfpm b hbf))))) (fun b hbo => .inr ⟨_, hl, hbo⟩) (fun o1 h1 h2 => hr.fix id o1 h1 h2)
    (fun o ho => by rw [hl] at ho; cases ho; exact ⟨rfl, fun _ => ⟨rfl, rfl, by simp⟩⟩) (fun hS hw x v _ hv => hv.mono hS hw hal) (fun hS hw => ?_)
  have hlens' : ∀ u ∈ es.set i e', u.cells.length = sz := by
    intro u hu
    rcases List.mem_or_eq_of_mem_set hu with hu | rfl
    · exact hlens u hu
    · exact he'k
  -- the cells of the new row
  have hcell : ∀ (q : Nat) c, (flat (es.set i e'))[q]? = some c → (q = i * sz + j ∧ c = .sl sz' es2) ∨ (q ≠ i * sz + j ∧ (flat es)[q]? = some c) := by
    intro q c hq
    obtain ⟨q1, r1, u, rfl, hr1, hq1, hu, hcu⟩ := flat_get_inv hsz hlens' hq
    rw [List.length_set] at hq1
    by_cases hqi : i = q1
    · subst hqi
      rw [List.getElem?_set_self hi] at hu
      cases hu
      rw [hec', List.getElem?_set] at hcu
      split at hcu
      · rename_i hjr; subst hjr
        split at hcu
        · cases hcu; exact .inl ⟨rfl, rfl⟩
        · cases hcu
      · rename_i hjr
        exact .inr ⟨by omega, by rw [flat_get hlens he hr1]; exact hcu⟩
    · rw [List.getElem?_set_ne hqi] at hu
      refine .inr ⟨fun e => ?_, by rw [flat_get hlens hu hr1]; exact hcu⟩
      have h1 : (q1 * sz + r1) / sz = q1 := by rw [Nat.mul_comm, Nat.mul_add_div hsz, Nat.div_eq_of_lt hr1]; omega
      have h2 : (i * sz + j) / sz = i := by rw [Nat.mul_comm, Nat.mul_add_div hsz, Nat.div_eq_of_lt hjs]; omega
      rw [e, h2] at h1
      exact hqi h1
  have hrootw : w'.heap[(φ id).blk]? = w.heap[(φ id).blk]? := hframe _ (hr.heap.ltB hl hm) (fun hb => hroot (hfpm _ hb))
  refine ⟨hsz, hlens', fun q c hq => ?_, .inr ⟨hm, C, by rw [hrootw]; exact hC, by simpa using hle, hcm, hCs, ?_⟩⟩
  · rcases hcell q c hq with ⟨_, rfl⟩ | ⟨_, hq'⟩
    · rfl
    · exact hones q c hq'
  · refine ⟨fps.set (i * sz + j) fp', ?_, fun q c u fq hc hu hfq => ?_, ?_, fun b hb => ?_, fun q c u hc hu hs => ?_⟩
    · rw [List.length_set, f1, flat_length hlens', List.length_set, hfe]
    · rcases hcell q c hc with ⟨rfl, rfl⟩ | ⟨hne, hq'⟩
      · rw [List.getElem?_set_self (by rw [f1, hfe]; omega)] at hfq
        cases hfq
        rw [hv0] at hu
        cases hu
        exact hlin'
      · rw [List.getElem?_set_ne (Ne.symm hne)] at hfq
        refine (f2 q c u fq hq' hu hfq).mono (fun b hb => hframe b (hr.heap.ltO id _ b hl (.inr (f4 b (List.mem_flatten.2 ⟨fq, List.mem_of_getElem? hfq, hb⟩)))) (hothers q fq hne hfq b hb))
    · -- no block twice
      have hsubm : ∀ b, b ∈ (fps.set (i * sz + j) fp').flatten → b ∈ fps.flatten := by
        intro b hb
        obtain ⟨l, h1, h2⟩ := List.mem_flatten.1 hb
        rcases List.mem_or_eq_of_mem_set h1 with h1 | rfl
        · exact List.mem_flatten.2 ⟨l, h1, h2⟩
        · exact hfpm b (hsub' b h2)
      rw [List.nodup_cons]
      refine ⟨fun hb => hroot (hsubm _ hb), ?_⟩
      have hnd0 := hnd
      rw [List.Nodup, List.pairwise_flatten] at hnd ⊢
      refine ⟨fun l hl => ?_, List.pairwise_iff_getElem.2 (fun q1 q2 l1 l2 hq => ?_)⟩
      · rcases List.mem_or_eq_of_mem_set hl with hl | rfl
        · exact hnd.1 l hl
        · exact hnd'
      · have hpw := List.pairwise_iff_getElem.1 hnd.2
        rw [List.length_set] at l1 l2
        intro b hb c hc e
        subst e
        rw [List.getElem_set] at hb hc
        split at hb
        · rename_i hq1; subst hq1
          rw [if_neg (by omega)] at hc
          exact hothers q2 _ (by omega) (List.getElem?_eq_getElem l2) b hc (hsub' b hb)
        · split at hc
          · rename_i hq2; subst hq2
            exact hothers q1 _ (by omega) (List.getElem?_eq_getElem l1) b hb (hsub' b hc)
          · exact hpw q1 q2 l1 l2 hq b hb b hc rfl
    · obtain ⟨l, h1, h2⟩ := List.mem_flatten.1 hb
      rcases List.mem_or_eq_of_mem_set h1 with h1 | rfl
      · exact f4 b (List.mem_flatten.2 ⟨l, h1, h2⟩)
      · exact f4 b (hfpm b (hsub' b h2))
    · rcases hcell q c hc with ⟨rfl, rfl⟩ | ⟨hne, hq'⟩
      · rw [hv0] at hu; cases hu; exact hsv
      · exact f5 q c u hq' hu hs
theorem dropH_nil : ∀ h : Heap, dropH [] h = h := by
  intro h
  induction h with
  | nil => rfl
  | cons p r ih => obtain ⟨k, o⟩ := p; simp [dropH, ih]
theorem RelP.storeSub {t t2 : TypeId} {k : IntKind} {n sz i j q : Nat} {p : Bool} {E E0 : TypeId} {es ec es1 : List AV} {e e' zv : AV} {v0 vz : Value} {φ : Nat → Loc} {a : Act} {w : World}
    (hr : RelP F N ⟨s, h⟩ φ a w) (ht : tyElem P t = some (E0, 1)) (ht2 : tySize P t2 = some 1) (hl : lk h id = some (.arr ⟨p, true⟩ sz E es)) (he : es[i]? = some e) (hec : cellsO e = some ec) (hej : ec[j]? = some (.sl 1 es1)) (hn : n = i * sz + j)
    (hvn : RepV (Stab F w φ h) w φ h (.sub id n) v0) (hq : q < es1.length) (hz : RepV (Stab F w φ h) w φ h zv vz) (hzf : flatV zv = true) (hz1 : flat1 zv = true)
    (hec' : e'.cells = ec.set j (.sl 1 (es1.set q zv))) (hh : sput h id (.arr ⟨p, true⟩ sz E (es.set i e')) = some h') :
    ∃ w', (∃ v1, (∀ w2, (Instr.indexAt t v0 (.int k (q : Int))).run P w2 = .ok v1 w2) ∧ (do Instr.storeAt t2 v1 vz; pure Next.skip).run P w = .ok .skip w') ∧ RelP F N ⟨s, h'⟩ φ a w' := by
  refine hr.viaSub (C0 := fun w' => ∃ v1, (∀ w2, (Instr.indexAt t v0 (.int k (q : Int))).run P w2 = .ok v1 w2) ∧ (do Instr.storeAt t2 v1 vz; pure Next.skip).run P w = .ok .skip w') (r := .tup []) (sz' := 1) (by omega) hl he hec hej hn hvn (fun E' l0 hH hv => ?_) hec' hh
  have hzc : cellsO zv = some [zv] := by cases zv <;> first | rfl | cases hzf | cases hz1
  have hzj : isJunk zv = false := by cases zv <;> first | rfl | cases hzf
  let F' : Fr := ⟨w, Stab F w φ h, fun _ => l0, [(0, .arr ⟨true, true⟩ 1 E' es1)]⟩
  have hS1 : ∀ b, Stab F w φ h b → Stab F' w (fun _ => l0) [(0, .arr ⟨true, true⟩ 1 E' es1)] b := fun b hb => ⟨hH.free b hb, .inl hb, fun id o ho hm => hH.apartO id o b ho hm hb⟩
  have hp : RelP F' 4 ⟨[(0, .ow 0), (1, .int k (q : Int)), (2, zv)], [(0, .arr ⟨true, true⟩ 1 E' es1)]⟩ (fun _ => l0) { tmps := #[v0, .int k (q : Int), vz, undef], defers := [] } w := by
    refine ⟨rfl, rfl, SameSys.refl w, Nat.le_refl _, ⟨fun id o ho => ?_, hH.injO, fun b hb => hb.1, fun id o b ho hm hs => hs.2.2 id o ho hm, hH.ltO⟩, fun i x hx => ?_,
      fun id o b ho hm => .inr ⟨o, ho, hm⟩, fun _ _ _ _ => rfl, fun id o ho => ⟨o, ho, AO.alike_refl o⟩, fun _ _ _ => rfl⟩
    · have hok := hH.obj id o ho
      cases o with
      | box cs =>
        obtain ⟨hm, C, E, hC, hsz, hrep⟩ := hok
        exact ⟨hm, C, E, hC, hsz, fun j x v hx hv => (hrep j x v hx hv).mono hS1 (fun _ _ => rfl) (headsAlike.refl _ _)⟩
      | arr kd sz E es =>
        obtain ⟨h0, hl, hone, hob⟩ := hok
        refine ⟨h0, hl, hone, ?_⟩
        rcases hob with hob | ⟨hm, C, hC, h1, h2, h3, h4⟩
        · exact .inl hob
        · exact .inr ⟨hm, C, hC, h1, h2, h3, h4.mono hS1 (fun _ _ => rfl) (fun _ _ _ => rfl) rfl⟩
    · simp only [lk_cons] at hx
      split at hx
      · rename_i h0; subst h0; cases hx; exact ⟨v0, rfl, hv.mono hS1 (fun _ _ => rfl) (headsAlike.refl _ _)⟩
      · split at hx
        · rename_i h0; subst h0; cases hx; exact ⟨_, rfl, .pure (.int _ _)⟩
        · split at hx
          · rename_i h0; subst h0; cases hx; exact ⟨vz, rfl, flatV_tree hzf hz⟩
          · cases hx
  have hop : OpP P ⟨some 3, .indexAddr t (.tmp 0) (.tmp 1), 0, "", #[], none⟩ [(0, .ow 0), (1, .int k (q : Int)), (2, zv)] [(0, .arr ⟨true, true⟩ 1 E' es1)] (.ptr 0 q 0) := op_index_ow ht rfl rfl rfl rfl hq
  obtain ⟨v1, hv1, hrep1⟩ := hop _ w (fun _ => l0) _ (Act.eval _) hp.heap (fun _ _ h => h) (fun y z hy => aev_rep hp hy)
  have hp2 := hp.put (d := 3) (x := .ptr 0 q 0) (s' := [(0, .ow 0), (1, .int k (q : Int)), (2, zv), (3, .ptr 0 q 0)]) (by omega) rfl hrep1
  have hek : (es1[q]).cells.length = 1 := (hp.heap.obj 0 _ rfl).2.1 _ (List.getElem_mem hq)
  obtain ⟨w', hrun, φ', hr2⟩ := hp2.storeD (t := t2) (x := .tmp 3) (y := .tmp 2) (ty := 0) (pos := "") (after := #[]) (k0 := q) (off := 0) (e' := zv) (h' := [(0, .arr ⟨true, true⟩ 1 E' (es1.set q zv))]) ht2 rfl rfl rfl (List.getElem?_eq_getElem hq) rfl hzj hzc rfl
    (by unfold absL; rw [show absC _ zv = some (zv, []) by cases zv <;> first | rfl | (simp [flat1] at hz1)]; rfl) (by simp) (by simp) (by simp)
    (by rw [← cellsO_eq hzc, List.drop_eq_nil_of_le (by rw [hek]; simp)]; rfl) (by simp) (by rfl) (by rfl) (by rw [dropH_nil]; rfl) (.inr ⟨rfl, by simp [hz1]⟩)
  refine ⟨w', φ', undef, ⟨v1, fun w2 => ?_, ?_⟩, ⟨hr2.sys, hr2.grow, hr2.heap, undef_rep, hr2.mine, hr2.fix, hr2.keep, hr2.frame⟩⟩
  · have := hv1 w2 (.inl rfl)
    rw [exec_indexAddr, show Act.eval { tmps := #[v0, Value.int k (q : Int), vz, undef], defers := [] } (.tmp 0) = v0 from rfl, show Act.eval { tmps := #[v0, Value.int k (q : Int), vz, undef], defers := [] } (.tmp 1) = .int k (q : Int) from rfl] at this
    generalize hX : (Instr.indexAt t v0 (.int k (q : Int))).run P w2 = X
    have h2 : ((Instr.indexAt t v0 (.int k (q : Int))).run P w2).andThen (fun u w => .ok (Next.value u) w) = .ok (.value v1) w2 := by
      simpa [Sem.run_bind] using this
    rw [hX] at h2
    cases X with
    | ok u w3 =>
      simp only [Result.andThen_ok] at h2
      cases h2; rfl
    | halt x w3 => cases h2
  · rw [exec_store] at hrun
    exact hrun
theorem TZ_storeSub {fuel : Nat} {listed : List Bool} {Z : List Nat} (i j : Nat) {t t2 d ty1 ty2 : Nat} {pos1 pos2 : String} {af1 af2 : Array Edge} {x y z : Operand} {k : IntKind} {n sz i0 j0 q : Nat} {m : Int} {p : Bool} {E E0 : TypeId} {es es' ec ec' es1 es2 : List AV} {e e' zv : AV}
    (hr1 : Region.ready .any ops listed.toArray = [i]) (hi : ops[i]? = some ⟨some d, .indexAddr t x y, ty1, pos1, af1, none⟩)
    (hr2 : Region.ready .any ops (setL listed i).toArray = [j]) (hj : ops[j]? = some ⟨none, .store t2 (.tmp d) z, ty2, pos2, af2, none⟩) (hZ : Z.contains j = true) (hN : Nat.blt d N = true)
    (ht : tyElem P t = some (E0, 1)) (ht2 : tySize P t2 = some 1) (hx : aev s x = some (.sub id n)) (hy : aev s y = some (.int k m)) (hs : sput s d .junk = some s') (hz : aev s' z = some zv)
    (hl : lk h id = some (.arr ⟨p, true⟩ sz E es)) (he : es[i0]? = some e) (hec : cellsO e = some ec) (hej : ec[j0]? = some (.sl 1 es1)) (hn : n = i0 * sz + j0) (hm : m = (q : Int)) (hq : q < es1.length)
    (hzf : flatV zv = true) (hz1 : flat1 zv = true) (hec' : cellsO e' = some ec') (hecj : ec' = ec.set j0 (.sl 1 es2)) (hes2 : es2 = es1.set q zv) (hes : es' = es.set i0 e')
    (hh : sput h id (.arr ⟨p, true⟩ sz E es') = some h') (kk : TZ P F N ops Z fuel (setL (setL listed i) j) K ⟨s', h'⟩) : TZ P F N ops Z (fuel + 2) listed K ⟨s, h⟩ := by
  intro hsel a w R hrel hQ
  obtain ⟨φ, hp⟩ := hrel
  subst hes2 hes hm
  have hdN := Nat.le_of_ble_eq_true hN
  have hp1 : ∀ v, RelP F N ⟨s', h⟩ φ (a.put (some d) v) w := fun v => hp.put hdN hs (.pure (.junk v))
  have hz0 : ∀ v, RepV (Stab F w φ h) w φ h zv ((a.put (some d) v).eval z) := fun v => aev_rep (hp1 v) hz
  have hzv : ∀ v, (a.put (some d) v).eval z = (a.put (some d) undef).eval z := by
    intro v
    have flat_eq : ∀ {u1 u2 : Value}, RepV (Stab F w φ h) w φ h zv u1 → RepV (Stab F w φ h) w φ h zv u2 → u1 = u2 := by
      intro u1 u2 h1 h2
      cases zv <;> first | (simp [flatV] at hzf; done) | skip
      case int => rw [h1.int_inv, h2.int_inv]
      case bool => rw [h1.bool_inv, h2.bool_inv]
      case str => rw [h1.str_inv, h2.str_inv]
      case tup => simp [flat1] at hz1
    exact flat_eq (hz0 v) (hz0 undef)
  have hyv : a.eval y = .int k (q : Int) := (aev_rep hp hy).int_inv
  obtain ⟨w', ⟨v1, hv1, hst⟩, hr2'⟩ := hp.storeSub (k := k) (q := q) ht ht2 hl he hec hej hn (aev_rep hp hx) hq (hz0 undef) hzf hz1 (by rw [← hecj, cellsO_eq hec']) hh
  refine ⟨fun h0 => (by rw [hr1] at h0; cases h0), fun i' hi' => ?_⟩
  rw [hr1] at hi'
  obtain rfl : i' = i := by simpa using hi'
  refine SY.wpOp hi (v := v1) (.inl ⟨by simp [Region.wanted], fun w2 _ => ?_⟩) ⟨fun _ => Ext.refl w, ?_⟩
  · rw [exec_indexAddr, hyv, Sem.run_bind, hv1]; rfl
  · rw [setL_eq]
    refine ⟨fun h0 => (by rw [hr2] at h0; cases h0), fun j' hj' => ?_⟩
    rw [hr2] at hj'
    obtain rfl : j' = j := by simpa using hj'
    refine wpOp_of_list hj ?_
    refine wpList_plain rfl fun K' hK' => ?_
    unfold Oper.wp
    have he1 : (a.put (some d) v1).eval (.tmp d) = v1 := by
      have hsz := hp.size
      have hd : d < N := hdN
      simp [Act.eval, Act.put, hsz, Array.getD_eq_getD_getElem?, hd]
    rw [exec_store, he1, hzv v1, hst]
    show K' _ w'
    refine hK' _ _ ⟨fun h => (by rw [hZ] at h; cases h), ?_⟩
    rw [setL_eq]
    have hr3 : RelP F N ⟨s', h'⟩ φ (a.put (some d) v1) w' := hr2'.put hdN hs (.pure (.junk v1))
    exact kk hsel _ w' R ⟨φ, hr3⟩ hQ
theorem TZ_shallow {fuel : Nat} {listed : List Bool} {Z : List Nat} (id : Nat) {sz : Nat} {p : Bool} {E : TypeId} {es : List AV} (hF : lk F.η id = none) (hl : lk h id = some (.arr ⟨p, true⟩ sz E es)) (hn1 : s.all (fun q => noSub id q.2) = true) (hn2 : noSubH id h = true)
    (hh : sput h id (.arr ⟨p, false⟩ sz E es) = some h') (k : TZ P F N ops Z fuel listed K ⟨s, h'⟩) : TZ P F N ops Z fuel listed K ⟨s, h⟩ := TZ_sub (fun _ _ _ hr => hr.shallow hF hl hn1 hn2 hh) k
end
end Go.AM

namespace Go.AM
end Go.AM
namespace Go.AM
end Go.AM
