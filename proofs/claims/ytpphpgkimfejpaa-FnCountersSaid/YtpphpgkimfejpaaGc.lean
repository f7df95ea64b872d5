import Derived.Test.YtpphpgkimfejpaaGb
import Derived.MapKept
import Derived.WideKeyRuns
import Derived.Laws.BytesArg
import Derived.Below
namespace Go.AM
open Go
section
variable {F : Fr} {N : Nat} {P : Program}
theorem flat_app (xs ys : List AV) : flat (xs ++ ys) = flat xs ++ flat ys := by simp [flat]
theorem src_appY {S : Nat → Prop} {w : World} {φ : Nat → Loc} {h : Heap} {sz : Nat} {z : AV} {v : Value} {xs : List AV} (hh : HeapOK S w φ h) (hv : RepV S w φ h z v) (hsrc : asrc h sz z = some xs) :
    ∃ news, AppY w sz xs.length v news ∧ (∀ (j : Nat) c u, (flat xs)[j]? = some c → news[j]? = some u → RepT S w c u) ∧ (∀ e ∈ xs, e.cells.length = sz) ∧
      (∀ (j : Nat) c, (flat xs)[j]? = some c → one c = true) ∧ news.length = xs.length * sz := by
  rcases src_cells hh hv hsrc with ⟨va, rfl, rfl⟩ | ⟨ad, c, news, rfl, h1, h2, h3, h4, h5, h6⟩
  · exact ⟨[], ⟨.inl ⟨va, rfl, rfl, rfl⟩⟩, fun j c u hc => by simp [flat] at hc, fun e he => by simp at he, fun j c hc => by simp [flat] at hc, by simp⟩
  · exact ⟨news, ⟨.inr ⟨ad, c, rfl, h1, h2, h4⟩⟩, h3, h5, h6, h1⟩
variable {ops : Array Oper} {rest : List Oper} {K : St → Prop}
variable {ty : TypeId} {pos : String} {after : Array Edge} {d id : Nat} {s s' s1 : Slots} {h h' h1 : Heap} {x y : Operand}
theorem TL_append {t E : TypeId} {sz bz : Nat} {zv : Value} {z : AV} {es xs : List AV}
    (ht : tyElem P t = some (E, sz)) (hz : tyZero P E = some (zv, sz, bz)) (hzs : Nat.beq zv.cells.size sz = true)
    (hsz : Nat.blt 0 sz = true) (hb : Nat.blt 0 bz = true) (hx : aev s x = some (.ow id)) (hl : lk h id = some (.arr ⟨false, false⟩ sz E es)) (hy : aev s y = some z) (hsrc : asrc h sz z = some xs)
    (hbig : (es.length + xs.length) * bz ≤ 140737488355328)
    (hks : killSL [id] s = some s1) (hkh : killHL [id] h = some h1) (hh : sput (dropH [] h1) id (.arr ⟨false, false⟩ sz E (es ++ xs)) = some h') (hN : Nat.blt d N = true) (hs : sput s1 d (.ow id) = some s')
    (k : TL P F N ops rest K ⟨s', h'⟩) : TL P F N ops (⟨some d, .call ⟨.builtin .append, #[x, y], #[t, t]⟩, ty, pos, after, none⟩ :: rest) K ⟨s, h⟩ := by
  refine TL_val rfl (fun φ a w hr => ?_) k
  have hX := hr.appX hx hl
  obtain ⟨news, hY, hnrep, hxl, hxo, hnl⟩ := src_appY hr.heap (aev_rep hr hy) hsrc
  obtain ⟨v', w', l', hrun, hres⟩ := append_core (P := P) (ty := ty) ht hz ((beq_iff _ _).1 hzs) (Nat.le_of_ble_eq_true hsz) (Nat.le_of_ble_eq_true hb) hX hY hbig
  obtain ⟨hsz0, hlens, hones, hob⟩ := hr.heap.obj _ _ hl
  obtain ⟨hol, C, hC1, _, hC2⟩ := olds_cells (hr.heap.obj _ _ hl)
  have hfe := flat_length hlens
  have hfx := flat_length hxl
  rw [← List.length_append] at hres
  obtain ⟨hr', hv'⟩ := hr.appended [] [] (fun _ => (none, 0, 0)) hl rfl (by simp) (by simp) hks hkh hh hres (by simp)
    (fun e he => by rcases List.mem_append.1 he with he | he; exact hlens e he; exact hxl e he)
    (fun j c hc => by
      rw [flat_app] at hc
      by_cases hj : j < (flat es).length
      · rw [List.getElem?_append_left hj] at hc; exact hones j c hc
      · rw [List.getElem?_append_right (by omega)] at hc; exact hxo _ c hc)
    (fun C' htk _ => CellsOK.ofTrees rfl (fun j c v hc hv => by
      have hj := (List.getElem?_eq_some_iff.1 hc).1
      rw [flat_app, List.length_append, hfe, hfx, ← Nat.add_mul] at hj
      have hv2 : (oldsOf w (φ id) (es.length * sz) ++ news)[j]? = some v := by rw [← htk, List.getElem?_take, if_pos (by simpa using hj)]; simpa using hv
      rw [flat_app] at hc
      by_cases hj2 : j < (flat es).length
      · rw [List.getElem?_append_left hj2] at hc
        rw [List.getElem?_append_left (by rw [hol, ← hfe]; exact hj2)] at hv2
        exact hC1.trees rfl j c v hc (hC2 j c v hc hv2)
      · rw [List.getElem?_append_right (by omega)] at hc
        rw [List.getElem?_append_right (by rw [hol, ← hfe]; omega), hol, ← hfe] at hv2
        exact hnrep _ c v hc hv2))
  exact ⟨v', w', (fun h => nomatch h), by rw [exec_append]; simp only [Sem.run_bind, hrun, Result.andThen_ok, Sem.run_pure], _, hr'.put (Nat.le_of_ble_eq_true hN) hs hv'⟩
theorem TL_appendD {t E E2 : TypeId} {sz bz id2 : Nat} {p2 : Bool} {zv : Value} {es xs : List AV}
    (ht : tyElem P t = some (E, sz)) (hz : tyZero P E = some (zv, sz, bz)) (hzs : Nat.beq zv.cells.size sz = true)
    (hsz : Nat.blt 0 sz = true) (hb : Nat.blt 0 bz = true) (hx : aev s x = some (.ow id)) (hl : lk h id = some (.arr ⟨false, true⟩ sz E es)) (hy : aev s y = some (.ow id2)) (hl2 : lk h id2 = some (.arr ⟨p2, true⟩ sz E2 xs))
    (hne : Nat.beq id id2 = false) (hF2 : lk F.η id2 = none)
    (hbig : (es.length + xs.length) * bz ≤ 140737488355328)
    (hks : killSL [id, id2] s = some s1) (hkh : killHL [id, id2] h = some h1) (hh : sput (dropH [id2] h1) id (.arr ⟨false, true⟩ sz E (es ++ xs)) = some h') (hN : Nat.blt d N = true) (hs : sput s1 d (.ow id) = some s')
    (k : TL P F N ops rest K ⟨s', h'⟩) : TL P F N ops (⟨some d, .call ⟨.builtin .append, #[x, y], #[t, t]⟩, ty, pos, after, none⟩ :: rest) K ⟨s, h⟩ := by
  refine TL_val rfl (fun φ a w hr => ?_) k
  have hne' : id ≠ id2 := fun e => by rw [(beq_iff id id2).2 e] at hne; cases hne
  have hX := hr.appX hx hl
  obtain ⟨hsz0, hlens, hones, hob⟩ := hr.heap.obj _ _ hl
  obtain ⟨_, hxl, hxo, hob2⟩ := hr.heap.obj _ _ hl2
  obtain ⟨hol, C, hC1, hCh, hC2⟩ := olds_cells (hr.heap.obj _ _ hl)
  obtain ⟨hol2, D, hD1, hDh, hD2⟩ := olds_cells (hr.heap.obj _ _ hl2)
  have hfe := flat_length hlens
  have hfx := flat_length hxl
  obtain ⟨fps1, f1, f2, f3, f4, f5⟩ := (show CellsOK ⟨false, true⟩ (Stab F w φ h) w (φ id) (flat es) C from hC1)
  obtain ⟨fps2, g1, g2, g3, g4, g5⟩ := (show CellsOK ⟨p2, true⟩ (Stab F w φ h) w (φ id2) (flat xs) D from hD1)
  have hX2 := hr.appX hy hl2
  have hY : AppY w sz xs.length (a.eval y) (oldsOf w (φ id2) (xs.length * sz)) := by
    rcases hX2.go with ⟨hm, hv, C2, hC2', hle, hcm, hCs, hol'⟩ | ⟨hm, h0, hol', hv⟩
    · refine ⟨.inr ⟨_, _, hv, hol2, fun j u hu => ?_, fun u hu => ?_⟩⟩
      · rw [Addr.add_lit, Nat.zero_add, cell_at hC2']
        rw [hol', List.getElem?_take] at hu
        split at hu
        · simpa using hu
        · cases hu
      · obtain ⟨j, hj⟩ := List.getElem?_of_mem hu
        have hjl := (List.getElem?_eq_some_iff.1 hj).1
        rw [hol2, ← hfx] at hjl
        have hc : (flat xs)[j]? = some ((flat xs)[j]) := by simp [hjl]
        have hd := hD2 j _ u hc hj
        have hp : fps2[j]? = some (fps2[j]'(by omega)) := by simp [g1, hjl]
        exact (g2 j _ u _ hc hd hp).tree.one (hxo j _ hc)
    · have hx0 : xs = [] := List.eq_nil_of_length_eq_zero h0
      subst hx0
      exact ⟨.inl ⟨_, hv, rfl, hol'⟩⟩
  obtain ⟨v', w', l', hrun, hres⟩ := append_core (P := P) (ty := ty) ht hz ((beq_iff _ _).1 hzs) (Nat.le_of_ble_eq_true hsz) (Nat.le_of_ble_eq_true hb) hX hY hbig
  rw [← List.length_append] at hres
  obtain ⟨hr', hv'⟩ := hr.appended [id2] ((φ id).fp ++ (φ id2).fp) (fun j => if j < (flat es).length then (φ id).sv j else (φ id2).sv (j - (flat es).length)) hl rfl (by simpa using hne')
    (by simpa using hF2) hks hkh hh hres (fun b hb => by
      rcases List.mem_append.1 hb with hb | hb
      · exact .inl hb
      · exact .inr ⟨id2, _, by simp, hl2, .inr hb⟩)
    (fun e he => by rcases List.mem_append.1 he with he | he; exact hlens e he; exact hxl e he)
    (fun j c hc => by
      rw [flat_app] at hc
      by_cases hj : j < (flat es).length
      · rw [List.getElem?_append_left hj] at hc; exact hones j c hc
      · rw [List.getElem?_append_right (by omega)] at hc; exact hxo _ c hc)
    (fun C' htk hml => by
      have hget : ∀ (j : Nat) c v, (flat (es ++ xs))[j]? = some c → C'[j]? = some v →
          (j < (flat es).length ∧ (flat es)[j]? = some c ∧ C[j]? = some v) ∨ ((flat es).length ≤ j ∧ (flat xs)[j - (flat es).length]? = some c ∧ D[j - (flat es).length]? = some v) := by
        intro j c v hc hv
        have hj := (List.getElem?_eq_some_iff.1 hc).1
        rw [flat_app, List.length_append, hfe, hfx, ← Nat.add_mul] at hj
        have hv2 : (oldsOf w (φ id) (es.length * sz) ++ oldsOf w (φ id2) (xs.length * sz))[j]? = some v := by rw [← htk, List.getElem?_take, if_pos (by simpa using hj)]; simpa using hv
        rw [flat_app] at hc
        by_cases hj2 : j < (flat es).length
        · rw [List.getElem?_append_left hj2] at hc
          rw [List.getElem?_append_left (by rw [hol, ← hfe]; exact hj2)] at hv2
          exact .inl ⟨hj2, hc, hC2 j c v hc hv2⟩
        · rw [List.getElem?_append_right (by omega)] at hc
          rw [List.getElem?_append_right (by rw [hol, ← hfe]; omega), hol, ← hfe] at hv2
          exact .inr ⟨by omega, hc, hD2 _ c v hc hv2⟩
      refine ⟨fps1 ++ fps2, by rw [List.length_append, f1, g1, flat_app, List.length_append], fun j c v fp hc hv hp => ?_, ?_, fun b hb => ?_, fun j c v hc hv hs => ?_⟩
      · rcases hget j c v hc hv with ⟨k1, k2, k3⟩ | ⟨k1, k2, k3⟩
        · rw [List.getElem?_append_left (by rw [f1]; exact k1)] at hp
          exact f2 j c v fp k2 k3 hp
        · rw [List.getElem?_append_right (by rw [f1]; exact k1), f1] at hp
          exact g2 _ c v fp k2 k3 hp
      · -- no block twice
        have n1 := (List.nodup_cons.1 f3)
        have n2 := (List.nodup_cons.1 g3)
        have hdis : ∀ b, b ∈ fps1.flatten → b ∈ fps2.flatten → False := fun b hb1 hb2 => hne' (hr.heap.injO id id2 _ _ b hl hl2 (.inr (f4 b hb1)) (.inr (g4 b hb2)))
        rw [List.flatten_append, List.nodup_cons]
        refine ⟨fun hb => ?_, List.nodup_append.2 ⟨n1.2, n2.2, fun b hb1 c hc2 e => hdis b hb1 (e ▸ hc2)⟩⟩
        have hb' : l'.blk ∈ fps1.flatten ++ fps2.flatten := hb
        rcases hres.go with ⟨hm', _⟩ | ⟨_, _, _, h3⟩
        · rw [hml] at hm'; cases hm'
        · rcases List.mem_append.1 hb' with hb | hb
          · rcases h3 with ⟨_, h5⟩ | ⟨h5, _⟩
            · rw [h5] at hb; exact n1.1 hb
            · have := hr.heap.ltO id _ _ hl (.inr (f4 _ hb)); omega
          · rcases h3 with ⟨h4, h5⟩ | ⟨h5, _⟩
            · exact hne' (hr.heap.injO id id2 _ _ _ hl hl2 (.inl ⟨h4, h5.symm⟩) (.inr (g4 _ hb)))
            · have := hr.heap.ltO id2 _ _ hl2 (.inr (g4 _ hb)); omega
      · rw [List.flatten_append] at hb
        rcases List.mem_append.1 hb with hb | hb
        · exact List.mem_append.2 (.inl (f4 b hb))
        · exact List.mem_append.2 (.inr (g4 b hb))
      · rcases hget j c v hc hv with ⟨k1, k2, k3⟩ | ⟨k1, k2, k3⟩
        · simp only [if_pos k1]; exact f5 j c v k2 k3 hs
        · simp only [if_neg (Nat.not_lt.2 k1)]; exact g5 _ c v k2 k3 hs)
  exact ⟨v', w', (fun h => nomatch h), by rw [exec_append]; simp only [Sem.run_bind, hrun, Result.andThen_ok, Sem.run_pure], _, hr'.put (Nat.le_of_ble_eq_true hN) hs hv'⟩
end
end Go.AM

namespace Go.AM
open Go
def isSnil : AV → Bool
  | .snil => true
  | _ => false
def absC (h : Heap) : AV → Option (AV × List Nat)
  | .ow i => match lk h i with
    | some (.arr ⟨_, true⟩ sz _ es) => some (.sl sz es, [i])
    | _ => none
  | x => bif flat1 x || isSnil x then some (x, []) else none
def absL (h : Heap) : List AV → Option (List AV × List Nat)
  | [] => some ([], [])
  | x :: r => match absC h x with
    | some (y, i) => match absL h r with
      | some (ys, is) => some (y :: ys, i ++ is)
      | none => none
    | none => none
section
variable {S : Nat → Prop} {w : World} {φ : Nat → Loc} {h : Heap}
theorem absC_one {x y : AV} {ids : List Nat} (ha : absC h x = some (y, ids)) : one y = true := by
  unfold absC at ha
  split at ha
  · split at ha
    · cases ha; rfl
    · cases ha
  · cases hb : flat1 x || isSnil x with
    | false => rw [hb] at ha; cases ha
    | true =>
      rw [hb] at ha
      cases ha
      cases x <;> first | rfl | (simp [flat1, isSnil] at hb)
theorem absC_rep (hh : HeapOK S w φ h) {x y : AV} {v : Value} {ids : List Nat} (hv : RepV S w φ h x v) (ha : absC h x = some (y, ids)) :
    ∃ fp, LinT w y v fp ∧ fp.Nodup ∧ ∀ b ∈ fp, ∃ i ∈ ids, ∃ o, lk h i = some o ∧ (φ i).owns b := by
  unfold absC at ha
  split at ha
  · rename_i i
    split at ha
    · rename_i p sz E es hl
      cases ha
      obtain ⟨hsz, hlens, hones, hob⟩ := hh.obj _ _ hl
      rcases hv.ow_inv hl with ⟨hm, rfl⟩ | ⟨hm, rfl, rfl⟩
      · rcases hob with ⟨hf, _⟩ | ⟨_, C, hC, hle, hcm, hCs, hrep⟩
        · rw [hm] at hf; cases hf
        · obtain ⟨fps, f1, f2, f3, f4, _⟩ := (show CellsOK ⟨p, true⟩ S w (φ i) (flat es) C from hrep)
          refine ⟨_, .sl sz es _ _ C E fps hC hCs hle hcm hsz hlens hones f1 f2, f3, fun b hb => ⟨i, by simp, _, hl, ?_⟩⟩
          rcases List.mem_cons.1 hb with rfl | hb
          · exact .inl ⟨hm, rfl⟩
          · exact .inr (f4 b hb)
      · exact ⟨[], .sl0 _ _, by simp, fun b hb => by simp at hb⟩
    · cases ha
  · cases hb : flat1 x || isSnil x with
    | false => rw [hb] at ha; cases ha
    | true =>
      rw [hb] at ha
      cases ha
      have hno : noIds x = true := by cases x <;> first | rfl | (simp [flat1, isSnil] at hb)
      have ht := hv.tree hno
      refine ⟨[], ?_, by simp, fun b hb => by simp at hb⟩
      cases x with
      | snil => cases ht; exact .snil
      | int _ _ => exact ht.lin rfl
      | bool _ => exact ht.lin rfl
      | str _ => exact ht.lin rfl
      | _ => simp [flat1, isSnil] at hb
theorem absL_rep (hh : HeapOK S w φ h) : ∀ {xs ys : List AV} {vs : List Value} {ids : List Nat}, PW S w φ h xs vs → absL h xs = some (ys, ids) → ids.Nodup →
    ys.length = xs.length ∧ (∀ y ∈ ys, one y = true) ∧ ∃ fps : List (List Nat), fps.length = ys.length ∧ (∀ (j : Nat) y v fp, ys[j]? = some y → vs[j]? = some v → fps[j]? = some fp → LinT w y v fp) ∧
      fps.flatten.Nodup ∧ ∀ b ∈ fps.flatten, ∃ i ∈ ids, ∃ o, lk h i = some o ∧ (φ i).owns b := by
  intro xs
  induction xs with
  | nil => intro ys vs ids hp ha _; cases ha; exact ⟨rfl, fun y hy => by simp at hy, [], rfl, fun j y v fp hy => by simp at hy, by simp, fun b hb => by simp at hb⟩
  | cons x r ih =>
    intro ys vs ids hp ha hnd
    unfold absL at ha
    cases hx : absC h x with
    | none => simp [hx] at ha
    | some p =>
      obtain ⟨y, i⟩ := p
      simp only [hx] at ha
      cases hr : absL h r with
      | none => simp [hr] at ha
      | some q =>
        obtain ⟨ys', is⟩ := q
        simp only [hr, Option.some.injEq, Prod.mk.injEq] at ha
        obtain ⟨rfl, rfl⟩ := ha
        cases vs with
        | nil => have := hp.1; simp at this
        | cons v vs =>
          obtain ⟨n1, n2, n3⟩ := List.nodup_append.1 hnd
          obtain ⟨fp, a1, a2, a3⟩ := absC_rep hh (hp.2 0 x v (by simp) (by simp)) hx
          obtain ⟨b1, b2, fps, b3, b4, b5, b6⟩ := ih (vs := vs) ⟨by have := hp.1; simpa using this, fun i x v hx hv => hp.2 (i + 1) x v (by simpa using hx) (by simpa using hv)⟩ hr n2
          refine ⟨by simp [b1], fun z hz => ?_, fp :: fps, by simp [b3], fun j z u fp' hz hu hf => ?_, ?_, fun b hb => ?_⟩
          · rcases List.mem_cons.1 hz with rfl | hz
            · exact absC_one hx
            · exact b2 z hz
          · cases j with
            | zero => simp at hz hu hf; subst hz hu hf; exact a1
            | succ j => simp at hz hu hf; exact b4 j z u fp' hz hu hf
          · rw [List.flatten_cons]
            refine List.nodup_append.2 ⟨a2, b5, fun b hb1 c hc e => ?_⟩
            subst e
            obtain ⟨i1, m1, o1, l1, w1⟩ := a3 b hb1
            obtain ⟨i2, m2, o2, l2, w2⟩ := b6 b hc
            have := hh.injO i1 i2 o1 o2 b l1 l2 w1 w2
            subst this
            exact n3 i1 m1 i1 m2 rfl
          · rw [List.flatten_cons] at hb
            rcases List.mem_append.1 hb with hb | hb
            · obtain ⟨i1, m1, r1⟩ := a3 b hb; exact ⟨i1, List.mem_append.2 (.inl m1), r1⟩
            · obtain ⟨i1, m1, r1⟩ := b6 b hb; exact ⟨i1, List.mem_append.2 (.inr m1), r1⟩
end
def Loc.all (l : Loc) : List Nat := (if l.mat then [l.blk] else []) ++ l.fp
theorem Loc.mem_all {l : Loc} {b : Nat} : b ∈ l.all ↔ l.owns b := by
  unfold Loc.all Loc.owns
  cases l.mat <;> simp [eq_comm]
def comps : Value → Option Addr × Nat × Nat
  | .slice a n c => (a, n, c)
  | _ => (none, 0, 0)
theorem LinT.comps {w : World} {x : AV} {v : Value} {fp : List Nat} (h : LinT w x v fp) (hs : isSl x = true) : v = .slice (AM.comps v).1 (AM.comps v).2.1 (AM.comps v).2.2 := by
  cases h <;> first | rfl | (simp [isSl] at hs)
theorem getElem?_mid {α : Type} (l m : List α) (b n j : Nat) (hb : b + n ≤ l.length) (hm : m.length = n) :
    (l.take b ++ m ++ l.drop (b + n))[j]? = if j < b then l[j]? else if j < b + n then m[j - b]? else l[j]? := by
  have h1 : (l.take b).length = b := by simp; omega
  by_cases hj : j < b
  · rw [if_pos hj, List.append_assoc, List.getElem?_append_left (by omega), List.getElem?_take, if_pos hj]
  · rw [if_neg hj]
    by_cases hj2 : j < b + n
    · rw [if_pos hj2, List.getElem?_append_left (by simp; omega), List.getElem?_append_right (by omega), h1]
    · rw [if_neg hj2, List.getElem?_append_right (by simp; omega), List.getElem?_drop]
      congr 1
      simp; omega
theorem CellsOK.put {k : Kd} {S : Nat → Prop} {w : World} {l l' : Loc} {sz k0 off : Nat} {es : List AV} {e e' : AV} {zy : List AV} {vs : List Value} {C : Array Value} {nf : List (List Nat)} (hk : k.d = true)
    (hc : CellsOK k S w l (flat es) C) (hsz : 0 < sz) (hl : ∀ e ∈ es, e.cells.length = sz) (he : es[k0]? = some e)
    (he' : e'.cells = e.cells.take off ++ zy ++ e.cells.drop (off + zy.length)) (hoff : off + zy.length ≤ sz) (hCs : es.length * sz ≤ C.size) (hvl : vs.length = zy.length)
    (hnl : nf.length = zy.length) (hlin : ∀ (j : Nat) y v fp, zy[j]? = some y → vs[j]? = some v → nf[j]? = some fp → LinT w y v fp) (hnd : nf.flatten.Nodup)
    (hdis : ∀ b ∈ nf.flatten, b ≠ l.blk ∧ b ∉ l.fp) (hblk : l'.blk = l.blk) (hfp : ∀ b, b ∈ l.fp → b ∈ l'.fp) (hfp2 : ∀ b ∈ nf.flatten, b ∈ l'.fp)
    (hsv1 : ∀ j, (j < k0 * sz + off ∨ k0 * sz + off + zy.length ≤ j) → l'.sv j = l.sv j)
    (hsv2 : ∀ (i : Nat) x v, zy[i]? = some x → vs[i]? = some v → isSl x = true → l'.sv (k0 * sz + off + i) = comps v) :
    CellsOK k S w l' (flat (es.set k0 e')) (C.toList.take (k0 * sz + off) ++ vs ++ C.toList.drop (k0 * sz + off + vs.length)).toArray := by
  obtain ⟨fps, f1, f2, f3, f4, f5⟩ : ∃ fps : List (List Nat), fps.length = (flat es).length ∧ (∀ (j : Nat) x v fp, (flat es)[j]? = some x → C[j]? = some v → fps[j]? = some fp → LinT w x v fp) ∧
      (l.blk :: fps.flatten).Nodup ∧ (∀ b ∈ fps.flatten, b ∈ l.fp) ∧ (∀ (j : Nat) x v, (flat es)[j]? = some x → C[j]? = some v → isSl x = true → v = .slice (l.sv j).1 (l.sv j).2.1 (l.sv j).2.2) := by
    unfold CellsOK at hc
    rw [hk] at hc
    exact hc
  have hfe := flat_length hl
  have hk0 := (List.getElem?_eq_some_iff.1 he).1
  have hin : k0 * sz + sz ≤ es.length * sz := by rw [← Nat.succ_mul]; exact Nat.mul_le_mul_right _ hk0
  have hb1 : k0 * sz + off + zy.length ≤ fps.length := by rw [f1, hfe]; omega
  have hek : e.cells.length = sz := hl e (List.mem_of_getElem? he)
  have he'k : e'.cells.length = sz := by rw [he']; simp; omega
  have hl' : ∀ u ∈ es.set k0 e', u.cells.length = sz := by
    intro u hu
    rcases List.mem_or_eq_of_mem_set hu with hu | rfl
    · exact hl u hu
    · exact he'k
  have hcl : ∀ (j : Nat) v, (C.toList.take (k0 * sz + off) ++ vs ++ C.toList.drop (k0 * sz + off + vs.length)).toArray[j]? = some v →
      (j < k0 * sz + off ∨ k0 * sz + off + zy.length ≤ j) ∧ C[j]? = some v ∨ (k0 * sz + off ≤ j ∧ j < k0 * sz + off + zy.length) ∧ vs[j - (k0 * sz + off)]? = some v := by
    intro j v hv
    rw [List.getElem?_toArray, getElem?_mid C.toList vs _ _ j (by simp; omega) rfl] at hv
    split at hv
    · exact .inl ⟨.inl ‹_›, by simpa using hv⟩
    · split at hv
      · exact .inr ⟨⟨by omega, by omega⟩, hv⟩
      · exact .inl ⟨.inr (by omega), by simpa using hv⟩
  unfold CellsOK
  rw [hk]
  have hsplit : fps = fps.take (k0 * sz + off) ++ ((fps.drop (k0 * sz + off)).take zy.length ++ fps.drop (k0 * sz + off + zy.length)) := by
    generalize k0 * sz + off = q
    rw [← List.drop_drop, List.take_append_drop, List.take_append_drop]
  have hmem : ∀ b, b ∈ (fps.take (k0 * sz + off) ++ nf ++ fps.drop (k0 * sz + off + zy.length)).flatten → b ∈ nf.flatten ∨ b ∈ fps.flatten := by
    intro b hb
    rw [List.flatten_append, List.flatten_append] at hb
    rcases List.mem_append.1 hb with hb | hb
    · rcases List.mem_append.1 hb with hb | hb
      · obtain ⟨l, h1, h2⟩ := List.mem_flatten.1 hb
        exact .inr (List.mem_flatten.2 ⟨l, List.mem_of_mem_take h1, h2⟩)
      · exact .inl hb
    · obtain ⟨l, h1, h2⟩ := List.mem_flatten.1 hb
      exact .inr (List.mem_flatten.2 ⟨l, List.mem_of_mem_drop h1, h2⟩)
  refine ⟨fps.take (k0 * sz + off) ++ nf ++ fps.drop (k0 * sz + off + zy.length), ?_, fun j c v fp hc hv hp => ?_, ?_, fun b hb => ?_, fun j c v hc hv hs => ?_⟩
  · rw [flat_length hl', List.length_set, List.length_append, List.length_append, List.length_take, List.length_drop, f1, hfe, hnl]
    rw [f1, hfe] at hb1
    omega
  · rw [getElem?_mid fps nf _ _ j hb1 hnl] at hp
    rcases flat_set hsz hl he he' hoff hc with ⟨i, rfl, hi⟩ | ⟨hi, hj⟩
    · have hil := (List.getElem?_eq_some_iff.1 hi).1
      rw [if_neg (by omega), if_pos (by omega)] at hp
      rcases hcl _ v hv with ⟨h1, _⟩ | ⟨_, h2⟩
      · omega
      · rw [Nat.add_sub_cancel_left] at hp h2
        exact hlin i c v fp hi h2 hp
    · rcases hcl _ v hv with ⟨_, h2⟩ | ⟨h1, _⟩
      · rcases hj with hj | hj
        · rw [if_pos hj] at hp; exact f2 j c v fp hi h2 hp
        · rw [if_neg (by omega), if_neg (by omega)] at hp; exact f2 j c v fp hi h2 hp
      · omega
  · rw [hblk, List.nodup_cons]
    obtain ⟨n1, n2⟩ := List.nodup_cons.1 f3
    refine ⟨fun hb => ?_, ?_⟩
    · rcases hmem _ hb with hb | hb
      · exact (hdis _ hb).1 rfl
      · exact n1 hb
    · rw [hsplit, List.flatten_append, List.flatten_append] at n2
      obtain ⟨a1, a2, a3⟩ := List.nodup_append.1 n2
      obtain ⟨b1, b2, b3⟩ := List.nodup_append.1 a2
      have inL : ∀ b, b ∈ (fps.take (k0 * sz + off)).flatten → b ∈ fps.flatten := fun b hb => by
        obtain ⟨l, h1, h2⟩ := List.mem_flatten.1 hb
        exact List.mem_flatten.2 ⟨l, List.mem_of_mem_take h1, h2⟩
      have inR : ∀ b, b ∈ (fps.drop (k0 * sz + off + zy.length)).flatten → b ∈ fps.flatten := fun b hb => by
        obtain ⟨l, h1, h2⟩ := List.mem_flatten.1 hb
        exact List.mem_flatten.2 ⟨l, List.mem_of_mem_drop h1, h2⟩
      rw [List.flatten_append, List.flatten_append]
      refine List.nodup_append.2 ⟨List.nodup_append.2 ⟨a1, hnd, fun b hb1 c hc e => ?_⟩, b2, fun b hb1 c hc e => ?_⟩
      · subst e; exact (hdis b hc).2 (f4 b (inL b hb1))
      · subst e
        rcases List.mem_append.1 hb1 with hb1 | hb1
        · exact a3 b hb1 b (List.mem_append.2 (.inr hc)) rfl
        · exact (hdis b hb1).2 (f4 b (inR b hc))
  · rcases hmem b hb with hb | hb
    · exact hfp2 b hb
    · exact hfp b (f4 b hb)
  · rcases flat_set hsz hl he he' hoff hc with ⟨i, rfl, hi⟩ | ⟨hi, hj⟩
    · have hil := (List.getElem?_eq_some_iff.1 hi).1
      rcases hcl _ v hv with ⟨h1, _⟩ | ⟨_, h2⟩
      · omega
      · rw [Nat.add_sub_cancel_left] at h2
        rw [hsv2 i c v hi h2 hs]
        obtain ⟨fp, hfp'⟩ : ∃ fp, nf[i]? = some fp := ⟨nf[i]'(by omega), by simp⟩
        exact (hlin i c v fp hi h2 hfp').comps hs
    · rcases hcl _ v hv with ⟨_, h2⟩ | ⟨h1, _⟩
      · rw [hsv1 j hj]; exact f5 j c v hi h2 hs
      · omega
end Go.AM

namespace Go.AM
open Go
section
variable {F : Fr} {N : Nat} {P : Program}
variable {ops : Array Oper} {rest : List Oper} {K : St → Prop} {ex : Bool}
variable {ty : TypeId} {pos : String} {after : Array Edge} {d id : Nat} {s s' s1 : Slots} {h h' h1 : Heap} {x y : Operand}
theorem lk_all {α : Type} {p : α → Bool} {l : List (Nat × α)} (hp : l.all (fun q => p q.2) = true) {i : Nat} {x : α} (h : lk l i = some x) : p x = true := List.all_eq_true.1 hp _ (lk_mem h)
def noSubH (id : Nat) (h : Heap) : Bool := h.all fun p => match p.2 with
  | .box cs => noSubL id cs
  | _ => true
theorem noSubH_box {h : Heap} (hp : noSubH id h = true) {i : Nat} {cs : List AV} (hl : lk h i = some (.box cs)) {x : AV} (hx : x ∈ cs) : noSub id x = true := by
  have := List.all_eq_true.1 hp _ (lk_mem hl)
  obtain ⟨j, hj⟩ := List.getElem?_of_mem hx
  exact noSubL_mem this j x hj
def nodupL : List Nat → Bool
  | [] => true
  | i :: r => !(r.any fun j => Nat.beq i j) && nodupL r
theorem nodupL_spec : ∀ {l : List Nat}, nodupL l = true → l.Nodup := by
  intro l
  induction l with
  | nil => intro _; simp
  | cons i r ih =>
    intro h
    simp only [nodupL, Bool.and_eq_true, Bool.not_eq_true'] at h
    rw [List.nodup_cons]
    refine ⟨fun hm => ?_, ih h.2⟩
    have : (r.any fun j => Nat.beq i j) = true := List.any_eq_true.2 ⟨i, hm, Nat.beq_refl i⟩
    rw [this] at h
    cases h.1
theorem RelP.storeD {t n off k0 sz : Nat} {k : Kd} {E : TypeId} {z e e' : AV} {es zc zy : List AV} {ids : List Nat} {φ : Nat → Loc} {a : Act} {w : World} (hr : RelP F N ⟨s, h⟩ φ a w)
    (hs : tySize P t = some n) (hx : aev s x = some (.ptr id k0 off)) (hl : lk h id = some (.arr k sz E es)) (hk : k.d = true) (he : es[k0]? = some e)
    (hy : aev s y = some z) (hj : isJunk z = false) (hc : cellsO z = some zc) (hn : zc.length = n) (hab : absL h zc = some (zy, ids)) (hnd : ids.Nodup) (hid : id ∉ ids) (hgF : ∀ j ∈ ids, lk F.η j = none)
    (he' : e'.cells = e.cells.take off ++ zy ++ e.cells.drop (off + zy.length)) (hoff : off + zy.length ≤ sz)
    (hks : killSL ids s = some s1) (hkh : killHL ids h = some h1) (hh : sput (dropH ids h1) id (.arr k sz E (es.set k0 e')) = some h')
    (hpin : (k.p = false ∧ s1.all (fun q => noSub id q.2) = true ∧ noSubH id h1 = true) ∨ (ids = [] ∧ zy.all flat1 = true)) :
    ∃ w', (execOp a.eval ⟨none, .store t x y, ty, pos, after, none⟩).run P w = .ok .skip w' ∧ Rel F N ⟨s1, h'⟩ a w' := by
  obtain ⟨hsz, hlens, hones, hob⟩ := hr.heap.obj _ _ hl
  have hek : e.cells.length = sz := hlens e (List.mem_of_getElem? he)
  have hk0 := (List.getElem?_eq_some_iff.1 he).1
  rcases hob with ⟨_, rfl⟩ | ⟨hm, C, hC, hle, hcm, hCs, hrep⟩
  · simp at he
  have hzv := aev_rep hr hy
  have hcells := hzv.cells hc (fun u hu => by subst hu; cases hj)
  have hvs : (a.eval y).cells.size = n := by rw [← hn]; simpa using hcells.1.symm
  obtain ⟨hyl, hyone, nf, hnl, hlin, hnnd, hnown⟩ := absL_rep hr.heap hcells hab hnd
  have hptr : a.eval x = .pointer (some ⟨(φ id).blk, k0 * sz + off, none⟩) := by
    have := aev_rep hr hx
    generalize a.eval x = v at this
    cases this with
    | pure h => cases h
    | box h _ => rw [hl] at h; cases h
    | elt h _ => rw [hl] at h; cases h; rfl
  have h1c : ∀ u ∈ (a.eval y).cells.toList, u.oneCell' = true := by
    intro u hu
    obtain ⟨i, hi⟩ := List.getElem?_of_mem hu
    have hlt := (List.getElem?_eq_some_iff.1 hi).1
    have hil : i < zy.length := by rw [hyl, hcells.1]; exact hlt
    have hp : nf[i]? = some (nf[i]'(by omega)) := by simp [hnl, hil]
    exact (hlin i zy[i] u _ (by simp [hil]) hi hp).tree.one (hyone _ (List.getElem_mem hil))
  have hcapsz : k0 * sz + sz ≤ (φ id).cap * sz := by
    rw [← Nat.succ_mul]; exact Nat.mul_le_mul_right _ (by omega)
  have hnz : zy.length = n := by rw [hyl, hn]
  have hrun := run_storeAt (P := P) (E := E) hs hvs hC (off := k0 * sz + off) (by rw [hCs]; omega) h1c
  refine ⟨_, by rw [exec_store, hptr]; simp only [Sem.run_bind, hrun, Result.andThen_ok, Sem.run_pure]; rfl, ?_⟩
  obtain ⟨hHn, hH⟩ := killHL_spec hkh
  have hkS := killSL_spec hks
  have hrk : RelP F N ⟨s1, h1⟩ φ a w := hr.weaken (fun i x hx => (hkS i x hx).2) hHn (fun i o ho => (hH i o ho).2)
  have hl1 : lk h1 id = some (.arr k sz E es) := by
    cases hq : lk h1 id with
    | none => rw [(hHn id).1 hq] at hl; cases hl
    | some o =>
      obtain ⟨_, o2, ho2, hw⟩ := hH id o hq
      rw [hl] at ho2
      cases ho2
      cases o with
      | box _ => exact hw.elim
      | arr _ _ _ _ => obtain ⟨rfl, rfl, rfl, rfl⟩ := hw; rfl
  have hh1h : ∀ {j o}, lk h1 j = some o → ∃ o', lk h j = some o' := fun {j o} e => by obtain ⟨_, o', ho', _⟩ := hH j o e; exact ⟨o', ho'⟩
  have hhh1 : ∀ {j o}, lk h j = some o → ∃ o', lk h1 j = some o' := fun {j o} e => by
    cases hq : lk h1 j with
    | none => rw [(hHn j).1 hq] at e; cases e
    | some o' => exact ⟨o', rfl⟩
  have hSk : ∀ b, Stab F w φ h b → Stab F w φ h1 b := fun b hb => ⟨hb.1, hb.2.1, fun i o ho hm => by
    obtain ⟨o1, ho1⟩ := hh1h ho
    exact hb.2.2 i o1 ho1 hm⟩
  have hlk := lk_sput hh
  have hdrop := @lk_dropH ids h1
  have h1id : lk h' id = some (.arr k sz E (es.set k0 e')) := by rw [hlk, if_pos rfl]
  -- the new place
  let l' : Loc := { φ id with
    fp := (φ id).fp ++ ids.flatMap (fun i => (φ i).all),
    sv := fun j => if k0 * sz + off ≤ j ∧ ((zy[j - (k0 * sz + off)]?).map isSl).getD false = true then comps (((a.eval y).cells.toList[j - (k0 * sz + off)]?).getD undef) else (φ id).sv j }
  have hfl' : ids = [] → zy.all flat1 = true → l' = φ id := by
    intro h1 h2
    have e1 : l'.sv = (φ id).sv := by
      funext j
      show (if _ then _ else _) = _
      rw [if_neg]
      rintro ⟨_, h4⟩
      cases hz : zy[j - (k0 * sz + off)]? with
      | none => rw [hz] at h4; cases h4
      | some q =>
        rw [hz] at h4
        have := List.all_eq_true.1 h2 q (List.mem_of_getElem? hz)
        cases q <;> first | (simp [flat1] at this; done) | (simp [isSl] at h4)
    have e2 : l'.fp = (φ id).fp := by show _ ++ _ = _; rw [h1]; simp
    show ({ φ id with fp := l'.fp, sv := l'.sv } : Loc) = φ id
    rw [e1, e2]
  have hnew := CellsOK.put (l' := l') (vs := (a.eval y).cells.toList) (nf := nf) hk hrep hsz hlens he he' hoff (by rw [hCs]; exact Nat.mul_le_mul_right _ hle) (by rw [Array.length_toList, hvs, hnz]) hnl hlin hnnd
    (fun b hb => by
      obtain ⟨i, hi, o, ho, hw⟩ := hnown b hb
      have hne : i ≠ id := fun e => hid (e ▸ hi)
      exact ⟨fun e => hne (hr.heap.injO i id o _ b ho hl hw (.inl ⟨hm, e.symm⟩)), fun e => hne (hr.heap.injO i id o _ b ho hl hw (.inr e))⟩)
    rfl (fun b hb => List.mem_append.2 (.inl hb)) (fun b hb => by
      obtain ⟨i, hi, o, ho, hw⟩ := hnown b hb
      exact List.mem_append.2 (.inr (List.mem_flatMap.2 ⟨i, hi, Loc.mem_all.2 hw⟩)))
    (fun j hj => by
      show (if _ then _ else _) = _
      rw [if_neg]
      rintro ⟨h3, h4⟩
      rcases hj with hj | hj
      · omega
      · rw [List.getElem?_eq_none (by omega)] at h4; cases h4)
    (fun i c v hc hv hsl => by
      show (if _ then _ else _) = _
      rw [Nat.add_sub_cancel_left, hc, hv, if_pos ⟨by omega, hsl⟩]
      rfl)
  rw [Array.length_toList, hvs] at hnew
  have he'k : e'.cells.length = sz := by rw [he']; simp; omega
  refine ⟨updLoc φ id l', hrk.updX (fun j => j ∈ ids) h1id (fun j hj hg => by rw [hlk, if_neg (Ne.symm hj), hdrop, if_neg hg]) (fun j hj hg => by rw [hlk, if_neg (Ne.symm hj), hdrop, if_pos hg])
      (fun j hg => ⟨fun e => hid (e ▸ hg), hgF j hg⟩) (updLoc_ne φ id _) (setRow_sys _ _ _) (by simp) (fun b _ hb => setRow_other _ _ _ _ (fun e => hb _ hl1 (.inl ⟨hm, e.symm⟩))) (fun b hb => ?_) (fun o ho hne => ?_)
      (fun o ho => by rw [hl1] at ho; cases ho; exact ⟨rfl, fun _ => ⟨rfl, rfl, by simp⟩⟩) (fun hS hw x v hx hv => ?_) (fun hS hw => ?_)⟩
  · rw [updLoc_same] at hb
    rcases hb with hb | hb
    · exact .inr (.inl ⟨_, hl1, .inl hb⟩)
    · rcases List.mem_append.1 hb with hb | hb
      · exact .inr (.inl ⟨_, hl1, .inr hb⟩)
      · obtain ⟨i, hi, hb⟩ := List.mem_flatMap.1 hb
        have hown := Loc.mem_all.1 hb
        -- an object that is named is there
        have : ∃ o, lk h i = some o := by
          have hq : ∀ {zc zy : List AV} {ids : List Nat}, absL h zc = some (zy, ids) → ∀ i ∈ ids, ∃ o, lk h i = some o := by
            intro zc
            induction zc with
            | nil => intro zy ids e i hi; cases e; simp at hi
            | cons c r ih =>
              intro zy ids e i hi
              unfold absL at e
              cases hx : absC h c with
              | none => simp [hx] at e
              | some p =>
                obtain ⟨y, i1⟩ := p
                simp only [hx] at e
                cases hr : absL h r with
                | none => simp [hr] at e
                | some q =>
                  obtain ⟨ys', is⟩ := q
                  simp only [hr, Option.some.injEq, Prod.mk.injEq] at e
                  obtain ⟨_, rfl⟩ := e
                  rcases List.mem_append.1 hi with hi | hi
                  · unfold absC at hx
                    split at hx
                    · split at hx
                      · rename_i hl; cases hx; simp at hi; subst hi; exact ⟨_, hl⟩
                      · cases hx
                    · cases hb : flat1 c || isSnil c with
                      | false => rw [hb] at hx; cases hx
                      | true => rw [hb] at hx; cases hx; simp at hi
                  · exact ih hr i hi
          exact hq hab i hi
        obtain ⟨o, ho⟩ := this
        obtain ⟨o', ho'⟩ := hhh1 ho
        exact .inr (.inr ⟨i, o', hi, ho', hown⟩)
  · rw [updLoc_same]
    rcases hpin with ⟨hp, _, _⟩ | ⟨h2, h3⟩
    · exfalso
      obtain ⟨o1, ho1, hb1⟩ := hr.keep id _ ho
      have ho1' : lk h id = some o1 := ho1
      rw [hl] at ho1'
      cases ho1'
      have := AO.alike_box hb1
      apply hne
      rw [← this]
      simp [AO.isBox, hp]
    · rw [hfl' h2 h3]; exact hr.fix id _ ho hne
  · have hm : ∀ i ∈ ids, men i x = false := by
      rcases hx with ⟨i, hi⟩ | ⟨i, cs, _, hi, hxc⟩
      · exact (hkS i x hi).1
      · intro m hm; exact (hH i _ hi).1 cs rfl x hxc m hm
    have hbx : ∀ i cs, ¬ i ∈ ids → lk h1 i = some (.box cs) → ∃ cs', lk h' i = some (.box cs') := by
      intro i cs hg ho
      have hne : id ≠ i := fun e => by subst e; rw [hl1] at ho; cases ho
      exact ⟨cs, by rw [hlk, if_neg hne, hdrop, if_neg hg]; exact ho⟩
    have har : ∀ i k2 sz2 E2 es2, ¬ i ∈ ids → lk h1 i = some (.arr k2 sz2 E2 es2) → ∃ k' es', es'.length = es2.length ∧ lk h' i = some (.arr k' sz2 E2 es') := by
      intro i k2 sz2 E2 es2 hg ho
      by_cases hii : id = i
      · subst hii
        rw [hl1] at ho
        cases ho
        exact ⟨_, _, by simp, h1id⟩
      · exact ⟨k2, es2, rfl, by rw [hlk, if_neg hii, hdrop, if_neg hg]; exact ho⟩
    rcases hpin with ⟨_, h2, h3⟩ | ⟨h2, h3⟩
    · refine hv.move (id := id) (gone := fun j => j ∈ ids) hS hw (fun i hi _ => updLoc_ne φ id _ i hi) (fun o ho hg => by rw [updLoc_same]; exact ⟨rfl, rfl, rfl, rfl⟩) hbx har hm ?_
      rcases hx with ⟨i, hi⟩ | ⟨i, cs, _, hi, hxc⟩
      · exact lk_all (p := noSub id) h2 hi
      · exact noSubH_box h3 hi hxc
    · rw [hfl' h2 h3] at hS ⊢
      have hfe : updLoc φ id (φ id) = φ := by funext i; by_cases hi : i = id <;> simp [updLoc, hi]
      rw [hfe] at hS ⊢
      subst h2
      exact hv.mono hS hw ⟨fun i cs ho _ => ⟨hbx i cs (by simp) ho, rfl⟩, fun i k2 sz2 E2 es2 ho => by
        obtain ⟨k', es', q1, q2⟩ := har i k2 sz2 E2 es2 (by simp) ho
        exact ⟨rfl, k', es', q1, q2⟩⟩
  · refine ⟨hsz, ?_, ?_, .inr ⟨by rw [updLoc_same]; exact hm, _, by rw [updLoc_same]; exact setRow_heap _ _ _ _ _ _ hC, by rw [updLoc_same]; simpa using hle, by rw [updLoc_same]; exact hcm, ?_, ?_⟩⟩
    · intro u hu
      rcases List.mem_or_eq_of_mem_set hu with hu | rfl
      · exact hlens u hu
      · exact he'k
    · intro j c hcj
      rcases flat_set hsz hlens he he' hoff hcj with ⟨i, _, hi⟩ | ⟨hi, _⟩
      · exact hyone c (List.mem_of_getElem? hi)
      · exact hones j c hi
    · rw [updLoc_same]
      show _ = (φ id).cap * sz
      simp [hvs]; omega
    · rw [updLoc_same]
      have hnewS : CellsOK k (Stab F w φ h) w l' (flat (es.set k0 e')) (C.toList.take (k0 * sz + off) ++ (a.eval y).cells.toList ++ C.toList.drop (k0 * sz + off + n)).toArray := hnew
      refine hnewS.mono (fun b hb => hS b (hSk b hb)) (fun b hb => hw b (hSk b hb)) (fun b _ hne => setRow_other _ _ _ _ (fun e => hne e)) rfl
theorem TL_storeF {t n off k0 sz : Nat} {p : Bool} {E : TypeId} {z : AV} {es es' ec zc ec' : List AV} (hs : tySize P t = some n) (hx : aev s x = some (.ptr id k0 off))
    (hl : lk h id = some (.arr ⟨p, true⟩ sz E es)) {e e' : AV} (he : es[k0]? = some e) (hec : cellsO e = some ec) (hy : aev s y = some z) (hj : isJunk z = false) (hc : cellsO z = some zc) (hn : Nat.beq zc.length n = true)
    (hfl : zc.all flat1 = true) (hset : setO ec off zc = some ec') (hec' : cellsO e' = some ec') (hes : es' = es.set k0 e')
    (hh : sput h id (.arr ⟨p, true⟩ sz E es') = some h') (k : TL P F N ops rest K ⟨s, h'⟩) :
    TL P F N ops (⟨none, .store t x y, ty, pos, after, none⟩ :: rest) K ⟨s, h⟩ := by
  refine TL_skip rfl rfl (fun φ a w hr => ?_) k
  subst hes
  obtain rfl := cellsO_eq hec
  obtain hee := cellsO_eq hec'
  obtain ⟨rfl, hlen⟩ := setO_eq hset
  have hek : e.cells.length = sz := (hr.heap.obj _ _ hl).2.1 _ (List.mem_of_getElem? he)
  have hab : absL h zc = some (zc, []) := by
    clear hset hec' hee hc hn hlen
    induction zc with
    | nil => rfl
    | cons c r ih =>
      simp only [List.all_cons, Bool.and_eq_true] at hfl
      have hcc : absC h c = some (c, []) := by cases c <;> first | rfl | (have := hfl.1; simp [flat1] at this)
      unfold absL
      rw [hcc, ih hfl.2]
      rfl
  exact hr.storeD hs hx hl rfl he hy hj hc ((beq_iff _ _).1 hn) hab (by simp) (by simp) (by simp) hee.symm (by omega) (by rfl) (by rfl) (by
    have : dropH [] h = h := by
      have : ∀ h : Heap, dropH [] h = h := by
        intro h
        induction h with
        | nil => rfl
        | cons p r ih => obtain ⟨k, o⟩ := p; simp [dropH, ih]
      exact this h
    rw [this]; exact hh) (.inr ⟨rfl, hfl⟩)
end
end Go.AM

namespace Go.AM
open Go
section
variable {F : Fr} {N : Nat} {P : Program}
variable {ops : Array Oper} {rest : List Oper} {K : St → Prop} {ex : Bool}
variable {ty : TypeId} {pos : String} {after : Array Edge} {d id : Nat} {s s' s1 : Slots} {h h' h1 : Heap} {x y : Operand}
theorem run_buildSlice_vals {a : Act} {w : World} {t E : TypeId} {n sz bz : Nat} {zv : Value} {parts : Array (Nat × Operand)} (ht : tyElem P t = some (E, sz)) (hz : tyZero P E = some (zv, sz, bz))
    (hn : parts.toList.length = n) (hord : parts.toList.map (·.1) = List.range' 0 parts.toList.length) (hbig : n * sz ≤ 16777216) (hvc : ∀ p ∈ parts.toList, (a.eval p.2).cells.size = sz) :
    ∃ C : Array Value, (execOp a.eval ⟨some d, .buildSlice t n parts, ty, pos, after, none⟩).run P w = .ok (.value (.slice (some ⟨w.heap.size, 0, none⟩) n n)) (w.alloc (.cells C E)) ∧
      C.toList = (parts.toList.map fun p => a.eval p.2).flatMap (·.cells.toList) := by
  obtain ⟨hu, hsize⟩ := tyElem_inv ht
  let vs : List Value := parts.toList.map fun p => a.eval p.2
  have hvl : vs.length = n := by simp only [vs, List.length_map]; exact hn
  have hzip : (parts.map fun (i, x) => (i, a.eval x)).toList = (List.range' 0 vs.length).zip vs := by
    rw [hvl, ← hn, ← hord]
    rw [Array.toList_map]
    exact zip_parts (fun y => a.eval y) parts.toList
  have hvc' : ∀ v ∈ vs, v.cells.size = sz := by
    intro v hv
    obtain ⟨p, hp, rfl⟩ := List.mem_map.1 hv
    exact hvc p hp
  let Z : Array Value := (Array.range (n * sz)).map ((if n * sz = 0 then #[] else zv.cells)[· % (if n * sz = 0 then #[] else zv.cells).size]!)
  have hZ : Z.size = n * sz := by simp [Z]
  obtain ⟨C, hC, hCl⟩ := fill_ordered sz vs 0 Z (by rw [hZ, hvl, Nat.zero_add]; exact Nat.le_refl _) hvc'
  have hCl' : C.toList = vs.flatMap (·.cells.toList) := by
    rw [hCl]
    rw [List.drop_of_length_le (by rw [Array.length_toList, hZ, hvl]; simp)]
    simp
  refine ⟨C, ?_, hCl'⟩
  show (do pure (.value (← Instr.buildSlice t n (parts.map fun (i, x) => (i, a.eval x)))) : Sem Next).run P w = _
  unfold Instr.buildSlice
  simp only [Sem.run_bind, run_underlying hu, Result.andThen_ok, run_size hsize]
  rw [if_neg (by simp; omega)]
  rw [hzip]
  simp only [Z] at hC
  by_cases h0 : n * sz = 0
  · rw [if_pos h0] at hC ⊢
    simp only [Sem.run_bind, Sem.run_pure, Result.andThen_ok]
    rw [hC]
    rfl
  · rw [if_neg h0] at hC ⊢
    simp only [Sem.run_bind, Sem.run_pure, Result.andThen_ok, run_zero hz]
    rw [hC]
    rfl
def reE (ys : List AV) : AV → AV
  | .agg _ => .agg ys
  | _ => ys.headD .junk
def absE (h : Heap) (sz : Nat) : List AV → Option (List AV × List Nat)
  | [] => some ([], [])
  | e :: r => bif isJunk e then none else match cellsO e with
    | some cs => bif Nat.beq cs.length sz then match absL h cs with
      | some (ys, i) => match absE h sz r with
        | some (es, is) => some (reE ys e :: es, i ++ is)
        | none => none
      | none => none
      else none
    | none => none
theorem absL_app {h : Heap} : ∀ {a b ya yb : List AV} {ia ib : List Nat}, absL h a = some (ya, ia) → absL h b = some (yb, ib) → absL h (a ++ b) = some (ya ++ yb, ia ++ ib) := by
  intro a
  induction a with
  | nil => intro b ya yb ia ib ha hb; cases ha; simpa using hb
  | cons x r ih =>
    intro b ya yb ia ib ha hb
    unfold absL at ha
    cases hx : absC h x with
    | none => simp [hx] at ha
    | some p =>
      obtain ⟨y, i⟩ := p
      simp only [hx] at ha
      cases hr : absL h r with
      | none => simp [hr] at ha
      | some q =>
        obtain ⟨ys', is⟩ := q
        simp only [hr, Option.some.injEq, Prod.mk.injEq] at ha
        obtain ⟨rfl, rfl⟩ := ha
        rw [List.cons_append]
        unfold absL
        rw [hx]
        simp only [ih hr hb, List.cons_append, List.append_assoc]
theorem absL_len {h : Heap} : ∀ {a ya : List AV} {ia : List Nat}, absL h a = some (ya, ia) → ya.length = a.length := by
  intro a
  induction a with
  | nil => intro ya ia ha; cases ha; rfl
  | cons x r ih =>
    intro ya ia ha
    unfold absL at ha
    cases hx : absC h x with
    | none => simp [hx] at ha
    | some p =>
      obtain ⟨y, i⟩ := p
      simp only [hx] at ha
      cases hr : absL h r with
      | none => simp [hr] at ha
      | some q =>
        obtain ⟨ys', is⟩ := q
        simp only [hr, Option.some.injEq, Prod.mk.injEq] at ha
        obtain ⟨rfl, rfl⟩ := ha
        simp [ih hr]
theorem absE_spec {h : Heap} {sz : Nat} (hsz : 0 < sz) : ∀ {zs es : List AV} {ids : List Nat}, absE h sz zs = some (es, ids) →
    es.length = zs.length ∧ absL h (flat zs) = some (flat es, ids) ∧ (∀ e ∈ es, e.cells.length = sz) ∧ (∀ z ∈ zs, isJunk z = false ∧ z.cells.length = sz) := by
  intro zs
  induction zs with
  | nil => intro es ids h; cases h; exact ⟨rfl, rfl, fun e he => by simp at he, fun e he => by simp at he⟩
  | cons z r ih =>
    intro es ids hh
    unfold absE at hh
    cases hj : isJunk z with
    | true => simp [hj] at hh
    | false =>
      simp only [hj, cond_false] at hh
      cases hc : cellsO z with
      | none => simp [hc] at hh
      | some cs =>
        simp only [hc] at hh
        cases hb : Nat.beq cs.length sz with
        | false => simp [hb] at hh
        | true =>
          simp only [hb, cond_true] at hh
          cases hl : absL h cs with
          | none => simp [hl] at hh
          | some p =>
            obtain ⟨ys, i⟩ := p
            simp only [hl] at hh
            cases hr : absE h sz r with
            | none => simp [hr] at hh
            | some q =>
              obtain ⟨es', is⟩ := q
              simp only [hr, Option.some.injEq, Prod.mk.injEq] at hh
              obtain ⟨rfl, rfl⟩ := hh
              obtain ⟨a1, a2, a3, a4⟩ := ih hr
              have hcs := cellsO_eq hc
              have hlen := (beq_iff _ _).1 hb
              have hyl := absL_len hl
              have hone : ∀ {xs ys : List AV} {i : List Nat}, absL h xs = some (ys, i) → ∀ y ∈ ys, one y = true := by
                intro xs
                induction xs with
                | nil => intro ys i e y hy; cases e; simp at hy
                | cons x r ih =>
                  intro ys i e y hy
                  unfold absL at e
                  cases hx : absC h x with
                  | none => simp [hx] at e
                  | some p =>
                    obtain ⟨y0, i⟩ := p
                    simp only [hx] at e
                    cases hr : absL h r with
                    | none => simp [hr] at e
                    | some q =>
                      obtain ⟨ys', is⟩ := q
                      simp only [hr, Option.some.injEq, Prod.mk.injEq] at e
                      obtain ⟨rfl, rfl⟩ := e
                      rcases List.mem_cons.1 hy with rfl | hy
                      · exact absC_one hx
                      · exact ih hr y hy
              have hcell : ∀ (e : AV), e = reE ys z → e.cells = ys := by
                intro e he
                subst he
                cases z with
                | agg cs' => rfl
                | _ =>
                  all_goals
                    simp only [cellsO, Option.some.injEq] at hc
                    subst hc
                    obtain ⟨y, rfl⟩ : ∃ y, ys = [y] := by
                      match ys, hyl with
                      | [y], _ => exact ⟨y, rfl⟩
                    have := hone hl y (by simp)
                    show y.cells = [y]
                    cases y <;> first | rfl | (simp [one] at this)
              have hz : flat (z :: r) = cs ++ flat r := by simp [flat, hcs]
              refine ⟨by simp [a1], ?_, fun e he => ?_, fun u hu => ?_⟩
              · rw [hz, show flat (_ :: es') = ys ++ flat es' from by simp only [flat, List.flatMap_cons]; rw [hcell _ rfl]]
                exact absL_app hl a2
              · rcases List.mem_cons.1 he with he | he
                · rw [hcell e he, hyl, hlen]
                · exact a3 e he
              · rcases List.mem_cons.1 hu with rfl | hu
                · exact ⟨hj, by rw [← hcs, hlen]⟩
                · exact a4 u hu
theorem absL_lk {h : Heap} : ∀ {zc zy : List AV} {ids : List Nat}, absL h zc = some (zy, ids) → ∀ i ∈ ids, ∃ o, lk h i = some o := by
  intro zc
  induction zc with
  | nil => intro zy ids e i hi; cases e; simp at hi
  | cons c r ih =>
    intro zy ids e i hi
    unfold absL at e
    cases hx : absC h c with
    | none => simp [hx] at e
    | some p =>
      obtain ⟨y, i1⟩ := p
      simp only [hx] at e
      cases hr : absL h r with
      | none => simp [hr] at e
      | some q =>
        obtain ⟨ys', is⟩ := q
        simp only [hr, Option.some.injEq, Prod.mk.injEq] at e
        obtain ⟨_, rfl⟩ := e
        rcases List.mem_append.1 hi with hi | hi
        · unfold absC at hx
          split at hx
          · split at hx
            · rename_i hl; cases hx; simp at hi; subst hi; exact ⟨_, hl⟩
            · cases hx
          · cases hb : flat1 c || isSnil c with
            | false => rw [hb] at hx; cases hx
            | true => rw [hb] at hx; cases hx; simp at hi
        · exact ih hr i hi
theorem TL_buildSliceD {t E : TypeId} {n sz : Nat} {parts : Array (Nat × Operand)} {zs es : List AV} {ids : List Nat} (id : Nat) {zv : Value} {bz : Nat} (ht : tyElem P t = some (E, sz))
    (hz : tyZero P E = some (zv, sz, bz)) (hsz : Nat.blt 0 sz = true) (hp : aevP s 0 parts.toList = some zs) (hn : Nat.beq parts.toList.length n = true) (hab : absE h sz zs = some (es, ids))
    (hbig : Nat.ble (n * sz) 16777216 = true) (hnd : nodupL (id :: ids) = true) (hgF : ∀ j ∈ ids, lk F.η j = none)
    (hl : lk h id = none) (hks : killSL ids s = some s1) (hkh : killHL ids h = some h1) (hh : sput (dropH ids h1) id (.arr ⟨false, true⟩ sz E es) = some h') (hN : Nat.blt d N = true) (hs : sput s1 d (.ow id) = some s')
    (k : TL P F N ops rest K ⟨s', h'⟩) : TL P F N ops (⟨some d, .buildSlice t n parts, ty, pos, after, none⟩ :: rest) K ⟨s, h⟩ := by
  refine TL_val rfl (fun φ a w hr => ?_) k
  have hsz' : 0 < sz := Nat.le_of_ble_eq_true hsz
  have hbig' : n * sz ≤ 16777216 := Nat.le_of_ble_eq_true hbig
  have hn' : parts.toList.length = n := (beq_iff _ _).1 hn
  obtain ⟨p1, p2, p3⟩ := aevP_eq hp
  obtain ⟨e1, e2, e3, e4⟩ := absE_spec hsz' hab
  have hnd' := List.nodup_cons.1 (nodupL_spec hnd)
  have hrep : ∀ (i : Nat) e v, zs[i]? = some e → (parts.toList.map fun p => a.eval p.2)[i]? = some v → RepV (Stab F w φ h) w φ h e v ∧ isJunk e = false := by
    intro i e v he hv
    obtain ⟨p, hp1, hp2⟩ := p3 i e he
    rw [List.getElem?_map, hp1, Option.map_some, Option.some.injEq] at hv
    subst hv
    exact ⟨aev_rep hr hp2, (e4 e (List.mem_of_getElem? he)).1⟩
  have hpw := PW_flat (S := Stab F w φ h) (w := w) (φ := φ) (η := h) (es := zs) (vs := parts.toList.map fun p => a.eval p.2) (by rw [p1, List.length_map]) hrep
  have hvc : ∀ p ∈ parts.toList, (a.eval p.2).cells.size = sz := by
    intro p hpm
    obtain ⟨i, hi⟩ := List.getElem?_of_mem hpm
    have hlt := (List.getElem?_eq_some_iff.1 hi).1
    obtain ⟨e, he⟩ : ∃ e, zs[i]? = some e := ⟨zs[i]'(by rw [p1]; exact hlt), by simp⟩
    obtain ⟨r1, r2⟩ := hrep i e (a.eval p.2) he (by rw [List.getElem?_map, hi]; rfl)
    have := (r1.cells (cs := e.cells) (by cases e <;> rfl) (fun u hu => by subst hu; cases r2)).1
    rw [(e4 e (List.mem_of_getElem? he)).2] at this
    simpa using this.symm
  obtain ⟨C, hrun, hCl⟩ := run_buildSlice_vals (P := P) (d := d) (ty := ty) (pos := pos) (after := after) (w := w) (a := a) ht hz hn' p2 hbig' hvc
  obtain ⟨hyl, hyone, nf, hnl, hlin, hnnd, hnown⟩ := absL_rep hr.heap hpw e2 hnd'.2
  have hCs : C.size = n * sz := by
    rw [← Array.length_toList, hCl, ← hpw.1, ← hyl, flat_length e3, e1, p1, hn']
  obtain ⟨g1, g2, g3, g4⟩ := alloc_new w (.cells C E)
  obtain ⟨hHn, hH⟩ := killHL_spec hkh
  have hkS := killSL_spec hks
  have hrk : RelP F N ⟨s1, h1⟩ φ a w := hr.weaken (fun i x hx => (hkS i x hx).2) hHn (fun i o ho => (hH i o ho).2)
  have hl1 : lk h1 id = none := (hHn id).2 hl
  have hlk := lk_sput hh
  have hdrop := @lk_dropH ids h1
  have h1id : lk h' id = some (.arr ⟨false, true⟩ sz E es) := by rw [hlk, if_pos rfl]
  have hhh1 : ∀ {j o}, lk h j = some o → ∃ o', lk h1 j = some o' := fun {j o} e => by
    cases hq : lk h1 j with
    | none => rw [(hHn j).1 hq] at e; cases e
    | some o' => exact ⟨o', rfl⟩
  have hh1h : ∀ {j o}, lk h1 j = some o → ∃ o', lk h j = some o' := fun {j o} e => by obtain ⟨_, o', ho', _⟩ := hH j o e; exact ⟨o', ho'⟩
  have hSk : ∀ b, Stab F w φ h b → Stab F w φ h1 b := fun b hb => ⟨hb.1, hb.2.1, fun i o ho hm => by
    obtain ⟨o1, ho1⟩ := hh1h ho
    exact hb.2.2 i o1 ho1 hm⟩
  let l' : Loc := ⟨w.heap.size, n, true, ids.flatMap (fun i => (φ i).all), none, fun j => comps (C.getD j undef)⟩
  have hrel : RelP F N ⟨s1, h'⟩ (updLoc φ id l') a (w.alloc (.cells C E)) := by
    refine hrk.updX (fun j => j ∈ ids) h1id (fun j hj hg => by rw [hlk, if_neg (Ne.symm hj), hdrop, if_neg hg]) (fun j hj hg => by rw [hlk, if_neg (Ne.symm hj), hdrop, if_pos hg])
      (fun j hg => ⟨fun e => hnd'.1 (e ▸ hg), hgF j hg⟩) (updLoc_ne φ id _) g1 g2 (fun b hb _ => g3 b hb) (fun b hb => ?_) (fun o ho hne => ?_)
      (fun o ho => by rw [hl1] at ho; cases ho) (fun hS hw x v hx hv => ?_) (fun hS hw => ?_)
    · rw [updLoc_same] at hb
      rcases hb with ⟨_, hb⟩ | hb
      · have hb' : w.heap.size = b := hb
        exact .inl ⟨Nat.le_of_eq hb', by rw [← hb']; exact (Array.getElem?_eq_some_iff.1 g4).1⟩
      · obtain ⟨i, hi, hb⟩ := List.mem_flatMap.1 hb
        obtain ⟨o, ho⟩ := absL_lk e2 i hi
        obtain ⟨o', ho'⟩ := hhh1 ho
        exact .inr (.inr ⟨i, o', hi, ho', Loc.mem_all.1 hb⟩)
    · obtain ⟨o1, ho1, _⟩ := hr.keep id _ ho
      have ho1' : lk h id = some o1 := ho1
      rw [hl] at ho1'; cases ho1'
    · have hm : ∀ i ∈ ids, men i x = false := by
        rcases hx with ⟨i, hi⟩ | ⟨i, cs, _, hi, hxc⟩
        · exact (hkS i x hi).1
        · intro m hm; exact (hH i _ hi).1 cs rfl x hxc m hm
      have hne : ∀ {i o}, lk h1 i = some o → id ≠ i := fun {i o} ho e => by subst e; rw [hl1] at ho; cases ho
      have hv' : RepV (Stab F (w.alloc (.cells C E)) (updLoc φ id l') h') (w.alloc (.cells C E)) (updLoc φ id l') h' x v := by
        refine hv.ren (ρ := fun i j => i = j ∧ (fun k => ids.any fun i => Nat.beq i k) i = false) hS hw ?_ (men_ren (K := fun k => ids.any fun i => Nat.beq i k) x (fun k hk => hm k (any_beq.1 hk)))
        rintro i j ⟨rfl, hk⟩
        have hg : i ∉ ids := fun e => by have h2 := any_beq.2 e; rw [show (ids.any fun j => Nat.beq j i) = false from hk] at h2; cases h2
        refine ⟨fun o ho => updLoc_ne φ id _ i (Ne.symm (hne ho)), fun k sz E es ho => ⟨k, es, rfl, ?_⟩, fun cs ho => ⟨cs, ?_⟩⟩
        · rw [hlk, if_neg (hne ho), hdrop, if_neg hg]; exact ho
        · rw [hlk, if_neg (hne ho), hdrop, if_neg hg]; exact ho
      exact hv'
    · refine ⟨hsz', e3, fun j c hc => hyone c (List.mem_of_getElem? hc), .inr ⟨by rw [updLoc_same], C, by rw [updLoc_same]; exact g4, by rw [updLoc_same]; show es.length ≤ n; rw [e1, p1, hn']; exact Nat.le_refl _, by
        rw [updLoc_same]; show n ≤ maxLen
        have : n ≤ n * sz := Nat.le_mul_of_pos_right n hsz'
        simp only [maxLen]; omega, by rw [updLoc_same]; exact hCs, ?_⟩⟩
      rw [updLoc_same]
      have hold : CellsOK ⟨false, true⟩ (Stab F w φ h) w l' (flat es) C := by
        refine ⟨nf, hnl, fun j c v fp hc hv hp => hlin j c v fp hc (by rw [← hCl]; simpa using hv) hp, ?_, fun b hb => ?_, fun j c v hc hv hs => ?_⟩
        · rw [List.nodup_cons]
          refine ⟨fun hb => ?_, hnnd⟩
          obtain ⟨i, _, o, ho, hw⟩ := hnown _ hb
          have := hr.heap.ltO i o _ ho hw
          exact Nat.lt_irrefl _ this
        · obtain ⟨i, hi, o, ho, hw⟩ := hnown b hb
          exact List.mem_flatMap.2 ⟨i, hi, Loc.mem_all.2 hw⟩
        · have hp : nf[j]? = some (nf[j]'(by rw [hnl]; exact (List.getElem?_eq_some_iff.1 hc).1)) := by simp
          have hg : C.getD j undef = v := by simp [Array.getD_eq_getD_getElem?, hv]
          show v = .slice (comps (C.getD j undef)).1 (comps (C.getD j undef)).2.1 (comps (C.getD j undef)).2.2
          rw [hg]
          exact (hlin j c v _ hc (by rw [← hCl]; simpa using hv) hp).comps hs
      refine hold.mono (fun b hb => hS b (hSk b hb)) (fun b hb => hw b (hSk b hb)) (fun b hb _ => ?_) rfl
      obtain ⟨i, hi, hb⟩ := List.mem_flatMap.1 hb
      obtain ⟨o, ho⟩ := absL_lk e2 i hi
      exact g3 b (hr.heap.ltO i o b ho (Loc.mem_all.1 hb))
  refine ⟨_, _, (fun h => nomatch h), hrun, _, RelP.put hrel (Nat.le_of_ble_eq_true hN) hs ?_⟩
  have := RepV.ow (S := Stab F (w.alloc (.cells C E)) (updLoc φ id l') h') (w := w.alloc (.cells C E)) (φ := updLoc φ id l') h1id (by rw [updLoc_same])
  rw [updLoc_same] at this
  have e : (es.length : Nat) = n := by rw [e1, p1, hn']
  rw [e] at this
  exact this
end
end Go.AM

namespace Go.AM
open Go
def nilLike : AV → Prop
  | .snil => True
  | .sl _ es => es = []
  | _ => False
def cR : AV → AV → Prop
  | .snil, y => nilLike y
  | x, y => flat1 x = true ∧ y = x
def cellsR : List AV → List AV → Prop
  | [], [] => True
  | x :: r, y :: s => cR x y ∧ cellsR r s
  | _, _ => False
structure ElR (es es' : List AV) : Prop where
  len : es'.length = es.length
  el : ∀ (i : Nat) e e', es[i]? = some e → es'[i]? = some e' → cellsR e.cells e'.cells
theorem ElR.map {α : Type} {f g : α → AV} (h : ∀ x, cellsR (f x).cells (g x).cells) (xs : List α) : ElR (xs.map f) (xs.map g) := by
  refine ⟨by simp, fun i e e' he he' => ?_⟩
  rw [List.getElem?_map] at he he'
  cases hx : xs[i]? with
  | none => rw [hx] at he; cases he
  | some x => rw [hx] at he he'; cases he; cases he'; exact h x
theorem ElR.rep {α : Type} {z : AV} {g : α → AV} {x : α} (h : cellsR z.cells (g x).cells) (n : Nat) : ElR (List.replicate n z) ((List.replicate n x).map g) := by
  refine ⟨by simp, fun i e e' he he' => ?_⟩
  have h1 := List.mem_of_getElem? he
  have h2 := List.mem_of_getElem? he'
  rw [(List.mem_replicate.1 h1).2]
  rw [List.map_replicate] at h2
  rw [(List.mem_replicate.1 h2).2]
  exact h
theorem ElR.nil : ElR [] [] := ⟨rfl, fun i e e' he => by simp at he⟩
theorem ElR.cons {e e' : AV} {es es' : List AV} (h : cellsR e.cells e'.cells) (k : ElR es es') : ElR (e :: es) (e' :: es') := by
  refine ⟨by simp [k.len], fun i a b ha hb => ?_⟩
  cases i with
  | zero => simp at ha hb; subst ha hb; exact h
  | succ i => simp at ha hb; exact k.el i a b ha hb
theorem cellsR_get : ∀ {a b : List AV}, cellsR a b → b.length = a.length ∧ ∀ (i : Nat) x y, a[i]? = some x → b[i]? = some y → cR x y := by
  intro a
  induction a with
  | nil => intro b h; cases b with
    | nil => exact ⟨rfl, fun i x y hx => by simp at hx⟩
    | cons y s => exact h.elim
  | cons x r ih =>
    intro b h
    cases b with
    | nil => exact h.elim
    | cons y s =>
      obtain ⟨h1, h2⟩ := ih h.2
      refine ⟨by simp [h1], fun i u v hu hv => ?_⟩
      cases i with
      | zero => simp at hu hv; subst hu hv; exact h.1
      | succ i => simp at hu hv; exact h2 i u v hu hv
theorem ElR.flat {es es' : List AV} {sz : Nat} (h : ElR es es') (hsz : 0 < sz) (hl : ∀ e ∈ es, e.cells.length = sz) :
    (∀ e ∈ es', e.cells.length = sz) ∧ ∀ (j : Nat) y, (AM.flat es')[j]? = some y → ∃ x, (AM.flat es)[j]? = some x ∧ cR x y := by
  have hl' : ∀ e ∈ es', e.cells.length = sz := by
    intro e' he'
    obtain ⟨i, hi⟩ := List.getElem?_of_mem he'
    have hlt := (List.getElem?_eq_some_iff.1 hi).1
    obtain ⟨e, he⟩ : ∃ e, es[i]? = some e := ⟨es[i]'(by rw [← h.len]; exact hlt), by simp⟩
    rw [(cellsR_get (h.el i e e' he hi)).1]
    exact hl e (List.mem_of_getElem? he)
  refine ⟨hl', fun j y hy => ?_⟩
  obtain ⟨q, r, e', rfl, hr, hq, he', hc⟩ := flat_get_inv hsz hl' hy
  obtain ⟨e, he⟩ : ∃ e, es[q]? = some e := ⟨es[q]'(by rw [← h.len]; exact hq), by simp⟩
  have hR := cellsR_get (h.el q e e' he he')
  have hrl : r < e.cells.length := by rw [hl e (List.mem_of_getElem? he)]; exact hr
  have hx : e.cells[r]? = some (e.cells[r]) := by simp [hrl]
  exact ⟨_, by rw [flat_get hl he hr]; exact hx, hR.2 r _ y hx hc⟩
theorem cR_one {x y : AV} (h : cR x y) (hx : one x = true) : one y = true := by
  cases x with
  | snil => cases y <;> first | rfl | exact h.elim
  | _ => first | (obtain ⟨_, rfl⟩ := h; exact hx)
section
variable {F : Fr} {N : Nat} {P : Program}
variable {ops : Array Oper} {l : List Oper} {K : St → Prop} {ex : Bool} {c : Code} {Q : Exit → St → Prop}
variable {id sz : Nat} {s : Slots} {h h' : Heap} {k k' : Kd} {E : TypeId} {es es' : List AV}
theorem RelP.reread {φ : Nat → Loc} {a : Act} {w : World} (hr : RelP F N ⟨s, h⟩ φ a w) (hF : lk F.η id = none) (hl : lk h id = some (.arr k sz E es)) (sv : Nat → Option Addr × Nat × Nat)
    (hns : (s.all (fun q => noSub id q.2) = true ∧ noSubH id h = true) ∨ sv = (φ id).sv)
    (hlen : es'.length = es.length) (hlens : ∀ e ∈ es', e.cells.length = sz) (hone : ∀ (j : Nat) x, (flat es')[j]? = some x → one x = true)
    (hcells : ∀ C, CellsOK k (Stab F w φ h) w (φ id) (flat es) C → (flat es).length ≤ C.size → CellsOK k' (Stab F w φ h) w { φ id with sv := sv } (flat es') C)
    (hh : sput h id (.arr k' sz E es') = some h') : Rel F N ⟨s, h'⟩ a w := by
  obtain ⟨hsz, hlens0, hones, hob⟩ := hr.heap.obj _ _ hl
  have hlk := lk_sput hh
  have hnoF : ∀ o, lk F.η id ≠ some o := fun o ho => by rw [hF] at ho; cases ho
  have h1id : lk h' id = some (.arr k' sz E es') := by rw [hlk, if_pos rfl]
  refine ⟨updLoc φ id { φ id with sv := sv }, ?_⟩
  have hbx : ∀ i cs, lk h i = some (.box cs) → ∃ cs', lk h' i = some (.box cs') := by
    intro i cs ho
    have hne : id ≠ i := fun e => by subst e; rw [hl] at ho; cases ho
    exact ⟨cs, by rw [hlk, if_neg hne]; exact ho⟩
  have har : ∀ i k2 sz2 E2 es2, lk h i = some (.arr k2 sz2 E2 es2) → ∃ k' es', es'.length = es2.length ∧ lk h' i = some (.arr k' sz2 E2 es') := by
    intro i k2 sz2 E2 es2 ho
    by_cases hii : id = i
    · subst hii
      rw [hl] at ho
      cases ho
      exact ⟨_, _, hlen, h1id⟩
    · exact ⟨k2, es2, rfl, by rw [hlk, if_neg hii]; exact ho⟩
  -- as 'upd' asks that the kind be kept, the relation is written out
  have hS : ∀ b, Stab F w φ h b → Stab F w (updLoc φ id { φ id with sv := sv }) h' b := by
    intro b hb
    refine ⟨hb.1, hb.2.1, fun i o ho hm => ?_⟩
    by_cases hi : id = i
    · subst hi; rw [updLoc_same] at hm; exact hb.2.2 id _ hl hm
    · rw [updLoc_ne φ id _ i (Ne.symm hi)] at hm
      rw [hlk, if_neg hi] at ho
      exact hb.2.2 i o ho hm
  have hV : ∀ {x v}, ((∃ i, lk s i = some x) ∨ ∃ i cs, lk h i = some (.box cs) ∧ x ∈ cs) → RepV (Stab F w φ h) w φ h x v →
      RepV (Stab F w (updLoc φ id { φ id with sv := sv }) h') w (updLoc φ id { φ id with sv := sv }) h' x v := by
    intro x v hx hv
    rcases hns with ⟨n1, n2⟩ | hn
    · refine hv.move (id := id) (gone := fun _ => False) hS (fun _ _ => rfl) (fun i hi _ => updLoc_ne φ id _ i hi) (fun o ho _ => by rw [updLoc_same]; exact ⟨rfl, rfl, rfl, rfl⟩) (fun i cs _ ho => hbx i cs ho)
        (fun i k2 sz2 E2 es2 _ ho => har i k2 sz2 E2 es2 ho) (fun _ h => h.elim) ?_
      rcases hx with ⟨i, hi⟩ | ⟨i, cs, hi, hxc⟩
      · exact lk_all (p := noSub id) n1 hi
      · exact noSubH_box n2 hi hxc
    · have hfe : updLoc φ id { φ id with sv := sv } = φ := by funext i; by_cases hi : i = id <;> simp [updLoc, hi, hn]
      rw [hfe] at hS ⊢
      exact hv.mono hS (fun _ _ => rfl) ⟨fun i cs ho _ => ⟨hbx i cs ho, rfl⟩, fun i k2 sz2 E2 es2 ho => by
        obtain ⟨k', es', q1, q2⟩ := har i k2 sz2 E2 es2 ho
        exact ⟨rfl, k', es', q1, q2⟩⟩
  have howns : ∀ i b, (updLoc φ id { φ id with sv := sv } i).owns b ↔ (φ i).owns b := by
    intro i b
    by_cases hi : i = id
    · subst hi; rw [updLoc_same]; exact Iff.rfl
    · rw [updLoc_ne φ id _ i hi]
  have hold : ∀ i o, lk h' i = some o → ∃ o', lk h i = some o' := by
    intro i o ho
    by_cases hi : id = i
    · subst hi; exact ⟨_, hl⟩
    · rw [hlk, if_neg hi] at ho; exact ⟨o, ho⟩
  refine ⟨hr.size, hr.defers, hr.sys, hr.grow, ⟨fun i o ho => ?_, fun i j oi oj b hi hj hmi hmj => ?_, fun b hb => hb.1, fun i o b ho hm hst => hst.2.2 i o ho hm, fun i o b ho hm => ?_⟩,
    fun i x hx => ?_, fun i o b ho hm => ?_, fun i o hi hb => ?_, fun i o hi => ?_, hr.frame⟩
  · simp only at ho
    by_cases hi : id = i
    · subst hi
      rw [h1id] at ho
      cases ho
      refine ⟨hsz, hlens, hone, ?_⟩
      rw [updLoc_same]
      rcases hob with ⟨hm, rfl⟩ | ⟨hm, C, hC, h1, h2, h3, h4⟩
      · exact .inl ⟨hm, List.eq_nil_of_length_eq_zero (by simpa using hlen)⟩
      · refine .inr ⟨hm, C, hC, by rw [hlen]; exact h1, h2, h3, (hcells C h4 ?_).mono hS (fun _ _ => rfl) (fun _ _ _ => rfl) rfl⟩
        rw [flat_length hlens0, h3]; exact Nat.mul_le_mul_right _ h1
    · rw [hlk, if_neg hi] at ho
      have hok := hr.heap.obj i o ho
      cases o with
      | box cs =>
        obtain ⟨hm, C, E, hC, hsz, hrep⟩ := hok
        refine ⟨by rw [updLoc_ne φ id _ i (Ne.symm hi)]; exact hm, C, E, by rw [updLoc_ne φ id _ i (Ne.symm hi)]; exact hC, hsz, fun j x v hx hv => hV (.inr ⟨i, cs, ho, List.mem_of_getElem? hx⟩) (hrep j x v hx hv)⟩
      | arr k2 sz2 E2 es2 =>
        obtain ⟨q0, q1, q2, q3⟩ := hok
        refine ⟨q0, q1, q2, ?_⟩
        rw [updLoc_ne φ id _ i (Ne.symm hi)]
        rcases q3 with q3 | ⟨hm, C, hC, h1, h2, h3, h4⟩
        · exact .inl q3
        · exact .inr ⟨hm, C, hC, h1, h2, h3, h4.mono hS (fun _ _ => rfl) (fun _ _ _ => rfl) rfl⟩
  · obtain ⟨o1, ho1⟩ := hold i oi hi
    obtain ⟨o2, ho2⟩ := hold j oj hj
    exact hr.heap.injO i j o1 o2 b ho1 ho2 ((howns i b).1 hmi) ((howns j b).1 hmj)
  · obtain ⟨o1, ho1⟩ := hold i o ho
    exact hr.heap.ltO i o1 b ho1 ((howns i b).1 hm)
  · obtain ⟨v, hv, hrep⟩ := hr.slots i x hx
    exact ⟨v, hv, hV (.inl ⟨i, hx⟩) hrep⟩
  · obtain ⟨o1, ho1⟩ := hold i o ho
    exact hr.mine i o1 b ho1 ((howns i b).1 hm)
  · have hne : i ≠ id := fun e => by subst e; exact hnoF o hi
    rw [updLoc_ne φ id _ i hne]
    exact hr.fix i o hi hb
  · have hne : id ≠ i := fun e => by subst e; exact hnoF o hi
    obtain ⟨o', ho', hb⟩ := hr.keep i o hi
    exact ⟨o', by simp only; rw [hlk, if_neg hne]; exact ho', hb⟩
theorem RelP.deepen {p p' : Bool} {φ : Nat → Loc} {a : Act} {w : World} (hr : RelP F N ⟨s, h⟩ φ a w) (hF : lk F.η id = none) (hl : lk h id = some (.arr ⟨p, false⟩ sz E es)) (he : ElR es es')
    (hn1 : s.all (fun q => noSub id q.2) = true) (hn2 : noSubH id h = true) (hh : sput h id (.arr ⟨p', true⟩ sz E es') = some h') : Rel F N ⟨s, h'⟩ a w := by
  obtain ⟨hsz, hlens0, hones, hob⟩ := hr.heap.obj _ _ hl
  obtain ⟨h1, h2⟩ := he.flat hsz hlens0
  refine hr.reread hF hl (fun _ => (none, 0, 0)) (.inl ⟨hn1, hn2⟩) he.len h1 (fun j y hy => ?_) (fun C hC hle => ?_) hh
  · obtain ⟨x, hx, hR⟩ := h2 j y hy
    exact cR_one hR (hones j x hx)
  · have hC' := hC.trees rfl
    have key : ∀ (j : Nat) y v, (flat es')[j]? = some y → C[j]? = some v → LinT w y v [] ∧ (isSl y = true → v = .slice none 0 0) := by
      intro j y v hy hv
      obtain ⟨x, hx, hR⟩ := h2 j y hy
      have ht := hC' j x v hx hv
      cases x with
      | snil =>
        cases ht
        cases y with
        | snil => exact ⟨.snil, fun _ => rfl⟩
        | sl n es => have hR' : es = [] := hR; subst hR'; exact ⟨.sl0 _ _, fun _ => rfl⟩
        | _ => exact hR.elim
      | int _ _ => obtain ⟨_, rfl⟩ := hR; exact ⟨ht.lin rfl, fun h => by simp [isSl] at h⟩
      | bool _ => obtain ⟨_, rfl⟩ := hR; exact ⟨ht.lin rfl, fun h => by simp [isSl] at h⟩
      | str _ => obtain ⟨_, rfl⟩ := hR; exact ⟨ht.lin rfl, fun h => by simp [isSl] at h⟩
      | _ => obtain ⟨h3, _⟩ := hR; simp [flat1] at h3
    refine ⟨List.replicate (flat es').length [], by simp, fun j y v fp hy hv hp => ?_, ?_, fun b hb => by simp at hb, fun j y v hy hv hs => (key j y v hy hv).2 hs⟩
    · have := (List.mem_replicate.1 (List.mem_of_getElem? hp)).2
      subst this
      exact (key j y v hy hv).1
    · simp
theorem RelP.undeep {p p' : Bool} {φ : Nat → Loc} {a : Act} {w : World} (hr : RelP F N ⟨s, h⟩ φ a w) (hF : lk F.η id = none) (hl : lk h id = some (.arr ⟨p, true⟩ sz E es)) (he : ElR es es)
    (hh : sput h id (.arr ⟨p', false⟩ sz E es) = some h') : Rel F N ⟨s, h'⟩ a w := by
  obtain ⟨hsz, hlens0, hones, hob⟩ := hr.heap.obj _ _ hl
  obtain ⟨h1, h2⟩ := he.flat hsz hlens0
  refine hr.reread hF hl (φ id).sv (.inr rfl) rfl hlens0 hones (fun C hC hle => CellsOK.ofTrees rfl fun j x v hx hv => ?_) hh
  obtain ⟨x', hx', hR⟩ := h2 j x hx
  rw [hx] at hx'
  cases hx'
  obtain ⟨fps, f1, f2, _⟩ := (show CellsOK ⟨p, true⟩ (Stab F w φ h) w (φ id) (flat es) C from hC)
  obtain ⟨fp, hfp⟩ : ∃ fp, fps[j]? = some fp := ⟨fps[j]'(by rw [f1]; exact (List.getElem?_eq_some_iff.1 hx).1), by simp⟩
  have ht := f2 j x v fp hx hv hfp
  cases x with
  | snil => cases ht; exact .snil
  | int _ _ => exact ht.ofFlat rfl _ _
  | bool _ => exact ht.ofFlat rfl _ _
  | str _ => exact ht.ofFlat rfl _ _
  | _ => obtain ⟨h3, _⟩ := hR; simp [flat1] at h3
theorem RelP.nils {p : Bool} {φ : Nat → Loc} {a : Act} {w : World} (hr : RelP F N ⟨s, h⟩ φ a w) (hF : lk F.η id = none) (hl : lk h id = some (.arr ⟨p, false⟩ sz E es)) (he : ElR es es')
    (hh : sput h id (.arr ⟨p, false⟩ sz E es') = some h') : Rel F N ⟨s, h'⟩ a w := by
  obtain ⟨hsz, hlens0, hones, hob⟩ := hr.heap.obj _ _ hl
  obtain ⟨h1, h2⟩ := he.flat hsz hlens0
  refine hr.reread hF hl (φ id).sv (.inr rfl) he.len h1 (fun j y hy => ?_) (fun C hC hle => CellsOK.ofTrees rfl fun j y v hy hv => ?_) hh
  · obtain ⟨x, hx, hR⟩ := h2 j y hy
    exact cR_one hR (hones j x hx)
  · obtain ⟨x, hx, hR⟩ := h2 j y hy
    have ht := hC.trees rfl j x v hx hv
    cases x with
    | snil =>
      cases ht
      cases y with
      | snil => exact .snil
      | sl n es => have hR' : es = [] := hR; subst hR'; exact .sl0 _ _ _ (fun _ => rfl)
      | _ => exact hR.elim
    | int _ _ => obtain ⟨_, rfl⟩ := hR; exact ht
    | bool _ => obtain ⟨_, rfl⟩ := hR; exact ht
    | str _ => obtain ⟨_, rfl⟩ := hR; exact ht
    | _ => obtain ⟨h3, _⟩ := hR; simp [flat1] at h3
theorem T_deepen (id : Nat) {p p' : Bool} (es' : List AV) (hF : lk F.η id = none) (hl : lk h id = some (.arr ⟨p, false⟩ sz E es)) (he : ElR es es')
    (hn1 : s.all (fun q => noSub id q.2) = true) (hn2 : noSubH id h = true) (hh : sput h id (.arr ⟨p', true⟩ sz E es') = some h') (q : T P F N c Q ⟨s, h'⟩) : T P F N c Q ⟨s, h⟩ := T_sub (fun _ _ _ hr => hr.deepen hF hl he hn1 hn2 hh) q
theorem TL_deepen (id : Nat) {p p' : Bool} (es' : List AV) (hF : lk F.η id = none) (hl : lk h id = some (.arr ⟨p, false⟩ sz E es)) (he : ElR es es')
    (hn1 : s.all (fun q => noSub id q.2) = true) (hn2 : noSubH id h = true) (hh : sput h id (.arr ⟨p', true⟩ sz E es') = some h') (q : TLE ex P F N ops l K ⟨s, h'⟩) : TLE ex P F N ops l K ⟨s, h⟩ := TL_sub (fun _ _ _ hr => hr.deepen hF hl he hn1 hn2 hh) q
theorem TL_undeep (id : Nat) {p p' : Bool} (hF : lk F.η id = none) (hl : lk h id = some (.arr ⟨p, true⟩ sz E es)) (he : ElR es es)
    (hh : sput h id (.arr ⟨p', false⟩ sz E es) = some h') (q : TLE ex P F N ops l K ⟨s, h'⟩) : TLE ex P F N ops l K ⟨s, h⟩ := TL_sub (fun _ _ _ hr => hr.undeep hF hl he hh) q
theorem TL_nils (id : Nat) {p : Bool} (es' : List AV) (hF : lk F.η id = none) (hl : lk h id = some (.arr ⟨p, false⟩ sz E es)) (he : ElR es es')
    (hh : sput h id (.arr ⟨p, false⟩ sz E es') = some h') (q : TLE ex P F N ops l K ⟨s, h'⟩) : TLE ex P F N ops l K ⟨s, h⟩ := TL_sub (fun _ _ _ hr => hr.nils hF hl he hh) q
end
end Go.AM

namespace Go.AM
open Go
section
variable {F : Fr} {N : Nat} {P : Program}
variable {ops : Array Oper} {rest : List Oper} {K : St → Prop}
variable {ty : TypeId} {pos : String} {after : Array Edge} {d id : Nat} {s s' : Slots} {h h' : Heap}
end
end Go.AM


namespace Go.AM
inductive Ctl (σ τ : Type) where
  | next (s : σ)
  | out (t : τ)
def forL {α σ τ : Type} (step : Nat → α → σ → Option (Ctl σ τ)) (fin : σ → τ) : Nat → List α → σ → Option τ
  | _, [], s => some (fin s)
  | n, x :: r, s => match step n x s with
    | none => none
    | some (.next s') => forL step fin (n + 1) r s'
    | some (.out t) => some t
def iterN {σ τ : Type} (step : σ → Option (Ctl σ τ)) : Nat → σ → Option τ
  | 0, _ => none
  | n + 1, s => match step s with
    | none => none
    | some (.next s') => iterN step n s'
    | some (.out t) => some t
theorem iterN_mono {σ τ : Type} {step : σ → Option (Ctl σ τ)} : ∀ {n m : Nat} {s : σ} {t : τ}, n ≤ m → iterN step n s = some t → iterN step m s = some t := by
  intro n
  induction n with
  | zero => intro m s t _ h; cases h
  | succ n ih =>
    intro m s t hm h
    obtain ⟨k, rfl⟩ : ∃ k, m = k + 1 := ⟨m - 1, by omega⟩
    unfold iterN at h ⊢
    cases hs : step s with
    | none => rw [hs] at h; cases h
    | some c =>
      rw [hs] at h
      cases c with
      | next s' => exact ih (by omega) h
      | out t' => exact h
open Classical in
noncomputable def iter {σ τ : Type} (step : σ → Option (Ctl σ τ)) (s : σ) : Option τ :=
  if h : ∃ t, ∃ n, iterN step n s = some t then some (Classical.choose h) else none
theorem iter_iff {σ τ : Type} {step : σ → Option (Ctl σ τ)} {s : σ} {t : τ} : iter step s = some t ↔ ∃ n, iterN step n s = some t := by
  unfold iter
  constructor
  · intro h
    split at h
    · rename_i hex
      cases h
      exact Classical.choose_spec hex
    · cases h
  · rintro ⟨n, hn⟩
    have hex : ∃ t, ∃ n, iterN step n s = some t := ⟨t, n, hn⟩
    rw [dif_pos hex]
    obtain ⟨m, hm⟩ := Classical.choose_spec hex
    have h1 := iterN_mono (Nat.le_max_left n m) hn
    have h2 := iterN_mono (Nat.le_max_right n m) hm
    rw [h1] at h2
    exact congrArg some (Option.some.inj h2).symm
theorem iter_next {σ τ : Type} {step : σ → Option (Ctl σ τ)} {s s' : σ} (h : step s = some (.next s')) : iter step s = iter step s' := by
  have key : ∀ t, iter step s = some t ↔ iter step s' = some t := by
    intro t
    rw [iter_iff, iter_iff]
    constructor
    · rintro ⟨n, hn⟩
      cases n with
      | zero => cases hn
      | succ n => unfold iterN at hn; rw [h] at hn; exact ⟨n, hn⟩
    · rintro ⟨n, hn⟩
      exact ⟨n + 1, by unfold iterN; rw [h]; exact hn⟩
  cases h1 : iter step s with
  | some t => exact ((key t).1 h1).symm
  | none =>
    cases h2 : iter step s' with
    | none => rfl
    | some t => rw [(key t).2 h2] at h1; cases h1
theorem iter_out {σ τ : Type} {step : σ → Option (Ctl σ τ)} {s : σ} {t : τ} (h : step s = some (.out t)) : iter step s = some t :=
  iter_iff.2 ⟨1, by unfold iterN; rw [h]⟩
theorem iter_none {σ τ : Type} {step : σ → Option (Ctl σ τ)} {s : σ} (h : step s = none) : iter step s = none := by
  cases h1 : iter step s with
  | none => rfl
  | some t =>
    obtain ⟨n, hn⟩ := iter_iff.1 h1
    cases n with
    | zero => cases hn
    | succ n => unfold iterN at hn; rw [h] at hn; cases hn
theorem bindS {α β : Type} {m : Option α} {f : α → Option β} {r : β} (h : m.bind f = some r) : ∃ a, m = some a ∧ f a = some r := by
  cases m with
  | none => cases h
  | some a => exact ⟨a, rfl, h⟩
theorem condT {α : Type} {b : Bool} {x y z : α} (hb : b = true) (h : cond b x y = z) : x = z := by rw [hb] at h; exact h
theorem condF {α : Type} {b : Bool} {x y z : α} (hb : b = false) (h : cond b x y = z) : y = z := by rw [hb] at h; exact h
def w64 (n : Int) : Int := (n + 9223372036854775808) % 18446744073709551616 - 9223372036854775808
theorem w64_eq {n : Int} (h : -9223372036854775808 ≤ n ∧ n ≤ 9223372036854775807) : w64 n = n := by unfold w64; omega
def getI {α : Type} (xs : List α) (i : Int) : Option α := bif decide (0 ≤ i) then xs[i.toNat]? else none
theorem getI_spec {α : Type} {xs : List α} {i : Int} {x : α} (h : getI xs i = some x) : i = (i.toNat : Int) ∧ xs[i.toNat]? = some x := by
  unfold getI at h
  by_cases h0 : 0 ≤ i
  · simp [h0] at h; exact ⟨by omega, h⟩
  · simp [h0] at h
theorem getI_nat {α : Type} {xs : List α} {n : Nat} : getI xs (n : Int) = xs[n]? := by simp [getI]
theorem getI_lt {α : Type} {xs : List α} {i : Int} {x : α} (h : getI xs i = some x) : i.toNat < xs.length := (List.getElem?_eq_some_iff.1 (getI_spec h).2).1
def sliceI {α : Type} (xs : List α) (l u : Int) : Option (List α) := bif decide (0 ≤ l) && decide (l ≤ u) && decide (u ≤ xs.length) then some ((xs.drop l.toNat).take (u.toNat - l.toNat)) else none
theorem sliceI_spec {α : Type} {xs ys : List α} {l u : Int} (h : sliceI xs l u = some ys) : l = (l.toNat : Int) ∧ u = (u.toNat : Int) ∧ l.toNat ≤ u.toNat ∧ u.toNat ≤ xs.length ∧ ys = (xs.drop l.toNat).take (u.toNat - l.toNat) := by
  unfold sliceI at h
  by_cases h0 : (decide (0 ≤ l) && decide (l ≤ u) && decide (u ≤ xs.length)) = true
  · rw [h0, cond_true] at h
    simp only [Bool.and_eq_true, decide_eq_true_eq] at h0
    cases h
    exact ⟨by omega, by omega, by omega, by omega, rfl⟩
  · rw [Bool.eq_false_iff.2 h0] at h; cases h
def quoI (a b : Int) : Option Int := bif decide (b = 0) then none else some (w64 (a.tdiv b))
def remI (a b : Int) : Option Int := bif decide (b = 0) then none else some (a.tmod b)
theorem quoI_spec {a b c : Int} (h : quoI a b = some c) : b ≠ 0 ∧ c = w64 (a.tdiv b) := by
  unfold quoI at h
  by_cases h0 : b = 0 <;> simp [h0] at h
  exact ⟨h0, h.symm⟩
theorem remI_spec {a b c : Int} (h : remI a b = some c) : b ≠ 0 ∧ c = a.tmod b := by
  unfold remI at h
  by_cases h0 : b = 0 <;> simp [h0] at h
  exact ⟨h0, h.symm⟩
def makeI (n : Int) (bz : Nat) : Option Nat := bif decide (0 ≤ n) && decide (n.toNat * bz ≤ 281474976710656) then some n.toNat else none
theorem makeI_spec {n : Int} {bz k : Nat} (h : makeI n bz = some k) : n = (k : Int) ∧ k * bz ≤ 281474976710656 := by
  unfold makeI at h
  by_cases h0 : (decide (0 ≤ n) && decide (n.toNat * bz ≤ 281474976710656)) = true
  · rw [h0, cond_true] at h
    simp only [Bool.and_eq_true, decide_eq_true_eq] at h0
    cases h
    exact ⟨by omega, h0.2⟩
  · rw [Bool.eq_false_iff.2 h0] at h; cases h
def capI (n bz : Nat) : Option Unit := bif decide (n * bz ≤ 140737488355328) then some () else none
theorem capI_spec {n bz : Nat} {u : Unit} (h : capI n bz = some u) : n * bz ≤ 140737488355328 := by
  unfold capI at h
  by_cases h0 : n * bz ≤ 140737488355328
  · exact h0
  · simp [h0] at h
end Go.AM

namespace Go.AM
open Go
def CtlOK {σ τ : Type} (R : σ → Prop) (K : τ → Prop) : Ctl σ τ → Prop
  | .next s => R s
  | .out t => K t
section
variable {P : Program} {F : Fr} {N : Nat} {Q : Exit → St → Prop} {st : St} {c : Code}
theorem TR_forL {α σ τ : Type} (xs : List α) (step : Nat → α → σ → Option (Ctl σ τ)) (fin : σ → τ) (inv : Nat → σ → St) (K : τ → Prop) {s0 : σ} {t : τ} (hl : forL step fin 0 xs s0 = some t) (hk : K t)
    (hend : ∀ s, K (fin s) → T P F N c (Post.seq (TR P F N c Q) Q) (inv xs.length s))
    (hbody : ∀ n x s ctl, xs[n]? = some x → n < xs.length → step n x s = some ctl → CtlOK (fun s' => ∀ st, st = inv (n + 1) s' → TR P F N c Q st) K ctl → T P F N c (Post.seq (TR P F N c Q) Q) (inv n s)) :
    TR P F N c Q (inv 0 s0) := by
  have key : ∀ (r : List α) (n : Nat) (s : σ), xs.drop n = r → n ≤ xs.length → forL step fin n r s = some t → TR P F N c Q (inv n s) := by
    intro r
    induction r with
    | nil =>
      intro n s hd hn h
      have : n = xs.length := by have := congrArg List.length hd; simp at this; omega
      subst this
      cases h
      exact TR_step (hend s hk)
    | cons x r ih =>
      intro n s hd hn h
      have hx : xs[n]? = some x := by
        have : (xs.drop n)[0]? = some x := by rw [hd]; rfl
        simpa using this
      have hlt := (List.getElem?_eq_some_iff.1 hx).1
      have hd' : xs.drop (n + 1) = r := by rw [← List.drop_drop, hd]; rfl
      unfold forL at h
      cases hs : step n x s with
      | none => rw [hs] at h; cases h
      | some ctl =>
        rw [hs] at h
        refine TR_step (hbody n x s ctl hx hlt hs ?_)
        cases ctl with
        | next s' => rintro st rfl; exact ih (n + 1) s' hd' (by omega) h
        | out t' => cases h; exact hk
  exact key xs 0 s0 (by simp) (by omega) hl
theorem TR_iter {σ τ : Type} (step : σ → Option (Ctl σ τ)) (inv : σ → St) (K : τ → Prop) {s0 : σ} {t : τ} (hl : iter step s0 = some t) (hk : K t)
    (hbody : ∀ s ctl, step s = some ctl → CtlOK (fun s' => ∀ st, st = inv s' → TR P F N c Q st) K ctl → T P F N c (Post.seq (TR P F N c Q) Q) (inv s)) :
    TR P F N c Q (inv s0) := by
  obtain ⟨n, hn⟩ := iter_iff.1 hl
  have key : ∀ (n : Nat) (s : σ), iterN step n s = some t → TR P F N c Q (inv s) := by
    intro n
    induction n with
    | zero => intro s h; cases h
    | succ n ih =>
      intro s h
      unfold iterN at h
      cases hs : step s with
      | none => rw [hs] at h; cases h
      | some ctl =>
        rw [hs] at h
        refine TR_step (hbody s ctl hs ?_)
        cases ctl with
        | next s' => rintro st rfl; exact ih s' h
        | out t' => cases h; exact hk
  exact key n s0 hn
variable {ops : Array Oper} {l : List Oper} {KK : St → Prop} {ex : Bool} {s s' : Slots} {h h' : Heap}
theorem TL_fact {p : Prop} (hp : ∀ φ a w, RelP F N st φ a w → p) (k : p → TLE ex P F N ops l KK st) : TLE ex P F N ops l KK st :=
  fun a w R hr hQ => by obtain ⟨φ, h1⟩ := hr; exact k (hp φ a w h1) a w R ⟨φ, h1⟩ hQ
theorem TZ_fact {Z : List Nat} {fuel : Nat} {listed : List Bool} {p : Prop} (hp : ∀ φ a w, RelP F N st φ a w → p) (k : p → TZ P F N ops Z fuel listed KK st) : TZ P F N ops Z fuel listed KK st :=
  fun hs a w QN hr hQ => by obtain ⟨φ, h1⟩ := hr; exact k (hp φ a w h1) hs a w QN ⟨φ, h1⟩ hQ
theorem RelP.slLen {φ : Nat → Loc} {a : Act} {w : World} {i sz : Nat} {es : List AV} (hi : lk st.s i = some (.sl sz es)) (hr : RelP F N st φ a w) : es.length ≤ 9223372036854775807 := by
  obtain ⟨v, _, hv⟩ := hr.slots i _ hi
  exact sl_length hv
theorem RelP.owLen {φ : Nat → Loc} {a : Act} {w : World} {id sz : Nat} {k : Kd} {E : TypeId} {es : List AV} (hl : lk st.h id = some (.arr k sz E es)) (hr : RelP F N st φ a w) : es.length ≤ 9223372036854775807 := by
  obtain ⟨_, _, _, hob⟩ := hr.heap.obj _ _ hl
  rcases hob with ⟨_, rfl⟩ | ⟨_, C, _, h1, h2, _⟩
  · simp
  · simp only [maxLen] at h2; omega
mutual
def frb (id : Nat) (bs : List AV) : AV → Option AV
  | .ptr i k o => bif Nat.beq i id then (match k with
    | 0 => match dropO bs o with
      | some cs => some (.cp cs)
      | none => some .junk
    | _ => some .junk) else some (.ptr i k o)
  | .ow i => bif Nat.beq i id then some .junk else some (.ow i)
  | .sub i n => bif Nat.beq i id then some .junk else some (.sub i n)
  | .win i n => bif Nat.beq i id then some .junk else some (.win i n)
  | .mp i => bif Nat.beq i id then some .junk else some (.mp i)
  | .agg xs => match frbL id bs xs with
    | some ys => some (.agg ys)
    | none => none
  | .tup xs => match frbL id bs xs with
    | some ys => some (.tup ys)
    | none => none
  | .fn f xs us => match frbL id bs xs with
    | some ys => match frbL id bs us with
      | some vs => some (.fn f ys vs)
      | none => none
    | none => none
  | x => some x
def frbL (id : Nat) (bs : List AV) : List AV → Option (List AV)
  | [] => some []
  | x :: r => match frb id bs x with
    | some y => match frbL id bs r with
      | some l => some (y :: l)
      | none => none
    | none => none
end
structure FrozenB (S S' : Nat → Prop) (w : World) (φ : Nat → Loc) (h h' : Heap) (id : Nat) (bs : List AV) : Prop where
  ok : HeapOK S w φ h
  obj : lk h id = some (.box bs)
  pure : noIdsL bs = true
  nm : isMapLen bs.length = false
  mono : ∀ b, S b → S' b
  blk : S' (φ id).blk
  arr : ∀ i k sz E es, i ≠ id → lk h i = some (.arr k sz E es) → lk h' i = some (.arr k sz E es)
  box : ∀ i cs, i ≠ id → lk h i = some (.box cs) → ∃ cs', lk h' i = some (.box cs')
mutual
theorem frb_rep {S S' : Nat → Prop} {w : World} {φ : Nat → Loc} {h h' : Heap} {id : Nat} {bs : List AV} (hf : FrozenB S S' w φ h h' id bs) :
    ∀ (x y : AV) (v : Value), frb id bs x = some y → RepV S w φ h x v → RepV S' w φ h' y v
  | .ptr i k o, y, v, e, hv => by
    unfold frb at e
    cases hb : Nat.beq i id with
    | true =>
      obtain rfl := (beq_iff _ _).1 hb
      simp only [hb, cond_true] at e
      split at e
      · split at e
        · rename_i cs hd
          cases e
          cases hv with
          | pure h => cases h
          | elt h1 _ => rw [hf.obj] at h1; cases h1
          | box h1 hm =>
            rw [hf.obj] at h1
            cases h1
            obtain ⟨_, C, E, hC, hsz, hrep⟩ := hf.ok.obj _ _ hf.obj
            replace hC := hC.cells hf.nm
            obtain ⟨rfl, hlen⟩ := dropO_eq hd
            refine .pure (.cp _ _ o (fun j => C.getD (o + j) undef) hf.blk (fun j x hx => ?_) (fun j x hx => ?_))
            · have hlt := (List.getElem?_eq_some_iff.1 hx).1
              rw [List.length_drop] at hlt
              rw [cell_at hC]
              have : o + j < C.size := by omega
              simp [this]
            · have hlt := (List.getElem?_eq_some_iff.1 hx).1
              rw [List.length_drop] at hlt
              rw [List.getElem?_drop] at hx
              have hcl : o + j < C.size := by omega
              have hr := hrep (o + j) x (C.getD (o + j) undef) hx (by simp [hcl])
              exact (hr.tree (noIdsL_mem hf.pure _ _ hx)).mono hf.mono (fun _ _ => rfl)
        · cases e; exact .pure (.junk _)
      · cases e; exact .pure (.junk _)
    | false =>
      have hne : i ≠ id := fun e => by rw [(beq_iff i id).2 e] at hb; cases hb
      simp only [hb, cond_false, Option.some.injEq] at e
      subst e
      cases hv with
      | pure h => cases h
      | box h1 h2 => obtain ⟨cs', h3⟩ := hf.box _ _ hne h1; exact .box h3 h2
      | elt h1 h2 => exact .elt (hf.arr _ _ _ _ _ hne h1) h2
  | .ow i, y, v, e, hv => by
    unfold frb at e
    cases hb : Nat.beq i id with
    | true => simp only [hb, cond_true, Option.some.injEq] at e; subst e; exact .pure (.junk _)
    | false =>
      have hne : i ≠ id := fun e => by rw [(beq_iff i id).2 e] at hb; cases hb
      simp only [hb, cond_false, Option.some.injEq] at e
      subst e
      cases hv with
      | pure h => cases h
      | ow h1 h2 => exact .ow (hf.arr _ _ _ _ _ hne h1) h2
      | ow0 h1 h2 => exact .ow0 (hf.arr _ _ _ _ _ hne h1) h2
  | .sub i n, y, v, e, hv => by
    unfold frb at e
    cases hb : Nat.beq i id with
    | true => simp only [hb, cond_true, Option.some.injEq] at e; subst e; exact .pure (.junk _)
    | false =>
      have hne : i ≠ id := fun e => by rw [(beq_iff i id).2 e] at hb; cases hb
      simp only [hb, cond_false, Option.some.injEq] at e
      subst e
      cases hv with
      | pure h => cases h
      | sub h1 => exact .sub (hf.arr _ _ _ _ _ hne h1)
  | .win i n, y, v, e, hv => by
    unfold frb at e
    cases hb : Nat.beq i id with
    | true => simp only [hb, cond_true, Option.some.injEq] at e; subst e; exact .pure (.junk _)
    | false =>
      have hne : i ≠ id := fun e => by rw [(beq_iff i id).2 e] at hb; cases hb
      simp only [hb, cond_false, Option.some.injEq] at e
      subst e
      cases hv with
      | pure h => cases h
      | win h1 h2 h3 => exact .win (hf.arr _ _ _ _ _ hne h1) h2 h3
      | winE h1 h3 => exact .winE (hf.arr _ _ _ _ _ hne h1) h3
  | .agg xs, y, v, e, hv => by
    unfold frb at e
    cases hl : frbL id bs xs with
    | none => simp [hl] at e
    | some ys =>
      simp only [hl, Option.some.injEq] at e
      subst e
      obtain ⟨us, rfl, h1, h2⟩ := hv.agg_inv
      obtain ⟨h3, h4⟩ := frbL_rep hf xs ys hl
      refine .agg ys us (by rw [← h3]; exact h1) (fun i y v hy hv => ?_)
      obtain ⟨x, hx⟩ : ∃ x, xs[i]? = some x := ⟨xs[i]'(by rw [h3]; exact (List.getElem?_eq_some_iff.1 hy).1), by simp⟩
      exact h4 i x y v hx hy (h2 i x v hx hv)
  | .tup xs, y, v, e, hv => by
    unfold frb at e
    cases hl : frbL id bs xs with
    | none => simp [hl] at e
    | some ys =>
      simp only [hl, Option.some.injEq] at e
      subst e
      obtain ⟨us, rfl, h1, h2⟩ := hv.tup_inv
      obtain ⟨h3, h4⟩ := frbL_rep hf xs ys hl
      refine .tup ys us (by rw [← h3]; exact h1) (fun i y v hy hv => ?_)
      obtain ⟨x, hx⟩ : ∃ x, xs[i]? = some x := ⟨xs[i]'(by rw [h3]; exact (List.getElem?_eq_some_iff.1 hy).1), by simp⟩
      exact h4 i x y v hx hy (h2 i x v hx hv)
  | .fn f xs us, y, v, e, hv => by
    unfold frb at e
    cases hl : frbL id bs xs with
    | none => simp [hl] at e
    | some ys =>
      simp only [hl] at e
      cases hl2 : frbL id bs us with
      | none => simp [hl2] at e
      | some zs =>
        simp only [hl2, Option.some.injEq] at e
        subst e
        obtain ⟨as, ds, rfl, h1, h2, h3, h4⟩ := hv.fn_inv
        obtain ⟨h5, h6⟩ := frbL_rep hf xs ys hl
        obtain ⟨h7, h8⟩ := frbL_rep hf us zs hl2
        refine .fn f ys zs as ds (by rw [← h5]; exact h1) (by rw [← h7]; exact h2) (fun i y v hy hv => ?_) (fun i y v hy hv => ?_)
        · obtain ⟨x, hx⟩ : ∃ x, xs[i]? = some x := ⟨xs[i]'(by rw [h5]; exact (List.getElem?_eq_some_iff.1 hy).1), by simp⟩
          exact h6 i x y v hx hy (h3 i x v hx hv)
        · obtain ⟨x, hx⟩ : ∃ x, us[i]? = some x := ⟨us[i]'(by rw [h7]; exact (List.getElem?_eq_some_iff.1 hy).1), by simp⟩
          exact h8 i x y v hx hy (h4 i x v hx hv)
  | .int a b, y, v, e, hv => by cases e; exact .pure ((hv.tree rfl).mono hf.mono (fun _ _ => rfl))
  | .bool b, y, v, e, hv => by cases e; exact .pure ((hv.tree rfl).mono hf.mono (fun _ _ => rfl))
  | .str b, y, v, e, hv => by cases e; exact .pure ((hv.tree rfl).mono hf.mono (fun _ _ => rfl))
  | .snil, y, v, e, hv => by cases e; exact .pure ((hv.tree rfl).mono hf.mono (fun _ _ => rfl))
  | .sl _ _, y, v, e, hv => by cases e; exact .pure ((hv.tree rfl).mono hf.mono (fun _ _ => rfl))
  | .cp _, y, v, e, hv => by cases e; exact .pure ((hv.tree rfl).mono hf.mono (fun _ _ => rfl))
  | .nilp, y, v, e, hv => by cases e; exact .pure ((hv.tree rfl).mono hf.mono (fun _ _ => rfl))
  | .tr _, y, v, e, hv => by cases e; exact .pure ((hv.tree rfl).mono hf.mono (fun _ _ => rfl))
  | .nilf, y, v, e, hv => by cases e; exact .pure ((hv.tree rfl).mono hf.mono (fun _ _ => rfl))
  | .mp i, y, v, e, hv => by
    unfold frb at e
    cases hb : Nat.beq i id with
    | true => simp only [hb, cond_true, Option.some.injEq] at e; subst e; exact .pure (.junk _)
    | false =>
      have hne : i ≠ id := fun e => by rw [(beq_iff i id).2 e] at hb; cases hb
      simp only [hb, cond_false, Option.some.injEq] at e
      subst e
      cases hv with
      | pure h => cases h
      | mp h1 h2 => obtain ⟨cs', h3⟩ := hf.box _ _ hne h1; exact .mp h3 h2
  | .junk, y, v, e, hv => by cases e; exact .pure (.junk _)
theorem frbL_rep {S S' : Nat → Prop} {w : World} {φ : Nat → Loc} {h h' : Heap} {id : Nat} {bs : List AV} (hf : FrozenB S S' w φ h h' id bs) :
    ∀ (xs ys : List AV), frbL id bs xs = some ys → xs.length = ys.length ∧
      ∀ (n : Nat) x y v, xs[n]? = some x → ys[n]? = some y → RepV S w φ h x v → RepV S' w φ h' y v
  | [], ys, e => by cases e; exact ⟨rfl, fun n x y v hx => by simp at hx⟩
  | x :: r, ys, e => by
    unfold frbL at e
    cases hx : frb id bs x with
    | none => simp [hx] at e
    | some y =>
      simp only [hx] at e
      cases hr : frbL id bs r with
      | none => simp [hr] at e
      | some l =>
        simp only [hr, Option.some.injEq] at e
        subst e
        obtain ⟨h1, h2⟩ := frbL_rep hf r l hr
        refine ⟨by simp [h1], fun n a b v ha hb hv => ?_⟩
        cases n with
        | zero => simp at ha hb; subst ha hb; exact frb_rep hf x y v hx hv
        | succ n => simp at ha hb; exact h2 n a b v ha hb hv
end
def frbS (id : Nat) (bs : List AV) : Slots → Option Slots
  | [] => some []
  | (k, x) :: r => match frb id bs x with
    | some y => match frbS id bs r with
      | some l => some ((k, y) :: l)
      | none => none
    | none => none
def frbH (id : Nat) (bs : List AV) : Heap → Option Heap
  | [] => some []
  | (k, .box cs) :: r => bif Nat.beq k id then frbH id bs r else
    match frbL id bs cs with
    | some cs' => match frbH id bs r with
      | some l => some ((k, .box cs') :: l)
      | none => none
    | none => none
  | (k, .arr kd n E xs) :: r => bif Nat.beq k id then frbH id bs r else
    match frbH id bs r with
    | some l => some ((k, .arr kd n E xs) :: l)
    | none => none
theorem frbS_spec {id : Nat} {bs : List AV} : ∀ {s s' : Slots}, frbS id bs s = some s' → ∀ i y, lk s' i = some y → ∃ x, lk s i = some x ∧ frb id bs x = some y := by
  intro s
  induction s with
  | nil => intro s' e i y hy; cases e; cases hy
  | cons p s ih =>
    obtain ⟨k, x⟩ := p
    intro s' e i y hy
    unfold frbS at e
    cases hx : frb id bs x with
    | none => simp [hx] at e
    | some z =>
      simp only [hx] at e
      cases hr : frbS id bs s with
      | none => simp [hr] at e
      | some l =>
        simp only [hr, Option.some.injEq] at e
        subst e
        rw [lk_cons] at hy ⊢
        split at hy
        · cases hy; rename_i hk; rw [if_pos hk]; exact ⟨x, rfl, hx⟩
        · rename_i hk; rw [if_neg hk]; exact ih hr i y hy
theorem frbH_spec {id : Nat} {bs : List AV} : ∀ {h h' : Heap}, frbH id bs h = some h' → lk h' id = none ∧
    (∀ i, i ≠ id → ∀ kd n E xs, lk h' i = some (.arr kd n E xs) ↔ lk h i = some (.arr kd n E xs)) ∧
    (∀ i cs', lk h' i = some (.box cs') → ∃ cs, lk h i = some (.box cs) ∧ frbL id bs cs = some cs') ∧ (∀ i cs, i ≠ id → lk h i = some (.box cs) → ∃ cs', lk h' i = some (.box cs')) := by
  intro h
  induction h with
  | nil => intro h' e; cases e; exact ⟨rfl, fun i _ kd n E xs => Iff.rfl, fun i cs hi => (by cases hi), fun i cs _ hi => (by cases hi)⟩
  | cons p h ih =>
    obtain ⟨k, o⟩ := p
    intro h' e
    cases hb : Nat.beq k id with
    | true =>
      obtain rfl := (beq_iff _ _).1 hb
      have e' : frbH k bs h = some h' := by
        cases o <;> (unfold frbH at e; simp only [hb, cond_true] at e; exact e)
      obtain ⟨h1, h2, h3, h4⟩ := ih e'
      refine ⟨h1, fun i hi kd n E xs => ?_, fun i cs' hi => ?_, fun i cs hi ho => ?_⟩
      · rw [lk_cons, if_neg (Ne.symm hi)]; exact h2 i hi kd n E xs
      · obtain ⟨cs, c1, c2⟩ := h3 i cs' hi
        have hne : k ≠ i := fun e => by subst e; rw [h1] at hi; cases hi
        exact ⟨cs, by rw [lk_cons, if_neg hne]; exact c1, c2⟩
      · rw [lk_cons, if_neg (Ne.symm hi)] at ho; exact h4 i cs hi ho
    | false =>
      have hne : k ≠ id := fun e => by rw [(beq_iff k id).2 e] at hb; cases hb
      cases o with
      | box cs0 =>
        unfold frbH at e
        simp only [hb, cond_false] at e
        cases hc : frbL id bs cs0 with
        | none => simp [hc] at e
        | some cs1 =>
          simp only [hc] at e
          cases hr : frbH id bs h with
          | none => simp [hr] at e
          | some l =>
            simp only [hr, Option.some.injEq] at e
            subst e
            obtain ⟨h1, h2, h3, h4⟩ := ih hr
            refine ⟨by rw [lk_cons, if_neg hne]; exact h1, fun i hi kd n E xs => ?_, fun i cs' hi => ?_, fun i cs hi ho => ?_⟩
            · rw [lk_cons, lk_cons]; split
              · simp
              · exact h2 i hi kd n E xs
            · rw [lk_cons] at hi ⊢
              split at hi
              · cases hi; rename_i hk; rw [if_pos hk]; exact ⟨cs0, rfl, hc⟩
              · rename_i hk; rw [if_neg hk]; exact h3 i cs' hi
            · rw [lk_cons] at ho ⊢
              split at ho
              · rename_i hk; rw [if_pos hk]; exact ⟨cs1, rfl⟩
              · rename_i hk; rw [if_neg hk]; exact h4 i cs hi ho
      | arr kd0 n0 E0 xs0 =>
        unfold frbH at e
        simp only [hb, cond_false] at e
        cases hr : frbH id bs h with
        | none => simp [hr] at e
        | some l =>
          simp only [hr, Option.some.injEq] at e
          subst e
          obtain ⟨h1, h2, h3, h4⟩ := ih hr
          refine ⟨by rw [lk_cons, if_neg hne]; exact h1, fun i hi kd n E xs => ?_, fun i cs' hi => ?_, fun i cs hi ho => ?_⟩
          · rw [lk_cons, lk_cons]; split
            · exact Iff.rfl
            · exact h2 i hi kd n E xs
          · rw [lk_cons] at hi ⊢
            split at hi
            · cases hi
            · rename_i hk; rw [if_neg hk]; exact h3 i cs' hi
          · rw [lk_cons] at ho ⊢
            split at ho
            · cases ho
            · rename_i hk; rw [if_neg hk]; exact h4 i cs hi ho
theorem RelP.freezeB {φ : Nat → Loc} {a : Act} {w : World} {id : Nat} {bs : List AV} (hr : RelP F N ⟨s, h⟩ φ a w) (hF : lk F.η id = none)
    (hl : lk h id = some (.box bs)) (hp : (noIdsL bs && !isMapLen bs.length) = true) (hs : frbS id bs s = some s') (hh : frbH id bs h = some h') : RelP F N ⟨s', h'⟩ φ a w := by
  simp only [Bool.and_eq_true, Bool.not_eq_true'] at hp
  obtain ⟨g1, g2, g3, g4⟩ := frbH_spec hh
  have hex : ∀ i o, lk h' i = some o → i ≠ id ∧ ∃ o', lk h i = some o' := by
    intro i o ho
    have hne : i ≠ id := fun e => by subst e; rw [g1] at ho; cases ho
    refine ⟨hne, ?_⟩
    cases o with
    | box cs' => obtain ⟨cs, c1, _⟩ := g3 i cs' ho; exact ⟨_, c1⟩
    | arr k n E xs => exact ⟨_, (g2 i hne k n E xs).1 ho⟩
  have hS : ∀ b, Stab F w φ h b → Stab F w φ h' b := fun b hb => ⟨hb.1, hb.2.1, fun i o ho hm => by
    obtain ⟨_, o', ho'⟩ := hex i o ho
    exact hb.2.2 i o' ho' hm⟩
  have hf : FrozenB (Stab F w φ h) (Stab F w φ h') w φ h h' id bs := by
    obtain ⟨hm, _⟩ := hr.heap.obj _ _ hl
    have hown : (φ id).owns (φ id).blk := .inl ⟨hm, rfl⟩
    refine ⟨hr.heap, hl, hp.1, hp.2, hS, ⟨hr.heap.ltO id _ _ hl hown, ?_, fun i o ho hmi => ?_⟩, fun i k n E xs hi ho => (g2 i hi k n E xs).2 ho, g4⟩
    · rcases hr.mine id _ _ hl hown with h1 | ⟨o0, h1, h2⟩
      · exact .inr h1
      · rw [hF] at h1; cases h1
    · obtain ⟨hne, o', ho'⟩ := hex i o ho
      exact hne (hr.heap.injO i id o' _ _ ho' hl hmi hown)
  refine hr.sub hS (fun i y hy => ?_) (fun i k n E xs ho => ?_) (fun i cs' ho => ?_) (fun i o hi => ?_)
  · obtain ⟨x, hx, hxy⟩ := frbS_spec hs i y hy
    exact ⟨x, hx, fun v hv => frb_rep hf x y v hxy hv⟩
  · exact (g2 i (hex i _ ho).1 k n E xs).1 ho
  · obtain ⟨cs, c1, c2⟩ := g3 i cs' ho
    obtain ⟨c3, c4⟩ := frbL_rep hf cs cs' c2
    refine ⟨cs, c1, c3.symm, fun n y hy => ?_⟩
    obtain ⟨x, hx⟩ : ∃ x, cs[n]? = some x := ⟨cs[n]'(by rw [c3]; exact (List.getElem?_eq_some_iff.1 hy).1), by simp⟩
    exact ⟨x, hx, fun v hv => c4 n x y v hx hy hv⟩
  · have hne : i ≠ id := fun e => by subst e; rw [hF] at hi; cases hi
    obtain ⟨o', ho', _⟩ := hr.keep i o hi
    have ho'' : lk h i = some o' := ho'
    cases o' with
    | box cs => obtain ⟨cs', hc⟩ := g4 i cs hne ho''; exact ⟨_, hc⟩
    | arr k n E xs => exact ⟨_, (g2 i hne k n E xs).2 ho''⟩
theorem TL_freezeB (id : Nat) {bs : List AV} (hF : lk F.η id = none) (hl : lk h id = some (.box bs)) (hp : (noIdsL bs && !isMapLen bs.length) = true) (hs : frbS id bs s = some s') (hh : frbH id bs h = some h')
    (k : TLE ex P F N ops l KK ⟨s', h'⟩) : TLE ex P F N ops l KK ⟨s, h⟩ := TL_sub (fun φ _ _ hr => ⟨φ, hr.freezeB hF hl hp hs hh⟩) k
end
end Go.AM

namespace Go.AM
open Go
def renSl (ρ : List (Nat × Nat)) : Slots → Option Slots
  | [] => some []
  | (k, x) :: r => match renO ρ x with
    | some y => match renSl ρ r with
      | some l => some ((k, y) :: l)
      | none => none
    | none => none
theorem renSl_spec {ρ : List (Nat × Nat)} : ∀ {s s' : Slots}, renSl ρ s = some s' → ∀ i y, lk s' i = some y → ∃ x, lk s i = some x ∧ Ren (fun i j => lk ρ i = some j) x y := by
  intro s
  induction s with
  | nil => intro s' e i y hy; cases e; cases hy
  | cons p s ih =>
    obtain ⟨k, x⟩ := p
    intro s' e i y hy
    unfold renSl at e
    cases hx : renO ρ x with
    | none => simp [hx] at e
    | some z =>
      simp only [hx] at e
      cases hr : renSl ρ s with
      | none => simp [hr] at e
      | some l =>
        simp only [hr, Option.some.injEq] at e
        subst e
        rw [lk_cons] at hy ⊢
        split at hy
        · cases hy; rename_i hk; rw [if_pos hk]; exact ⟨x, rfl, renO_spec x y hx⟩
        · rename_i hk; rw [if_neg hk]; exact ih hr i y hy
section
variable {P : Program} {F : Fr} {N : Nat} {Q : Exit → St → Prop} {st : St} {c : Code}
variable {ops : Array Oper} {l : List Oper} {KK : St → Prop} {ex : Bool} {s s' : Slots} {h h' : Heap}
theorem RelP.ren {ρ : List (Nat × Nat)} {φ : Nat → Loc} {a : Act} {w : World} (hr : RelP F N ⟨s, h⟩ φ a w) (hinj : injB ρ = true) (hs : renSl ρ s = some s') (hh : renH ρ h = some h')
    (hF : F.η.all (fun p => match lk ρ p.1 with | some j => Nat.beq j p.1 | none => false) = true) : Rel F N ⟨s', h'⟩ a w := by
  obtain ⟨r1, r2⟩ := renH_spec hinj hh
  have hFe : ∀ i o, lk F.η i = some o → lk ρ i = some i := by
    intro i o ho
    have := List.all_eq_true.1 hF _ (lk_mem ho)
    simp only at this
    cases hl : lk ρ i with
    | none => rw [hl] at this; cases this
    | some j => rw [hl] at this; rw [(beq_iff _ _).1 this]
  have hplace : ∃ φ' : Nat → Loc, ∀ i j, lk ρ i = some j → φ' j = φ i := by
    classical
    refine ⟨fun j => if h : ∃ i, lk ρ i = some j then φ (Classical.choose h) else φ j, fun i j e => ?_⟩
    have hex : ∃ i, lk ρ i = some j := ⟨i, e⟩
    show (if h : ∃ i, lk ρ i = some j then φ (Classical.choose h) else φ j) = φ i
    rw [dif_pos hex, injB_inj hinj (Classical.choose_spec hex) e]
  obtain ⟨φ', hφ⟩ := hplace
  have hS : ∀ b, Stab F w φ h b → Stab F w φ' h' b := by
    intro b hb
    refine ⟨hb.1, hb.2.1, fun j o ho hm => ?_⟩
    obtain ⟨i, o', e1, e2, _⟩ := r2 j o ho
    rw [hφ i j e1] at hm
    exact hb.2.2 i o' e2 hm
  have hR : ∀ {x y v}, Ren (fun i j => lk ρ i = some j) x y → RepV (Stab F w φ h) w φ h x v → RepV (Stab F w φ' h') w φ' h' y v := fun hxy hv =>
    hv.ren hS (fun _ _ => rfl) (fun i j e => by
      refine ⟨fun _ _ => hφ i j e, fun k sz E es ho => ?_, fun cs ho => ?_⟩
      · obtain ⟨j', o', e1, e2, e3⟩ := r1 i _ ho
        rw [e] at e1; cases e1
        cases o' with
        | box _ => exact e3.elim
        | arr _ _ _ _ => obtain ⟨rfl, rfl, rfl, rfl⟩ := e3; exact ⟨_, _, rfl, e2⟩
      · obtain ⟨j', o', e1, e2, e3⟩ := r1 i _ ho
        rw [e] at e1; cases e1
        cases o' with
        | box cs' => exact ⟨cs', e2⟩
        | arr _ _ _ _ => exact e3.elim) hxy
  refine ⟨φ', hr.size, hr.defers, hr.sys, hr.grow, ⟨fun j o ho => ?_, fun i j oi oj b hi hj hmi hmj => ?_, fun b hb => hb.1, fun i o b ho hm hst => hst.2.2 i o ho hm, fun j o b ho hm => ?_⟩,
    fun i x hx => ?_, fun j o b ho hm => ?_, fun i o hi hb => ?_, fun i o hi => ?_, hr.frame⟩
  · obtain ⟨i, o', e1, e2, e3⟩ := r2 j o ho
    have hok := hr.heap.obj i o' e2
    cases o' with
    | box cs =>
      cases o with
      | arr _ _ _ _ => exact e3.elim
      | box cs' =>
        obtain ⟨hm, C, E, hC, hsz, hrep⟩ := hok
        refine ⟨by rw [hφ i j e1]; exact hm, C, E, by rw [hφ i j e1]; exact hC.len e3.1.symm, by rw [hsz]; exact e3.1, fun n y v hy hv => ?_⟩
        obtain ⟨x, hx⟩ : ∃ x, cs[n]? = some x := ⟨cs[n]'(by rw [e3.1]; exact (List.getElem?_eq_some_iff.1 hy).1), by simp⟩
        exact hR (e3.2 n x y hx hy) (hrep n x v hx hv)
    | arr k sz E es =>
      cases o with
      | box _ => exact e3.elim
      | arr _ _ _ _ =>
        obtain ⟨rfl, rfl, rfl, rfl⟩ := e3
        obtain ⟨h0, hl, hone, hob⟩ := hok
        refine ⟨h0, hl, hone, ?_⟩
        rw [hφ i j e1]
        rcases hob with hob | ⟨hm, C, hC, h1, h2, h3, h4⟩
        · exact .inl hob
        · exact .inr ⟨hm, C, hC, h1, h2, h3, h4.mono hS (fun _ _ => rfl) (fun _ _ _ => rfl) rfl⟩
  · obtain ⟨i1, o1, e1, e2, _⟩ := r2 i oi hi
    obtain ⟨i2, o2, f1, f2, _⟩ := r2 j oj hj
    rw [hφ i1 i e1] at hmi
    rw [hφ i2 j f1] at hmj
    have := hr.heap.injO i1 i2 o1 o2 b e2 f2 hmi hmj
    subst this
    rw [e1] at f1
    cases f1
    rfl
  · obtain ⟨i, o', e1, e2, _⟩ := r2 j o ho
    rw [hφ i j e1] at hm
    exact hr.heap.ltO i o' b e2 hm
  · obtain ⟨y, hy, hxy⟩ := renSl_spec hs i x hx
    obtain ⟨v, hv, hrep⟩ := hr.slots i y hy
    exact ⟨v, hv, hR hxy hrep⟩
  · obtain ⟨i, o', e1, e2, _⟩ := r2 j o ho
    rw [hφ i j e1] at hm
    rcases hr.mine i o' b e2 hm with h1 | ⟨o0, h1, h2⟩
    · exact .inl h1
    · right
      have := hFe i o0 h1
      rw [e1] at this
      cases this
      exact ⟨o0, h1, h2⟩
  · rw [hφ i i (hFe i o hi)]; exact hr.fix i o hi hb
  · obtain ⟨o', ho', hal⟩ := hr.keep i o hi
    obtain ⟨j, o2, e1, e2, e3⟩ := r1 i o' ho'
    rw [hFe i o hi] at e1
    cases e1
    refine ⟨o2, e2, AO.alike_trans hal ?_⟩
    cases o' <;> cases o2 <;> first | trivial | exact e3.elim | (obtain ⟨rfl, rfl, rfl, rfl⟩ := e3; exact AO.alike_refl _)
theorem T_ren (ρ : List (Nat × Nat)) (hinj : injB ρ = true) (hs : renSl ρ s = some s') (hh : renH ρ h = some h')
    (hF : F.η.all (fun p => match lk ρ p.1 with | some j => Nat.beq j p.1 | none => false) = true) (k : T P F N c Q ⟨s', h'⟩) : T P F N c Q ⟨s, h⟩ := T_sub (fun _ _ _ hr => hr.ren hinj hs hh hF) k
theorem TR_ren (ρ : List (Nat × Nat)) (hinj : injB ρ = true) (hs : renSl ρ s = some s') (hh : renH ρ h = some h')
    (hF : F.η.all (fun p => match lk ρ p.1 with | some j => Nat.beq j p.1 | none => false) = true) (k : TR P F N c Q ⟨s', h'⟩) : TR P F N c Q ⟨s, h⟩ := TR_sub (fun _ _ _ hr => hr.ren hinj hs hh hF) k
theorem T_join {ι : Type} {x y : Code} (J : ι → St) (M : ι → Prop) (hrest : ∀ i, M i → T P F N y Q (J i))
    (hfirst : (∀ i, M i → T P F N y Q (J i)) → T P F N x (Post.seq (T P F N y Q) Q) st) : T P F N (.seq x y) Q st := T_seq (hfirst hrest)
theorem TL_join {ι : Type} (n : Nat) (J : ι → St) (M : ι → Prop) (hrest : ∀ i, M i → TLE ex P F N ops (l.drop n) KK (J i))
    (hfirst : (∀ i, M i → TLE ex P F N ops (l.drop n) KK (J i)) → TLE ex P F N ops l KK st) : TLE ex P F N ops l KK st := hfirst hrest
end
theorem wrap_w64 (n : Int) : IntKind.i64.wrap n = w64 n := by
  rw [IntKind.wrap_i64]
  unfold w64
  omega
section
variable {P : Program} {s s' s1 : Slots} {h h' h1 : Heap} {dst : Option Tmp} {ty : TypeId} {pos : String} {after : Array Edge} {gd : Option (Nat × Bool)} {x y : Operand} {t : TypeId}
theorem op_lenT {sz n : Nat} {es : List AV} {e : TypeId} (hu : P.underlying t = some (.slice e)) (hx : aev s x = some (.sl sz es)) (hn : es.length = n) :
    OpP P ⟨dst, .call ⟨.builtin .len, #[x], #[t]⟩, ty, pos, after, gd⟩ s h (.int .i64 (n : Int)) := by subst hn; exact op_len_sl hu hx
theorem op_lenO {id sz n : Nat} {k : Kd} {E : TypeId} {es : List AV} {e : TypeId} (hu : P.underlying t = some (.slice e)) (hx : aev s x = some (.ow id)) (hl : lk h id = some (.arr k sz E es)) (hn : es.length = n) :
    OpP P ⟨dst, .call ⟨.builtin .len, #[x], #[t]⟩, ty, pos, after, gd⟩ s h (.int .i64 (n : Int)) := by subst hn; exact op_len_ow hu hx hl
theorem op_indexT {α : Type} {f : α → AV} {sz : Nat} {E : TypeId} {a : List α} {v : α} {cs : List AV} {k : IntKind} {i : Int} (ht : tyElem P t = some (E, sz))
    (hx : aev s x = some (.sl sz (a.map f))) (hy : aev s y = some (.int k i)) (hg : getI a i = some v) (hc : cellsO (f v) = some cs) :
    OpP P ⟨dst, .indexAddr t x y, ty, pos, after, gd⟩ s h (.cp cs) :=
  op_index_sl ht hx hy (getI_spec hg).1 (get_map (getI_spec hg).2) hc
theorem op_indexO {α : Type} {f : α → AV} {id sz : Nat} {kd : Kd} {E E' : TypeId} {a : List α} {v : α} {k : IntKind} {i : Int} (ht : tyElem P t = some (E, sz))
    (hx : aev s x = some (.ow id)) (hl : lk h id = some (.arr kd sz E' (a.map f))) (hy : aev s y = some (.int k i)) (hg : getI a i = some v) :
    OpP P ⟨dst, .indexAddr t x y, ty, pos, after, gd⟩ s h (.ptr id i.toNat 0) :=
  op_index_ow ht hx hl hy (getI_spec hg).1 (by simpa using getI_lt hg)
theorem op_quoT {t' : TypeId} {a b c : Int} (hx : aev s x = some (.int .i64 a)) (hy : aev s y = some (.int .i64 b)) (hg : quoI a b = some c) :
    OpP P ⟨dst, .binOp .quo t x y t', ty, pos, after, gd⟩ s h (.int .i64 c) := by obtain ⟨h1, rfl⟩ := quoI_spec hg; rw [← wrap_w64]; exact op_quo hx hy h1
theorem op_remT {t' : TypeId} {k : IntKind} {a b c : Int} (hx : aev s x = some (.int k a)) (hy : aev s y = some (.int k b)) (hg : remI a b = some c) :
    OpP P ⟨dst, .binOp .rem t x y t', ty, pos, after, gd⟩ s h (.int k c) := by obtain ⟨h1, rfl⟩ := remI_spec hg; exact op_rem hx hy h1
theorem op_addW {t' : TypeId} {a b : Int} (hx : aev s x = some (.int .i64 a)) (hy : aev s y = some (.int .i64 b)) : OpP P ⟨dst, .binOp .add t x y t', ty, pos, after, gd⟩ s h (.int .i64 (w64 (a + b))) := by
  rw [← wrap_w64]; exact op_add hx hy
theorem op_subW {t' : TypeId} {a b : Int} (hx : aev s x = some (.int .i64 a)) (hy : aev s y = some (.int .i64 b)) : OpP P ⟨dst, .binOp .sub t x y t', ty, pos, after, gd⟩ s h (.int .i64 (w64 (a - b))) := by
  rw [← wrap_w64]; exact op_sub hx hy
theorem op_mulW {t' : TypeId} {a b : Int} (hx : aev s x = some (.int .i64 a)) (hy : aev s y = some (.int .i64 b)) : OpP P ⟨dst, .binOp .mul t x y t', ty, pos, after, gd⟩ s h (.int .i64 (w64 (a * b))) := by
  rw [← wrap_w64]; exact op_mul hx hy
theorem op_negW {a : Int} (hx : aev s x = some (.int .i64 a)) : OpP P ⟨dst, .unOp .neg t x, ty, pos, after, gd⟩ s h (.int .i64 (w64 (0 - a))) := by
  rw [← wrap_w64]; exact op_neg hx
theorem op_addN {t' : TypeId} {n : Nat} (hx : aev s x = some (.int .i64 (n : Int))) (hy : aev s y = some (.int .i64 1)) (hf : n < 9223372036854775807) :
    OpP P ⟨dst, .binOp .add t x y t', ty, pos, after, gd⟩ s h (.int .i64 ((n + 1 : Nat) : Int)) := op_add64 hx hy (by omega)
theorem op_loadT1 {α : Type} {f : α → AV} {id k off sz : Nat} {p : Bool} {E : TypeId} {a : List α} {v : α} {c : AV} {cs r : List AV} (ha : tyAgg P t = some false) (hx : aev s x = some (.ptr id k off))
    (hl : lk h id = some (.arr ⟨p, false⟩ sz E (a.map f))) (hg : a[k]? = some v) (hc : cellsO (f v) = some cs) (hd : dropO cs off = some (c :: r)) :
    OpP P ⟨dst, .load t x, ty, pos, after, gd⟩ s h c := op_load_arr1 ha hx hl (get_map hg) hc hd
theorem op_loadTN {α : Type} {f : α → AV} {id k off sz n : Nat} {p : Bool} {E : TypeId} {a : List α} {v : α} {cs cs1 cs' : List AV} (ha : tyAgg P t = some true) (hs : tySize P t = some n)
    (hx : aev s x = some (.ptr id k off)) (hl : lk h id = some (.arr ⟨p, false⟩ sz E (a.map f))) (hg : a[k]? = some v) (hc : cellsO (f v) = some cs) (hd : dropO cs off = some cs1)
    (ht : takeO cs1 n = some cs') : OpP P ⟨dst, .load t x, ty, pos, after, gd⟩ s h (.agg cs') := op_load_arrN ha hs hx hl (get_map hg) hc hd ht
theorem op_loadD1 {α : Type} {f : α → AV} {id k off sz n : Nat} {p : Bool} {E : TypeId} {a : List α} {v : α} {c c' : AV} {cs r : List AV} (ha : tyAgg P t = some false) (hx : aev s x = some (.ptr id k off))
    (hl : lk h id = some (.arr ⟨p, true⟩ sz E (a.map f))) (hg : a[k]? = some v) (hc : cellsO (f v) = some cs) (hd : dropO cs off = some (c :: r)) (hn : n = k * sz + off) (hcc : dcell id n c = c') :
    OpP P ⟨dst, .load t x, ty, pos, after, gd⟩ s h c' := op_load_arrD1 ha hx hl (get_map hg) hc hd hn hcc
theorem op_sliceT {α : Type} {f : α → AV} {sz l u : Nat} {E : TypeId} {a b : List α} {lo hi : Option Operand} (ht : tyElem P t = some (E, sz))
    (hx : aev s x = some (.sl sz (a.map f))) (hb : Bnds s (a.map f).length lo hi l u) (hlu : l ≤ u) (hu : u ≤ a.length) (he : b = (a.drop l).take (u - l)) :
    OpP P ⟨dst, .slice t x lo hi none, ty, pos, after, gd⟩ s h (.sl sz (b.map f)) := by
  subst he
  rw [List.map_take, List.map_drop]
  exact op_slice_sl ht hx hb hlu (by simpa using hu)
end
end Go.AM

namespace Go.AM
open Go
mutual
def NilR : AV → AV → Prop
  | .snil, y => y = .snil ∨ ∃ n, y = .sl n []
  | .agg xs, y => ∃ ys, y = .agg ys ∧ NilRL xs ys
  | .tup xs, y => ∃ ys, y = .tup ys ∧ NilRL xs ys
  | .cp xs, y => ∃ ys, y = .cp ys ∧ NilRL xs ys
  | .fn f as bs, y => ∃ ys zs, y = .fn f ys zs ∧ NilRL as ys ∧ NilRL bs zs
  | .int k n, y => y = .int k n
  | .bool b, y => y = .bool b
  | .str b, y => y = .str b
  | .sl n es, y => y = .sl n es
  | .nilp, y => y = .nilp ∨ y = .tr .nilp
  | .tr x, y => y = .tr x
  | .nilf, y => y = .nilf
  | .ptr i k o, y => y = .ptr i k o
  | .ow i, y => y = .ow i
  | .mp i, y => y = .mp i
  | .sub i n, y => y = .sub i n
  | .win i n, y => y = .win i n
  | .junk, y => y = .junk
def NilRL : List AV → List AV → Prop
  | [], ys => ys = []
  | x :: r, ys => ∃ y s, ys = y :: s ∧ NilR x y ∧ NilRL r s
end
theorem NilRL_get : ∀ {xs ys : List AV}, NilRL xs ys → ys.length = xs.length ∧ ∀ (i : Nat) x y, xs[i]? = some x → ys[i]? = some y → NilR x y := by
  intro xs
  induction xs with
  | nil => intro ys h; simp only [NilRL] at h; subst h; exact ⟨rfl, fun i x y hx => by simp at hx⟩
  | cons x r ih =>
    intro ys h
    simp only [NilRL] at h
    obtain ⟨y, s, rfl, h1, h2⟩ := h
    obtain ⟨h3, h4⟩ := ih h2
    refine ⟨by simp [h3], fun i a b ha hb => ?_⟩
    cases i with
    | zero => simp at ha hb; subst ha hb; exact h1
    | succ i => simp at ha hb; exact h4 i a b ha hb
mutual
theorem NilR_T {S : Nat → Prop} {w : World} : ∀ (x y : AV) (v : Value), NilR x y → RepT S w x v → RepT S w y v
  | .snil, y, v, h, hv => by
    simp only [NilR] at h
    cases hv
    rcases h with rfl | ⟨n, rfl⟩
    · exact .snil
    · exact .sl0 _ _ _ (fun _ => rfl)
  | .agg xs, y, v, h, hv => by
    simp only [NilR] at h
    obtain ⟨ys, rfl, hl⟩ := h
    cases hv with
    | agg _ vs h1 h2 => obtain ⟨h3, h4⟩ := NilRL_T xs ys hl; exact .agg ys vs (by rw [h3]; exact h1) (fun i y v hy hv => h4 i y v hy (fun x hx => h2 i x v hx hv))
  | .tup xs, y, v, h, hv => by
    simp only [NilR] at h
    obtain ⟨ys, rfl, hl⟩ := h
    cases hv with
    | tup _ vs h1 h2 => obtain ⟨h3, h4⟩ := NilRL_T xs ys hl; exact .tup ys vs (by rw [h3]; exact h1) (fun i y v hy hv => h4 i y v hy (fun x hx => h2 i x v hx hv))
  | .cp xs, y, v, h, hv => by
    simp only [NilR] at h
    obtain ⟨ys, rfl, hl⟩ := h
    cases hv with
    | cp _ b off f hb h1 h2 =>
      obtain ⟨h3, h4⟩ := NilRL_T xs ys hl
      have hx : ∀ (j : Nat) y, ys[j]? = some y → ∃ x, xs[j]? = some x := fun j y hy => ⟨xs[j]'(by rw [← h3]; exact (List.getElem?_eq_some_iff.1 hy).1), by simp⟩
      exact .cp ys b off f hb (fun j y hy => by obtain ⟨x, hx⟩ := hx j y hy; exact h1 j x hx) (fun j y hy => h4 j y _ hy (fun x hx => h2 j x hx))
  | .fn f as bs, y, v, h, hv => by
    simp only [NilR] at h
    obtain ⟨ys, zs, rfl, hl1, hl2⟩ := h
    cases hv with
    | fn _ _ _ us ws h1 h2 h3 h4 =>
      obtain ⟨g1, g2⟩ := NilRL_T as ys hl1
      obtain ⟨g3, g4⟩ := NilRL_T bs zs hl2
      exact .fn f ys zs us ws (by rw [g1]; exact h1) (by rw [g3]; exact h2) (fun i y v hy hv => g2 i y v hy (fun x hx => h3 i x v hx hv)) (fun i y v hy hv => g4 i y v hy (fun x hx => h4 i x v hx hv))
  | .int k n, y, v, h, hv => by simp only [NilR] at h; subst h; exact hv
  | .bool b, y, v, h, hv => by simp only [NilR] at h; subst h; exact hv
  | .str b, y, v, h, hv => by simp only [NilR] at h; subst h; exact hv
  | .sl n es, y, v, h, hv => by simp only [NilR] at h; subst h; exact hv
  | .nilp, y, v, h, hv => by
    simp only [NilR] at h
    rcases h with rfl | rfl
    · exact hv
    · cases hv; exact .tr _ _ .nilp
  | .tr _, y, v, h, hv => by simp only [NilR] at h; subst h; exact hv
  | .nilf, y, v, h, hv => by simp only [NilR] at h; subst h; exact hv
  | .ptr i k o, y, v, h, hv => by simp only [NilR] at h; subst h; exact hv
  | .ow i, y, v, h, hv => by simp only [NilR] at h; subst h; exact hv
  | .mp i, y, v, h, hv => by simp only [NilR] at h; subst h; exact hv
  | .sub i n, y, v, h, hv => by simp only [NilR] at h; subst h; exact hv
  | .win i n, y, v, h, hv => by simp only [NilR] at h; subst h; exact hv
  | .junk, y, v, h, hv => by simp only [NilR] at h; subst h; exact hv
theorem NilRL_T {S : Nat → Prop} {w : World} : ∀ (xs ys : List AV), NilRL xs ys → ys.length = xs.length ∧
    ∀ (i : Nat) y v, ys[i]? = some y → (∀ x, xs[i]? = some x → RepT S w x v) → RepT S w y v
  | [], ys, h => by simp only [NilRL] at h; subst h; exact ⟨rfl, fun i y v hy => by simp at hy⟩
  | x :: r, ys, h => by
    simp only [NilRL] at h
    obtain ⟨y, s, rfl, h1, h2⟩ := h
    obtain ⟨h3, h4⟩ := NilRL_T (S := S) (w := w) r s h2
    refine ⟨by simp [h3], fun i b v hb hv => ?_⟩
    cases i with
    | zero => simp at hb; subst hb; exact NilR_T x y v h1 (hv x (by simp))
    | succ i => simp at hb; exact h4 i b v hb (fun x hx => hv x (by simpa using hx))
end
mutual
theorem NilR_V {S : Nat → Prop} {w : World} {φ : Nat → Loc} {η : Heap} : ∀ (x y : AV) (v : Value), NilR x y → RepV S w φ η x v → RepV S w φ η y v
  | .agg xs, y, v, h, hv => by
    simp only [NilR] at h
    obtain ⟨ys, rfl, hl⟩ := h
    obtain ⟨vs, rfl, h1, h2⟩ := hv.agg_inv
    obtain ⟨h3, h4⟩ := NilRL_V (S := S) (w := w) (φ := φ) (η := η) xs ys hl
    exact .agg ys vs (by rw [h3]; exact h1) (fun i y v hy hv => h4 i y v hy (fun x hx => h2 i x v hx hv))
  | .tup xs, y, v, h, hv => by
    simp only [NilR] at h
    obtain ⟨ys, rfl, hl⟩ := h
    obtain ⟨vs, rfl, h1, h2⟩ := hv.tup_inv
    obtain ⟨h3, h4⟩ := NilRL_V (S := S) (w := w) (φ := φ) (η := η) xs ys hl
    exact .tup ys vs (by rw [h3]; exact h1) (fun i y v hy hv => h4 i y v hy (fun x hx => h2 i x v hx hv))
  | .fn f as bs, y, v, h, hv => by
    simp only [NilR] at h
    obtain ⟨ys, zs, rfl, hl1, hl2⟩ := h
    obtain ⟨us, ws, rfl, h1, h2, h3, h4⟩ := hv.fn_inv
    obtain ⟨g1, g2⟩ := NilRL_V (S := S) (w := w) (φ := φ) (η := η) as ys hl1
    obtain ⟨g3, g4⟩ := NilRL_V (S := S) (w := w) (φ := φ) (η := η) bs zs hl2
    exact .fn f ys zs us ws (by rw [g1]; exact h1) (by rw [g3]; exact h2) (fun i y v hy hv => g2 i y v hy (fun x hx => h3 i x v hx hv)) (fun i y v hy hv => g4 i y v hy (fun x hx => h4 i x v hx hv))
  | .snil, y, v, h, hv => by cases hv with | pure hv => exact .pure (NilR_T _ _ _ h hv)
  | .cp xs, y, v, h, hv => by cases hv with | pure hv => exact .pure (NilR_T _ _ _ h hv)
  | .int k n, y, v, h, hv => by simp only [NilR] at h; subst h; exact hv
  | .bool b, y, v, h, hv => by simp only [NilR] at h; subst h; exact hv
  | .str b, y, v, h, hv => by simp only [NilR] at h; subst h; exact hv
  | .sl n es, y, v, h, hv => by simp only [NilR] at h; subst h; exact hv
  | .nilp, y, v, h, hv => by
    simp only [NilR] at h
    rcases h with rfl | rfl
    · exact hv
    · cases hv with
      | pure hv => cases hv; exact .pure (.tr _ _ .nilp)
  | .tr _, y, v, h, hv => by simp only [NilR] at h; subst h; exact hv
  | .nilf, y, v, h, hv => by simp only [NilR] at h; subst h; exact hv
  | .ptr i k o, y, v, h, hv => by simp only [NilR] at h; subst h; exact hv
  | .ow i, y, v, h, hv => by simp only [NilR] at h; subst h; exact hv
  | .mp i, y, v, h, hv => by simp only [NilR] at h; subst h; exact hv
  | .sub i n, y, v, h, hv => by simp only [NilR] at h; subst h; exact hv
  | .win i n, y, v, h, hv => by simp only [NilR] at h; subst h; exact hv
  | .junk, y, v, h, hv => by simp only [NilR] at h; subst h; exact hv
theorem NilRL_V {S : Nat → Prop} {w : World} {φ : Nat → Loc} {η : Heap} : ∀ (xs ys : List AV), NilRL xs ys → ys.length = xs.length ∧
    ∀ (i : Nat) y v, ys[i]? = some y → (∀ x, xs[i]? = some x → RepV S w φ η x v) → RepV S w φ η y v
  | [], ys, h => by simp only [NilRL] at h; subst h; exact ⟨rfl, fun i y v hy => by simp at hy⟩
  | x :: r, ys, h => by
    simp only [NilRL] at h
    obtain ⟨y, s, rfl, h1, h2⟩ := h
    obtain ⟨h3, h4⟩ := NilRL_V (S := S) (w := w) (φ := φ) (η := η) r s h2
    refine ⟨by simp [h3], fun i b v hb hv => ?_⟩
    cases i with
    | zero => simp at hb; subst hb; exact NilR_V x y v h1 (hv x (by simp))
    | succ i => simp at hb; exact h4 i b v hb (fun x hx => hv x (by simpa using hx))
end
theorem NilR_refl : ∀ (x : AV), NilR x x := by
  intro x
  have h : (∀ x, NilR x x) ∧ ∀ l, NilRL l l := by
    refine ⟨fun x => AV.rec (motive_1 := fun x => NilR x x) (motive_2 := fun l => NilRL l l) ?_ ?_ ?_ ?_ ?_ ?_ ?_ ?_ ?_ ?_ ?_ ?_ ?_ ?_ ?_ ?_ ?_ ?_ ?_ ?_ x,
      fun l => AV.rec_1 (motive_1 := fun x => NilR x x) (motive_2 := fun l => NilRL l l) ?_ ?_ ?_ ?_ ?_ ?_ ?_ ?_ ?_ ?_ ?_ ?_ ?_ ?_ ?_ ?_ ?_ ?_ ?_ ?_ l⟩
    all_goals intros; simp only [NilR, NilRL]
    all_goals first | rfl | (exact .inl rfl) | (exact .inl trivial) | (exact ⟨_, rfl, by assumption⟩) | (exact ⟨_, _, rfl, by assumption, by assumption⟩) | trivial
  exact h.1 x
theorem ACallF.nil {F : Fr} {P : Program} {f : FuncId} {xs ys : List AV} {L L' : Heap} {r : AV} (hc : ACallF F P f xs L r L') (hn : NilRL ys xs) : ACallF F P f ys L r L' := by
  intro w S φ vs hK hH hvs
  obtain ⟨h1, h2⟩ := NilRL_V (S := S) (w := w) (φ := φ) (η := L) ys xs hn
  exact hc w S φ vs hK hH ⟨by rw [h1]; exact hvs.1, fun i x v hx hv => h2 i x v hx (fun y hy => hvs.2 i y v hy hv)⟩
section
variable {P : Program} {F : Fr} {N : Nat} {Q : Exit → St → Prop} {st : St} {c : Code}
variable {ops : Array Oper} {l : List Oper} {KK : St → Prop} {ex : Bool} {s s' : Slots} {h h' : Heap}
theorem RelP.nilAt {φ : Nat → Loc} {a : Act} {w : World} {i : Nat} {x x' : AV} (hr : RelP F N ⟨s, h⟩ φ a w) (hi : lk s i = some x) (hn : NilR x x') (hs : sput s i x' = some s') : RelP F N ⟨s', h⟩ φ a w := by
  refine ⟨hr.size, hr.defers, hr.sys, hr.grow, hr.heap, fun j y hy => ?_, hr.mine, hr.fix, hr.keep, hr.frame⟩
  have hy' : lk s' j = some y := hy
  rw [lk_sput hs] at hy'
  split at hy'
  · cases hy'
    rename_i hij; subst hij
    obtain ⟨v, hv, hrep⟩ := hr.slots _ _ hi
    exact ⟨v, hv, NilR_V x x' v hn hrep⟩
  · exact hr.slots j y hy'
theorem T_nilAt (i : Nat) {x x' : AV} (hi : lk s i = some x) (hn : NilR x x') (hs : sput s i x' = some s') (k : T P F N c Q ⟨s', h⟩) : T P F N c Q ⟨s, h⟩ := T_sub (fun φ _ _ hr => ⟨φ, hr.nilAt hi hn hs⟩) k
theorem RelP.nilBox {φ : Nat → Loc} {a : Act} {w : World} {id : Nat} {cs cs' : List AV} (hr : RelP F N ⟨s, h⟩ φ a w) (hl : lk h id = some (.box cs)) (hn : NilRL cs cs') (hh : sput h id (.box cs') = some h') : RelP F N ⟨s, h'⟩ φ a w := by
  obtain ⟨n1, n2⟩ := NilRL_get hn
  have hlk := lk_sput hh
  have hal : headsAlike φ φ h h' := by
    refine ⟨fun i cs1 hi _ => ⟨?_, rfl⟩, fun i k1 sz E1 es hi => ⟨rfl, k1, es, rfl, ?_⟩⟩
    · by_cases hid : id = i
      · subst hid; exact ⟨_, by rw [hlk, if_pos rfl]⟩
      · exact ⟨cs1, by rw [hlk, if_neg hid]; exact hi⟩
    · have hid : id ≠ i := fun e => by subst e; rw [hl] at hi; cases hi
      rw [hlk, if_neg hid]; exact hi
  obtain ⟨hm, C, E, hC, hsz, hrep⟩ := hr.heap.obj _ _ hl
  refine hr.upd hh (fun _ _ => rfl) (SameSys.refl w) (Nat.le_refl _) (fun _ _ _ => rfl) (fun b hbo => .inr ⟨_, hl, hbo⟩) (fun o1 h1 h2 => hr.fix id o1 h1 h2) (fun o ho => by rw [hl] at ho; cases ho; trivial)
    (fun hS hw x v _ hv => hv.mono hS hw hal) (fun hS hw => ⟨hm, C, E, hC.len n1, by rw [hsz]; exact n1.symm, fun i y v hy hv => ?_⟩)
  obtain ⟨x, hx⟩ : ∃ x, cs[i]? = some x := ⟨cs[i]'(by rw [← n1]; exact (List.getElem?_eq_some_iff.1 hy).1), by simp⟩
  exact (NilR_V x y v (n2 i x y hx hy) (hrep i x v hx hv)).mono hS hw hal
theorem T_nilBox (id : Nat) {cs cs' : List AV} (hl : lk h id = some (.box cs)) (hn : NilRL cs cs') (hh : sput h id (.box cs') = some h') (k : T P F N c Q ⟨s, h'⟩) : T P F N c Q ⟨s, h⟩ := T_sub (fun φ _ _ hr => ⟨φ, hr.nilBox hl hn hh⟩) k
theorem RelP.ownNilBox {φ : Nat → Loc} {a : Act} {w : World} {bid k id sz : Nat} {kd : Kd} {E : TypeId} {cs cs' : List AV} {h1 : Heap} (hr : RelP F N ⟨s, h⟩ φ a w) (hb : lk h bid = some (.box cs)) (hk : cs[k]? = some .snil)
    (hl : lk h id = none) (hsz : 0 < sz) (hh1 : sput h id (.arr kd sz E []) = some h1) (hc : cs' = cs.set k (.ow id)) (hh : sput h1 bid (.box cs') = some h') : Rel F N ⟨s, h'⟩ a w := by
  have h2 := hr.newNil none hl hh1 hsz
  have hlk1 := lk_sput hh1
  have hlk := lk_sput hh
  have hne : id ≠ bid := fun e => by subst e; rw [hl] at hb; cases hb
  have hb1 : lk h1 bid = some (.box cs) := by rw [hlk1, if_neg hne]; exact hb
  have h1id : lk h1 id = some (.arr kd sz E []) := by rw [hlk1, if_pos rfl]
  generalize hφ : updLoc φ id { mkLoc 0 0 false with va := none } = φ' at h2
  have hloc : φ' id = mkLoc 0 0 false := by rw [← hφ, updLoc_same]
  have hal : headsAlike φ' φ' h1 h' := by
    refine ⟨fun i cs1 hi _ => ⟨?_, rfl⟩, fun i k1 sz E1 es hi => ⟨rfl, k1, es, rfl, ?_⟩⟩
    · by_cases hid : bid = i
      · subst hid; exact ⟨_, by rw [hlk, if_pos rfl]⟩
      · exact ⟨cs1, by rw [hlk, if_neg hid]; exact hi⟩
    · have hid : bid ≠ i := fun e => by subst e; rw [hb1] at hi; cases hi
      rw [hlk, if_neg hid]; exact hi
  obtain ⟨hm, C, E', hC, hsz', hrep⟩ := h2.heap.obj _ _ hb1
  refine ⟨φ', h2.upd hh (fun _ _ => rfl) (SameSys.refl w) (Nat.le_refl _) (fun _ _ _ => rfl) (fun b hbo => .inr ⟨_, hb1, hbo⟩) (fun o1 h3 h4 => h2.fix bid o1 h3 h4) (fun o ho => by rw [hb1] at ho; cases ho; trivial)
    (fun hS hw x v _ hv => hv.mono hS hw hal) (fun hS hw => ⟨hm, C, E', hC.len (by rw [hc, List.length_set]), by rw [hc, List.length_set]; exact hsz', fun i y v hy hv => ?_⟩)⟩
  subst hc
  rw [List.getElem?_set] at hy
  split at hy
  · rename_i hki; subst hki
    split at hy
    · cases hy
      have hvn : v = .slice none 0 0 := by
        have := hrep k _ v hk hv
        cases this with
        | pure h => cases h; rfl
      subst hvn
      have := RepV.ow0 (S := Stab F w φ' h') (w := w) (φ := φ') (η := h') (id := id) (k := kd) (sz := sz) (E := E) (by rw [hlk, if_neg (Ne.symm hne)]; exact h1id) (by rw [hloc])
      rw [hloc] at this
      exact this
    · cases hy
  · exact (hrep i y v hy hv).mono hS hw hal
theorem T_ownNilBox (bid k id : Nat) {sz : Nat} (kd : Kd) (E : TypeId) {cs cs' : List AV} {h1 : Heap} (hb : lk h bid = some (.box cs)) (hk : cs[k]? = some .snil)
    (hl : lk h id = none) (hsz : Nat.blt 0 sz = true) (hh1 : sput h id (.arr kd sz E []) = some h1) (hc : cs' = cs.set k (.ow id)) (hh : sput h1 bid (.box cs') = some h') (q : T P F N c Q ⟨s, h'⟩) : T P F N c Q ⟨s, h⟩ :=
  T_sub (fun _ _ _ hr => hr.ownNilBox hb hk hl (Nat.le_of_ble_eq_true hsz) hh1 hc hh) q
theorem TR_undeep {sz : Nat} {E : TypeId} {es : List AV} (id : Nat) {p p' : Bool} (hF : lk F.η id = none) (hl : lk h id = some (.arr ⟨p, true⟩ sz E es)) (he : ElR es es)
    (hh : sput h id (.arr ⟨p', false⟩ sz E es) = some h') (q : TR P F N c Q ⟨s, h'⟩) : TR P F N c Q ⟨s, h⟩ := TR_sub (fun _ _ _ hr => hr.undeep hF hl he hh) q
theorem TR_forL2 {α σ τ : Type} (xs : List α) (step : Nat → α → σ → Option (Ctl σ τ)) (fin : σ → τ) (inv : Nat → σ → St) (E : τ → Exit) (J : τ → St) (K : τ → Prop) {s0 : σ} {t : τ} (hl : forL step fin 0 xs s0 = some t) (hk : K t)
    (hex : ∀ t, K t → Q (E t) (J t))
    (hend : (∀ t, K t → Q (E t) (J t)) → ∀ s, K (fin s) → T P F N c (Post.seq (TR P F N c Q) Q) (inv xs.length s))
    (hbody : (∀ t, K t → Q (E t) (J t)) → ∀ n x s ctl, xs[n]? = some x → n < xs.length → step n x s = some ctl → CtlOK (fun s' => ∀ st, st = inv (n + 1) s' → TR P F N c Q st) K ctl → T P F N c (Post.seq (TR P F N c Q) Q) (inv n s)) :
    TR P F N c Q (inv 0 s0) := TR_forL xs step fin inv K hl hk (hend hex) (hbody hex)
theorem TR_iter2 {σ τ : Type} (step : σ → Option (Ctl σ τ)) (inv : σ → St) (E : τ → Exit) (J : τ → St) (K : τ → Prop) {s0 : σ} {t : τ} (hl : iter step s0 = some t) (hk : K t)
    (hex : ∀ t, K t → Q (E t) (J t))
    (hbody : (∀ t, K t → Q (E t) (J t)) → ∀ s ctl, step s = some ctl → CtlOK (fun s' => ∀ st, st = inv s' → TR P F N c Q st) K ctl → T P F N c (Post.seq (TR P F N c Q) Q) (inv s)) :
    TR P F N c Q (inv s0) := TR_iter step inv K hl hk (hbody hex)
theorem someI {α : Type} {a b : α} (h : some a = some b) : a = b := Option.some.inj h
theorem CtlOK_out {σ τ : Type} {R : σ → Prop} {K : τ → Prop} {t : τ} (h : CtlOK R K (.out t)) : K t := h
theorem CtlOK_next {σ τ : Type} {R : σ → Prop} {K : τ → Prop} {s : σ} (h : CtlOK R K (.next s)) : R s := h
end
end Go.AM

namespace Go.AM
open Go
section
variable {P : Program} {s s' s1 : Slots} {h h' h1 : Heap} {dst : Option Tmp} {ty : TypeId} {pos : String} {after : Array Edge} {gd : Option (Nat × Bool)} {x y : Operand} {t t' : TypeId}
theorem op_convW {k : IntKind} {a : Int} (hu : ∃ d, P.underlying t = some d) (hu' : P.underlying t' = some (.int .i64)) (hx : aev s x = some (.int k a)) :
    OpP P ⟨dst, .convert t t' x, ty, pos, after, gd⟩ s h (.int .i64 (w64 a)) := by
  rw [← wrap_w64]; exact op_conv hu hu' hx
def BndI (s : Slots) (len : Nat) (lo hi : Option Operand) (l u : Int) : Prop :=
  (match lo with
   | none => l = 0
   | some y => ∃ k, aev s y = some (.int k l)) ∧
  (match hi with
   | none => u = (len : Int)
   | some y => ∃ k, aev s y = some (.int k u))
theorem BndI.bnds {α : Type} {xs ys : List α} {n : Nat} {lo hi : Option Operand} {l u : Int} (hb : BndI s n lo hi l u) (hs : sliceI xs l u = some ys) : Bnds s n lo hi l.toNat u.toNat := by
  obtain ⟨h1, h2, _⟩ := sliceI_spec hs
  refine ⟨?_, ?_⟩
  · have := hb.1
    cases lo with
    | none => simp only at this ⊢; subst this; rfl
    | some y => obtain ⟨k, hk⟩ := this; exact ⟨k, by rw [← h1]; exact hk⟩
  · have := hb.2
    cases hi with
    | none => simp only at this ⊢; subst this; simp
    | some y => obtain ⟨k, hk⟩ := this; exact ⟨k, by rw [← h2]; exact hk⟩
theorem op_sliceI {α : Type} {f : α → AV} {sz : Nat} {E : TypeId} {a b : List α} {lo hi : Option Operand} {l u : Int} (ht : tyElem P t = some (E, sz))
    (hx : aev s x = some (.sl sz (a.map f))) (hb : BndI s a.length lo hi l u) (hs : sliceI a l u = some b) :
    OpP P ⟨dst, .slice t x lo hi none, ty, pos, after, gd⟩ s h (.sl sz (b.map f)) := by
  obtain ⟨h1, h2, h3, h4, h5⟩ := sliceI_spec hs
  exact op_sliceT ht hx (by rw [List.length_map]; exact hb.bnds hs) h3 h4 h5
end
section
variable {P : Program} {F : Fr} {N : Nat} {ops : Array Oper} {rest : List Oper} {K : St → Prop}
variable {ty : TypeId} {pos : String} {after : Array Edge} {d id : Nat} {s s' s1 : Slots} {h h' h1 : Heap} {x y : Operand}
theorem TL_appendT {α : Type} {f : α → AV} {t E : TypeId} {sz bz : Nat} {zv : Value} {z : AV} {a b : List α}
    (ht : tyElem P t = some (E, sz)) (hz : tyZero P E = some (zv, sz, bz)) (hzs : Nat.beq zv.cells.size sz = true)
    (hsz : Nat.blt 0 sz = true) (hb : Nat.blt 0 bz = true) (hx : aev s x = some (.ow id)) (hl : lk h id = some (.arr ⟨false, false⟩ sz E (a.map f))) (hy : aev s y = some z) (hsrc : asrc h sz z = some (b.map f))
    (hbig : (a.length + b.length) * bz ≤ 140737488355328)
    (hks : killSL [id] s = some s1) (hkh : killHL [id] h = some h1) (hh : sput (dropH [] h1) id (.arr ⟨false, false⟩ sz E ((a ++ b).map f)) = some h') (hN : Nat.blt d N = true) (hs : sput s1 d (.ow id) = some s')
    (k : TL P F N ops rest K ⟨s', h'⟩) : TL P F N ops (⟨some d, .call ⟨.builtin .append, #[x, y], #[t, t]⟩, ty, pos, after, none⟩ :: rest) K ⟨s, h⟩ :=
  TL_append ht hz hzs hsz hb hx hl hy hsrc (by simpa using hbig) hks hkh (by rw [← List.map_append]; exact hh) hN hs k
theorem TL_appendDT {α : Type} {f : α → AV} {t E E2 : TypeId} {sz bz id2 : Nat} {p2 : Bool} {zv : Value} {a b : List α}
    (ht : tyElem P t = some (E, sz)) (hz : tyZero P E = some (zv, sz, bz)) (hzs : Nat.beq zv.cells.size sz = true)
    (hsz : Nat.blt 0 sz = true) (hb : Nat.blt 0 bz = true) (hx : aev s x = some (.ow id)) (hl : lk h id = some (.arr ⟨false, true⟩ sz E (a.map f))) (hy : aev s y = some (.ow id2)) (hl2 : lk h id2 = some (.arr ⟨p2, true⟩ sz E2 (b.map f)))
    (hne : Nat.beq id id2 = false) (hF2 : lk F.η id2 = none)
    (hbig : (a.length + b.length) * bz ≤ 140737488355328)
    (hks : killSL [id, id2] s = some s1) (hkh : killHL [id, id2] h = some h1) (hh : sput (dropH [id2] h1) id (.arr ⟨false, true⟩ sz E ((a ++ b).map f)) = some h') (hN : Nat.blt d N = true) (hs : sput s1 d (.ow id) = some s')
    (k : TL P F N ops rest K ⟨s', h'⟩) : TL P F N ops (⟨some d, .call ⟨.builtin .append, #[x, y], #[t, t]⟩, ty, pos, after, none⟩ :: rest) K ⟨s, h⟩ :=
  TL_appendD ht hz hzs hsz hb hx hl hy hl2 hne hF2 (by simpa using hbig) hks hkh (by rw [← List.map_append]; exact hh) hN hs k
theorem TL_storeT {α : Type} {f : α → AV} {t n sz k0 off : Nat} {p : Bool} {E : TypeId} {z : AV} {a : List α} {v : α} {ec zc ec' : List AV} (hs : tySize P t = some n) (hx : aev s x = some (.ptr id k0 off))
    (hl : lk h id = some (.arr ⟨p, false⟩ sz E (a.map f))) (hg : a[k0]? = some v) {v' : α} (hec : cellsO (f v) = some ec) (hy : aev s y = some z) (hj : isJunk z = false) (hnoi : noIds z = true) (hc : cellsO z = some zc)
    (hn : Nat.beq zc.length n = true) (hone : zc.all one = true) (hset : setO ec off zc = some ec') (hec' : cellsO (f v') = some ec')
    (hh : sput h id (.arr ⟨p, false⟩ sz E ((a.set k0 v').map f)) = some h') (k : TL P F N ops rest K ⟨s, h'⟩) :
    TL P F N ops (⟨none, .store t x y, ty, pos, after, none⟩ :: rest) K ⟨s, h⟩ := by
  refine TL_skip rfl rfl (fun φ a' w hr => ?_) k
  obtain rfl := cellsO_eq hec
  have hee := cellsO_eq hec'
  obtain ⟨rfl, hlen⟩ := setO_eq hset
  have he := get_map (f := f) hg
  have hek : (f v).cells.length = sz := (hr.heap.obj _ _ hl).2.1 _ (List.mem_of_getElem? he)
  rw [List.map_set] at hh
  exact hr.storeArr hs hx hl he hy hj hnoi hc ((beq_iff _ _).1 hn) hone hee.symm (by omega) hh
theorem TL_storeFT {α : Type} {f : α → AV} {t n sz k0 off : Nat} {p : Bool} {E : TypeId} {z : AV} {a : List α} {v : α} {ec zc ec' : List AV} (hs : tySize P t = some n) (hx : aev s x = some (.ptr id k0 off))
    (hl : lk h id = some (.arr ⟨p, true⟩ sz E (a.map f))) (hg : a[k0]? = some v) {v' : α} (hec : cellsO (f v) = some ec) (hy : aev s y = some z) (hj : isJunk z = false) (hc : cellsO z = some zc) (hn : Nat.beq zc.length n = true)
    (hfl : zc.all flat1 = true) (hset : setO ec off zc = some ec') (hec' : cellsO (f v') = some ec')
    (hh : sput h id (.arr ⟨p, true⟩ sz E ((a.set k0 v').map f)) = some h') (k : TL P F N ops rest K ⟨s, h'⟩) :
    TL P F N ops (⟨none, .store t x y, ty, pos, after, none⟩ :: rest) K ⟨s, h⟩ :=
  TL_storeF hs hx hl (get_map hg) hec hy hj hc hn hfl hset hec' (List.map_set) hh k
end
end Go.AM
namespace Go.AM
open Go
def tyPlaces (P : Program) (t : TypeId) : Option (List (Nat × Nat)) :=
  match P.underlying t with
  | some (.struct fs) => fs.toList.mapM fun f => (tySize P f.type).map fun n => (f.offset, n)
  | _ => none
theorem run_places {P : Program} : ∀ (l : List Field) (r : List (Nat × Nat)) (w : World), (l.mapM fun f => (tySize P f.type).map fun n => (f.offset, n)) = some r →
    (l.mapM (fun f => do pure (f.offset, ← sizeOf f.type)) : Sem (List (Nat × Nat))).run P w = .ok r w := by
  intro l
  induction l with
  | nil => intro r w h; simp at h; subst h; rfl
  | cons f l ih =>
    intro r w h
    rw [List.mapM_cons] at h ⊢
    cases hf : tySize P f.type with
    | none => rw [hf] at h; cases h
    | some n =>
      rw [hf] at h
      cases hl : (l.mapM fun f => (tySize P f.type).map fun n => (f.offset, n)) with
      | none => simp [hl] at h
      | some r' =>
        simp [hl] at h
        subst h
        simp only [Sem.run_bind, run_size hf, Result.andThen_ok, Sem.run_pure, ih r' w hl]
section
variable {P : Program} {s : Slots} {h : Heap} {dst : Option Tmp} {ty : TypeId} {pos : String} {after : Array Edge} {gd : Option (Nat × Bool)} {t : TypeId}
theorem op_buildP {places : List (Nat × Nat)} {zv : Value} {n b : Nat} {z : AV} {zc r : List AV} {parts : Array (Nat × Operand)} {ps : List (Nat × AV)}
    (hp : tyPlaces P t = some places) (hz : tyZero P t = some (zv, n, b)) (hc : cav zv = some z) (hj : isJunk z = false) (hzc : cellsO z = some zc)
    (ha : aevB s parts.toList = some ps) (hf : bfill places zc ps = some r) : OpP P ⟨dst, .build t parts, ty, pos, after, gd⟩ s h (.agg r) := by
  unfold tyPlaces at hp
  split at hp
  · rename_i fs hu
    refine op_build (places := places.toArray) hu (fun w => ?_) hz hc hj hzc ha (by simpa using hf)
    have := run_places fs.toList places w hp
    rw [Array.mapM_eq_mapM_toList]
    show ((List.mapM (fun f => do pure (f.offset, ← sizeOf f.type)) fs.toList : Sem (List (Nat × Nat))) >>= fun l => pure l.toArray).run P w = _
    rw [Sem.run_bind, this]
    rfl
  · cases hp
end
end Go.AM

namespace Go.AM
theorem iter_inv {σ τ : Type} {step : σ → Option (Ctl σ τ)} (I : σ → Prop) (μ : σ → Nat) (Q : τ → Prop)
    (h : ∀ s, I s → (∃ s', step s = some (.next s') ∧ I s' ∧ μ s' < μ s) ∨ ∃ t, step s = some (.out t) ∧ Q t) : ∀ {s : σ}, I s → ∃ t, iter step s = some t ∧ Q t := by
  have key : ∀ (n : Nat) (s : σ), μ s < n → I s → ∃ t, iter step s = some t ∧ Q t := by
    intro n
    induction n with
    | zero => intro s h0; omega
    | succ n ih =>
      intro s hn hI
      rcases h s hI with ⟨s', h1, h2, h3⟩ | ⟨t, h1, h2⟩
      · rw [iter_next h1]; exact ih s' (by omega) h2
      · exact ⟨t, iter_out h1, h2⟩
  exact fun {s} hI => key _ s (Nat.lt_succ_self _) hI
theorem forL_inv' {α σ τ : Type} {step : Nat → α → σ → Option (Ctl σ τ)} {fin : σ → τ} (I : Nat → σ → Prop) (Q : τ → Prop) : ∀ (xs : List α) (k : Nat) (s : σ),
    (∀ n x s, xs[n]? = some x → I (k + n) s → (∃ s', step (k + n) x s = some (.next s') ∧ I (k + n + 1) s') ∨ ∃ t, step (k + n) x s = some (.out t) ∧ Q t) →
    (∀ s, I (k + xs.length) s → Q (fin s)) → I k s → ∃ t, forL step fin k xs s = some t ∧ Q t := by
  intro xs
  induction xs with
  | nil => intro k s _ hf hI; exact ⟨_, rfl, hf s hI⟩
  | cons x r ih =>
    intro k s h hf hI
    rcases h 0 x s rfl hI with ⟨s', h1, h2⟩ | ⟨t, h1, h2⟩
    · have e : forL step fin k (x :: r) s = forL step fin (k + 1) r s' := by simp only [Nat.add_zero] at h1; simp [forL, h1]
      rw [e]
      refine ih (k + 1) s' (fun n y s2 hy hI2 => ?_) (fun s2 hI2 => hf s2 ?_) h2
      · have := h (n + 1) y s2 (by simpa using hy) (by rw [show k + (n + 1) = k + 1 + n by omega]; exact hI2)
        rw [show k + (n + 1) = k + 1 + n by omega] at this
        exact this
      · rw [show k + (x :: r).length = k + 1 + r.length by simp; omega]; exact hI2
    · exact ⟨t, by simp only [Nat.add_zero] at h1; simp [forL, h1], h2⟩
theorem forL_inv {α σ τ : Type} {step : Nat → α → σ → Option (Ctl σ τ)} {fin : σ → τ} {xs : List α} (I : Nat → σ → Prop) (Q : τ → Prop)
    (h : ∀ n x s, xs[n]? = some x → I n s → (∃ s', step n x s = some (.next s') ∧ I (n + 1) s') ∨ ∃ t, step n x s = some (.out t) ∧ Q t)
    (hf : ∀ s, I xs.length s → Q (fin s)) {s : σ} (hI : I 0 s) : ∃ t, forL step fin 0 xs s = some t ∧ Q t :=
  forL_inv' I Q xs 0 s (fun n x s hx hI => by simp only [Nat.zero_add] at *; exact h n x s hx hI) (fun s hI => hf s (by simpa using hI)) hI
theorem iter_for' {α ρ σ τ : Type} {step : σ → Option (Ctl σ τ)} (st : Nat → ρ → σ) (body : Nat → α → ρ → Option (Ctl ρ τ)) (fin : ρ → τ) : ∀ (xs : List α) (k : Nat) (r : ρ),
    (∀ n x r, xs[n]? = some x → step (st (k + n) r) = (body (k + n) x r).map fun c => match c with | .next r' => .next (st (k + n + 1) r') | .out t => .out t) →
    (∀ r, step (st (k + xs.length) r) = some (.out (fin r))) → iter step (st k r) = forL body fin k xs r := by
  intro xs
  induction xs with
  | nil => intro k r _ he; exact iter_out (he r)
  | cons x xs ih =>
    intro k r hs he
    have h0 := hs 0 x r rfl
    simp only [Nat.add_zero] at h0
    unfold forL
    cases hb : body k x r with
    | none => rw [hb] at h0; exact iter_none h0
    | some c =>
      rw [hb] at h0
      cases c with
      | next r' =>
        rw [iter_next h0]
        refine ih (k + 1) r' (fun n y r2 hy => ?_) (fun r2 => ?_)
        · have := hs (n + 1) y r2 (by simpa using hy)
          rw [show k + (n + 1) = k + 1 + n by omega] at this
          exact this
        · have := he r2
          rw [show k + (x :: xs).length = k + 1 + xs.length by simp; omega] at this
          exact this
      | out t => exact iter_out h0
theorem iter_for {α ρ σ τ : Type} {step : σ → Option (Ctl σ τ)} (xs : List α) (st : Nat → ρ → σ) (body : Nat → α → ρ → Option (Ctl ρ τ)) (fin : ρ → τ)
    (hs : ∀ n x r, xs[n]? = some x → step (st n r) = (body n x r).map fun c => match c with | .next r' => .next (st (n + 1) r') | .out t => .out t)
    (he : ∀ r, step (st xs.length r) = some (.out (fin r))) (r : ρ) : iter step (st 0 r) = forL body fin 0 xs r :=
  iter_for' st body fin xs 0 r (fun n x r hx => by rw [Nat.zero_add]; exact hs n x r hx) (fun r => by rw [Nat.zero_add]; exact he r)
theorem forL_all {α τ : Type} {body : Nat → α → Unit → Option (Ctl Unit τ)} {fin : Unit → τ} {f : τ} (p : α → Bool) : ∀ (xs : List α) (k : Nat),
    (∀ n, ∀ x ∈ xs, body n x () = bif p x then some (.next ()) else some (.out f)) → forL body fin k xs () = some (bif xs.all p then fin () else f) := by
  intro xs
  induction xs with
  | nil => intro k _; rfl
  | cons x xs ih =>
    intro k h
    have h0 := h k x (by simp)
    unfold forL
    cases hp : p x with
    | true => rw [hp] at h0; rw [h0]; simp only [cond_true, List.all_cons, hp, Bool.true_and]; exact ih (k + 1) (fun n y hy => h n y (by simp [hy]))
    | false => rw [hp] at h0; rw [h0]; simp [hp]
theorem forL_fold {α σ τ : Type} {body : Nat → α → σ → Option (Ctl σ τ)} {fin : σ → τ} (g : σ → α → σ) (I : Nat → σ → Prop) : ∀ (xs : List α) (k : Nat) (s : σ), I k s →
    (∀ n x s, xs[n]? = some x → I (k + n) s → body (k + n) x s = some (.next (g s x)) ∧ I (k + n + 1) (g s x)) → forL body fin k xs s = some (fin (xs.foldl g s)) := by
  intro xs
  induction xs with
  | nil => intro k s _ _; rfl
  | cons x xs ih =>
    intro k s hI h
    obtain ⟨h0, h1⟩ := h 0 x s rfl (by simpa using hI)
    simp only [Nat.add_zero] at h0 h1
    unfold forL
    rw [h0]
    refine ih (k + 1) _ h1 (fun n y s2 hy hI2 => ?_)
    have := h (n + 1) y s2 (by simpa using hy) (by rw [show k + (n + 1) = k + 1 + n by omega]; exact hI2)
    rw [show k + (n + 1) = k + 1 + n by omega] at this
    exact this
def wu (b : Nat) (n : Int) : Int := n % 2 ^ b
def andU (b : Nat) (x y : Int) : Int := wu b ((BitVec.ofInt b x &&& BitVec.ofInt b y).toNat : Int)
theorem getI_some {α : Type} {xs : List α} {n : Nat} {x : α} (h : xs[n]? = some x) : getI xs (n : Int) = some x := by rw [getI_nat, h]
theorem w64_succ {n : Nat} (h : n < 9223372036854775807) : w64 ((n : Int) + 1) = ((n + 1 : Nat) : Int) := by rw [w64_eq (by omega)]; omega
theorem w64_pred {n : Nat} (h : 0 < n) (h2 : n ≤ 9223372036854775807) : w64 ((n : Int) - 1) = ((n - 1 : Nat) : Int) := by rw [w64_eq (by omega)]; omega
theorem get_lt {α : Type} {xs : List α} {n : Nat} {x : α} (h : xs[n]? = some x) : n < xs.length := (List.getElem?_eq_some_iff.1 h).1
theorem makeI_some {n : Nat} {bz : Nat} (h : n * bz ≤ 281474976710656) : makeI (n : Int) bz = some n := by simp [makeI, h]
theorem capI_some {n bz : Nat} (h : n * bz ≤ 140737488355328) : capI n bz = some () := by simp [capI, h]
theorem sliceI_some {α : Type} {xs : List α} {l u : Nat} (h1 : l ≤ u) (h2 : u ≤ xs.length) : sliceI xs (l : Int) (u : Int) = some ((xs.drop l).take (u - l)) := by
  simp [sliceI, h1, h2]
theorem dec_lt {a b : Nat} (h : a < b) : decide ((a : Int) < (b : Int)) = true := decide_eq_true (by omega)
theorem dec_self {a : Nat} : decide ((a : Int) < (a : Int)) = false := decide_eq_false (by omega)
def kfind {K : Type} [DecidableEq K] (k : K) : List K → Option Nat
  | [] => none
  | a :: r => if a = k then some 0 else (kfind k r).map (· + 1)
end Go.AM

namespace Go.AM
open Go
section
variable {P : Program} {dst : Option Tmp} {x y : Operand} {t ty : TypeId} {pos : String} {after : Array Edge} {gd : Option (Nat × Bool)} {s : Slots} {h : Heap} {k k' : IntKind} {a b : Int} {tys : Array TypeId}
theorem exec_max (ρ : Operand → Value) : execOp ρ ⟨dst, .call ⟨.builtin .max, #[x, y], tys⟩, ty, pos, after, gd⟩ = (do pure (.value (← Builtin.max_ tys ty #[ρ x, ρ y]))) := by
  rw [BigFrame.execOp_builtin]
  simp only [List.map_toArray, List.map_cons, List.map_nil]
  rfl
theorem op_max (hx : aev s x = some (.int k a)) (hy : aev s y = some (.int k' b)) : OpP P ⟨dst, .call ⟨.builtin .max, #[x, y], tys⟩, ty, pos, after, gd⟩ s h (.int k (max a b)) := by
  intro S w φ η ρ hh _ hρ
  have h1 := (hρ _ _ hx).int_inv
  have h2 := (hρ _ _ hy).int_inv
  refine ⟨.int k (max a b), fun w _ => ?_, .pure (.int _ _)⟩
  have e : max a b = if b > a then b else a := by
    by_cases hab : b > a
    · rw [if_pos hab]; omega
    · rw [if_neg hab]; omega
  rw [exec_max, h1, h2, e]
  rfl
theorem wrap_u64 (n : Int) : IntKind.u64.wrap n = wu 64 n := rfl
section
variable {t' : TypeId} {W : Int → Int}
theorem op_addK (hw : ∀ n, k.wrap n = W n) (hx : aev s x = some (.int k a)) (hy : aev s y = some (.int k b)) : OpP P ⟨dst, .binOp .add t x y t', ty, pos, after, gd⟩ s h (.int k (W (a + b))) := by
  rw [← hw]; exact op_add hx hy
theorem op_mulK (hw : ∀ n, k.wrap n = W n) (hx : aev s x = some (.int k a)) (hy : aev s y = some (.int k b)) : OpP P ⟨dst, .binOp .mul t x y t', ty, pos, after, gd⟩ s h (.int k (W (a * b))) := by
  rw [← hw]; exact op_mul hx hy
theorem op_convK {t2 : TypeId} (hw : ∀ n, k.wrap n = W n) (h1 : ∃ d, P.underlying t = some d) (h2 : P.underlying t2 = some (.int k)) (hx : aev s x = some (.int k' a)) :
    OpP P ⟨dst, .convert t t2 x, ty, pos, after, gd⟩ s h (.int k (W a)) := by
  rw [← hw]; exact op_conv h1 h2 hx
theorem op_andU (hx : aev s x = some (.int .u64 a)) (hy : aev s y = some (.int .u64 b)) :
    OpP P ⟨dst, .binOp .and t x y t', ty, pos, after, gd⟩ s h (.int .u64 (andU 64 a b)) := by
  refine op_int hx hy ⟨.int .u64 (andU 64 a b), fun w => ?_, fun _ _ => .int _ _⟩
  simp [binOp, Op.intBits]
  rfl
theorem op_shrC {n : Nat} (hn : n = min b.toNat k.bits) (hb : 0 ≤ b) (hx : aev s x = some (.int k a)) (hy : aev s y = some (.int k' b)) :
    OpP P ⟨dst, .binOp .shr t x y t', ty, pos, after, gd⟩ s h (.int k (a.fdiv (2 ^ n))) := by
  intro S w φ η ρ hh _ hρ
  have h1 := (hρ _ _ hx).int_inv
  have h2 := (hρ _ _ hy).int_inv
  refine ⟨.int k (a.fdiv (2 ^ n)), fun w _ => ?_, .pure (.int _ _)⟩
  have e : ∀ w, (binOp .shr t (.int k a) (.int k' b)).run P w = .ok (.int k (a.fdiv (2 ^ n))) w := by
    intro w
    have : ¬ b < 0 := by omega
    subst hn
    simp [binOp, Op.shift, this]
  simp only [exec_binOp, h1, h2, Sem.run_bind, Sem.run_pure, eqGuard_int, e, Result.andThen_ok]
end
end
end Go.AM

namespace Go.AM
open Go
section
variable {S : Nat → Prop} {w : World} {φ : Nat → Loc} {h : Heap}
end
section
variable {P : Program} {F : Fr} {N : Nat} {ops : Array Oper} {l rest : List Oper} {K : St → Prop} {ex : Bool}
variable {ty : TypeId} {pos : String} {after : Array Edge} {d : Nat} {s s' : Slots} {h h' : Heap}
end
end Go.AM

namespace Go.AM
open Go
section
variable {P : Program} {F : Fr} {N : Nat} {ops : Array Oper} {l rest : List Oper} {K : St → Prop} {ex : Bool}
variable {ty : TypeId} {pos : String} {after : Array Edge} {d : Nat} {s s1 s' : Slots} {h h1 h' : Heap} {x : Operand} {id : Nat}
theorem CellsOK.front {k : Kd} {S : Nat → Prop} {w : World} {l : Loc} {xs ys : List AV} {C C' : Array Value} (hc : CellsOK k S w l xs C) (hx : ∀ (j : Nat) c, ys[j]? = some c → xs[j]? = some c)
    (hl : ys.length ≤ xs.length) (hC : ∀ (j : Nat) v, j < ys.length → C'[j]? = some v → C[j]? = some v) : CellsOK k S w l ys C' := by
  unfold CellsOK at hc ⊢
  cases hk : k.d with
  | false =>
    rw [hk] at hc
    exact fun j x v hx' hv => hc j x v (hx j x hx') (hC j v (List.getElem?_eq_some_iff.1 hx').1 hv)
  | true =>
    rw [hk] at hc
    obtain ⟨fps, h1, h2, h3, h4, h5⟩ := hc
    refine ⟨fps.take ys.length, by simp; omega, fun j x v fp hx' hv hf => ?_, ?_, fun b hb => ?_, fun j x v hx' hv hs => ?_⟩
    · have hj := (List.getElem?_eq_some_iff.1 hx').1
      rw [List.getElem?_take, if_pos hj] at hf
      exact h2 j x v fp (hx j x hx') (hC j v hj hv) hf
    · rw [List.nodup_cons] at h3 ⊢
      have hsub : (fps.take ys.length).flatten.Sublist fps.flatten := by
        have : fps = fps.take ys.length ++ fps.drop ys.length := (List.take_append_drop _ _).symm
        rw [show fps.flatten = (fps.take ys.length).flatten ++ (fps.drop ys.length).flatten by rw [← List.flatten_append, ← this]]
        exact List.sublist_append_left _ _
      exact ⟨fun hm => h3.1 (hsub.subset hm), h3.2.sublist hsub⟩
    · refine h4 b ?_
      obtain ⟨l', hl', hb'⟩ := List.mem_flatten.1 hb
      exact List.mem_flatten.2 ⟨l', List.mem_of_mem_take hl', hb'⟩
    · exact h5 j x v (hx j x hx') (hC j v (List.getElem?_eq_some_iff.1 hx').1 hv) hs
theorem TL_take {α : Type} {f : α → AV} {t E E2 : TypeId} {sz : Nat} {dd : Bool} {a b : List α} {lo hi : Option Operand} {u : Int}
    (ht : tyElem P t = some (E2, sz)) (hx : aev s x = some (.ow id)) (hl : lk h id = some (.arr ⟨false, dd⟩ sz E (a.map f))) (hb : BndI s a.length lo hi 0 u) (hsl : sliceI a 0 u = some b)
    (hks : killSL [id] s = some s1) (hkh : killHL [id] h = some h1) (hh : sput (dropH [] h1) id (.arr ⟨false, dd⟩ sz E (b.map f)) = some h') (hN : Nat.blt d N = true) (hs : sput s1 d (.ow id) = some s')
    (k : TL P F N ops rest K ⟨s', h'⟩) : TL P F N ops (⟨some d, .slice t x lo hi none, ty, pos, after, none⟩ :: rest) K ⟨s, h⟩ := by
  refine TL_val rfl (fun φ act w hr => ?_) k
  obtain ⟨q1, q2, q3, q4, q5⟩ := sliceI_spec hsl
  have hbn := hb.bnds hsl
  obtain ⟨hsz0, hlens, hones, hob⟩ := hr.heap.obj _ _ hl
  have hX := hr.appX hx hl
  have hblen : b.length = u.toNat := by rw [q5]; simp at q4 ⊢; omega
  have hbt : b.map f = (a.map f).take u.toNat := by rw [q5, List.map_take]; simp
  have hbl : ∀ (j : Nat) c, (flat (b.map f))[j]? = some c → (flat (a.map f))[j]? = some c := by
    intro j c hc
    have : flat (a.map f) = flat (b.map f) ++ flat ((a.map f).drop u.toNat) := by
      rw [← flat_app, hbt, List.take_append_drop]
    rw [this, List.getElem?_append_left (List.getElem?_eq_some_iff.1 hc).1]; exact hc
  have hlens' : ∀ e ∈ b.map f, e.cells.length = sz := fun e he => hlens e (by rw [hbt] at he; exact List.mem_of_mem_take he)
  have hfb := flat_length hlens'
  have hfa := flat_length hlens
  suffices hfin : ∃ v' cs, (Instr.sliceAt t (act.eval x) (lo.map act.eval) (hi.map act.eval) none).run P w = .ok v' w ∧ AppR w w E sz (φ id) (φ id) (b.map f).length v' cs ∧
      (∀ C' : Array Value, C'.toList.take ((b.map f).length * sz) = cs → (φ id).mat = true → CellsOK ⟨false, dd⟩ (Stab F w φ h) w (φ id) (flat (b.map f)) C') by
    obtain ⟨v', cs, hrun, hres, hcells⟩ := hfin
    obtain ⟨hr', hv'⟩ := hr.appended [] (φ id).fp (φ id).sv hl rfl (by simp) (by simp) hks hkh hh hres (fun b hb => .inl hb) hlens' (fun j c hc => hones j c (hbl j c hc)) hcells
    exact ⟨v', w, (fun h => nomatch h), by rw [exec_slice]; simp only [Option.map_none, Sem.run_bind, hrun, Result.andThen_ok, Sem.run_pure], _, hr'.put (Nat.le_of_ble_eq_true hN) hs hv'⟩
  rcases hX.go with ⟨hm, hxv, C, hC, hle, hcm, hCs, _⟩ | ⟨hm, h0, _, hxv⟩
  · have hbr := run_bounds w (P := P) (isS := true) (cap := (φ id).cap) (fun y z hy => aev_rep hr hy) hbn (by omega) (by simp at hle; omega)
    have hrun : (Instr.sliceAt t (act.eval x) (lo.map act.eval) (hi.map act.eval) none).run P w = .ok (.slice (some ⟨(φ id).blk, 0, none⟩) (b.map f).length (φ id).cap) w := by
      rw [hxv, List.length_map, run_slice_slice ht hbr]
      have e0 : (if (φ id).cap = (0 : Int).toNat then some (⟨(φ id).blk, 0, none⟩ : Addr) else (some (⟨(φ id).blk, 0, none⟩ : Addr)).map (·.add ((0 : Int).toNat * sz))) = some ⟨(φ id).blk, 0, none⟩ := by
        split
        · rfl
        · simp [Addr.add]
      rw [e0]
      simp [hblen]
    refine ⟨_, C.toList.take ((b.map f).length * sz), hrun, ⟨SameSys.refl w, Nat.le_refl _, fun _ _ _ => rfl, rfl, rfl, .inr ⟨hm, rfl, ⟨C, hC, by simp at hle ⊢; omega, hcm, hCs, rfl⟩, .inl ⟨hm, rfl⟩⟩⟩, fun C' hC' _ => ?_⟩
    rcases hob with ⟨hf, _⟩ | ⟨_, C0, hC0, _, _, _, hrep⟩
    · rw [hm] at hf; cases hf
    · rw [hC] at hC0
      cases hC0
      refine hrep.front hbl (by rw [hfb, hfa]; exact Nat.mul_le_mul_right _ (by rw [List.length_map, List.length_map, hblen]; exact q4)) (fun j v hj hv => ?_)
      rw [hfb] at hj
      have h1 : (C'.toList.take ((b.map f).length * sz))[j]? = some v := by rw [List.getElem?_take, if_pos hj]; simpa using hv
      rw [hC', List.getElem?_take, if_pos hj] at h1
      simpa using h1
  · have hbr := run_bounds w (P := P) (isS := true) (cap := 0) (fun y z hy => aev_rep hr hy) hbn (by omega) (by rw [List.length_map] at h0; omega)
    have hb0 : (b.map f).length = 0 := by rw [List.length_map] at h0 ⊢; omega
    have hrun : (Instr.sliceAt t (act.eval x) (lo.map act.eval) (hi.map act.eval) none).run P w = .ok (.slice (φ id).va 0 0) w := by
      have h0' : a.length = 0 := by rw [List.length_map] at h0; exact h0
      rw [hxv]
      rw [h0'] at hbr
      rw [run_slice_slice ht hbr]
      simp
      omega
    refine ⟨_, [], hrun, ⟨SameSys.refl w, Nat.le_refl _, fun _ _ _ => rfl, rfl, rfl, .inl ⟨hm, hm, hb0, rfl, rfl⟩⟩, fun C' _ hm' => ?_⟩
    rw [hm] at hm'; cases hm'
end
end Go.AM

namespace Go.AM
open Go
section
variable {P : Program} {F : Fr} {N : Nat} {ops : Array Oper} {l rest : List Oper} {K : St → Prop} {ex : Bool}
variable {ty t t' : TypeId} {pos : String} {after : Array Edge} {d : Nat} {s s1 s2 : Slots} {h : Heap} {x y : Operand}
theorem run_equalIn {w : World} {e : TypeId} {a : Option Addr} {n c : Nat} (hu : P.underlying t = some (.slice e)) (k : Nat) :
    (Op.equalIn (k + 1) t (.slice a n c) (.slice none 0 0)).run P w = .ok a.isNone w := by
  unfold Op.equalIn
  simp only [Sem.run_bind, run_underlying hu, Result.andThen_ok]
  cases a <;> rfl
theorem run_equal {w : World} {e : TypeId} {a : Option Addr} {n c : Nat} (hu : P.underlying t = some (.slice e)) : (Op.equal t (.slice a n c) (.slice none 0 0)).run P w = .ok a.isNone w := by
  unfold Op.equal
  have : ∃ k, Op.maxDepth = k + 1 := ⟨Op.maxDepth - 1, rfl⟩
  obtain ⟨k, hk⟩ := this
  rw [hk]
  exact run_equalIn hu k
theorem run_eqNil {w : World} {e : TypeId} {a : Option Addr} {n c : Nat} (hu : P.underlying t = some (.slice e)) :
    (binOp .eql t (.slice a n c) (.slice none 0 0)).run P w = .ok (.bool a.isNone) w := by
  have : binOp .eql t (.slice a n c) (.slice none 0 0) = (do pure (.bool (← Op.equal t (.slice a n c) (.slice none 0 0)))) := rfl
  rw [this]
  simp only [Sem.run_bind, run_equal hu, Result.andThen_ok, Sem.run_pure]
theorem eqGuard_sl (op : BinOp) (w : World) (a : Option Addr) (n c : Nat) (v : Value) : (eqGuard op t x y (.slice a n c) v).run P w = .ok () w := by
  have : eqGuard op t x y (.slice a n c) v = pure () := by cases op <;> rfl
  rw [this]; rfl
theorem sl_addr {S : Nat → Prop} {w : World} {φ : Nat → Loc} {η : Heap} {sz : Nat} {es : List AV} {v : Value} (hv : RepV S w φ η (.sl sz es) v) : ∃ a n c, v = .slice a n c ∧ (a = none → es = []) := by
  cases hv with
  | pure hv =>
    cases hv with
    | sl0 _ a cap _ => exact ⟨a, 0, cap, rfl, fun _ => rfl⟩
    | sl _ _ b off cap f _ => exact ⟨_, _, _, rfl, fun h => by cases h⟩
theorem snil_val {S : Nat → Prop} {w : World} {φ : Nat → Loc} {η : Heap} {v : Value} (hv : RepV S w φ η .snil v) : v = .slice none 0 0 := by
  cases hv with
  | pure h => cases h; rfl
theorem TL_eqNil {e : TypeId} {sz : Nat} {es : List AV} (hu : P.underlying t = some (.slice e)) (hx : aev s x = some (.sl sz es)) (hy : aev s y = some .snil) (hN : Nat.blt d N = true)
    (hs1 : sput s d (.bool true) = some s1) (hs2 : sput s d (.bool false) = some s2) (k1 : es = [] → TLE ex P F N ops rest K ⟨s1, h⟩) (k2 : TLE ex P F N ops rest K ⟨s2, h⟩) :
    TLE ex P F N ops (⟨some d, .binOp .eql t x y t', ty, pos, after, none⟩ :: rest) K ⟨s, h⟩ := by
  intro a w R hr hQ
  obtain ⟨φ, hp⟩ := hr
  obtain ⟨ad, n, c, hv, he⟩ := sl_addr (aev_rep hp hx)
  have hv2 := snil_val (aev_rep hp hy)
  have hrun : (execOp a.eval ⟨some d, .binOp .eql t x y t', ty, pos, after, none⟩).run P w = .ok (.value (.bool ad.isNone)) w := by
    simp only [exec_binOp, hv, hv2, Sem.run_bind, Sem.run_pure, eqGuard_sl, run_eqNil hu, Result.andThen_ok]
  refine wpList_plain rfl fun K' hK' => ?_
  unfold Oper.wp
  rw [hrun]
  cases ad with
  | none => exact hK' _ _ (k1 (he rfl) _ _ R ⟨φ, hp.put (Nat.le_of_ble_eq_true hN) hs1 (.pure (.bool true))⟩ (fun st' a' w'' hk hr'' he => hQ st' a' w'' hk hr'' he))
  | some ad => exact hK' _ _ (k2 _ _ R ⟨φ, hp.put (Nat.le_of_ble_eq_true hN) hs2 (.pure (.bool false))⟩ (fun st' a' w'' hk hr'' he => hQ st' a' w'' hk hr'' he))
end
end Go.AM

namespace Go.AM
open Go
section
variable {P : Program} {s : Slots} {h : Heap} {dst : Option Tmp} {ty : TypeId} {pos : String} {after : Array Edge} {gd : Option (Nat × Bool)} {x y : Operand} {t : TypeId}
end
end Go.AM

namespace Go.AM
open Go
section
variable {P : Program} {s : Slots} {h : Heap} {dst : Option Tmp} {ty : TypeId} {pos : String} {after : Array Edge} {gd : Option (Nat × Bool)} {x y : Operand} {t : TypeId}
theorem op_fieldAddrC {cs cs1 cs2 : List AV} {f o n : Nat} (hf : tyField P t f = some o) (hx : aev s x = some (.cp cs)) (hq : afield o (.cp cs) = some (.cp cs1)) (hc : cs1.take n = cs2) :
    OpP P ⟨dst, .fieldAddr t x f, ty, pos, after, gd⟩ s h (.cp cs2) := by
  intro S w φ η ρ hh hη hρ
  obtain ⟨v, h1, h2⟩ := op_fieldAddr (dst := dst) (ty := ty) (pos := pos) (after := after) (gd := gd) hf hx hq S w φ η ρ hh hη hρ
  refine ⟨v, h1, ?_⟩
  subst hc
  cases h2 with
  | pure h =>
    cases h with
    | cp _ b off g hb hcell hr =>
      exact .pure (.cp _ b off g hb (fun j y hy => hcell j y (by rw [List.getElem?_take] at hy; split at hy; exact hy; cases hy)) (fun j y hy => hr j y (by rw [List.getElem?_take] at hy; split at hy; exact hy; cases hy)))
end
end Go.AM

namespace Go.AM
open Go
section
variable {P : Program} {F : Fr} {N : Nat} {K : St → Prop} {ops : Array Oper} {Z : List Nat} {fuel : Nat} {listed : List Bool} {s s' : Slots} {h h' : Heap} {st : St}
theorem TZ_cut (fuel2 : Nat) (listed2 : List Bool) (st2 : St) (h : TZ P F N ops Z fuel2 listed2 K st2) (k : TZ P F N ops Z fuel2 listed2 K st2 → TZ P F N ops Z fuel listed K st) :
    TZ P F N ops Z fuel listed K st := k h
theorem TZ_keepH (ids hids : List Nat) (hk : keepO ids s = some s') (hk2 : keepO hids h = some h') (hc : s'.all (fun p => closed h' p.2) = true) (hcH : closedH h' h' = true)
    (hall : F.η.all (fun p => (lk h' p.1).isSome) = true) (k : TZ P F N ops Z fuel listed K ⟨s', h'⟩) : TZ P F N ops Z fuel listed K ⟨s, h⟩ := TZ_sub (fun φ _ _ hr => ⟨φ, hr.keepH hk hk2 hc hcH hall⟩) k
end
def TrR (x x' : AV) : Prop := (x' = .tr x ∧ (x = .nilp ∨ ∃ cs, x = .cp cs)) ∨ (x = .tr x' ∧ ∃ cs, x' = .cp cs)
theorem TrR.rep {S : Nat → Prop} {w : World} {φ : Nat → Loc} {η : Heap} {x x' : AV} {v : Value} (h : TrR x x') (hr : RepV S w φ η x v) : RepV S w φ η x' v := by
  rcases h with ⟨rfl, rfl | ⟨cs, rfl⟩⟩ | ⟨rfl, cs, rfl⟩
  · cases hr with
    | pure hr => cases hr; exact .pure (.tr _ _ .nilp)
  · cases hr with
    | pure hr =>
      cases hr with
      | cp _ b off f h1 h2 h3 => exact .pure (.tr _ _ (.cp cs b off f h1 h2 h3))
  · cases hr with
    | pure hr =>
      cases hr with
      | tr _ p h => exact .pure h
      | trm _ us h => cases h
section
variable {P : Program} {F : Fr} {N : Nat} {Q : Exit → St → Prop} {c : Code} {K : St → Prop} {ops : Array Oper} {l : List Oper} {ex : Bool} {Z : List Nat} {fuel : Nat} {listed : List Bool} {s s' : Slots} {h : Heap}
end
section
variable {P : Program} {F : Fr} {N : Nat} {K : St → Prop} {ops : Array Oper} {l : List Oper} {ex : Bool} {s s' : Slots} {h h' : Heap}
theorem TL_ownNilBox (bid k id : Nat) {sz : Nat} (kd : Kd) (E : TypeId) {cs cs' : List AV} {h1 : Heap} (hb : lk h bid = some (.box cs)) (hk : cs[k]? = some .snil)
    (hl : lk h id = none) (hsz : Nat.blt 0 sz = true) (hh1 : sput h id (.arr kd sz E []) = some h1) (hc : cs' = cs.set k (.ow id)) (hh : sput h1 bid (.box cs') = some h') (q : TLE ex P F N ops l K ⟨s, h'⟩) : TLE ex P F N ops l K ⟨s, h⟩ :=
  TL_sub (fun _ _ _ hr => hr.ownNilBox hb hk hl (Nat.le_of_ble_eq_true hsz) hh1 hc hh) q
end
def FrR (y x : AV) : Prop := y = x ∨ ∃ cs n, y = .cp cs ∧ x = .cp (cs.take n)
def FrRL : List AV → List AV → Prop
  | [], xs => xs = []
  | y :: r, xs => ∃ x s, xs = x :: s ∧ FrR y x ∧ FrRL r s
theorem FrRL_get : ∀ {ys xs : List AV}, FrRL ys xs → xs.length = ys.length ∧ ∀ (i : Nat) y x, ys[i]? = some y → xs[i]? = some x → FrR y x := by
  intro ys
  induction ys with
  | nil => intro xs h; unfold FrRL at h; subst h; exact ⟨rfl, fun i y x hy => by simp at hy⟩
  | cons z r ih =>
    intro xs h
    unfold FrRL at h
    obtain ⟨x, s, rfl, h1, h2⟩ := h
    obtain ⟨h3, h4⟩ := ih h2
    refine ⟨by simp [h3], fun i y x' hy hx => ?_⟩
    cases i with
    | zero => simp at hy hx; subst hy; subst hx; exact h1
    | succ i => simp at hy hx; exact h4 i y x' hy hx
theorem FrR.rep {S : Nat → Prop} {w : World} {φ : Nat → Loc} {η : Heap} {y x : AV} {v : Value} (h : FrR y x) (hr : RepV S w φ η y v) : RepV S w φ η x v := by
  rcases h with rfl | ⟨cs, n, rfl, rfl⟩
  · exact hr
  · cases hr with
    | pure hr =>
      cases hr with
      | cp _ b off f h1 h2 h3 =>
        exact .pure (.cp _ b off f h1 (fun j z hz => h2 j z (by rw [List.getElem?_take] at hz; split at hz; exact hz; cases hz)) (fun j z hz => h3 j z (by rw [List.getElem?_take] at hz; split at hz; exact hz; cases hz)))
theorem ACallF.front {F : Fr} {P : Program} {f : FuncId} {xs ys : List AV} {L L' : Heap} {r : AV} (hc : ACallF F P f xs L r L') (hn : FrRL ys xs) : ACallF F P f ys L r L' := by
  intro w S φ vs hK hH hvs
  obtain ⟨h1, h2⟩ := FrRL_get hn
  refine hc w S φ vs hK hH ⟨by rw [h1]; exact hvs.1, fun i x v hx hv => ?_⟩
  have hy : i < ys.length := by rw [← h1]; exact (List.getElem?_eq_some_iff.1 hx).1
  exact (h2 i _ x (List.getElem?_eq_getElem hy) hx).rep (hvs.2 i _ v (List.getElem?_eq_getElem hy) hv)
end Go.AM

namespace Go.AM
open Go Go.MapKept
structure KeyOK (P : Program) (kt : TypeId) {K : Type} [DecidableEq K] (enc : K → AV) (val : K → Value) : Prop where
  rep : ∀ (S : Nat → Prop) (w : World) (k : K) (v : Value), RepT S w (enc k) v → v = val k
  mkr : ∀ (S : Nat → Prop) (w : World) (k : K), RepT S w (enc k) (val k)
  ids : ∀ k, noIds (enc k) = true
  chk : ∀ (b : Bool) (k : K) (w : World), (Instr.checkKey b 10000 kt (val k)).run P w = .ok () w
  find : ∀ (w : World) (k : K) (ks : List K) (ents : List MapEntry), ents.map (·.key) = ks.map val →
    (Instr.findKey kt (val k) ents).run P w = .ok ((kfind k ks).bind fun i => (ents[i]?).map fun x => (i, x.val)) w
  same : ∀ k, Instr.sameBits 10000 (val k) (val k) = true
section
variable {P : Program} {F : Fr} {N : Nat}
variable {K V : Type} [DecidableEq K] {encK : K → AV} {encV : V → AV} {val : K → Value} {kt et : TypeId} {f : K × V → AV}
end
section
variable {P : Program} {F : Fr} {N : Nat} {K0 : St → Prop} {ops : Array Oper} {rest : List Oper} {ex : Bool}
variable {ty : TypeId} {pos : String} {after : Array Edge} {d id : Nat} {s s' : Slots} {h h' : Heap} {x y z : Operand} {gd : Option (Nat × Bool)} {dst : Option Tmp}
variable {K V : Type} [DecidableEq K] {encK : K → AV} {encV : V → AV} {val : K → Value} {t kt et : TypeId} {f : K × V → AV}
end
section
variable {P : Program} {F : Fr} {N : Nat} {Q : Exit → St → Prop} {c : Code} {K : St → Prop} {ops : Array Oper} {l : List Oper} {ex : Bool} {s : Slots} {h h' : Heap}
end
section
variable {P : Program} {F : Fr} {N : Nat} {Q : Exit → St → Prop} {c : Code} {K : St → Prop} {ops : Array Oper} {l : List Oper} {ex : Bool} {s : Slots} {h h' : Heap}
theorem RelP.shallow {φ : Nat → Loc} {a : Act} {w : World} {id sz : Nat} {p : Bool} {E : TypeId} {es : List AV} (hr : RelP F N ⟨s, h⟩ φ a w) (hF : lk F.η id = none) (hl : lk h id = some (.arr ⟨p, true⟩ sz E es))
    (hn1 : s.all (fun q => noSub id q.2) = true) (hn2 : noSubH id h = true) (hh : sput h id (.arr ⟨p, false⟩ sz E es) = some h') : Rel F N ⟨s, h'⟩ a w := by
  obtain ⟨hsz, hlens, hone, hob⟩ := hr.heap.obj _ _ hl
  have hlk := lk_sput hh
  have h1id : lk h' id = some (.arr ⟨p, false⟩ sz E es) := by rw [hlk, if_pos rfl]
  have hown : ∀ b, (updLoc φ id { φ id with fp := [] } id).owns b → (φ id).owns b := by
    intro b hb
    rw [updLoc_same] at hb
    rcases hb with hb | hb
    · exact .inl hb
    · simp at hb
  refine ⟨updLoc φ id { φ id with fp := [] }, hr.upd hh (updLoc_ne φ id _) (SameSys.refl w) (Nat.le_refl _) (fun _ _ _ => rfl) (fun b hb => .inr ⟨_, hl, hown b hb⟩)
    (fun o ho => by rw [hF] at ho; cases ho) (fun o ho => by rw [hl] at ho; cases ho; exact ⟨rfl, fun _ => ⟨rfl, rfl, rfl⟩⟩) (fun hS hw x v hx hv => ?_) (fun hS hw => ⟨hsz, hlens, hone, ?_⟩)⟩
  · refine hv.move (id := id) (gone := fun _ => False) hS (fun _ _ => rfl) (fun i hi _ => updLoc_ne φ id _ i hi) (fun o ho _ => by rw [updLoc_same]; exact ⟨rfl, rfl, rfl, rfl⟩) (fun i cs _ ho => ?_) (fun i k2 sz2 E2 es2 _ ho => ?_) (fun _ h => h.elim) ?_
    · have hne : id ≠ i := fun e => by subst e; rw [hl] at ho; cases ho
      exact ⟨cs, by rw [hlk, if_neg hne]; exact ho⟩
    · by_cases hii : id = i
      · subst hii; rw [hl] at ho; cases ho; exact ⟨_, _, rfl, h1id⟩
      · exact ⟨k2, es2, rfl, by rw [hlk, if_neg hii]; exact ho⟩
    · rcases hx with ⟨i, hi⟩ | ⟨i, cs, _, hi, hxc⟩
      · exact lk_all (p := noSub id) hn1 hi
      · exact noSubH_box hn2 hi hxc
  · rw [updLoc_same]
    rcases hob with ⟨hm, h0⟩ | ⟨hm, C, hC, h1, h2, h3, h4⟩
    · exact .inl ⟨hm, h0⟩
    · refine .inr ⟨hm, C, hC, h1, h2, h3, CellsOK.ofTrees rfl fun j x v hx hv => ?_⟩
      obtain ⟨fps, f1, f2, f3, f4, _⟩ := (show CellsOK ⟨p, true⟩ (Stab F w φ h) w (φ id) (flat es) C from h4)
      have hlt := (List.getElem?_eq_some_iff.1 hx).1
      have hp : fps[j]? = some (fps[j]'(by omega)) := by simp [f1, hlt]
      refine (f2 j x v _ hx hv hp).toTree (fun b hb => ?_)
      have hbf : b ∈ fps.flatten := List.mem_flatten.2 ⟨_, List.mem_of_getElem? hp, hb⟩
      have hbo : (φ id).owns b := .inr (f4 b hbf)
      refine ⟨hr.heap.ltO id _ b hl hbo, ?_, fun i o ho hm2 => ?_⟩
      · rcases hr.mine id _ b hl hbo with h5 | ⟨o0, h5, _⟩
        · exact .inr h5
        · rw [hF] at h5; cases h5
      · by_cases hii : id = i
        · subst hii
          rw [updLoc_same] at hm2
          rcases hm2 with ⟨_, hm2⟩ | hm2
          · exact (List.nodup_cons.1 f3).1 (by rw [show (φ id).blk = b from hm2]; exact hbf)
          · simp at hm2
        · rw [updLoc_ne φ id _ i (Ne.symm hii)] at hm2
          rw [hlk, if_neg hii] at ho
          exact hii (hr.heap.injO id i _ o b hl ho hbo hm2)
theorem TL_shallow (id : Nat) {sz : Nat} {p : Bool} {E : TypeId} {es : List AV} (hF : lk F.η id = none) (hl : lk h id = some (.arr ⟨p, true⟩ sz E es)) (hn1 : s.all (fun q => noSub id q.2) = true) (hn2 : noSubH id h = true)
    (hh : sput h id (.arr ⟨p, false⟩ sz E es) = some h') (k : TLE ex P F N ops l K ⟨s, h'⟩) : TLE ex P F N ops l K ⟨s, h⟩ := TL_sub (fun _ _ _ hr => hr.shallow hF hl hn1 hn2 hh) k
end
end Go.AM

namespace Go.AM
open Go Go.MapKept
section
variable {P : Program} {s : Slots} {h : Heap} {dst : Option Tmp} {ty : TypeId} {pos : String} {after : Array Edge} {gd : Option (Nat × Bool)} {t : TypeId}
end
section
variable {P : Program} {F : Fr} {N : Nat} {ops : Array Oper} {Z : List Nat} {fuel : Nat} {listed : List Bool} {K : St → Prop} {s s' : Slots} {h h' : Heap}
end
section
variable {P : Program} {s : Slots} {h : Heap} {dst : Option Tmp} {ty : TypeId} {pos : String} {after : Array Edge} {gd : Option (Nat × Bool)} {t : TypeId} {x y : Operand}
end
section
variable {P : Program} {kt e : TypeId}
end
end Go.AM

namespace Go.AM
open Go
structure LibEnd (w w' : World) : Prop where
  sys : SameSys w w'
  grow : w.heap.size ≤ w'.heap.size
  frame : ∀ b, b < w.heap.size → w'.heap[b]? = w.heap[b]?
theorem LibEnd.refl (w : World) : LibEnd w w := ⟨SameSys.refl w, Nat.le_refl _, fun _ _ => rfl⟩
end Go.AM

namespace Go.AM
open Go Go.RowKit
section
variable {P : Program} {s : Slots} {h : Heap} {dst : Option Tmp} {ty : TypeId} {pos : String} {after : Array Edge} {gd : Option (Nat × Bool)}
variable {x : Operand} {t t' : TypeId}
end
section
variable {P : Program} {F : Fr} {N : Nat} {ops : Array Oper} {l rest : List Oper} {KK : St → Prop} {ex : Bool}
variable {ty t t' : TypeId} {pos : String} {after : Array Edge} {d : Nat} {s s' : Slots} {h h' : Heap} {x : Operand}
end
section
variable {P : Program} {s : Slots} {h : Heap} {dst : Option Tmp} {ty t : TypeId} {pos : String} {after : Array Edge} {gd : Option (Nat × Bool)} {x : Operand} {id : Nat}
variable {K V : Type} [DecidableEq K] {encK : K → AV} {encV : V → AV} {val : K → Value} {kt et : TypeId} {f : K × V → AV}
end
section
variable {P : Program} {W : World}
end
end Go.AM

namespace Go.AM
open Go
section
variable {F : Fr} {N : Nat} {P : Program}
variable {ops : Array Oper} {K : St → Prop}
variable {id : Nat} {s s' : Slots} {h h' : Heap}
end
end Go.AM

namespace Go.AM
end Go.AM
namespace Go.AM
end Go.AM
