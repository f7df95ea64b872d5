/- append: trees, and owned arrays that are taken over. -/
import Derived.Test.YtlijhkhbdfgapaaAmW
namespace Go.AM
open Go

section
variable {F : Fr} {N : Nat} {P : Program}

theorem flat_app (xs ys : List AV) : flat (xs ++ ys) = flat xs ++ flat ys := by simp [flat]

theorem src_appY {S : Nat → Prop} {w : World} {φ : Nat → Loc} {h : Heap} {sz : Nat} {z : AV} {v : Value} {xs : List AV} (hh : HeapOK S w φ h) (hv : RepV S w φ h z v) (hsrc : asrc h sz z = some xs) :
    ∃ news, AppY w sz xs.length v news ∧ (∀ (j : Nat) c u, (flat xs)[j]? = some c → news[j]? = some u → RepT S w c u) ∧ (∀ e ∈ xs, e.cells.length = sz) ∧
      (∀ (j : Nat) c, (flat xs)[j]? = some c → one c = true) ∧ news.length = xs.length * sz := by
  rcases src_cells hh hv hsrc with ⟨va, rfl, rfl⟩ | ⟨ad, c, news, rfl, h1, h2, h3, h4, h5, h6⟩
  · exact ⟨[], ⟨.inl ⟨va, rfl, rfl, rfl⟩⟩, fun j c u hc => by simp [flat] at hc, fun e he => by simp at he, fun j c hc => by simp [flat] at hc, by simp⟩
  · exact ⟨news, ⟨.inr ⟨ad, c, rfl, h1, h2, h4⟩⟩, h3, h5, h6, h1⟩

variable {ops : Array Oper} {rest : List Oper} {K : St → Prop}
variable {ty : TypeId} {pos : String} {after : Array Edge} {d id : Nat} {s s' s1 : Slots} {h h' h1 : Heap} {x y : Operand}

/-- append to an array of the machine's own; what was taken of it before is forgotten. -/
theorem TL_append {t E : TypeId} {sz bz : Nat} {zv : Value} {z : AV} {es xs : List AV}
    (ht : tyElem P t = some (E, sz)) (hz : tyZero P E = some (zv, sz, bz)) (hzs : Nat.beq zv.cells.size sz = true)
    (hsz : Nat.blt 0 sz = true) (hb : Nat.blt 0 bz = true) (hx : aev s x = some (.ow id)) (hl : lk h id = some (.arr ⟨false, false⟩ sz E es)) (hy : aev s y = some z) (hsrc : asrc h sz z = some xs)
    (hbig : (es.length + xs.length) * bz ≤ 140737488355328)
    (hks : killSL [id] s = some s1) (hkh : killHL [id] h = some h1) (hh : sput (dropH [] h1) id (.arr ⟨false, false⟩ sz E (es ++ xs)) = some h') (hN : Nat.blt d N = true) (hs : sput s1 d (.ow id) = some s')
    (k : TL P F N ops rest K ⟨s', h'⟩) : TL P F N ops (⟨some d, .call ⟨.builtin .append, #[x, y], #[t, t]⟩, ty, pos, after, none⟩ :: rest) K ⟨s, h⟩ := by
  refine TL_val rfl (fun φ a w hr => ?_) k
  have hX := hr.appX hx hl
  obtain ⟨news, hY, hnrep, hxl, hxo, hnl⟩ := src_appY hr.heap (aev_rep hr hy) hsrc
  obtain ⟨v', w', l', hrun, hres⟩ := append_core (P := P) (ty := ty) ht hz ((beq_iff _ _).1 hzs) (Nat.le_of_ble_eq_true hsz) (Nat.le_of_ble_eq_true hb) hX hY hbig
  obtain ⟨hsz0, hlens, hones, hob⟩ := hr.heap.obj _ _ hl
  obtain ⟨hol, C, hC1, _, hC2⟩ := olds_cells (hr.heap.obj _ _ hl)
  have hfe := flat_length hlens
  have hfx := flat_length hxl
  rw [← List.length_append] at hres
  obtain ⟨hr', hv'⟩ := hr.appended [] [] (fun _ => (none, 0, 0)) hl rfl (by simp) (by simp) hks hkh hh hres (by simp)
    (fun e he => by rcases List.mem_append.1 he with he | he; exact hlens e he; exact hxl e he)
    (fun j c hc => by
      rw [flat_app] at hc
      by_cases hj : j < (flat es).length
      · rw [List.getElem?_append_left hj] at hc; exact hones j c hc
      · rw [List.getElem?_append_right (by omega)] at hc; exact hxo _ c hc)
    (fun C' htk _ => CellsOK.ofTrees rfl (fun j c v hc hv => by
      have hj := (List.getElem?_eq_some_iff.1 hc).1
      rw [flat_app, List.length_append, hfe, hfx, ← Nat.add_mul] at hj
      have hv2 : (oldsOf w (φ id) (es.length * sz) ++ news)[j]? = some v := by rw [← htk, List.getElem?_take, if_pos (by simpa using hj)]; simpa using hv
      rw [flat_app] at hc
      by_cases hj2 : j < (flat es).length
      · rw [List.getElem?_append_left hj2] at hc
        rw [List.getElem?_append_left (by rw [hol, ← hfe]; exact hj2)] at hv2
        exact hC1.trees rfl j c v hc (hC2 j c v hc hv2)
      · rw [List.getElem?_append_right (by omega)] at hc
        rw [List.getElem?_append_right (by rw [hol, ← hfe]; omega), hol, ← hfe] at hv2
        exact hnrep _ c v hc hv2))
  exact ⟨v', w', (fun h => nomatch h), by rw [exec_append]; simp only [Sem.run_bind, hrun, Result.andThen_ok, Sem.run_pure], _, hr'.put (Nat.le_of_ble_eq_true hN) hs hv'⟩

/-- append of an owned array to another one, which takes it over. -/
theorem TL_appendD {t E E2 : TypeId} {sz bz id2 : Nat} {p2 : Bool} {zv : Value} {es xs : List AV}
    (ht : tyElem P t = some (E, sz)) (hz : tyZero P E = some (zv, sz, bz)) (hzs : Nat.beq zv.cells.size sz = true)
    (hsz : Nat.blt 0 sz = true) (hb : Nat.blt 0 bz = true) (hx : aev s x = some (.ow id)) (hl : lk h id = some (.arr ⟨false, true⟩ sz E es)) (hy : aev s y = some (.ow id2)) (hl2 : lk h id2 = some (.arr ⟨p2, true⟩ sz E2 xs))
    (hne : Nat.beq id id2 = false) (hF2 : lk F.η id2 = none)
    (hbig : (es.length + xs.length) * bz ≤ 140737488355328)
    (hks : killSL [id, id2] s = some s1) (hkh : killHL [id, id2] h = some h1) (hh : sput (dropH [id2] h1) id (.arr ⟨false, true⟩ sz E (es ++ xs)) = some h') (hN : Nat.blt d N = true) (hs : sput s1 d (.ow id) = some s')
    (k : TL P F N ops rest K ⟨s', h'⟩) : TL P F N ops (⟨some d, .call ⟨.builtin .append, #[x, y], #[t, t]⟩, ty, pos, after, none⟩ :: rest) K ⟨s, h⟩ := by
  refine TL_val rfl (fun φ a w hr => ?_) k
  have hne' : id ≠ id2 := fun e => by rw [(beq_iff id id2).2 e] at hne; cases hne
  have hX := hr.appX hx hl
  obtain ⟨hsz0, hlens, hones, hob⟩ := hr.heap.obj _ _ hl
  obtain ⟨_, hxl, hxo, hob2⟩ := hr.heap.obj _ _ hl2
  obtain ⟨hol, C, hC1, hCh, hC2⟩ := olds_cells (hr.heap.obj _ _ hl)
  obtain ⟨hol2, D, hD1, hDh, hD2⟩ := olds_cells (hr.heap.obj _ _ hl2)
  have hfe := flat_length hlens
  have hfx := flat_length hxl
  obtain ⟨fps1, f1, f2, f3, f4, f5⟩ := (show CellsOK ⟨false, true⟩ (Stab F w φ h) w (φ id) (flat es) C from hC1)
  obtain ⟨fps2, g1, g2, g3, g4, g5⟩ := (show CellsOK ⟨p2, true⟩ (Stab F w φ h) w (φ id2) (flat xs) D from hD1)
  have hX2 := hr.appX hy hl2
  have hY : AppY w sz xs.length (a.eval y) (oldsOf w (φ id2) (xs.length * sz)) := by
    rcases hX2.go with ⟨hm, hv, C2, hC2', hle, hcm, hCs, hol'⟩ | ⟨hm, h0, hol', hv⟩
    · refine ⟨.inr ⟨_, _, hv, hol2, fun j u hu => ?_, fun u hu => ?_⟩⟩
      · rw [Addr.add_lit, Nat.zero_add, cell_at hC2']
        rw [hol', List.getElem?_take] at hu
        split at hu
        · simpa using hu
        · cases hu
      · obtain ⟨j, hj⟩ := List.getElem?_of_mem hu
        have hjl := (List.getElem?_eq_some_iff.1 hj).1
        rw [hol2, ← hfx] at hjl
        have hc : (flat xs)[j]? = some ((flat xs)[j]) := by simp [hjl]
        have hd := hD2 j _ u hc hj
        have hp : fps2[j]? = some (fps2[j]'(by omega)) := by simp [g1, hjl]
        exact (g2 j _ u _ hc hd hp).tree.one (hxo j _ hc)
    · have hx0 : xs = [] := List.eq_nil_of_length_eq_zero h0
      subst hx0
      exact ⟨.inl ⟨_, hv, rfl, hol'⟩⟩
  obtain ⟨v', w', l', hrun, hres⟩ := append_core (P := P) (ty := ty) ht hz ((beq_iff _ _).1 hzs) (Nat.le_of_ble_eq_true hsz) (Nat.le_of_ble_eq_true hb) hX hY hbig
  rw [← List.length_append] at hres
  obtain ⟨hr', hv'⟩ := hr.appended [id2] ((φ id).fp ++ (φ id2).fp) (fun j => if j < (flat es).length then (φ id).sv j else (φ id2).sv (j - (flat es).length)) hl rfl (by simpa using hne')
    (by simpa using hF2) hks hkh hh hres (fun b hb => by
      rcases List.mem_append.1 hb with hb | hb
      · exact .inl hb
      · exact .inr ⟨id2, _, by simp, hl2, .inr hb⟩)
    (fun e he => by rcases List.mem_append.1 he with he | he; exact hlens e he; exact hxl e he)
    (fun j c hc => by
      rw [flat_app] at hc
      by_cases hj : j < (flat es).length
      · rw [List.getElem?_append_left hj] at hc; exact hones j c hc
      · rw [List.getElem?_append_right (by omega)] at hc; exact hxo _ c hc)
    (fun C' htk hml => by
      have hget : ∀ (j : Nat) c v, (flat (es ++ xs))[j]? = some c → C'[j]? = some v →
          (j < (flat es).length ∧ (flat es)[j]? = some c ∧ C[j]? = some v) ∨ ((flat es).length ≤ j ∧ (flat xs)[j - (flat es).length]? = some c ∧ D[j - (flat es).length]? = some v) := by
        intro j c v hc hv
        have hj := (List.getElem?_eq_some_iff.1 hc).1
        rw [flat_app, List.length_append, hfe, hfx, ← Nat.add_mul] at hj
        have hv2 : (oldsOf w (φ id) (es.length * sz) ++ oldsOf w (φ id2) (xs.length * sz))[j]? = some v := by rw [← htk, List.getElem?_take, if_pos (by simpa using hj)]; simpa using hv
        rw [flat_app] at hc
        by_cases hj2 : j < (flat es).length
        · rw [List.getElem?_append_left hj2] at hc
          rw [List.getElem?_append_left (by rw [hol, ← hfe]; exact hj2)] at hv2
          exact .inl ⟨hj2, hc, hC2 j c v hc hv2⟩
        · rw [List.getElem?_append_right (by omega)] at hc
          rw [List.getElem?_append_right (by rw [hol, ← hfe]; omega), hol, ← hfe] at hv2
          exact .inr ⟨by omega, hc, hD2 _ c v hc hv2⟩
      refine ⟨fps1 ++ fps2, by rw [List.length_append, f1, g1, flat_app, List.length_append], fun j c v fp hc hv hp => ?_, ?_, fun b hb => ?_, fun j c v hc hv hs => ?_⟩
      · rcases hget j c v hc hv with ⟨k1, k2, k3⟩ | ⟨k1, k2, k3⟩
        · rw [List.getElem?_append_left (by rw [f1]; exact k1)] at hp
          exact f2 j c v fp k2 k3 hp
        · rw [List.getElem?_append_right (by rw [f1]; exact k1), f1] at hp
          exact g2 _ c v fp k2 k3 hp
      · -- no block twice
        have n1 := (List.nodup_cons.1 f3)
        have n2 := (List.nodup_cons.1 g3)
        have hdis : ∀ b, b ∈ fps1.flatten → b ∈ fps2.flatten → False := fun b hb1 hb2 => hne' (hr.heap.injO id id2 _ _ b hl hl2 (.inr (f4 b hb1)) (.inr (g4 b hb2)))
        rw [List.flatten_append, List.nodup_cons]
        refine ⟨fun hb => ?_, List.nodup_append.2 ⟨n1.2, n2.2, fun b hb1 c hc2 e => hdis b hb1 (e ▸ hc2)⟩⟩
        have hb' : l'.blk ∈ fps1.flatten ++ fps2.flatten := hb
        rcases hres.go with ⟨hm', _⟩ | ⟨_, _, _, h3⟩
        · rw [hml] at hm'; cases hm'
        · rcases List.mem_append.1 hb' with hb | hb
          · rcases h3 with ⟨_, h5⟩ | ⟨h5, _⟩
            · rw [h5] at hb; exact n1.1 hb
            · have := hr.heap.ltO id _ _ hl (.inr (f4 _ hb)); omega
          · rcases h3 with ⟨h4, h5⟩ | ⟨h5, _⟩
            · exact hne' (hr.heap.injO id id2 _ _ _ hl hl2 (.inl ⟨h4, h5.symm⟩) (.inr (g4 _ hb)))
            · have := hr.heap.ltO id2 _ _ hl2 (.inr (g4 _ hb)); omega
      · rw [List.flatten_append] at hb
        rcases List.mem_append.1 hb with hb | hb
        · exact List.mem_append.2 (.inl (f4 b hb))
        · exact List.mem_append.2 (.inr (g4 b hb))
      · rcases hget j c v hc hv with ⟨k1, k2, k3⟩ | ⟨k1, k2, k3⟩
        · simp only [if_pos k1]; exact f5 j c v k2 k3 hs
        · simp only [if_neg (Nat.not_lt.2 k1)]; exact g5 _ c v k2 k3 hs)
  exact ⟨v', w', (fun h => nomatch h), by rw [exec_append]; simp only [Sem.run_bind, hrun, Result.andThen_ok, Sem.run_pure], _, hr'.put (Nat.le_of_ble_eq_true hN) hs hv'⟩

end
end Go.AM
