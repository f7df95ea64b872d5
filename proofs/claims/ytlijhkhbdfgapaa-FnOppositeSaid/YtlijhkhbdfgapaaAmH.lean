/- Rules: make, stores, append, and steps of thought. -/
import Derived.Test.YtlijhkhbdfgapaaAmG
import Derived.Laws.MakeOwn
namespace Go.AM
open Go

section
variable {P : Program} {F : Fr} {N : Nat} {ops : Array Oper} {rest : List Oper} {K : St → Prop}
variable {ty : TypeId} {pos : String} {after : Array Edge} {d id : Nat} {s s' : Slots} {h h' : Heap} {x y : Operand}

theorem flat_replicate {z : AV} {sz : Nat} (hz : z.cells.length = sz) (hsz : 0 < sz) (n j : Nat) (c : AV) (hc : (flat (List.replicate n z))[j]? = some c) :
    z.cells[j % sz]? = some c := by
  have hl : ∀ e ∈ List.replicate n z, e.cells.length = sz := fun e he => by rw [(List.mem_replicate.1 he).2]; exact hz
  have hj := (List.getElem?_eq_some_iff.1 hc).1
  rw [flat_length hl, List.length_replicate] at hj
  have hq : j / sz < n := by rw [Nat.div_lt_iff_lt_mul hsz]; exact hj
  have hdm : j / sz * sz + j % sz = j := by rw [Nat.mul_comm]; exact Nat.div_add_mod j sz
  have := flat_get hl (i := j / sz) (j := j % sz) (e := z) (by simp [hq]) (Nat.mod_lt _ hsz)
  rw [hdm] at this
  rw [← this]; exact hc

/-- 'make' of as many elements as it has room for. -/
theorem TL_make {ex : Bool} {t E : TypeId} {n sz bz : Nat} {zv : Value} {z : AV} {k1 k2 : IntKind} {a1 a2 : Int} (id : Nat) (ht : tyElem P t = some (E, sz)) (hz : tyZero P E = some (zv, sz, bz))
    (hc : cav zv = some z) (hok : elemsOK sz [z] = true) (hsz : Nat.blt 0 sz = true) (hb : Nat.blt 0 bz = true)
    (hx : aev s x = some (.int k1 a1)) (hy : aev s y = some (.int k2 a2)) (h1 : a1 = (n : Int)) (h2 : a2 = (n : Int)) (hbig : n * bz ≤ 281474976710656)
    (hl : lk h id = none) (hh : sput h id (.arr ⟨false, false⟩ sz E (List.replicate n z)) = some h') (hN : Nat.blt d N = true) (hs : sput s d (.ow id) = some s')
    (k : TLE ex P F N ops rest K ⟨s', h'⟩) : TLE ex P F N ops (⟨some d, .makeSlice t x y, ty, pos, after, none⟩ :: rest) K ⟨s, h⟩ := by
  refine TL_val rfl (fun φ a w hr => ?_) k
  subst h1; subst h2
  have hsz' : 0 < sz := Nat.le_of_ble_eq_true hsz
  have hb' : 0 < bz := Nat.le_of_ble_eq_true hb
  obtain ⟨hu, hsize⟩ := tyElem_inv ht
  obtain ⟨i, hi, hzero, hisz, hiby⟩ := tyZero_inv hz
  obtain ⟨m1, m2, m3, m4⟩ := elemsOK_mem hok z (by simp)
  have hxv := (aev_rep hr hx).int_inv
  have hyv := (aev_rep hr hy).int_inv
  have hnb : n ≤ n * bz := Nat.le_mul_of_pos_right n hb'
  have hbytes : (i.bytes : Int) * (n : Int) ≤ 281474976710656 := by
    rw [hiby]
    have : ((bz * n : Nat) : Int) ≤ 281474976710656 := by rw [Nat.mul_comm]; omega
    rwa [Int.natCast_mul] at this
  have hrun := run_make (P := P) w t E i zv hu hi hzero k1 k2 n n (by omega) (Int.le_refl _) hbytes (by omega)
  simp only [Int.toNat_natCast, hisz] at hrun
  obtain ⟨g1, g2, g3, g4⟩ := alloc_new w (.cells (madeCells zv.cells (n * sz)) E)
  have hzr : RepT (Stab F w φ h) w z zv := cav_rep hc
  have hzc := RepV.cells (S := Stab F w φ h) (w := w) (φ := φ) (η := h) (.pure hzr) (cs := z.cells) (by cases z <;> rfl) (fun u hu => by subst hu; cases m4)
  have hzs : zv.cells.size = sz := by rw [← m1]; simpa using hzc.1.symm
  refine ⟨.slice (some ⟨w.heap.size, 0, none⟩) n n, w.alloc (.cells (madeCells zv.cells (n * sz)) E), fun _ => ⟨g2, g3⟩, ?_, _, RelP.put (hr.newArr (cap := n) hl hh g1 g2 g3 (Nat.le_refl _) g4 hsz'
    (fun e he => by rw [(List.mem_replicate.1 he).2]; exact m1) (flat_one (fun e he u hu => by rw [(List.mem_replicate.1 he).2] at hu; exact m2 u hu))
    (by simp) ?_ (size_madeCells _ _) ?_) (Nat.le_of_ble_eq_true hN) hs ?_⟩
  · show (do pure (.value (← Instr.makeSlice t (a.eval x) (a.eval y))) : Sem Next).run P w = _
    rw [hxv, hyv]
    simp only [Sem.run_bind, hrun, Result.andThen_ok, Sem.run_pure]
  · simp only [maxLen]; omega
  · intro j c v hcj hv
    have hcz := flat_replicate m1 hsz' n j c hcj
    have hvz : zv.cells.toList[j % sz]? = some v := by
      have hjlt : j < n * sz := by
        have := (Array.getElem?_eq_some_iff.1 hv).1
        rwa [size_madeCells] at this
      simp only [madeCells, Array.getElem?_map, hzs] at hv
      rw [Array.getElem?_range, if_pos hjlt] at hv
      simp only [Option.map_some, Option.some.injEq] at hv
      have hm : j % sz < zv.cells.size := by rw [hzs]; exact Nat.mod_lt _ hsz'
      rw [getElem!_pos zv.cells (j % sz) hm] at hv
      rw [Array.getElem?_toList, Array.getElem?_eq_getElem hm, hv]
    refine (hzc.2 _ c v hcz hvz).tree ?_
    cases z with
    | agg cs => exact noIdsL_mem (by simpa [noIds, AV.cells] using m3) _ c hcz
    | _ =>
      have hmem := List.mem_of_getElem? hcz
      simp [AV.cells] at hmem; subst hmem; exact m3
  · have := RepV.ow (S := Stab F (w.alloc (.cells (madeCells zv.cells (n * sz)) E)) (updLoc φ id (mkLoc w.heap.size n true)) h') (w := w.alloc (.cells (madeCells zv.cells (n * sz)) E))
      (φ := updLoc φ id (mkLoc w.heap.size n true)) (η := h') (id := id) (sz := sz) (E := E) (es := List.replicate n z) (by rw [lk_sput hh, if_pos rfl]) (by rw [updLoc_same])
    rw [updLoc_same, List.length_replicate] at this
    exact this

/-! ### Stores -/

theorem exec_store {t : TypeId} {gd : Option (Nat × Bool)} {dst : Option Tmp} (ρ : Operand → Value) :
    execOp ρ ⟨dst, .store t x y, ty, pos, after, gd⟩ = (do Instr.storeAt t (ρ x) (ρ y); pure .skip) := rfl

theorem run_storeAt {w : World} {t n g off : Nat} {C : Array Value} {E : TypeId} {v : Value} (hs : tySize P t = some n) (hv : v.cells.size = n)
    (hC : w.heap[g]? = some (.cells C E (0, 0))) (hfit : off + n ≤ C.size) (h1 : ∀ u ∈ v.cells.toList, u.oneCell' = true) :
    (Instr.storeAt t (.pointer (some ⟨g, off, none⟩)) v).run P w = .ok () (w.setRow g (C.toList.take off ++ v.cells.toList ++ C.toList.drop (off + n)).toArray) := by
  have hst := run_storeCells_at P g off E v.cells.toList 0 C w hC (by simp [hv]; omega) h1
  simp only [Nat.add_zero, Array.length_toList, hv] at hst
  simp only [Instr.storeAt, Instr.sureAddr, Sem.run_bind, Sem.run_pure, Result.andThen_ok, storeVar, run_size hs]
  rw [if_neg (by simp [hv])]
  exact hst

theorem setRow_sys (w : World) (g : Nat) (cs : Array Value) : SameSys w (w.setRow g cs) := ⟨rfl, rfl, rfl⟩

/-- A store into a variable. -/
theorem TL_store_box {t n off : Nat} {z : AV} {cs zc cs' : List AV} (hs : tySize P t = some n) (hx : aev s x = some (.ptr id 0 off)) (hl : lk h id = some (.box cs))
    (hy : aev s y = some z) (hj : isJunk z = false) (hc : cellsO z = some zc) (hn : Nat.beq zc.length n = true) (hone : zc.all one = true) (hset : setO cs off zc = some cs')
    (hh : sput h id (.box cs') = some h') (k : TL P F N ops rest K ⟨s, h'⟩) : TL P F N ops (⟨none, .store t x y, ty, pos, after, none⟩ :: rest) K ⟨s, h⟩ := by
  refine TL_skip rfl rfl (fun φ a w hr => ?_) k
  have hn' : zc.length = n := (beq_iff _ _).1 hn
  obtain ⟨hm, C, E, hC, hsz, hrep⟩ := hr.heap.obj _ _ hl
  obtain ⟨rfl, hlen⟩ := setO_eq hset
  have hzv := aev_rep hr hy
  have hcells := hzv.cells hc (fun u hu => by subst hu; cases hj)
  have hvs : (a.eval y).cells.size = n := by rw [← hn']; simpa using hcells.1.symm
  have hptr : a.eval x = .pointer (some ⟨(φ id).blk, off, none⟩) := by
    have := aev_rep hr hx
    generalize a.eval x = v at this
    cases this with
    | pure h => cases h
    | box _ _ => rfl
    | elt h _ => rw [hl] at h; cases h
  have h1 : ∀ u ∈ (a.eval y).cells.toList, u.oneCell' = true := by
    intro u hu
    obtain ⟨i, hi⟩ := List.getElem?_of_mem hu
    have hlt := (List.getElem?_eq_some_iff.1 hi).1
    obtain ⟨c, hci⟩ : ∃ c, zc[i]? = some c := ⟨zc[i]'(by rw [hcells.1]; exact hlt), by simp⟩
    exact (hcells.2 i c u hci hi).one ((List.all_eq_true.1 hone) c (List.mem_of_getElem? hci))
  have hrun := run_storeAt (P := P) (E := E) hs hvs hC (by rw [hsz, ← hn']; exact hlen) h1
  refine ⟨_, by rw [exec_store, hptr]; simp only [Sem.run_bind, hrun, Result.andThen_ok, Sem.run_pure]; rfl, φ, ?_⟩
  have hlk := lk_sput hh
  have hal : headsAlike φ φ h h' := by
    refine ⟨fun i cs1 hi _ => ?_, fun i k1 sz E1 es hi => ⟨rfl, k1, es, rfl, ?_⟩⟩
    · by_cases hid : id = i
      · subst hid; exact ⟨⟨_, by rw [hlk, if_pos rfl]⟩, rfl⟩
      · exact ⟨⟨cs1, by rw [hlk, if_neg hid]; exact hi⟩, rfl⟩
    · have hid : id ≠ i := fun e => by subst e; rw [hl] at hi; cases hi
      rw [hlk, if_neg hid]; exact hi
  refine hr.upd hh (fun _ _ => rfl) (setRow_sys _ _ _) (by simp) (fun b _ hb => setRow_other _ _ _ _ (fun e => hb _ hl (.inl ⟨hm, e.symm⟩))) (fun b hbo => .inr ⟨_, hl, hbo⟩) (fun o1 h1 h2 => hr.fix id o1 h1 h2) (fun o ho => by rw [hl] at ho; cases ho; trivial)
    (fun hS hw x v _ hv => hv.mono hS hw hal) (fun hS hw => ⟨hm, _, E, setRow_heap _ _ _ _ _ _ hC, ?_, ?_⟩)
  · simp [hvs, hsz, hn']
    try omega
  · intro i c v hci hvi
    have hCl : PW (Stab F w φ h) w φ h cs C.toList := ⟨by simpa using hsz.symm, fun i x v hx hv => hrep i x v hx (by simpa using hv)⟩
    have hpw := PW.append (PW.append (hCl.take off) hcells) (hCl.drop (off + n))
    rw [hn'] at hci
    exact (hpw.2 i c v hci (by simpa using hvi)).mono hS hw hal

theorem flat_get_inv {sz : Nat} (hsz : 0 < sz) {es : List AV} (hl : ∀ e ∈ es, e.cells.length = sz) {j : Nat} {c : AV} (h : (flat es)[j]? = some c) :
    ∃ q r e, j = q * sz + r ∧ r < sz ∧ q < es.length ∧ es[q]? = some e ∧ e.cells[r]? = some c := by
  have hj := (List.getElem?_eq_some_iff.1 h).1
  rw [flat_length hl] at hj
  have hq : j / sz < es.length := by rw [Nat.div_lt_iff_lt_mul hsz]; exact hj
  have hdm : j / sz * sz + j % sz = j := by rw [Nat.mul_comm]; exact Nat.div_add_mod j sz
  obtain ⟨e, he⟩ : ∃ e, es[j / sz]? = some e := ⟨es[j / sz], by simp⟩
  refine ⟨j / sz, j % sz, e, hdm.symm, Nat.mod_lt _ hsz, hq, he, ?_⟩
  rw [← flat_get hl he (Nat.mod_lt _ hsz), hdm]
  exact h

/-- Where the cells of a row come from when a part of one element has been written. -/
theorem flat_set {sz k0 off : Nat} (hsz : 0 < sz) {es : List AV} {e e' : AV} {zc : List AV} (hl : ∀ e ∈ es, e.cells.length = sz) (he : es[k0]? = some e)
    (he' : e'.cells = e.cells.take off ++ zc ++ e.cells.drop (off + zc.length)) (hoff : off + zc.length ≤ sz) {j : Nat} {c : AV} (h : (flat (es.set k0 e'))[j]? = some c) :
    (∃ i, j = k0 * sz + off + i ∧ zc[i]? = some c) ∨ ((flat es)[j]? = some c ∧ (j < k0 * sz + off ∨ k0 * sz + off + zc.length ≤ j)) := by
  have hek : e.cells.length = sz := hl e (List.mem_of_getElem? he)
  have he'k : e'.cells.length = sz := by rw [he']; simp; omega
  have hk0 := (List.getElem?_eq_some_iff.1 he).1
  have hl' : ∀ u ∈ es.set k0 e', u.cells.length = sz := by
    intro u hu
    rcases List.mem_or_eq_of_mem_set hu with hu | rfl
    · exact hl u hu
    · exact he'k
  obtain ⟨q, r, u, hj, hr, hq, hu, hc⟩ := flat_get_inv hsz hl' h
  rw [List.length_set] at hq
  by_cases hqk : k0 = q
  · subst hqk
    rw [List.getElem?_set_self hk0] at hu
    cases hu
    rw [he'] at hc
    by_cases h1 : r < off
    · right
      rw [List.getElem?_append_left (by simp; omega), List.getElem?_append_left (by simp; omega), List.getElem?_take, if_pos h1] at hc
      exact ⟨by rw [hj, flat_get hl he hr]; exact hc, .inl (by omega)⟩
    · by_cases h2 : r < off + zc.length
      · left
        refine ⟨r - off, by omega, ?_⟩
        rw [List.getElem?_append_left (by simp; omega), List.getElem?_append_right (by simp; omega)] at hc
        rw [show (e.cells.take off).length = off from by simp; omega] at hc
        exact hc
      · right
        rw [List.getElem?_append_right (by simp; omega), List.getElem?_drop] at hc
        have : off + zc.length + (r - (List.take off e.cells ++ zc).length) = r := by simp; omega
        rw [this] at hc
        exact ⟨by rw [hj, flat_get hl he hr]; exact hc, .inr (by omega)⟩
  · right
    rw [List.getElem?_set_ne hqk] at hu
    refine ⟨by rw [hj, flat_get hl hu hr]; exact hc, ?_⟩
    have : q < k0 ∨ k0 < q := by omega
    rcases this with h1 | h1
    · have : (q + 1) * sz ≤ k0 * sz := Nat.mul_le_mul_right _ h1
      rw [Nat.add_mul, Nat.one_mul] at this
      exact .inl (by omega)
    · have : (k0 + 1) * sz ≤ q * sz := Nat.mul_le_mul_right _ h1
      rw [Nat.add_mul, Nat.one_mul] at this
      exact .inr (by omega)

theorem RelP.storeArr {t n off k0 sz : Nat} {p : Bool} {E : TypeId} {z e e' : AV} {es zc : List AV} {φ : Nat → Loc} {a : Act} {w : World} (hr : RelP F N ⟨s, h⟩ φ a w)
    (hs : tySize P t = some n) (hx : aev s x = some (.ptr id k0 off))
    (hl : lk h id = some (.arr ⟨p, false⟩ sz E es)) (he : es[k0]? = some e)
    (hy : aev s y = some z) (hj : isJunk z = false) (hnoi : noIds z = true) (hc : cellsO z = some zc) (hn : zc.length = n) (hone : zc.all one = true)
    (he' : e'.cells = e.cells.take off ++ zc ++ e.cells.drop (off + zc.length)) (hoff : off + zc.length ≤ sz)
    (hh : sput h id (.arr ⟨p, false⟩ sz E (es.set k0 e')) = some h') :
    ∃ w', (execOp a.eval ⟨none, .store t x y, ty, pos, after, none⟩).run P w = .ok .skip w' ∧ Rel F N ⟨s, h'⟩ a w' := by
  obtain ⟨hsz, hlens, hones, hob⟩ := hr.heap.obj _ _ hl
  have hek : e.cells.length = sz := hlens e (List.mem_of_getElem? he)
  have hk0 := (List.getElem?_eq_some_iff.1 he).1
  rcases hob with ⟨_, rfl⟩ | ⟨hm, C, hC, hle, hcm, hCs, hrep⟩
  · simp at he
  replace hrep := hrep.trees rfl
  have hzv := aev_rep hr hy
  have hcells := hzv.cells hc (fun u hu => by subst hu; cases hj)
  have hvs : (a.eval y).cells.size = n := by rw [← hn]; simpa using hcells.1.symm
  have hptr : a.eval x = .pointer (some ⟨(φ id).blk, k0 * sz + off, none⟩) := by
    have := aev_rep hr hx
    generalize a.eval x = v at this
    cases this with
    | pure h => cases h
    | box h _ => rw [hl] at h; cases h
    | elt h _ => rw [hl] at h; cases h; rfl
  have h1 : ∀ u ∈ (a.eval y).cells.toList, u.oneCell' = true := by
    intro u hu
    obtain ⟨i, hi⟩ := List.getElem?_of_mem hu
    have hlt := (List.getElem?_eq_some_iff.1 hi).1
    obtain ⟨c, hci⟩ : ∃ c, zc[i]? = some c := ⟨zc[i]'(by rw [hcells.1]; exact hlt), by simp⟩
    exact (hcells.2 i c u hci hi).one ((List.all_eq_true.1 hone) c (List.mem_of_getElem? hci))
  have hcapsz : k0 * sz + sz ≤ (φ id).cap * sz := by
    rw [← Nat.succ_mul]; exact Nat.mul_le_mul_right _ (by omega)
  have hrun := run_storeAt (P := P) (E := E) hs hvs hC (off := k0 * sz + off) (by rw [hCs]; omega) h1
  refine ⟨_, by rw [exec_store, hptr]; simp only [Sem.run_bind, hrun, Result.andThen_ok, Sem.run_pure]; rfl, φ, ?_⟩
  have hlk := lk_sput hh
  have hal : headsAlike φ φ h h' := by
    refine ⟨fun i cs1 hi _ => ?_, fun i k1 sz1 E1 es1 hi => ⟨rfl, ?_⟩⟩
    · have hid : id ≠ i := fun e => by subst e; rw [hl] at hi; cases hi
      exact ⟨⟨cs1, by rw [hlk, if_neg hid]; exact hi⟩, rfl⟩
    · by_cases hid : id = i
      · subst hid
        rw [hl] at hi
        cases hi
        exact ⟨_, _, List.length_set, by rw [hlk, if_pos rfl]⟩
      · exact ⟨k1, es1, rfl, by rw [hlk, if_neg hid]; exact hi⟩
  have he'k : e'.cells.length = sz := by rw [he']; simp; omega
  refine hr.upd hh (fun _ _ => rfl) (setRow_sys _ _ _) (by simp) (fun b _ hb => setRow_other _ _ _ _ (fun e => hb _ hl (.inl ⟨hm, e.symm⟩))) (fun b hbo => .inr ⟨_, hl, hbo⟩) (fun o1 h1 h2 => hr.fix id o1 h1 h2) (fun o ho => by rw [hl] at ho; cases ho; exact ⟨rfl, fun _ => ⟨rfl, rfl, by simp⟩⟩)
    (fun hS hw x v _ hv => hv.mono hS hw hal) (fun hS hw => ⟨hsz, ?_, ?_, .inr ⟨hm, _, setRow_heap _ _ _ _ _ _ hC, by simpa using hle, hcm, ?_, ?_⟩⟩)
  · intro u hu
    rcases List.mem_or_eq_of_mem_set hu with hu | rfl
    · exact hlens u hu
    · exact he'k
  · intro j c hcj
    rcases flat_set hsz hlens he he' hoff hcj with ⟨i, _, hi⟩ | ⟨hi, _⟩
    · exact (List.all_eq_true.1 hone) c (List.mem_of_getElem? hi)
    · exact hones j c hi
  · simp [hvs]; omega
  · refine CellsOK.ofTrees rfl ?_
    intro j c v hcj hvj
    have hvj' : (C.toList.take (k0 * sz + off) ++ (a.eval y).cells.toList ++ C.toList.drop (k0 * sz + off + n))[j]? = some v := by simpa using hvj
    have hlen1 : (C.toList.take (k0 * sz + off)).length = k0 * sz + off := by simp; omega
    rcases flat_set hsz hlens he he' hoff hcj with ⟨i, rfl, hi⟩ | ⟨hi, hj1 | hj1⟩
    · have hilt := (List.getElem?_eq_some_iff.1 hi).1
      rw [List.getElem?_append_left (by simp [hvs]; omega), List.getElem?_append_right (by omega), hlen1, Nat.add_sub_cancel_left] at hvj'
      refine ((hcells.2 i c v hi hvj').tree ?_).mono hS hw
      cases z with
      | agg cs => cases hc; exact noIdsL_mem (by simpa [noIds] using hnoi) i c hi
      | _ =>
        cases hc
        have hmem := List.mem_of_getElem? hi
        simp at hmem; subst hmem; exact hnoi
    · rw [List.append_assoc, List.getElem?_append_left (by omega), List.getElem?_take, if_pos hj1] at hvj'
      exact (hrep j c v hi (by simpa using hvj')).mono hS hw
    · rw [hn] at hj1
      rw [List.getElem?_append_right (by simp [hvs]; omega), List.getElem?_drop] at hvj'
      have : k0 * sz + off + n + (j - (C.toList.take (k0 * sz + off) ++ (a.eval y).cells.toList).length) = j := by simp [hvs]; omega
      rw [this] at hvj'
      exact (hrep j c v hi (by simpa using hvj')).mono hS hw

/-- A store of a whole element. -/
theorem TL_store_elt {t sz k0 : Nat} {p : Bool} {E : TypeId} {z : AV} {es : List AV} (hs : tySize P t = some sz) (hx : aev s x = some (.ptr id k0 0))
    (hl : lk h id = some (.arr ⟨p, false⟩ sz E es)) (hlt : k0 < es.length) (hy : aev s y = some z) (hok : elemsOK sz [z] = true)
    (hh : sput h id (.arr ⟨p, false⟩ sz E (es.set k0 z)) = some h') (k : TL P F N ops rest K ⟨s, h'⟩) :
    TL P F N ops (⟨none, .store t x y, ty, pos, after, none⟩ :: rest) K ⟨s, h⟩ := by
  refine TL_skip rfl rfl (fun φ a w hr => ?_) k
  obtain ⟨m1, m2, m3, m4⟩ := elemsOK_mem hok z (by simp)
  obtain ⟨e, he⟩ : ∃ e, es[k0]? = some e := ⟨es[k0], by simp⟩
  have hek : e.cells.length = sz := (hr.heap.obj _ _ hl).2.1 e (List.mem_of_getElem? he)
  exact hr.storeArr hs hx hl he hy m4 m3 (zc := z.cells) (by cases z <;> rfl) m1 (List.all_eq_true.2 m2) (by simp [m1, ← hek]) (by omega) hh

/-- A store into a part of an element. -/
theorem TL_store_part {t n sz k0 off : Nat} {p : Bool} {E : TypeId} {z : AV} {es ec zc ec' : List AV} (hs : tySize P t = some n) (hx : aev s x = some (.ptr id k0 off))
    (hl : lk h id = some (.arr ⟨p, false⟩ sz E es)) (he : es[k0]? = some (.agg ec)) (hy : aev s y = some z) (hj : isJunk z = false) (hnoi : noIds z = true) (hc : cellsO z = some zc)
    (hn : Nat.beq zc.length n = true) (hone : zc.all one = true) (hset : setO ec off zc = some ec')
    (hh : sput h id (.arr ⟨p, false⟩ sz E (es.set k0 (.agg ec'))) = some h') (k : TL P F N ops rest K ⟨s, h'⟩) :
    TL P F N ops (⟨none, .store t x y, ty, pos, after, none⟩ :: rest) K ⟨s, h⟩ := by
  refine TL_skip rfl rfl (fun φ a w hr => ?_) k
  obtain ⟨rfl, hlen⟩ := setO_eq hset
  have hek : ec.length = sz := (hr.heap.obj _ _ hl).2.1 _ (List.mem_of_getElem? he)
  exact hr.storeArr hs hx hl he hy hj hnoi hc ((beq_iff _ _).1 hn) hone rfl (by omega) hh

end
end Go.AM
