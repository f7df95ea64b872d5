/- Typed rules: sums, slices, appends, stores. -/
import Derived.Test.YtlijhkhbdfgapaaAmZf
namespace Go.AM
open Go

theorem get_set {α : Type} {a : List α} {k : Nat} {v v' : α} (h : a[k]? = some v) : (a.set k v')[k]? = some v' := by
  rw [List.getElem?_set_self (List.getElem?_eq_some_iff.1 h).1]

section
variable {P : Program} {s s' s1 : Slots} {h h' h1 : Heap} {dst : Option Tmp} {ty : TypeId} {pos : String} {after : Array Edge} {gd : Option (Nat × Bool)} {x y : Operand} {t t' : TypeId}
theorem op_quoC {a b : Int} (hx : aev s x = some (.int .i64 a)) (hy : aev s y = some (.int .i64 b)) (hb : b ≠ 0) : OpP P ⟨dst, .binOp .quo t x y t', ty, pos, after, gd⟩ s h (.int .i64 (w64 (a.tdiv b))) := by
  rw [← wrap_w64]; exact op_quo hx hy hb
theorem op_convW {k : IntKind} {a : Int} (hu : ∃ d, P.underlying t = some d) (hu' : P.underlying t' = some (.int .i64)) (hx : aev s x = some (.int k a)) :
    OpP P ⟨dst, .convert t t' x, ty, pos, after, gd⟩ s h (.int .i64 (w64 a)) := by
  rw [← wrap_w64]; exact op_conv hu hu' hx
def BndI (s : Slots) (len : Nat) (lo hi : Option Operand) (l u : Int) : Prop :=
  (match lo with
   | none => l = 0
   | some y => ∃ k, aev s y = some (.int k l)) ∧
  (match hi with
   | none => u = (len : Int)
   | some y => ∃ k, aev s y = some (.int k u))
theorem BndI.bnds {α : Type} {xs ys : List α} {n : Nat} {lo hi : Option Operand} {l u : Int} (hb : BndI s n lo hi l u) (hs : sliceI xs l u = some ys) : Bnds s n lo hi l.toNat u.toNat := by
  obtain ⟨h1, h2, _⟩ := sliceI_spec hs
  refine ⟨?_, ?_⟩
  · have := hb.1
    cases lo with
    | none => simp only at this ⊢; subst this; rfl
    | some y => obtain ⟨k, hk⟩ := this; exact ⟨k, by rw [← h1]; exact hk⟩
  · have := hb.2
    cases hi with
    | none => simp only at this ⊢; subst this; simp
    | some y => obtain ⟨k, hk⟩ := this; exact ⟨k, by rw [← h2]; exact hk⟩
theorem op_sliceI {α : Type} {f : α → AV} {sz : Nat} {E : TypeId} {a b : List α} {lo hi : Option Operand} {l u : Int} (ht : tyElem P t = some (E, sz))
    (hx : aev s x = some (.sl sz (a.map f))) (hb : BndI s a.length lo hi l u) (hs : sliceI a l u = some b) :
    OpP P ⟨dst, .slice t x lo hi none, ty, pos, after, gd⟩ s h (.sl sz (b.map f)) := by
  obtain ⟨h1, h2, h3, h4, h5⟩ := sliceI_spec hs
  exact op_sliceT ht hx (by rw [List.length_map]; exact hb.bnds hs) h3 h4 h5
theorem op_sliceSI {a b : List UInt8} {lo hi : Option Operand} {l u : Int} (ht : P.underlying t = some .string)
    (hx : aev s x = some (.str a)) (hb : BndI s a.length lo hi l u) (hs : sliceI a l u = some b) :
    OpP P ⟨dst, .slice t x lo hi none, ty, pos, after, gd⟩ s h (.str b) := by
  obtain ⟨h1, h2, h3, h4, h5⟩ := sliceI_spec hs
  rw [h5]
  exact op_slice_str ht hx (hb.bnds hs) h3 h4
end

section
variable {P : Program} {F : Fr} {N : Nat} {ops : Array Oper} {rest : List Oper} {K : St → Prop}
variable {ty : TypeId} {pos : String} {after : Array Edge} {d id : Nat} {s s' s1 : Slots} {h h' h1 : Heap} {x y : Operand}

theorem TL_appendT {α : Type} {f : α → AV} {t E : TypeId} {sz bz : Nat} {zv : Value} {z : AV} {a b : List α}
    (ht : tyElem P t = some (E, sz)) (hz : tyZero P E = some (zv, sz, bz)) (hzs : Nat.beq zv.cells.size sz = true)
    (hsz : Nat.blt 0 sz = true) (hb : Nat.blt 0 bz = true) (hx : aev s x = some (.ow id)) (hl : lk h id = some (.arr ⟨false, false⟩ sz E (a.map f))) (hy : aev s y = some z) (hsrc : asrc h sz z = some (b.map f))
    (hbig : (a.length + b.length) * bz ≤ 140737488355328)
    (hks : killSL [id] s = some s1) (hkh : killHL [id] h = some h1) (hh : sput (dropH [] h1) id (.arr ⟨false, false⟩ sz E ((a ++ b).map f)) = some h') (hN : Nat.blt d N = true) (hs : sput s1 d (.ow id) = some s')
    (k : TL P F N ops rest K ⟨s', h'⟩) : TL P F N ops (⟨some d, .call ⟨.builtin .append, #[x, y], #[t, t]⟩, ty, pos, after, none⟩ :: rest) K ⟨s, h⟩ :=
  TL_append ht hz hzs hsz hb hx hl hy hsrc (by simpa using hbig) hks hkh (by rw [← List.map_append]; exact hh) hN hs k

theorem TL_appendDT {α : Type} {f : α → AV} {t E E2 : TypeId} {sz bz id2 : Nat} {p2 : Bool} {zv : Value} {a b : List α}
    (ht : tyElem P t = some (E, sz)) (hz : tyZero P E = some (zv, sz, bz)) (hzs : Nat.beq zv.cells.size sz = true)
    (hsz : Nat.blt 0 sz = true) (hb : Nat.blt 0 bz = true) (hx : aev s x = some (.ow id)) (hl : lk h id = some (.arr ⟨false, true⟩ sz E (a.map f))) (hy : aev s y = some (.ow id2)) (hl2 : lk h id2 = some (.arr ⟨p2, true⟩ sz E2 (b.map f)))
    (hne : Nat.beq id id2 = false) (hF2 : lk F.η id2 = none)
    (hbig : (a.length + b.length) * bz ≤ 140737488355328)
    (hks : killSL [id, id2] s = some s1) (hkh : killHL [id, id2] h = some h1) (hh : sput (dropH [id2] h1) id (.arr ⟨false, true⟩ sz E ((a ++ b).map f)) = some h') (hN : Nat.blt d N = true) (hs : sput s1 d (.ow id) = some s')
    (k : TL P F N ops rest K ⟨s', h'⟩) : TL P F N ops (⟨some d, .call ⟨.builtin .append, #[x, y], #[t, t]⟩, ty, pos, after, none⟩ :: rest) K ⟨s, h⟩ :=
  TL_appendD ht hz hzs hsz hb hx hl hy hl2 hne hF2 (by simpa using hbig) hks hkh (by rw [← List.map_append]; exact hh) hN hs k

/-- A store into an array of trees. -/
theorem TL_storeT {α : Type} {f : α → AV} {t n sz k0 off : Nat} {p : Bool} {E : TypeId} {z : AV} {a : List α} {v : α} {ec zc ec' : List AV} (hs : tySize P t = some n) (hx : aev s x = some (.ptr id k0 off))
    (hl : lk h id = some (.arr ⟨p, false⟩ sz E (a.map f))) (hg : a[k0]? = some v) {v' : α} (hec : cellsO (f v) = some ec) (hy : aev s y = some z) (hj : isJunk z = false) (hnoi : noIds z = true) (hc : cellsO z = some zc)
    (hn : Nat.beq zc.length n = true) (hone : zc.all one = true) (hset : setO ec off zc = some ec') (hec' : cellsO (f v') = some ec')
    (hh : sput h id (.arr ⟨p, false⟩ sz E ((a.set k0 v').map f)) = some h') (k : TL P F N ops rest K ⟨s, h'⟩) :
    TL P F N ops (⟨none, .store t x y, ty, pos, after, none⟩ :: rest) K ⟨s, h⟩ := by
  refine TL_skip rfl rfl (fun φ a' w hr => ?_) k
  obtain rfl := cellsO_eq hec
  have hee := cellsO_eq hec'
  obtain ⟨rfl, hlen⟩ := setO_eq hset
  have he := get_map (f := f) hg
  have hek : (f v).cells.length = sz := (hr.heap.obj _ _ hl).2.1 _ (List.mem_of_getElem? he)
  rw [List.map_set] at hh
  exact hr.storeArr hs hx hl he hy hj hnoi hc ((beq_iff _ _).1 hn) hone hee.symm (by omega) hh

theorem TL_storeFT {α : Type} {f : α → AV} {t n sz k0 off : Nat} {p : Bool} {E : TypeId} {z : AV} {a : List α} {v : α} {ec zc ec' : List AV} (hs : tySize P t = some n) (hx : aev s x = some (.ptr id k0 off))
    (hl : lk h id = some (.arr ⟨p, true⟩ sz E (a.map f))) (hg : a[k0]? = some v) {v' : α} (hec : cellsO (f v) = some ec) (hy : aev s y = some z) (hj : isJunk z = false) (hc : cellsO z = some zc) (hn : Nat.beq zc.length n = true)
    (hfl : zc.all flat1 = true) (hset : setO ec off zc = some ec') (hec' : cellsO (f v') = some ec')
    (hh : sput h id (.arr ⟨p, true⟩ sz E ((a.set k0 v').map f)) = some h') (k : TL P F N ops rest K ⟨s, h'⟩) :
    TL P F N ops (⟨none, .store t x y, ty, pos, after, none⟩ :: rest) K ⟨s, h⟩ :=
  TL_storeF hs hx hl (get_map hg) hec hy hj hc hn hfl hset hec' (List.map_set) hh k

theorem TL_storeXT {α : Type} {f : α → AV} {t n sz k0 off : Nat} {E : TypeId} {z : AV} {a : List α} {v : α} {ec zc zy ec' : List AV} {ids : List Nat} (hs : tySize P t = some n) (hx : aev s x = some (.ptr id k0 off))
    (hl : lk h id = some (.arr ⟨false, true⟩ sz E (a.map f))) (hg : a[k0]? = some v) {v' : α} (hec : cellsO (f v) = some ec) (hy : aev s y = some z) (hj : isJunk z = false) (hc : cellsO z = some zc) (hn : Nat.beq zc.length n = true)
    (hab : absL h zc = some (zy, ids)) (hnd : nodupL (id :: ids) = true) (hgF : ∀ j ∈ ids, lk F.η j = none) (hset : setO ec off zy = some ec') (hec' : cellsO (f v') = some ec')
    (hks : killSL ids s = some s1) (hkh : killHL ids h = some h1) (hns : s1.all (fun q => noSub id q.2) = true) (hnh : noSubH id h1 = true)
    (hh : sput (dropH ids h1) id (.arr ⟨false, true⟩ sz E ((a.set k0 v').map f)) = some h') (k : TL P F N ops rest K ⟨s1, h'⟩) :
    TL P F N ops (⟨none, .store t x y, ty, pos, after, none⟩ :: rest) K ⟨s, h⟩ :=
  TL_storeX hs hx hl (get_map hg) hec hy hj hc hn hab hnd hgF hset hec' (List.map_set) hks hkh hns hnh hh k
end
end Go.AM
namespace Go.AM
open Go
/-- Where a struct's fields lie. -/
def tyPlaces (P : Program) (t : TypeId) : Option (List (Nat × Nat)) :=
  match P.underlying t with
  | some (.struct fs) => fs.toList.mapM fun f => (tySize P f.type).map fun n => (f.offset, n)
  | _ => none

theorem run_places {P : Program} : ∀ (l : List Field) (r : List (Nat × Nat)) (w : World), (l.mapM fun f => (tySize P f.type).map fun n => (f.offset, n)) = some r →
    (l.mapM (fun f => do pure (f.offset, ← sizeOf f.type)) : Sem (List (Nat × Nat))).run P w = .ok r w := by
  intro l
  induction l with
  | nil => intro r w h; simp at h; subst h; rfl
  | cons f l ih =>
    intro r w h
    rw [List.mapM_cons] at h ⊢
    cases hf : tySize P f.type with
    | none => rw [hf] at h; cases h
    | some n =>
      rw [hf] at h
      cases hl : (l.mapM fun f => (tySize P f.type).map fun n => (f.offset, n)) with
      | none => simp [hl] at h
      | some r' =>
        simp [hl] at h
        subst h
        simp only [Sem.run_bind, run_size hf, Result.andThen_ok, Sem.run_pure, ih r' w hl]

section
variable {P : Program} {s : Slots} {h : Heap} {dst : Option Tmp} {ty : TypeId} {pos : String} {after : Array Edge} {gd : Option (Nat × Bool)} {t : TypeId}
theorem op_buildP {places : List (Nat × Nat)} {zv : Value} {n b : Nat} {z : AV} {zc r : List AV} {parts : Array (Nat × Operand)} {ps : List (Nat × AV)}
    (hp : tyPlaces P t = some places) (hz : tyZero P t = some (zv, n, b)) (hc : cav zv = some z) (hj : isJunk z = false) (hzc : cellsO z = some zc)
    (ha : aevB s parts.toList = some ps) (hf : bfill places zc ps = some r) : OpP P ⟨dst, .build t parts, ty, pos, after, gd⟩ s h (.agg r) := by
  unfold tyPlaces at hp
  split at hp
  · rename_i fs hu
    refine op_build (places := places.toArray) hu (fun w => ?_) hz hc hj hzc ha (by simpa using hf)
    have := run_places fs.toList places w hp
    rw [Array.mapM_eq_mapM_toList]
    show ((List.mapM (fun f => do pure (f.offset, ← sizeOf f.type)) fs.toList : Sem (List (Nat × Nat))) >>= fun l => pure l.toArray).run P w = _
    rw [Sem.run_bind, this]
    rfl
  · cases hp
end
end Go.AM
