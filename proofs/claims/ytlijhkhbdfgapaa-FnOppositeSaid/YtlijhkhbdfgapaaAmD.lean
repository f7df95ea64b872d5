/- Operations that read memory or reckon with addresses. -/
import Derived.Test.YtlijhkhbdfgapaaAmC
import Derived.Laws.Cells
namespace Go.AM
open Go

def tyAgg (P : Program) (t : TypeId) : Option Bool :=
  (P.underlying t).map fun | .struct _ | .array _ _ => true | _ => false
def tySize (P : Program) (t : TypeId) : Option Nat := (P.info? t).map (·.size)

theorem run_size {P : Program} {t n : Nat} (h : tySize P t = some n) (w : World) : (sizeOf t).run P w = .ok n w := by
  unfold tySize at h
  cases hi : P.info? t with
  | none => simp [hi] at h
  | some i => simp [hi] at h; simp [sizeOf, typeInfo, hi, h]

theorem run_agg {P : Program} {t : Nat} {b : Bool} (h : tyAgg P t = some b) (w : World) : (isAgg t).run P w = .ok b w := by
  unfold tyAgg at h
  cases hu : P.underlying t with
  | none => simp [hu] at h
  | some d =>
    simp [hu] at h
    subst h
    simp only [isAgg, Sem.run_bind, run_underlying hu, Result.andThen_ok]
    cases d <;> rfl

def dropO : List AV → Nat → Option (List AV)
  | l, 0 => some l
  | [], _ + 1 => none
  | _ :: r, n + 1 => dropO r n

def takeO : List AV → Nat → Option (List AV)
  | _, 0 => some []
  | [], _ + 1 => none
  | x :: r, n + 1 => match takeO r n with
    | some l => some (x :: l)
    | none => none

theorem dropO_eq : ∀ {l r : List AV} {n : Nat}, dropO l n = some r → r = l.drop n ∧ n ≤ l.length := by
  intro l
  induction l with
  | nil => intro r n h; cases n with
    | zero => cases h; simp
    | succ n => cases h
  | cons x l ih => intro r n h; cases n with
    | zero => cases h; simp
    | succ n => have := ih (r := r) (n := n) h; simpa using this

theorem takeO_eq : ∀ {l r : List AV} {n : Nat}, takeO l n = some r → r = l.take n ∧ n ≤ l.length := by
  intro l
  induction l with
  | nil => intro r n h; cases n with
    | zero => cases h; simp
    | succ n => cases h
  | cons x l ih =>
    intro r n h
    cases n with
    | zero => cases h; simp
    | succ n =>
      unfold takeO at h
      cases hr : takeO l n with
      | none => simp [hr] at h
      | some l' =>
        simp only [hr, Option.some.injEq] at h
        subst h
        have := ih hr
        simpa using this

/-- The cells that a pointer leads to. -/
def PT (S : Nat → Prop) (w : World) (φ : Nat → Loc) (η : Heap) (v : Value) (cs : List AV) : Prop :=
  ∃ b off, ∃ f : Nat → Value, v = .pointer (some ⟨b, off, none⟩) ∧
    ∀ (j : Nat) x, cs[j]? = some x → w.cell? ⟨b, off + j, none⟩ = some (f j) ∧ RepV S w φ η x (f j)

def acells (h : Heap) : AV → Option (List AV)
  | .cp cs => some cs
  | .ptr id 0 off => match lk h id with
    | some (.box cs) => dropO cs off
    | _ => none
  | _ => none

def cellsO : AV → Option (List AV)
  | .agg cs => some cs
  | v => some [v]

theorem cellsO_eq {e : AV} {cs : List AV} (h : cellsO e = some cs) : cs = e.cells := by
  cases e <;> (cases h; rfl)

theorem cell_at {w : World} {b j : Nat} {C : Array Value} {E : TypeId} {fr : Nat × Nat} (h : w.heap[b]? = some (.cells C E fr)) :
    w.cell? ⟨b, j, none⟩ = C[j]? := by simp [World.cell?, h]

section
variable {S : Nat → Prop} {w : World} {φ : Nat → Loc} {η : Heap}

theorem PT_box (hh : HeapOK S w φ η) {id off : Nat} {v : Value} {cs cs' : List AV} (hv : RepV S w φ η (.ptr id 0 off) v)
    (hl : lk η id = some (.box cs)) (hd : dropO cs off = some cs') : PT S w φ η v cs' := by
  obtain ⟨rfl, hlen⟩ := dropO_eq hd
  obtain ⟨hm, C, E, hC, hsz, hrep⟩ := hh.obj _ _ hl
  have hv' : v = .pointer (some ⟨(φ id).blk, off, none⟩) := by
    cases hv with
    | pure h => cases h
    | box _ _ => rfl
    | elt h _ => rw [hl] at h; cases h
  refine ⟨(φ id).blk, off, fun j => C.getD (off + j) undef, hv', fun j x hx => ?_⟩
  rw [List.getElem?_drop] at hx
  have hlt : off + j < C.size := by
    have := (List.getElem?_eq_some_iff.1 hx).1
    omega
  have hc : C[off + j]? = some (C.getD (off + j) undef) := by simp [hlt]
  exact ⟨by rw [cell_at hC, hc], hrep _ _ _ hx hc⟩

theorem PT_cp {v : Value} {cs : List AV} (hv : RepV S w φ η (.cp cs) v) : PT S w φ η v cs := by
  cases hv with
  | pure h =>
    cases h with
    | cp _ b off f _ hc hr => exact ⟨b, off, f, rfl, fun j x hx => ⟨hc j x hx, .pure (hr j x hx)⟩⟩

theorem PT_of (hh : HeapOK S w φ η) {p : AV} {v : Value} {cs : List AV} (hv : RepV S w φ η p v) (hc : acells η p = some cs) : PT S w φ η v cs := by
  unfold acells at hc
  split at hc
  · cases hc; exact PT_cp hv
  · rename_i id off
    cases hl : lk η id with
    | none => simp [hl] at hc
    | some o =>
      cases o with
      | box cs0 => simp only [hl] at hc; exact PT_box hh hv hl hc
      | arr k sz E es => simp [hl] at hc
  · cases hc

theorem flat_get {sz : Nat} : ∀ {es : List AV}, (∀ e ∈ es, e.cells.length = sz) → ∀ {i j : Nat} {e : AV}, es[i]? = some e → j < sz →
    (flat es)[i * sz + j]? = e.cells[j]? := by
  intro es
  induction es with
  | nil => intro _ i j e h; simp at h
  | cons e0 es ih =>
    intro hl i j e h hj
    have h0 : e0.cells.length = sz := hl e0 (by simp)
    have hfl : flat (e0 :: es) = e0.cells ++ flat es := by simp [flat]
    rw [hfl]
    cases i with
    | zero =>
      simp at h
      subst h
      rw [Nat.zero_mul, Nat.zero_add, List.getElem?_append_left (by omega)]
    | succ i =>
      simp at h
      have hge : sz ≤ (i + 1) * sz + j := by rw [Nat.add_mul]; omega
      rw [List.getElem?_append_right (by omega), h0]
      have : (i + 1) * sz + j - sz = i * sz + j := by rw [Nat.add_mul]; omega
      rw [this]
      exact ih (fun e he => hl e (by simp [he])) h hj

theorem flat_length {sz : Nat} : ∀ {es : List AV}, (∀ e ∈ es, e.cells.length = sz) → (flat es).length = es.length * sz := by
  intro es
  induction es with
  | nil => intro _; simp [flat]
  | cons e0 es ih =>
    intro hl
    have h0 : e0.cells.length = sz := hl e0 (by simp)
    have hfl : flat (e0 :: es) = e0.cells ++ flat es := by simp [flat]
    rw [hfl, List.length_append, h0, ih (fun e he => hl e (by simp [he]))]
    simp [Nat.add_mul]
    omega

/-- Where a part of an element lies. -/
theorem arr_part (hh : HeapOK S w φ η) {id k off sz : Nat} {kd : Kd} {E : TypeId} {es : List AV} {e : AV} {v : Value} {cs cs' : List AV}
    (hv : RepV S w φ η (.ptr id k off) v) (hl : lk η id = some (.arr kd sz E es)) (he : es[k]? = some e) (hc : cellsO e = some cs)
    (hd : dropO cs off = some cs') : (φ id).mat = true ∧ v = .pointer (some ⟨(φ id).blk, k * sz + off, none⟩) ∧ ∃ C, w.heap[(φ id).blk]? = some (.cells C E (0, 0)) ∧ CellsOK kd S w (φ id) (flat es) C ∧
      C.size = (φ id).cap * sz ∧ es.length ≤ (φ id).cap ∧
      ∀ (j : Nat) x, cs'[j]? = some x → (flat es)[k * sz + off + j]? = some x ∧ C[k * sz + off + j]? = some (C.getD (k * sz + off + j) undef) := by
  obtain rfl := cellsO_eq hc
  obtain ⟨rfl, hlen⟩ := dropO_eq hd
  obtain ⟨hsz0, hlens, _, hob⟩ := hh.obj _ _ hl
  have hel : e.cells.length = sz := hlens e (List.mem_of_getElem? he)
  have hv' : v = .pointer (some ⟨(φ id).blk, k * sz + off, none⟩) ∧ (φ id).mat = true := by
    cases hv with
    | pure h => cases h
    | box h _ => rw [hl] at h; cases h
    | elt h hm => rw [hl] at h; cases h; exact ⟨rfl, hm⟩
  rcases hob with ⟨hf, _⟩ | ⟨_, C, hC, hle, hcm, hCs, hrep⟩
  · rw [hv'.2] at hf; cases hf
  have hklt := (List.getElem?_eq_some_iff.1 he).1
  refine ⟨hv'.2, hv'.1, C, hC, hrep, hCs, hle, fun j x hx => ?_⟩
  rw [List.getElem?_drop] at hx
  have hj : off + j < sz := by
    have := (List.getElem?_eq_some_iff.1 hx).1
    omega
  have hfl : (flat es)[k * sz + off + j]? = some x := by
    rw [Nat.add_assoc, flat_get hlens he hj]; exact hx
  have hlt : k * sz + off + j < C.size := by
    have h1 : k * sz + sz ≤ (φ id).cap * sz := by
      rw [← Nat.succ_mul]; exact Nat.mul_le_mul_right _ (by omega)
    omega
  exact ⟨hfl, by simp [hlt]⟩

theorem PT_arr (hh : HeapOK S w φ η) {id k off sz : Nat} {p : Bool} {E : TypeId} {es : List AV} {e : AV} {v : Value} {cs cs' : List AV}
    (hv : RepV S w φ η (.ptr id k off) v) (hl : lk η id = some (.arr ⟨p, false⟩ sz E es)) (he : es[k]? = some e) (hc : cellsO e = some cs)
    (hd : dropO cs off = some cs') : PT S w φ η v cs' := by
  obtain ⟨hm, hv', C, hC, hrep, _, _, hin⟩ := arr_part hh hv hl he hc hd
  refine ⟨(φ id).blk, k * sz + off, fun j => C.getD (k * sz + off + j) undef, hv', fun j x hx => ?_⟩
  obtain ⟨h1, h2⟩ := hin j x hx
  exact ⟨by rw [cell_at hC, h2], .pure (hrep.trees rfl _ _ _ h1 h2)⟩

/-- What a cell of an owned array is, looked at from outside. -/
def dcell (id n : Nat) : AV → AV
  | .sl _ _ => .sub id n
  | .snil => .sub id n
  | x => x
def dcells (id : Nat) : Nat → List AV → List AV
  | _, [] => []
  | n, x :: r => dcell id n x :: dcells id (n + 1) r
theorem dcells_get {id : Nat} : ∀ {l : List AV} {n j : Nat} {y : AV}, (dcells id n l)[j]? = some y → ∃ x, l[j]? = some x ∧ y = dcell id (n + j) x := by
  intro l
  induction l with
  | nil => intro n j y h; simp [dcells] at h
  | cons x r ih =>
    intro n j y h
    cases j with
    | zero => simp [dcells] at h; exact ⟨x, by simp, h.symm⟩
    | succ j =>
      simp [dcells] at h
      obtain ⟨x', h1, h2⟩ := ih h
      exact ⟨x', by simpa using h1, by rw [h2, show n + 1 + j = n + (j + 1) by omega]⟩

theorem PT_arrD (hh : HeapOK S w φ η) {id k off sz : Nat} {p : Bool} {E : TypeId} {es : List AV} {e : AV} {v : Value} {cs cs' : List AV}
    (hv : RepV S w φ η (.ptr id k off) v) (hl : lk η id = some (.arr ⟨p, true⟩ sz E es)) (he : es[k]? = some e) (hc : cellsO e = some cs)
    (hd : dropO cs off = some cs') : PT S w φ η v (dcells id (k * sz + off) cs') := by
  obtain ⟨hm, hv', C, hC, hrep, _, _, hin⟩ := arr_part hh hv hl he hc hd
  refine ⟨(φ id).blk, k * sz + off, fun j => C.getD (k * sz + off + j) undef, hv', fun j y hy => ?_⟩
  obtain ⟨x, hx, rfl⟩ := dcells_get hy
  obtain ⟨h1, h2⟩ := hin j x hx
  refine ⟨by rw [cell_at hC, h2], ?_⟩
  obtain ⟨fps, f1, f2, f3, f4, f5⟩ := (show CellsOK ⟨p, true⟩ S w (φ id) (flat es) C from hrep)
  obtain ⟨fp, hfp⟩ : ∃ fp, fps[k * sz + off + j]? = some fp := by
    have := (List.getElem?_eq_some_iff.1 h1).1
    exact ⟨fps[k * sz + off + j]'(by omega), by simp⟩
  have hlin := f2 _ _ _ _ h1 h2 hfp
  have hsub : isSl x = true → RepV S w φ η (.sub id (k * sz + off + j)) (C.getD (k * sz + off + j) undef) := by
    intro hs
    rw [f5 _ _ _ h1 h2 hs]
    exact .sub hl
  cases x with
  | sl _ _ => exact hsub rfl
  | snil => exact hsub rfl
  | int _ _ => exact .pure (hlin.ofFlat rfl _ _)
  | bool _ => exact .pure (hlin.ofFlat rfl _ _)
  | str _ => exact .pure (hlin.ofFlat rfl _ _)
  | agg cs =>
    have h3 := (hh.obj _ _ hl).2.2.1 _ _ h1
    simp [one] at h3
  | _ => cases hlin

end

section
variable {P : Program} {s : Slots} {h : Heap} {dst : Option Tmp} {ty : TypeId} {pos : String} {after : Array Edge} {gd : Option (Nat × Bool)}
variable {x y : Operand} {t : TypeId}

theorem acells_mono {h h' : Heap} (hh : ∀ id ob, lk h id = some ob → lk h' id = some ob) {p : AV} {cs : List AV} (hc : acells h p = some cs) : acells h' p = some cs := by
  unfold acells at hc ⊢
  split at hc
  · exact hc
  · rename_i id off
    cases hl : lk h id with
    | none => simp [hl] at hc
    | some o => rw [hl] at hc; rw [hh _ _ hl]; exact hc
  · cases hc

theorem run_load1 {w : World} {a : Addr} {u : Value} (h : w.cell? a = some u) : (load a).run P w = .ok u w := by
  simp [h]

theorem _root_.Go.AM.Ext.cell {w w' : World} (h : Ext w w') {b j : Nat} {u : Value} (hc : w.cell? ⟨b, j, none⟩ = some u) : w'.cell? ⟨b, j, none⟩ = some u := by
  have hb : b < w.heap.size := by
    apply Nat.lt_of_not_le
    intro hge
    have : w.heap[b]? = none := Array.getElem?_eq_none hge
    simp [World.cell?, this] at hc
  rw [cell?_eq (h.same b hb)]
  exact hc

/-- A load of one cell. -/
theorem load_one {S : Nat → Prop} {w : World} {φ : Nat → Loc} {η : Heap} {v : Value} {c : AV} {r : List AV} (hp : PT S w φ η v (c :: r)) (ha : tyAgg P t = some false) :
    ∃ u, (∀ w', Ext w w' → (Instr.loadAt t v).run P w' = .ok u w') ∧ RepV S w φ η c u := by
  obtain ⟨b, off, f, rfl, hf⟩ := hp
  obtain ⟨h1, h2⟩ := hf 0 c (by simp)
  refine ⟨f 0, fun w' hw' => ?_, h2⟩
  have h1 := hw'.cell h1
  simp only [Instr.loadAt, Instr.sureAddr, Sem.run_bind, Sem.run_pure, Result.andThen_ok, loadVar, run_agg ha]
  exact run_load1 (by simpa using h1)

/-- A load of several. -/
theorem load_agg {S : Nat → Prop} {w : World} {φ : Nat → Loc} {η : Heap} {v : Value} {cs cs' : List AV} {n : Nat} (hp : PT S w φ η v cs) (ha : tyAgg P t = some true)
    (hs : tySize P t = some n) (ht : takeO cs n = some cs') :
    ∃ u, (∀ w', Ext w w' → (Instr.loadAt t v).run P w' = .ok u w') ∧ RepV S w φ η (.agg cs') u := by
  obtain ⟨b, off, f, rfl, hf⟩ := hp
  obtain ⟨rfl, hlen⟩ := takeO_eq ht
  refine ⟨.agg ((List.range n).map f).toArray, fun w' hw' => ?_, .agg _ _ (by simp; omega) (fun i x v hx hv => ?_)⟩
  · have hcell : ∀ j, j < n → w'.cell? ((⟨b, off, none⟩ : Addr).add j) = some (f j) := by
      intro j hj
      have : ∃ x, cs[j]? = some x := ⟨cs[j], by simp⟩
      obtain ⟨x, hx⟩ := this
      rw [Addr.add_lit]
      exact hw'.cell (hf j x hx).1
    have hrun := run_loadCells (P := P) w' ⟨b, off, none⟩ n f hcell
    simp only [Instr.loadAt, Instr.sureAddr, Sem.run_bind, Sem.run_pure, Result.andThen_ok, loadVar, run_agg ha, run_size hs, if_true, hrun]
  · rw [List.getElem?_take] at hx
    split at hx
    · rename_i hi
      have := (hf i x hx).2
      have e : v = f i := by
        simp [hi] at hv
        exact hv.symm
      rw [e]; exact this
    · cases hx

theorem exec_load (ρ : Operand → Value) : execOp ρ ⟨dst, .load t x, ty, pos, after, gd⟩ = (do pure (.value (← Instr.loadAt t (ρ x)))) := rfl

theorem op_load_one {p c : AV} {r : List AV} (ha : tyAgg P t = some false) (hx : aev s x = some p) (hc : acells h p = some (c :: r)) :
    OpP P ⟨dst, .load t x, ty, pos, after, gd⟩ s h c := by
  intro S w φ η ρ hh hη hρ
  obtain ⟨u, hu, hr⟩ := load_one (P := P) (PT_of hh (hρ _ _ hx) (acells_mono hη hc)) ha
  exact ⟨u, fun w' hw' => by simp only [exec_load, Sem.run_bind, hu w' (hw'.resolve_left (fun h => by cases h)), Result.andThen_ok, Sem.run_pure], hr⟩

theorem op_load_agg {p : AV} {cs cs' : List AV} {n : Nat} (ha : tyAgg P t = some true) (hs : tySize P t = some n) (hx : aev s x = some p) (hc : acells h p = some cs)
    (ht : takeO cs n = some cs') : OpP P ⟨dst, .load t x, ty, pos, after, gd⟩ s h (.agg cs') := by
  intro S w φ η ρ hh hη hρ
  obtain ⟨u, hu, hr⟩ := load_agg (P := P) (PT_of hh (hρ _ _ hx) (acells_mono hη hc)) ha hs ht
  exact ⟨u, fun w' hw' => by simp only [exec_load, Sem.run_bind, hu w' (hw'.resolve_left (fun h => by cases h)), Result.andThen_ok, Sem.run_pure], hr⟩

/-- Loads out of an array of the machine's own. -/
theorem op_load_arr1 {id k off sz : Nat} {p : Bool} {E : TypeId} {es : List AV} {e c : AV} {cs r : List AV} (ha : tyAgg P t = some false) (hx : aev s x = some (.ptr id k off))
    (hl : lk h id = some (.arr ⟨p, false⟩ sz E es)) (he : es[k]? = some e) (hc : cellsO e = some cs) (hd : dropO cs off = some (c :: r)) :
    OpP P ⟨dst, .load t x, ty, pos, after, gd⟩ s h c := by
  intro S w φ η ρ hh hη hρ
  obtain ⟨u, hu, hr⟩ := load_one (P := P) (PT_arr hh (hρ _ _ hx) (hη _ _ hl) he hc hd) ha
  exact ⟨u, fun w' hw => by simp only [exec_load, Sem.run_bind, hu w' (by simpa [looks] using hw), Result.andThen_ok, Sem.run_pure], hr⟩

theorem op_load_arrN {id k off sz n : Nat} {p : Bool} {E : TypeId} {es : List AV} {e : AV} {cs cs1 cs' : List AV} (ha : tyAgg P t = some true) (hs : tySize P t = some n)
    (hx : aev s x = some (.ptr id k off)) (hl : lk h id = some (.arr ⟨p, false⟩ sz E es)) (he : es[k]? = some e) (hc : cellsO e = some cs) (hd : dropO cs off = some cs1)
    (ht : takeO cs1 n = some cs') : OpP P ⟨dst, .load t x, ty, pos, after, gd⟩ s h (.agg cs') := by
  intro S w φ η ρ hh hη hρ
  obtain ⟨u, hu, hr⟩ := load_agg (P := P) (PT_arr hh (hρ _ _ hx) (hη _ _ hl) he hc hd) ha hs ht
  exact ⟨u, fun w' hw => by simp only [exec_load, Sem.run_bind, hu w' (by simpa [looks] using hw), Result.andThen_ok, Sem.run_pure], hr⟩

/-- Loads out of an owned array: the slices within come as handles. -/
theorem op_load_arrD1 {id k off sz n : Nat} {p : Bool} {E : TypeId} {es : List AV} {e c c' : AV} {cs r : List AV} (ha : tyAgg P t = some false) (hx : aev s x = some (.ptr id k off))
    (hl : lk h id = some (.arr ⟨p, true⟩ sz E es)) (he : es[k]? = some e) (hc : cellsO e = some cs) (hd : dropO cs off = some (c :: r)) (hn : n = k * sz + off) (hcc : dcell id n c = c') :
    OpP P ⟨dst, .load t x, ty, pos, after, gd⟩ s h c' := by
  intro S w φ η ρ hh hη hρ
  subst hn hcc
  obtain ⟨u, hu, hr⟩ := load_one (P := P) (PT_arrD hh (hρ _ _ hx) (hη _ _ hl) he hc hd) ha
  exact ⟨u, fun w' hw => by simp only [exec_load, Sem.run_bind, hu w' (by simpa [looks] using hw), Result.andThen_ok, Sem.run_pure], hr⟩

theorem op_load_arrDN {id k off sz n m : Nat} {p : Bool} {E : TypeId} {es : List AV} {e : AV} {cs cs1 cs' : List AV} (ha : tyAgg P t = some true) (hs : tySize P t = some n)
    (hx : aev s x = some (.ptr id k off)) (hl : lk h id = some (.arr ⟨p, true⟩ sz E es)) (he : es[k]? = some e) (hc : cellsO e = some cs) (hd : dropO cs off = some cs1) (hm : m = k * sz + off)
    (ht : takeO (dcells id m cs1) n = some cs') : OpP P ⟨dst, .load t x, ty, pos, after, gd⟩ s h (.agg cs') := by
  intro S w φ η ρ hh hη hρ
  subst hm
  obtain ⟨u, hu, hr⟩ := load_agg (P := P) (PT_arrD hh (hρ _ _ hx) (hη _ _ hl) he hc hd) ha hs ht
  exact ⟨u, fun w' hw => by simp only [exec_load, Sem.run_bind, hu w' (by simpa [looks] using hw), Result.andThen_ok, Sem.run_pure], hr⟩

/-! ### Addresses -/

theorem exec_nilCheck (ρ : Operand → Value) : execOp ρ ⟨dst, .nilCheck x, ty, pos, after, gd⟩ = (match ρ x with
    | .pointer none | .nilIface | .nilFunc => runtimePanic .nilDeref
    | .func (.method name) first captured =>
      match (first[0]? : Option Value) with
      | some .nilIface => runtimePanic .nilDeref
      | some (.iface t w) => do
        if (← nilAhead ((← program).types.size + Made.depth) t w name) != some false then
          unsupported (.noEntry "op/nilCheck.the method's receiver behind this interface value is a nil pointer, or cannot be seen to be none, and the arguments act or may panic (ledger 612)")
        pure (.value (.func (.method name) first captured))
      | _ => pure (.value (.func (.method name) first captured))
    | x => pure (.value x)) := rfl

def isPtr : AV → Bool
  | .cp _ => true
  | .ptr _ _ _ => true
  | _ => false

theorem RepV.ptr_inv {S : Nat → Prop} {w : World} {φ : Nat → Loc} {η : Heap} {p : AV} {v : Value} (h : RepV S w φ η p v) (hp : isPtr p = true) :
    ∃ b off, v = .pointer (some ⟨b, off, none⟩) := by
  cases h with
  | pure h => cases h <;> first | (cases hp; done) | exact ⟨_, _, rfl⟩
  | box _ _ => exact ⟨_, _, rfl⟩
  | elt _ _ => exact ⟨_, _, rfl⟩
  | _ => cases hp

theorem op_nilCheck {p : AV} (hx : aev s x = some p) (hp : isPtr p = true) : OpP P ⟨dst, .nilCheck x, ty, pos, after, gd⟩ s h p := by
  intro S w φ η ρ hh hη hρ
  obtain ⟨b, off, e⟩ := (hρ _ _ hx).ptr_inv hp
  refine ⟨ρ x, fun w _ => ?_, hρ _ _ hx⟩
  rw [exec_nilCheck, e]
  rfl

theorem exec_fieldAddr (ρ : Operand → Value) (f : Nat) : execOp ρ ⟨dst, .fieldAddr t x f, ty, pos, after, gd⟩ = (do pure (.value (← Instr.fieldAt t (ρ x) f))) := rfl

def afield (off : Nat) : AV → Option AV
  | .cp cs => match dropO cs off with
    | some cs' => some (.cp cs')
    | none => none
  | .ptr id k o => some (.ptr id k (o + off))
  | _ => none

/-- Where a field lies, and that it has cells. -/
def tyField (P : Program) (t : TypeId) (f : Nat) : Option Nat :=
  match P.underlying t with
  | some (.struct fs) => match fs[f]? with
    | some g => match tySize P g.type with
      | some (_ + 1) => some g.offset
      | _ => none
    | none => none
  | _ => none

theorem run_fieldAt {w : World} {b off o f : Nat} (hf : tyField P t f = some o) :
    (Instr.fieldAt t (.pointer (some ⟨b, off, none⟩)) f).run P w = .ok (.pointer (some ⟨b, off + o, none⟩)) w := by
  unfold tyField at hf
  cases hu : P.underlying t with
  | none => simp [hu] at hf
  | some d =>
    rw [hu] at hf
    cases d <;> simp only [reduceCtorEq] at hf
    rename_i fs
    cases hg : fs[f]? with
    | none => simp [hg] at hf
    | some g =>
      simp only [hg] at hf
      cases hz : tySize P g.type with
      | none => simp [hz] at hf
      | some n =>
        cases n with
        | zero => simp [hz] at hf
        | succ n =>
          simp only [hz, Option.some.injEq] at hf
          subst hf
          simp only [Instr.fieldAt, Sem.run_bind, run_underlying hu, Result.andThen_ok, hg, Instr.sureAddr, Sem.run_pure, fieldPlace, run_size hz]
          simp [Addr.add_lit]

theorem op_fieldAddr {p q : AV} {f o : Nat} (hf : tyField P t f = some o) (hx : aev s x = some p) (hq : afield o p = some q) :
    OpP P ⟨dst, .fieldAddr t x f, ty, pos, after, gd⟩ s h q := by
  intro S w φ η ρ hh hη hρ
  have hv := hρ _ _ hx
  suffices hsuff : ∃ b off, ρ x = .pointer (some ⟨b, off, none⟩) ∧ RepV S w φ η q (.pointer (some ⟨b, off + o, none⟩)) by
    obtain ⟨b, off, e, hr⟩ := hsuff
    exact ⟨_, fun w _ => by simp only [exec_fieldAddr, e, Sem.run_bind, run_fieldAt hf, Result.andThen_ok, Sem.run_pure], hr⟩
  unfold afield at hq
  split at hq
  · rename_i cs
    cases hd : dropO cs o with
    | none => simp [hd] at hq
    | some cs' =>
      simp only [hd, Option.some.injEq] at hq
      subst hq
      obtain ⟨rfl, hlen⟩ := dropO_eq hd
      generalize ρ x = v at hv
      cases hv with
      | pure hv =>
        cases hv with
        | cp _ b off f hb hc hr =>
          refine ⟨b, off, rfl, .pure (.cp _ b (off + o) (fun j => f (o + j)) hb (fun j x hx => ?_) (fun j x hx => ?_))⟩
          · rw [List.getElem?_drop] at hx
            rw [Nat.add_assoc]; exact hc _ _ hx
          · rw [List.getElem?_drop] at hx
            exact hr _ _ hx
  · rename_i id k o'
    cases hq
    generalize ρ x = v at hv
    cases hv with
    | pure hv => cases hv
    | box h1 h2 => exact ⟨_, _, rfl, .box h1 h2⟩
    | elt h1 h2 =>
      refine ⟨_, _, rfl, ?_⟩
      rw [Nat.add_assoc]
      exact .elt h1 h2
  · cases hq

theorem exec_indexAddr (ρ : Operand → Value) : execOp ρ ⟨dst, .indexAddr t x y, ty, pos, after, gd⟩ = (do pure (.value (← Instr.indexAt t (ρ x) (ρ y)))) := rfl

/-- The size of a slice type's elements. -/
def tyElem (P : Program) (t : TypeId) : Option (TypeId × Nat) :=
  match P.underlying t with
  | some (.slice e) => match tySize P e with
    | some n => some (e, n)
    | none => none
  | _ => none

theorem tyElem_inv {e : TypeId} {n : Nat} (h : tyElem P t = some (e, n)) : P.underlying t = some (.slice e) ∧ tySize P e = some n := by
  unfold tyElem at h
  cases hu : P.underlying t with
  | none => simp [hu] at h
  | some d =>
    rw [hu] at h
    cases d <;> simp only [reduceCtorEq] at h
    rename_i e'
    cases hz : tySize P e' with
    | none => simp [hz] at h
    | some m =>
      simp only [hz, Option.some.injEq, Prod.mk.injEq] at h
      obtain ⟨rfl, rfl⟩ := h
      exact ⟨rfl, hz⟩

theorem run_indexAt {w : World} {e : TypeId} {n len cap i : Nat} {b off : Nat} {k : IntKind} (ht : tyElem P t = some (e, n)) (hi : i < len) :
    (Instr.indexAt t (.slice (some ⟨b, off, none⟩) len cap) (.int k (i : Int))).run P w = .ok (.pointer (some ⟨b, off + i * n, none⟩)) w := by
  obtain ⟨hu, hz⟩ := tyElem_inv ht
  have h1 : (0 : Int) ≤ (i : Int) ∧ (i : Int) < (len : Int) := ⟨Int.natCast_nonneg i, by exact_mod_cast hi⟩
  simp only [Instr.indexAt, asIntOf, Sem.run_bind, Sem.run_pure, Result.andThen_ok, run_underlying hu]
  rw [if_pos h1]
  simp only [Sem.run_bind, Sem.run_pure, Result.andThen_ok, run_size hz, Int.toNat_natCast, Addr.add_lit]

/-- The address of an element of a tree. -/
theorem op_index_sl {sz i : Nat} {E : TypeId} {es : List AV} {e : AV} {cs : List AV} {k : IntKind} {a : Int} (ht : tyElem P t = some (E, sz))
    (hx : aev s x = some (.sl sz es)) (hy : aev s y = some (.int k a)) (hi : a = (i : Int)) (he : es[i]? = some e) (hc : cellsO e = some cs) :
    OpP P ⟨dst, .indexAddr t x y, ty, pos, after, gd⟩ s h (.cp cs) := by
  intro S w φ η ρ hh hη hρ
  have hv := hρ _ _ hx
  have hy := (hρ _ _ hy).int_inv
  obtain rfl := cellsO_eq hc
  subst hi
  have hlt := (List.getElem?_eq_some_iff.1 he).1
  rw [exec_indexAddr, hy]
  generalize ρ x = v at hv
  cases hv with
  | pure hv =>
    cases hv with
    | sl0 _ a cap _ => simp at hlt
    | sl _ _ b off cap f hne hb hcap hm hsz hlens _ hcell hrep =>
      refine ⟨.pointer (some ⟨b, off + i * sz, none⟩), fun w _ => ?_, .pure (.cp _ b _ (fun j => f (i * sz + j)) hb (fun j u hu => ?_) (fun j u hu => ?_))⟩
      · simp only [Sem.run_bind, run_indexAt ht hlt, Result.andThen_ok, Sem.run_pure]
      · have hj : j < sz := by
          have := (List.getElem?_eq_some_iff.1 hu).1
          have := hlens e (List.mem_of_getElem? he)
          omega
        rw [Nat.add_assoc]
        exact hcell _ u (by rw [flat_get hlens he hj]; exact hu)
      · have hj : j < sz := by
          have := (List.getElem?_eq_some_iff.1 hu).1
          have := hlens e (List.mem_of_getElem? he)
          omega
        exact hrep _ u (by rw [flat_get hlens he hj]; exact hu)

/-- The address of an element of an array of the machine's own. -/
theorem op_index_ow {id sz i : Nat} {kd : Kd} {E E' : TypeId} {es : List AV} {k : IntKind} {a : Int} (ht : tyElem P t = some (E, sz))
    (hx : aev s x = some (.ow id)) (hl : lk h id = some (.arr kd sz E' es)) (hy : aev s y = some (.int k a)) (hi : a = (i : Int)) (he : i < es.length) :
    OpP P ⟨dst, .indexAddr t x y, ty, pos, after, gd⟩ s h (.ptr id i 0) := by
  intro S w φ η ρ hh hη hρ
  have hv := hρ _ _ hx
  have hy := (hρ _ _ hy).int_inv
  have hl' := hη _ _ hl
  subst hi
  rw [exec_indexAddr, hy]
  generalize ρ x = v at hv
  cases hv with
  | pure hv => cases hv
  | ow0 h1 h2 => rw [hl'] at h1; cases h1; simp at he
  | ow h1 h2 =>
    rw [hl'] at h1
    cases h1
    refine ⟨.pointer (some ⟨(φ id).blk, 0 + i * sz, none⟩), fun w _ => ?_, ?_⟩
    · simp only [Sem.run_bind, run_indexAt ht he, Result.andThen_ok, Sem.run_pure]
    · have := RepV.elt (S := S) (w := w) (φ := φ) (k := i) (off := 0) hl' h2
      rw [Nat.zero_add, ← Nat.add_zero (i * sz)]
      exact this

/-! ### Lengths -/

theorem run_len_slice {w : World} {e : TypeId} {a : Option Addr} {n c : Nat} (hu : P.underlying t = some (.slice e)) :
    (Builtin.len_ #[t] ty #[Value.slice a n c]).run P w = .ok (.int .i64 n) w := by
  unfold Builtin.len_
  simp [run_underlying hu, goInt]

theorem RepV.sl_inv {S : Nat → Prop} {w : World} {φ : Nat → Loc} {η : Heap} {sz : Nat} {es : List AV} {v : Value} (h : RepV S w φ η (.sl sz es) v) :
    ∃ a cap, v = .slice a es.length cap := by
  cases h with
  | pure h => cases h <;> exact ⟨_, _, rfl⟩

theorem RepV.ow_inv {S : Nat → Prop} {w : World} {φ : Nat → Loc} {η : Heap} {id sz : Nat} {k : Kd} {E : TypeId} {es : List AV} {v : Value} (h : RepV S w φ η (.ow id) v)
    (hl : lk η id = some (.arr k sz E es)) : ((φ id).mat = true ∧ v = .slice (some ⟨(φ id).blk, 0, none⟩) es.length (φ id).cap) ∨ ((φ id).mat = false ∧ es = [] ∧ v = .slice (φ id).va 0 0) := by
  cases h with
  | pure h => cases h
  | ow h1 h2 => rw [hl] at h1; cases h1; exact .inl ⟨h2, rfl⟩
  | ow0 h1 h2 => rw [hl] at h1; cases h1; exact .inr ⟨h2, rfl, rfl⟩

theorem op_len_sl {sz : Nat} {es : List AV} {e : TypeId} (hu : P.underlying t = some (.slice e)) (hx : aev s x = some (.sl sz es)) :
    OpP P ⟨dst, .call ⟨.builtin .len, #[x], #[t]⟩, ty, pos, after, gd⟩ s h (.int .i64 es.length) := by
  intro S w φ η ρ hh hη hρ
  obtain ⟨a, cap, hv⟩ := (hρ _ _ hx).sl_inv
  exact ⟨.int .i64 es.length, fun w _ => by simp only [exec_len, hv, run_len_slice hu, Sem.run_bind, Sem.run_pure, Result.andThen_ok], .pure (.int _ _)⟩

theorem op_len_snil {e : TypeId} (hu : P.underlying t = some (.slice e)) (hx : aev s x = some .snil) :
    OpP P ⟨dst, .call ⟨.builtin .len, #[x], #[t]⟩, ty, pos, after, gd⟩ s h (.int .i64 0) := by
  intro S w φ η ρ hh hη hρ
  have hv : ρ x = .slice none 0 0 := by
    have := hρ _ _ hx
    generalize ρ x = v at this
    cases this with
    | pure h => cases h; rfl
  exact ⟨.int .i64 0, fun w _ => by simp only [exec_len, hv, run_len_slice hu, Sem.run_bind, Sem.run_pure, Result.andThen_ok]; rfl, .pure (.int _ _)⟩

theorem op_len_ow {id sz : Nat} {k : Kd} {E : TypeId} {es : List AV} {e : TypeId} (hu : P.underlying t = some (.slice e)) (hx : aev s x = some (.ow id)) (hl : lk h id = some (.arr k sz E es)) :
    OpP P ⟨dst, .call ⟨.builtin .len, #[x], #[t]⟩, ty, pos, after, gd⟩ s h (.int .i64 es.length) := by
  intro S w φ η ρ hh hη hρ
  refine ⟨.int .i64 es.length, fun w _ => ?_, .pure (.int _ _)⟩
  rcases (hρ _ _ hx).ow_inv (hη _ _ hl) with ⟨_, hv⟩ | ⟨_, rfl, hv⟩
  · simp only [exec_len, hv, run_len_slice hu, Sem.run_bind, Sem.run_pure, Result.andThen_ok]
  · simp only [exec_len, hv, run_len_slice hu, Sem.run_bind, Sem.run_pure, Result.andThen_ok]; rfl

theorem op_len_agg {n : Nat} {e : TypeId} (hu : P.underlying t = some (.array n e)) :
    OpP P ⟨dst, .call ⟨.builtin .len, #[x], #[t]⟩, ty, pos, after, gd⟩ s h (.int .i64 n) := by
  intro S w φ η ρ hh hη hρ
  refine ⟨.int .i64 n, fun w _ => ?_, .pure (.int _ _)⟩
  have r : (Builtin.len_ #[t] ty #[ρ x]).run P w = .ok (.int .i64 n) w := by
    unfold Builtin.len_
    simp [run_underlying hu, goInt]
  simp only [exec_len, r, Sem.run_bind, Sem.run_pure, Result.andThen_ok]

/-! ### Parts of slices and strings -/

theorem exec_slice (ρ : Operand → Value) (lo hi mx : Option Operand) : execOp ρ ⟨dst, .slice t x lo hi mx, ty, pos, after, gd⟩ =
    (do pure (.value (← Instr.sliceAt t (ρ x) (lo.map ρ) (hi.map ρ) (mx.map ρ)))) := rfl

theorem run_bound {w : World} {k : IntKind} {l y : Nat} {code : BoundsCode} (hl : l ≤ y) : (Instr.sliceBound (.int k (l : Int)) y code).run P w = .ok l w := by
  have h1 : (0 : Int) ≤ (l : Int) ∧ (l : Int) ≤ (y : Int) := ⟨Int.natCast_nonneg l, by exact_mod_cast hl⟩
  simp only [Instr.sliceBound, asIntOf, Sem.run_bind, Sem.run_pure, Result.andThen_ok, if_pos h1, Int.toNat_natCast]

/-- The two bounds of a slice expression. -/
def Bnds (s : Slots) (len : Nat) (lo hi : Option Operand) (l u : Nat) : Prop :=
  (match lo with
   | none => l = 0
   | some y => ∃ k, aev s y = some (.int k (l : Int))) ∧
  (match hi with
   | none => u = len
   | some y => ∃ k, aev s y = some (.int k (u : Int)))

theorem run_bounds (w' : World) {S : Nat → Prop} {w : World} {φ : Nat → Loc} {η : Heap} {ρ : Operand → Value} {isS : Bool} {len cap : Nat} {lo hi : Option Operand} {l u : Nat}
    (hρ : ∀ y z, aev s y = some z → RepV S w φ η z (ρ y)) (hb : Bnds s len lo hi l u) (hlu : l ≤ u) (hu : u ≤ cap) :
    (Instr.sliceBounds isS len cap (lo.map ρ) (hi.map ρ) none).run P w' = .ok (l, u, cap) w' := by
  obtain ⟨h1, h2⟩ := hb
  unfold Instr.sliceBounds
  cases hi with
  | none =>
    simp only at h2
    subst h2
    cases lo with
    | none =>
      simp only at h1
      subst h1
      simp
    | some y =>
      obtain ⟨k, hy⟩ := h1
      have := (hρ _ _ hy).int_inv
      simp [this, run_bound hlu]
  | some z =>
    obtain ⟨k', hz⟩ := h2
    have hz' := (hρ _ _ hz).int_inv
    cases lo with
    | none =>
      simp only at h1
      subst h1
      simp [hz', run_bound hu]
    | some y =>
      obtain ⟨k, hy⟩ := h1
      have := (hρ _ _ hy).int_inv
      simp [this, hz', run_bound hu, run_bound hlu]

theorem run_slice_slice {w : World} {e : TypeId} {n l u len cap : Nat} {a : Option Addr} {lo hi : Option Value} (ht : tyElem P t = some (e, n))
    (hb : (Instr.sliceBounds true len cap lo hi none).run P w = .ok (l, u, cap) w) :
    (Instr.sliceAt t (.slice a len cap) lo hi none).run P w = .ok (.slice (if cap = l then a else a.map (·.add (l * n))) (u - l) (cap - l)) w := by
  obtain ⟨hu, hz⟩ := tyElem_inv ht
  unfold Instr.sliceAt Instr.slice
  simp only [Sem.run_bind, run_underlying hu, Result.andThen_ok, hb, run_size hz, Sem.run_pure]

/-- A part of a tree. -/
theorem op_slice_sl {sz l u : Nat} {E : TypeId} {es : List AV} {lo hi : Option Operand} (ht : tyElem P t = some (E, sz))
    (hx : aev s x = some (.sl sz es)) (hb : Bnds s es.length lo hi l u) (hlu : l ≤ u) (hu : u ≤ es.length) :
    OpP P ⟨dst, .slice t x lo hi none, ty, pos, after, gd⟩ s h (.sl sz ((es.drop l).take (u - l))) := by
  intro S w φ η ρ hh hη hρ
  have hv := hρ _ _ hx
  rw [exec_slice]
  generalize ρ x = v at hv
  cases hv with
  | pure hv =>
    cases hv with
    | sl0 _ a cap h0 =>
      simp at hu
      obtain rfl : u = 0 := by omega
      obtain rfl : l = 0 := by omega
      have hbr := fun w' => run_bounds w' (P := P) (isS := true) (cap := cap) hρ hb hlu (by omega)
      simp only [List.length_nil] at hbr
      refine ⟨_, fun w _ => by simp only [Option.map_none, Sem.run_bind, run_slice_slice ht (hbr w), Result.andThen_ok, Sem.run_pure]; rfl, ?_⟩
      simp only [List.drop_zero, Nat.sub_zero, List.take_zero]
      refine .pure (.sl0 _ _ _ (fun hn => ?_))
      split at hn
      · exact h0 hn
      · cases a with
        | none => exact h0 rfl
        | some _ => cases hn
    | sl _ _ b off cap f hne hS hcap hm hsz hlens hone hcell hrep =>
      have hbr := fun w' => run_bounds w' (P := P) (isS := true) (cap := cap) hρ hb hlu (by omega)
      refine ⟨_, fun w _ => by simp only [Option.map_none, Sem.run_bind, run_slice_slice ht (hbr w), Result.andThen_ok, Sem.run_pure]; rfl, ?_⟩
      have hlen : ((es.drop l).take (u - l)).length = u - l := by simp; omega
      by_cases hlt : l = u
      · subst hlt
        have : (es.drop l).take (l - l) = [] := by simp
        rw [this]
        simp only [Nat.sub_self]
        exact .pure (.sl0 _ _ _ (fun hn => by split at hn <;> cases hn))
      · have hcl : cap ≠ l := by omega
        have hflat : ∀ (j : Nat) z, (flat ((es.drop l).take (u - l)))[j]? = some z → (flat es)[l * sz + j]? = some z := by
          intro j z hz
          have hl2 : ∀ e ∈ (es.drop l).take (u - l), e.cells.length = sz := fun e he => hlens e (List.mem_of_mem_drop (List.mem_of_mem_take he))
          have hj := (List.getElem?_eq_some_iff.1 hz).1
          rw [flat_length hl2, hlen] at hj
          have hq : j / sz < u - l := by rw [Nat.div_lt_iff_lt_mul hsz]; exact hj
          have hm' : j % sz < sz := Nat.mod_lt _ hsz
          have hdm : j / sz * sz + j % sz = j := by rw [Nat.mul_comm]; exact Nat.div_add_mod j sz
          obtain ⟨e, he⟩ : ∃ e, es[l + j / sz]? = some e := ⟨es[l + j / sz]'(by omega), by simp⟩
          have he2 : ((es.drop l).take (u - l))[j / sz]? = some e := by
            rw [List.getElem?_take, if_pos hq, List.getElem?_drop]; exact he
          rw [← hdm, flat_get hl2 he2 hm'] at hz
          have : l * sz + j = (l + j / sz) * sz + j % sz := by rw [Nat.add_mul]; omega
          rw [this, flat_get hlens he hm']
          exact hz
        rw [if_neg hcl]
        simp only [Option.map_some, Addr.add_lit]
        have hres := RepT.sl (S := S) (w := w) sz ((es.drop l).take (u - l)) b (off + l * sz) (cap - l) (fun j => f (l * sz + j))
          (by intro h0; rw [h0] at hlen; simp at hlen; omega) hS (by omega) (by omega) hsz
          (fun e he => hlens e (List.mem_of_mem_drop (List.mem_of_mem_take he))) (fun j z hz => hone _ z (hflat j z hz))
          (fun j z hz => by rw [Nat.add_assoc]; exact hcell _ z (hflat j z hz)) (fun j z hz => hrep _ z (hflat j z hz))
        rw [hlen] at hres
        exact .pure hres

/-- A part of a string. -/
theorem op_slice_str {l u : Nat} {c : List UInt8} {lo hi : Option Operand} (ht : P.underlying t = some .string)
    (hx : aev s x = some (.str c)) (hb : Bnds s c.length lo hi l u) (hlu : l ≤ u) (hu : u ≤ c.length) :
    OpP P ⟨dst, .slice t x lo hi none, ty, pos, after, gd⟩ s h (.str ((c.drop l).take (u - l))) := by
  intro S w φ η ρ hh hη hρ
  have hv := (hρ _ _ hx).str_inv
  rw [exec_slice, hv]
  have hbr := fun w' => run_bounds w' (P := P) (isS := false) (cap := c.length) hρ hb hlu hu
  refine ⟨.string ⟨((c.drop l).take (u - l)).toArray⟩, fun w _ => ?_, .pure (.str _)⟩
  have e : (ByteArray.mk c.toArray).extract l u = ⟨((c.drop l).take (u - l)).toArray⟩ := by
    apply ByteArray.ext
    rw [ByteArray.data_extract]
    simp [List.extract_toArray]
  unfold Instr.sliceAt Instr.slice
  simp only [Option.map_none, Sem.run_bind, run_underlying ht, Result.andThen_ok, Option.isSome_none, Bool.false_eq_true, if_false, Sem.run_pure, size_mk]
  rw [hbr w]
  simp only [Result.andThen_ok, e]

/-! ### Tuples, functions -/

theorem exec_extract (ρ : Operand → Value) (i : Nat) : execOp ρ ⟨dst, .extract x i, ty, pos, after, gd⟩ = (do pure (.value (← Instr.extract (ρ x) i))) := rfl

def nthO : List AV → Nat → Option AV
  | [], _ => none
  | x :: _, 0 => some x
  | _ :: r, n + 1 => nthO r n

theorem nthO_eq : ∀ {l : List AV} {n : Nat} {x : AV}, nthO l n = some x → l[n]? = some x := by
  intro l
  induction l with
  | nil => intro n x h; cases h
  | cons y l ih => intro n x h; cases n with
    | zero => cases h; rfl
    | succ n => simpa using ih h

theorem RepV.tup_inv {S : Nat → Prop} {w : World} {φ : Nat → Loc} {η : Heap} {vs : List AV} {v : Value} (h : RepV S w φ η (.tup vs) v) :
    ∃ us : Array Value, v = .tuple us ∧ vs.length = us.size ∧ ∀ (i : Nat) x u, vs[i]? = some x → us[i]? = some u → RepV S w φ η x u := by
  cases h with
  | pure h => cases h with
    | tup _ us h1 h2 => exact ⟨us, rfl, h1, fun i x u hx hu => .pure (h2 i x u hx hu)⟩
  | tup _ us h1 h2 => exact ⟨us, rfl, h1, h2⟩

theorem RepV.agg_inv {S : Nat → Prop} {w : World} {φ : Nat → Loc} {η : Heap} {vs : List AV} {v : Value} (h : RepV S w φ η (.agg vs) v) :
    ∃ us : Array Value, v = .agg us ∧ vs.length = us.size ∧ ∀ (i : Nat) x u, vs[i]? = some x → us[i]? = some u → RepV S w φ η x u := by
  cases h with
  | pure h => cases h with
    | agg _ us h1 h2 => exact ⟨us, rfl, h1, fun i x u hx hu => .pure (h2 i x u hx hu)⟩
  | agg _ us h1 h2 => exact ⟨us, rfl, h1, h2⟩

theorem op_extract {vs : List AV} {i : Nat} {z : AV} (hx : aev s x = some (.tup vs)) (hi : nthO vs i = some z) :
    OpP P ⟨dst, .extract x i, ty, pos, after, gd⟩ s h z := by
  intro S w φ η ρ hh hη hρ
  obtain ⟨us, hv, hlen, hrep⟩ := (hρ _ _ hx).tup_inv
  have hi' := nthO_eq hi
  have hlt : i < us.size := by rw [← hlen]; exact (List.getElem?_eq_some_iff.1 hi').1
  refine ⟨us[i], fun w _ => ?_, hrep i z us[i] hi' (by simp)⟩
  rw [exec_extract, hv]
  simp only [Instr.extract, Sem.run_bind]
  rw [show us[i]? = some us[i] from by simp]
  rfl

theorem exec_makeFunc (ρ : Operand → Value) (f : Fn) (as bs : Array Operand) : execOp ρ ⟨dst, .makeFunc f as bs, ty, pos, after, gd⟩ =
    (do pure (.value (← Instr.makeFunc f (as.map ρ) (bs.map ρ)))) := rfl

def aevL (s : Slots) : List Operand → Option (List AV)
  | [] => some []
  | y :: r => match aev s y with
    | some x => match aevL s r with
      | some l => some (x :: l)
      | none => none
    | none => none

theorem aevL_eq : ∀ {l : List Operand} {xs : List AV}, aevL s l = some xs → xs.length = l.length ∧
    ∀ (i : Nat) x, xs[i]? = some x → ∃ y, l[i]? = some y ∧ aev s y = some x := by
  intro l
  induction l with
  | nil => intro xs h; cases h; exact ⟨rfl, fun i x hx => by simp at hx⟩
  | cons y r ih =>
    intro xs h
    unfold aevL at h
    cases hy : aev s y with
    | none => simp [hy] at h
    | some x0 =>
      simp only [hy] at h
      cases hr : aevL s r with
      | none => simp [hr] at h
      | some l0 =>
        simp only [hr, Option.some.injEq] at h
        subst h
        obtain ⟨h1, h2⟩ := ih hr
        refine ⟨by simp [h1], fun i x hx => ?_⟩
        cases i with
        | zero => simp at hx; subst hx; exact ⟨y, by simp, hy⟩
        | succ i => simp at hx; obtain ⟨z, hz, hz'⟩ := h2 i x hx; exact ⟨z, by simpa using hz, hz'⟩

theorem aevL_rep {S : Nat → Prop} {w : World} {φ : Nat → Loc} {η : Heap} {ρ : Operand → Value} (hρ : ∀ y z, aev s y = some z → RepV S w φ η z (ρ y))
    {as : Array Operand} {xs : List AV} (h : aevL s as.toList = some xs) : xs.length = (as.map ρ).size ∧
    ∀ (i : Nat) x v, xs[i]? = some x → (as.map ρ)[i]? = some v → RepV S w φ η x v := by
  obtain ⟨h1, h2⟩ := aevL_eq h
  refine ⟨by simpa using h1, fun i x v hx hv => ?_⟩
  obtain ⟨y, hy, hy'⟩ := h2 i x hx
  have hy2 : as[i]? = some y := by simpa using hy
  rw [Array.getElem?_map, hy2] at hv
  cases hv
  exact hρ _ _ hy'

theorem op_makeFunc {f : Fn} {as bs : Array Operand} {xs zs : List AV} (ha : aevL s as.toList = some xs) (hb : aevL s bs.toList = some zs) :
    OpP P ⟨dst, .makeFunc f as bs, ty, pos, after, gd⟩ s h (.fn f xs zs) := by
  intro S w φ η ρ hh hη hρ
  obtain ⟨a1, a2⟩ := aevL_rep hρ ha
  obtain ⟨b1, b2⟩ := aevL_rep hρ hb
  exact ⟨.func f (as.map ρ) (bs.map ρ), fun w _ => by rw [exec_makeFunc]; rfl, .fn f xs zs _ _ a1 b1 a2 b2⟩

end
end Go.AM
