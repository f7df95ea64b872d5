/- The relation between an abstract state and the machine's, and the judgements over it. -/
import Derived.Test.YtlijhkhbdfgapaaAmA
namespace Go.AM
open Go

/-- A tree that is owned: its slices lie in blocks of its own, none twice. -/
inductive LinT (w : World) : AV → Value → List Nat → Prop where
  | int (k : IntKind) (n : Int) : LinT w (.int k n) (.int k n) []
  | bool (b : Bool) : LinT w (.bool b) (.bool b) []
  | str (s : List UInt8) : LinT w (.str s) (.string ⟨s.toArray⟩) []
  | snil : LinT w .snil (.slice none 0 0) []
  | agg (cs : List AV) (vs : Array Value) (fps : List (List Nat)) : cs.length = vs.size → fps.length = cs.length →
      (∀ (i : Nat) x v fp, cs[i]? = some x → vs[i]? = some v → fps[i]? = some fp → LinT w x v fp) → LinT w (.agg cs) (.agg vs) fps.flatten
  | sl0 (sz : Nat) (a : Option Addr) : LinT w (.sl sz []) (.slice a 0 0) []
  | sl (sz : Nat) (es : List AV) (b cap : Nat) (C : Array Value) (E : TypeId) (fps : List (List Nat)) : w.heap[b]? = some (.cells C E (0, 0)) → C.size = cap * sz →
      es.length ≤ cap → cap ≤ maxLen → 0 < sz → (∀ e ∈ es, e.cells.length = sz) → (∀ (j : Nat) x, (flat es)[j]? = some x → one x = true) → fps.length = (flat es).length →
      (∀ (j : Nat) x v fp, (flat es)[j]? = some x → C[j]? = some v → fps[j]? = some fp → LinT w x v fp) →
      LinT w (.sl sz es) (.slice (some ⟨b, 0, none⟩) es.length cap) (b :: fps.flatten)

def isSl : AV → Bool
  | .sl _ _ => true
  | .snil => true
  | _ => false

/-- The cells of an array: trees, or (k.d) owned trees. -/
def CellsOK (k : Kd) (S : Nat → Prop) (w : World) (l : Loc) (xs : List AV) (C : Array Value) : Prop :=
  match k.d with
  | false => ∀ (j : Nat) x v, xs[j]? = some x → C[j]? = some v → RepT S w x v
  | true => ∃ fps : List (List Nat), fps.length = xs.length ∧ (∀ (j : Nat) x v fp, xs[j]? = some x → C[j]? = some v → fps[j]? = some fp → LinT w x v fp) ∧
      (l.blk :: fps.flatten).Nodup ∧ (∀ b ∈ fps.flatten, b ∈ l.fp) ∧ (∀ (j : Nat) x v, xs[j]? = some x → C[j]? = some v → isSl x = true → v = .slice (l.sv j).1 (l.sv j).2.1 (l.sv j).2.2)

/-- An object lies as it is said. -/
def ObjOK (S : Nat → Prop) (w : World) (φ : Nat → Loc) (η : Heap) (id : Nat) : AO → Prop
  | .box cs => (φ id).mat = true ∧ ∃ C E, w.heap[(φ id).blk]? = some (.cells C E (0, 0)) ∧ C.size = cs.length ∧
      ∀ (i : Nat) x v, cs[i]? = some x → C[i]? = some v → RepV S w φ η x v
  | .arr k sz E es => 0 < sz ∧ (∀ e ∈ es, e.cells.length = sz) ∧ (∀ (j : Nat) x, (flat es)[j]? = some x → one x = true) ∧
      (((φ id).mat = false ∧ es = []) ∨
       ((φ id).mat = true ∧ ∃ C, w.heap[(φ id).blk]? = some (.cells C E (0, 0)) ∧ es.length ≤ (φ id).cap ∧ (φ id).cap ≤ maxLen ∧ C.size = (φ id).cap * sz ∧
        CellsOK k S w (φ id) (flat es) C))

structure HeapOK (S : Nat → Prop) (w : World) (φ : Nat → Loc) (η : Heap) : Prop where
  obj : ∀ id o, lk η id = some o → ObjOK S w φ η id o
  injO : ∀ id id' o o' b, lk η id = some o → lk η id' = some o' → (φ id).owns b → (φ id').owns b → id = id'
  free : ∀ b, S b → b < w.heap.size
  apartO : ∀ id o b, lk η id = some o → (φ id).owns b → ¬ S b
  ltO : ∀ id o b, lk η id = some o → (φ id).owns b → b < w.heap.size

theorem HeapOK.inj {S : Nat → Prop} {w : World} {φ : Nat → Loc} {η : Heap} (h : HeapOK S w φ η) (id id' : Nat) (o o' : AO) (h1 : lk η id = some o) (h2 : lk η id' = some o')
    (hm : (φ id).mat = true) (hm' : (φ id').mat = true) (he : (φ id).blk = (φ id').blk) : id = id' :=
  h.injO id id' o o' _ h1 h2 (.inl ⟨hm, rfl⟩) (.inl ⟨hm', he.symm⟩)
theorem HeapOK.apart {S : Nat → Prop} {w : World} {φ : Nat → Loc} {η : Heap} (h : HeapOK S w φ η) (id : Nat) (o : AO) (h1 : lk η id = some o) (hm : (φ id).mat = true) : ¬ S (φ id).blk :=
  h.apartO id o _ h1 (.inl ⟨hm, rfl⟩)
theorem HeapOK.ltB {S : Nat → Prop} {w : World} {φ : Nat → Loc} {η : Heap} (h : HeapOK S w φ η) {id : Nat} {o : AO} (h1 : lk η id = some o) (hm : (φ id).mat = true) : (φ id).blk < w.heap.size :=
  h.ltO id o _ h1 (.inl ⟨hm, rfl⟩)

theorem ObjOK.lt {S : Nat → Prop} {w : World} {φ : Nat → Loc} {η : Heap} {id : Nat} {o : AO} (h : ObjOK S w φ η id o) (hm : (φ id).mat = true) :
    (φ id).blk < w.heap.size := by
  cases o with
  | box cs => obtain ⟨_, C, E, hh, _⟩ := h; exact (Array.getElem?_eq_some_iff.1 hh).1
  | arr k sz E es =>
    obtain ⟨_, _, _, h⟩ := h
    rcases h with ⟨hf, _⟩ | ⟨_, C, hh, _⟩
    · rw [hm] at hf; cases hf
    · exact (Array.getElem?_eq_some_iff.1 hh).1

/-- An owned tree stands where its blocks are as they were. -/
theorem LinT.mono {w w' : World} {x : AV} {v : Value} {fp : List Nat} (h : LinT w x v fp) : (∀ b ∈ fp, w'.heap[b]? = w.heap[b]?) → LinT w' x v fp := by
  induction h with
  | int k n => exact fun _ => .int k n
  | bool b => exact fun _ => .bool b
  | str s => exact fun _ => .str s
  | snil => exact fun _ => .snil
  | agg cs vs fps h1 h2 _ ih =>
    exact fun hb => .agg cs vs fps h1 h2 (fun i x v fp hx hv hf => ih i x v fp hx hv hf (fun b hbm => hb b (List.mem_flatten.2 ⟨fp, List.mem_of_getElem? hf, hbm⟩)))
  | sl0 sz a => exact fun _ => .sl0 sz a
  | sl sz es b cap C E fps h2 h3 h4 h5 h6 h7 h8 h9 _ ih =>
    exact fun hb => .sl sz es b cap C E fps (by rw [hb b (by simp)]; exact h2) h3 h4 h5 h6 h7 h8 h9
      (fun i x v fp hx hv hf => ih i x v fp hx hv hf (fun b hbm => hb b (by simp only [List.mem_cons]; exact .inr (List.mem_flatten.2 ⟨fp, List.mem_of_getElem? hf, hbm⟩))))

theorem CellsOK.mono {k : Kd} {S S' : Nat → Prop} {w w' : World} {l l' : Loc} {xs : List AV} {C : Array Value} (h : CellsOK k S w l xs C) (hS : ∀ b, S b → S' b)
    (hw : ∀ b, S b → w'.heap[b]? = w.heap[b]?) (hf : ∀ b ∈ l.fp, b ≠ l.blk → w'.heap[b]? = w.heap[b]?) (hl : l' = l) : CellsOK k S' w' l' xs C := by
  subst hl
  unfold CellsOK at *
  cases hk : k.d with
  | false => rw [hk] at h; exact fun j x v hx hv => (h j x v hx hv).mono hS hw
  | true =>
    rw [hk] at h
    obtain ⟨fps, h1, h2, h3, h4, h5⟩ := h
    exact ⟨fps, h1, fun j x v fp hx hv hp => (h2 j x v fp hx hv hp).mono (fun b hb => have hm := List.mem_flatten.2 ⟨fp, List.mem_of_getElem? hp, hb⟩; hf b (h4 b hm) (fun e => (List.nodup_cons.1 h3).1 (e ▸ hm))), h3, h4, h5⟩

theorem CellsOK.trees {k : Kd} {S : Nat → Prop} {w : World} {l : Loc} {xs : List AV} {C : Array Value} (h : CellsOK k S w l xs C) (hk : k.d = false) :
    ∀ (j : Nat) x v, xs[j]? = some x → C[j]? = some v → RepT S w x v := by
  unfold CellsOK at h
  rw [hk] at h
  exact h

theorem CellsOK.ofTrees {k : Kd} {S : Nat → Prop} {w : World} {l : Loc} {xs : List AV} {C : Array Value} (hk : k.d = false)
    (h : ∀ (j : Nat) x v, xs[j]? = some x → C[j]? = some v → RepT S w x v) : CellsOK k S w l xs C := by
  unfold CellsOK
  rw [hk]
  exact h

/-- Flat values are trees anywhere. -/
def flat1 : AV → Bool
  | .int _ _ => true
  | .bool _ => true
  | .str _ => true
  | _ => false

theorem LinT.ofFlat {w : World} {x : AV} {v : Value} {fp : List Nat} (h : LinT w x v fp) (hf : flat1 x = true) (S : Nat → Prop) (w' : World) : RepT S w' x v := by
  cases h <;> first | (simp [flat1] at hf; done) | constructor

theorem RepT.lin {S : Nat → Prop} {w w' : World} {x : AV} {v : Value} (h : RepT S w x v) (hf : flat1 x = true) : LinT w' x v [] := by
  cases h <;> first | (simp [flat1] at hf; done) | constructor

/-- What a call began with. -/
structure Fr where
  w : World
  S : Nat → Prop
  φ : Nat → Loc
  η : Heap

def Fr.mut (F : Fr) (b : Nat) : Prop := ∃ id o, lk F.η id = some o ∧ (F.φ id).owns b

/-- The blocks in which trees may lie. -/
def Stab (F : Fr) (w : World) (φ : Nat → Loc) (η : Heap) (b : Nat) : Prop :=
  b < w.heap.size ∧ (F.S b ∨ F.w.heap.size ≤ b) ∧ ∀ id o, lk η id = some o → ¬ (φ id).owns b

theorem Stab.ne {F : Fr} {w : World} {φ : Nat → Loc} {η : Heap} {b : Nat} (h : Stab F w φ η b) (id : Nat) (o : AO) (ho : lk η id = some o) (hm : (φ id).mat = true) : (φ id).blk ≠ b :=
  fun e => h.2.2 id o ho (.inl ⟨hm, e⟩)

structure SameSys (w w' : World) : Prop where
  os : w'.os = w.os
  tape : w'.tape = w.tape
  output : w'.output = w.output

theorem SameSys.refl (w : World) : SameSys w w := ⟨rfl, rfl, rfl⟩
theorem SameSys.trans {a b c : World} (h : SameSys a b) (k : SameSys b c) : SameSys a c :=
  ⟨k.os.trans h.os, k.tape.trans h.tape, k.output.trans h.output⟩

structure RelP (F : Fr) (N : Nat) (st : St) (φ : Nat → Loc) (a : Act) (w : World) : Prop where
  size : a.tmps.size = N
  defers : a.defers = []
  sys : SameSys F.w w
  grow : F.w.heap.size ≤ w.heap.size
  heap : HeapOK (Stab F w φ st.h) w φ st.h
  slots : ∀ i x, lk st.s i = some x → ∃ v, a.tmps[i]? = some v ∧ RepV (Stab F w φ st.h) w φ st.h x v
  mine : ∀ id o b, lk st.h id = some o → (φ id).owns b → F.w.heap.size ≤ b ∨ ∃ o0, lk F.η id = some o0 ∧ (F.φ id).owns b
  fix : ∀ id o, lk F.η id = some o → o.isBox ≠ 1 → φ id = F.φ id
  keep : ∀ id o, lk F.η id = some o → ∃ o', lk st.h id = some o' ∧ o.alike o'
  frame : ∀ b, b < F.w.heap.size → ¬ F.mut b → w.heap[b]? = F.w.heap[b]?

def Rel (F : Fr) (N : Nat) (st : St) (a : Act) (w : World) : Prop := ∃ φ, RelP F N st φ a w

/-! ### Operands -/

def cav1 : Value → Option AV
  | .int k n => some (.int k n)
  | .bool b => some (.bool b)
  | .string s => some (.str s.data.toList)
  | .slice none 0 0 => some .snil
  | .pointer none => some .nilp
  | .nilFunc => some .nilf
  | _ => none

def cavL : List Value → Option (List AV)
  | [] => some []
  | v :: r => match cav1 v with
    | some x => match cavL r with
      | some l => some (x :: l)
      | none => none
    | none => none

def cav : Value → Option AV
  | .agg cs => match cavL cs.toList with
    | some l => some (.agg l)
    | none => none
  | .func f as bs => bif as.toList.isEmpty && bs.toList.isEmpty then some (.fn f [] []) else none
  | v => cav1 v

def aev (s : Slots) : Operand → Option AV
  | .tmp t => lk s t
  | .const v => cav v
  | .func f => some (.fn (.func f) [] [])
  | .global _ => none

theorem cav1_rep {S : Nat → Prop} {w : World} {v : Value} {x : AV} (h : cav1 v = some x) : RepT S w x v := by
  unfold cav1 at h
  split at h <;> first | (cases h; done) | skip
  · cases h; exact .int _ _
  · cases h; exact .bool _
  · rename_i s
    cases h
    have : (Value.string s) = .string ⟨s.data.toList.toArray⟩ := by simp
    rw [this]; exact .str _
  · cases h; exact .snil
  · cases h; exact .nilp
  · cases h; exact .nilf

theorem cavL_rep {S : Nat → Prop} {w : World} : ∀ {l : List Value} {xs : List AV}, cavL l = some xs →
    xs.length = l.length ∧ ∀ (i : Nat) x v, xs[i]? = some x → l[i]? = some v → RepT S w x v := by
  intro l
  induction l with
  | nil => intro xs h; cases h; exact ⟨rfl, fun i x v hx _ => by simp at hx⟩
  | cons v r ih =>
    intro xs h
    unfold cavL at h
    cases hv : cav1 v with
    | none => simp [hv] at h
    | some x =>
      simp only [hv] at h
      cases hr : cavL r with
      | none => simp [hr] at h
      | some l =>
        simp only [hr, Option.some.injEq] at h
        subst h
        obtain ⟨h1, h2⟩ := ih hr
        refine ⟨by simp [h1], fun i y u hy hu => ?_⟩
        cases i with
        | zero => simp at hy hu; subst hy; subst hu; exact cav1_rep hv
        | succ i => simp at hy hu; exact h2 i y u hy hu

theorem cav_rep {S : Nat → Prop} {w : World} {v : Value} {x : AV} (h : cav v = some x) : RepT S w x v := by
  unfold cav at h
  split at h
  · rename_i cs
    cases hc : cavL cs.toList with
    | none => simp [hc] at h
    | some l =>
      simp only [hc, Option.some.injEq] at h
      subst h
      obtain ⟨h1, h2⟩ := cavL_rep (S := S) (w := w) hc
      exact .agg l cs (by simpa using h1) (fun i x v hx hv => h2 i x v hx (by simpa using hv))
  · rename_i f as bs
    cases ha : as.toList.isEmpty && bs.toList.isEmpty with
    | false => rw [ha] at h; cases h
    | true =>
      rw [ha] at h
      simp only [cond_true, Option.some.injEq] at h
      subst h
      simp at ha
      obtain ⟨rfl, rfl⟩ := ha
      exact .fn _ [] [] #[] #[] rfl rfl (fun i x v hx _ => by simp at hx) (fun i x v hx _ => by simp at hx)
  · exact cav1_rep h

theorem aev_rep {F : Fr} {N : Nat} {st : St} {φ : Nat → Loc} {a : Act} {w : World} (hp : RelP F N st φ a w) {y : Operand} {z : AV}
    (h : aev st.s y = some z) : RepV (Stab F w φ st.h) w φ st.h z (a.eval y) := by
  cases y with
  | tmp t =>
    obtain ⟨v, hv, hr⟩ := hp.slots t z h
    have : a.eval (.tmp t) = v := by simp [Act.eval, hv]
    rw [this]; exact hr
  | const v => exact .pure (cav_rep h)
  | func f =>
    cases h
    exact .pure (.fn _ [] [] #[] #[] rfl rfl (fun i x v hx _ => by simp at hx) (fun i x v hx _ => by simp at hx))
  | global g => cases h

theorem RepV.bool_inv {S : Nat → Prop} {w : World} {φ : Nat → Loc} {η : Heap} {b : Bool} {v : Value} (h : RepV S w φ η (.bool b) v) : v = .bool b := by
  cases h with
  | pure h => cases h; rfl

theorem RepV.int_inv {S : Nat → Prop} {w : World} {φ : Nat → Loc} {η : Heap} {k : IntKind} {n : Int} {v : Value} (h : RepV S w φ η (.int k n) v) : v = .int k n := by
  cases h with
  | pure h => cases h; rfl

theorem RepV.str_inv {S : Nat → Prop} {w : World} {φ : Nat → Loc} {η : Heap} {s : List UInt8} {v : Value} (h : RepV S w φ η (.str s) v) : v = .string ⟨s.toArray⟩ := by
  cases h with
  | pure h => cases h; rfl

theorem aev_bool {F : Fr} {N : Nat} {st : St} {a : Act} {w : World} (hr : Rel F N st a w) {y : Operand} {b : Bool}
    (h : aev st.s y = some (.bool b)) : a.eval y = .bool b := by
  obtain ⟨φ, hp⟩ := hr
  exact (aev_rep hp h).bool_inv

theorem wanted_of {F : Fr} {N : Nat} {s : Slots} {h : Heap} {φ : Nat → Loc} {a : Act} {w : World} (hp : RelP F N ⟨s, h⟩ φ a w)
    {o : Oper} {ops : Array Oper} {j g : Nat} {b : Bool} (hg : o.guard = some (j, b)) (hj : (ops[j]?).bind (·.dst) = some g)
    (hb : lk s g = some (.bool b)) : Region.wanted o (yielded ops a.tmps) = true := by
  obtain ⟨v, hv, hr⟩ := hp.slots g _ hb
  have := hr.bool_inv
  subst this
  simp [Region.wanted, hg, yielded, hj, hv]

theorem unwanted_of {F : Fr} {N : Nat} {s : Slots} {h : Heap} {φ : Nat → Loc} {a : Act} {w : World} (hp : RelP F N ⟨s, h⟩ φ a w)
    {o : Oper} {ops : Array Oper} {j g : Nat} {b c : Bool} (hg : o.guard = some (j, b)) (hj : (ops[j]?).bind (·.dst) = some g)
    (hb : lk s g = some (.bool c)) (hbc : c = !b) : Region.wanted o (yielded ops a.tmps) = false := by
  obtain ⟨v, hv, hr⟩ := hp.slots g _ hb
  have := hr.bool_inv
  subst this
  subst hbc
  simp [Region.wanted, hg, yielded, hj, hv]

/-- A world with more blocks, the elder as they were. -/
structure Ext (w w' : World) : Prop where
  grow : w.heap.size ≤ w'.heap.size
  same : ∀ b, b < w.heap.size → w'.heap[b]? = w.heap[b]?

theorem Ext.refl (w : World) : Ext w w := ⟨Nat.le_refl _, fun _ _ => rfl⟩
theorem Ext.trans {a b c : World} (h : Ext a b) (k : Ext b c) : Ext a c :=
  ⟨Nat.le_trans h.grow k.grow, fun i hi => (k.same i (Nat.lt_of_lt_of_le hi h.grow)).trans (h.same i hi)⟩

/-- A list of operations leads to an abstract state in 'K'; where 'ex' says so, the elder blocks are as they were. -/
def TLE (ex : Bool) (P : Program) (F : Fr) (N : Nat) (ops : Array Oper) (l : List Oper) (K : St → Prop) (st : St) : Prop :=
  ∀ (a : Act) (w : World) (Q : Exit → Act → World → Prop), Rel F N st a w →
    (∀ st' a' w', K st' → Rel F N st' a' w' → (ex = true → Ext w w') → Q .normal a' w') → wpList P ops Q l a w

@[reducible] def TL (P : Program) (F : Fr) (N : Nat) (ops : Array Oper) (l : List Oper) (K : St → Prop) (st : St) : Prop := TLE false P F N ops l K st

/-- Code leads to an abstract state in 'Q'. -/
def T (P : Program) (F : Fr) (N : Nat) (c : Code) (Q : Exit → St → Prop) (st : St) : Prop :=
  ∀ (a : Act) (w : World), Rel F N st a w → c.wp P (fun e a' w' => ∃ st', Q e st' ∧ Rel F N st' a' w') a w

@[reducible] def Post.seq (k : St → Prop) (Q : Exit → St → Prop) : Exit → St → Prop
  | .normal, st => k st
  | e, st => Q e st

@[reducible] def Post.blk (id : Nat) (Q : Exit → St → Prop) : Exit → St → Prop
  | .exit i, st => bif Nat.beq i id then Q .normal st else Q (.exit i) st
  | e, st => Q e st

section
variable {P : Program} {F : Fr} {N : Nat} {Q : Exit → St → Prop} {st : St}

theorem T_mono {c : Code} {Q' : Exit → St → Prop} (hq : ∀ e s, Q' e s → Q e s) (h : T P F N c Q' st) : T P F N c Q st :=
  fun a w hr => Code.wp_mono (fun _ _ _ ⟨s, q, r⟩ => ⟨s, hq _ _ q, r⟩) (h a w hr)

theorem T_seq {x y : Code} (h : T P F N x (Post.seq (T P F N y Q) Q) st) : T P F N (.seq x y) Q st := by
  intro a w hr
  refine wp_seq (Code.wp_mono ?_ (h a w hr))
  rintro e a' w' ⟨s', hq, hr'⟩
  cases e with
  | normal => exact hq a' w' hr'
  | _ => exact ⟨s', hq, hr'⟩

theorem T_skip (h : Q .normal st) : T P F N .skip Q st := fun _ _ hr => wp_skip ⟨st, h, hr⟩
theorem T_ret (h : Q .ret st) : T P F N .ret Q st := fun _ _ hr => wp_ret ⟨st, h, hr⟩
theorem T_exit {id : Nat} (h : Q (.exit id) st) : T P F N (.exit id) Q st := fun _ _ hr => wp_exit ⟨st, h, hr⟩

theorem T_block {id : Nat} {c : Code} (h : T P F N c (Post.blk id Q) st) : T P F N (.block id c) Q st := by
  intro a w hr
  refine wp_block (Code.wp_mono ?_ (h a w hr))
  rintro e a' w' ⟨s', hq, hr'⟩
  cases e with
  | exit i =>
    simp only [Post.blk] at hq
    simp only [Exit.inBlock]
    cases hb : Nat.beq i id with
    | true => rw [hb] at hq; rw [if_pos ((beq_iff i id).1 hb)]; exact ⟨s', hq, hr'⟩
    | false => rw [hb] at hq; rw [if_neg (fun e => by rw [(beq_iff i id).2 e] at hb; cases hb)]; exact ⟨s', hq, hr'⟩
  | _ => exact ⟨s', hq, hr'⟩

/-- The head of a loop's round. -/
def TR (P : Program) (F : Fr) (N : Nat) (c : Code) (Q : Exit → St → Prop) (st : St) : Prop :=
  ∀ (a : Act) (w : World), Rel F N st a w → ∀ (b : Frame) (k : List Item) (cs : List Frame),
    ∃ e a' w', (∃ st', Q e st' ∧ Rel F N st' a' w') ∧ Arrives P (lone (b.at a (.code c :: .inLoop c :: k)) cs w) b k cs e a' w'

theorem T_loop {c : Code} (h : TR P F N c Q st) : T P F N (.loop c) Q st := by
  intro a w hr b k cs
  obtain ⟨e, a', w', hq, harr⟩ := h a w hr b k cs
  exact ⟨e, a', w', hq, .of_steps (.one step_loop) harr⟩

/-- A round, and then the head again. -/
theorem TR_step {c : Code} (h : T P F N c (Post.seq (TR P F N c Q) Q) st) : TR P F N c Q st := by
  intro a w hr b k cs
  obtain ⟨e, a₁, w₁, ⟨st₁, hq, hr₁⟩, harr⟩ := h a w hr b (.inLoop c :: k) cs
  cases e with
  | normal =>
    obtain ⟨e₂, a₂, w₂, hq₂, harr₂⟩ := hq a₁ w₁ hr₁ b k cs
    exact ⟨e₂, a₂, w₂, hq₂, .of_steps (Steps.trans harr (.one step_inLoop)) harr₂⟩
  | exit id => exact ⟨_, a₁, w₁, ⟨st₁, hq, hr₁⟩, .pass (x := .inLoop c) rfl (fun _ _ => .inl (by simp)) harr⟩
  | goto l => exact ⟨_, a₁, w₁, ⟨st₁, hq, hr₁⟩, .pass (x := .inLoop c) rfl (fun _ _ => .inl (by simp)) harr⟩
  | ret => exact ⟨_, a₁, w₁, ⟨st₁, hq, hr₁⟩, .pass (x := .inLoop c) rfl (fun _ _ => .inl (by simp)) harr⟩
  | panic ch => exact ⟨_, a₁, w₁, ⟨st₁, hq, hr₁⟩, .pass (x := .inLoop c) rfl (fun _ _ => .inl (by simp)) harr⟩
  | outgrown => exact ⟨_, a₁, w₁, ⟨st₁, hq, hr₁⟩, .pass (x := .inLoop c) rfl (fun _ _ => .inl (by simp)) harr⟩

theorem TR_mono {c : Code} {Q' : Exit → St → Prop} (hq : ∀ e s, Q' e s → Q e s) (h : TR P F N c Q' st) : TR P F N c Q st := by
  intro a w hr b k cs
  obtain ⟨e, a', w', ⟨s, q, r⟩, harr⟩ := h a w hr b k cs
  exact ⟨e, a', w', ⟨s, hq _ _ q, r⟩, harr⟩

theorem T_region {id : Nat} {ops : Array Oper} (h : TL P F N ops ops.toList (Q .normal) st) : T P F N (.region id ops false) Q st := by
  intro a w hr
  exact wp_region_list (h a w _ hr fun st' a' w' hk hr' _ => ⟨st', hk, hr'⟩)

theorem T_cond {c : Operand} {x y : Code} {b : Bool} (hc : aev st.s c = some (.bool b)) (ht : b = true → T P F N x Q st) (hf : b = false → T P F N y Q st) :
    T P F N (.cond c x y) Q st := by
  intro a w hr
  have hv : a.eval c = .bool b := aev_bool hr hc
  exact wp_cond_split hv (fun h => ht h a w hr) (fun h => hf h a w hr)

/-! ### Lists of operations -/

variable {ex : Bool}

theorem TL_nil {ops : Array Oper} {K : St → Prop} (h : K st) : TLE ex P F N ops [] K st :=
  fun a w _ hr hQ => wpList_nil (hQ st a w h hr (fun _ => Ext.refl w))

theorem TL_mono {ops : Array Oper} {l : List Oper} {K K' : St → Prop} (hK : ∀ s, K' s → K s) (h : TLE ex P F N ops l K' st) : TLE ex P F N ops l K st :=
  fun a w R hr hQ => h a w R hr fun st' a' w' hk hr' he => hQ st' a' w' (hK _ hk) hr' he

/-- The operations that look at the memory. -/
def looks : Op → Bool
  | .load _ _ => true
  | _ => false

/-- What an operation that leaves the world alone hands over. -/
def OpP (P : Program) (o : Oper) (s : Slots) (h : Heap) (x : AV) : Prop :=
  ∀ (S : Nat → Prop) (w : World) (φ : Nat → Loc) (η : Heap) (ρ : Operand → Value), HeapOK S w φ η →
    (∀ id ob, lk h id = some ob → lk η id = some ob) → (∀ y z, aev s y = some z → RepV S w φ η z (ρ y)) →
    ∃ v, (∀ w', (looks o.op = false ∨ Ext w w') → (execOp ρ o).run P w' = .ok (.value v) w') ∧ RepV S w φ η x v

theorem RelP.put {φ : Nat → Loc} {a : Act} {w : World} {s s' : Slots} {h : Heap} {d : Nat} {x : AV} {v : Value}
    (hr : RelP F N ⟨s, h⟩ φ a w) (hd : d < N) (hs : sput s d x = some s') (hv : RepV (Stab F w φ h) w φ h x v) :
    RelP F N ⟨s', h⟩ φ (a.put (some d) v) w := by
  refine ⟨?_, hr.defers, hr.sys, hr.grow, hr.heap, ?_, hr.mine, hr.fix, hr.keep, hr.frame⟩
  · simpa [Act.put] using hr.size
  · intro i y hi
    rw [lk_sput hs] at hi
    by_cases hdi : d = i
    · subst hdi
      rw [if_pos rfl] at hi
      cases hi
      exact ⟨v, by simp [Act.put, hr.size, hd], hv⟩
    · rw [if_neg hdi] at hi
      obtain ⟨u, hu, hru⟩ := hr.slots i y hi
      exact ⟨u, by simpa [Act.put, Array.getElem?_setIfInBounds_ne hdi] using hu, hru⟩

theorem TL_pure {ops : Array Oper} {rest : List Oper} {K : St → Prop} {o : Oper} {d : Nat} {x : AV} {s s' : Slots} {h : Heap}
    (hg : o.guard = none) (hd : o.dst = some d) (hN : Nat.blt d N = true) (hs : sput s d x = some s') (hrun : OpP P o s h x)
    (k : TLE ex P F N ops rest K ⟨s', h⟩) : TLE ex P F N ops (o :: rest) K ⟨s, h⟩ := by
  intro a w R hr hQ
  obtain ⟨φ, hp⟩ := hr
  obtain ⟨v, hrun, hv⟩ := hrun _ w φ h a.eval hp.heap (fun _ _ h => h) (fun y z hy => aev_rep hp hy)
  have hrun := hrun w (.inr (Ext.refl w))
  refine wpList_plain hg fun K' hK' => ?_
  unfold Oper.wp
  rw [hrun]
  show K' (a.put o.dst v) w
  rw [hd]
  exact hK' _ _ (k _ _ R ⟨φ, hp.put (Nat.le_of_ble_eq_true hN) hs hv⟩ hQ)

/-- A guarded operation is carried out. -/
theorem TL_pure_want {ops : Array Oper} {rest : List Oper} {K : St → Prop} {o : Oper} {d g j : Nat} {b : Bool} {x : AV} {s s' : Slots} {h : Heap}
    (hg : o.guard = some (j, b)) (hj : (ops[j]?).bind (·.dst) = some g) (hb : lk s g = some (.bool b))
    (hd : o.dst = some d) (hN : Nat.blt d N = true) (hs : sput s d x = some s') (hrun : OpP P o s h x)
    (k : TLE ex P F N ops rest K ⟨s', h⟩) : TLE ex P F N ops (o :: rest) K ⟨s, h⟩ := by
  intro a w R hr hQ
  obtain ⟨φ, hp⟩ := hr
  obtain ⟨v, hrun, hv⟩ := hrun _ w φ h a.eval hp.heap (fun _ _ h => h) (fun y z hy => aev_rep hp hy)
  have hrun := hrun w (.inr (Ext.refl w))
  have hw : Region.wanted o (yielded ops a.tmps) = true := wanted_of hp hg hj hb
  refine BigFrame.wpList_want hw fun K' hK' => ?_
  unfold Oper.wp
  rw [hrun]
  show K' (a.put o.dst v) w
  rw [hd]
  exact hK' _ _ (k _ _ R ⟨φ, hp.put (Nat.le_of_ble_eq_true hN) hs hv⟩ hQ)

theorem undef_rep {S : Nat → Prop} {w : World} {φ : Nat → Loc} {η : Heap} : RepV S w φ η (.tup []) undef :=
  .pure (.tup [] #[] rfl (fun i x v hx _ => by simp at hx))

theorem T_cond_true {c : Operand} {x y : Code} (hc : aev st.s c = some (.bool true)) (h : T P F N x Q st) : T P F N (.cond c x y) Q st :=
  T_cond hc (fun _ => h) (fun h => by cases h)

theorem T_cond_false {c : Operand} {x y : Code} (hc : aev st.s c = some (.bool false)) (h : T P F N y Q st) : T P F N (.cond c x y) Q st :=
  T_cond hc (fun h => by cases h) (fun _ => h)

/-- A guarded operation is passed over. -/
theorem TL_pass {ops : Array Oper} {rest : List Oper} {K : St → Prop} {o : Oper} {d g j : Nat} {b c : Bool} {s s' : Slots} {h : Heap}
    (hg : o.guard = some (j, b)) (hj : (ops[j]?).bind (·.dst) = some g) (hb : lk s g = some (.bool c)) (hbc : c = !b)
    (hd : o.dst = some d) (hN : Nat.blt d N = true) (hs : sput s d (.tup []) = some s')
    (k : TLE ex P F N ops rest K ⟨s', h⟩) : TLE ex P F N ops (o :: rest) K ⟨s, h⟩ := by
  intro a w R hr hQ
  obtain ⟨φ, hp⟩ := hr
  have hw : Region.wanted o (yielded ops a.tmps) = false := unwanted_of hp hg hj hb hbc
  refine wpList_skip hw ?_
  rw [hd]
  exact k _ _ R ⟨φ, hp.put (Nat.le_of_ble_eq_true hN) hs undef_rep⟩ hQ

/-- A guarded operation whose test was itself passed over is passed over. -/
theorem TL_pass2 {ops : Array Oper} {rest : List Oper} {K : St → Prop} {o : Oper} {d g j : Nat} {b : Bool} {s s' : Slots} {h : Heap}
    (hg : o.guard = some (j, b)) (hj : (ops[j]?).bind (·.dst) = some g) (hb : lk s g = some (.tup []))
    (hd : o.dst = some d) (hN : Nat.blt d N = true) (hs : sput s d (.tup []) = some s')
    (k : TLE ex P F N ops rest K ⟨s', h⟩) : TLE ex P F N ops (o :: rest) K ⟨s, h⟩ := by
  intro a w R hr hQ
  obtain ⟨φ, hp⟩ := hr
  have hw : Region.wanted o (yielded ops a.tmps) = false := by
    obtain ⟨v, hv, hrep⟩ := hp.slots g _ hb
    have : ∃ us, v = .tuple us := by
      cases hrep with
      | pure h => cases h; exact ⟨_, rfl⟩
      | tup _ us _ _ => exact ⟨us, rfl⟩
    obtain ⟨us, rfl⟩ := this
    simp [Region.wanted, hg, yielded, hj, hv]
  refine wpList_skip hw ?_
  rw [hd]
  exact k _ _ R ⟨φ, hp.put (Nat.le_of_ble_eq_true hN) hs undef_rep⟩ hQ

/-- A guarded operation without a slot is passed over. -/
theorem TL_pass0 {ops : Array Oper} {rest : List Oper} {K : St → Prop} {o : Oper} {g j : Nat} {b c : Bool} {s : Slots} {h : Heap}
    (hg : o.guard = some (j, b)) (hj : (ops[j]?).bind (·.dst) = some g) (hb : lk s g = some (.bool c)) (hbc : c = !b)
    (hd : o.dst = none) (k : TLE ex P F N ops rest K ⟨s, h⟩) : TLE ex P F N ops (o :: rest) K ⟨s, h⟩ := by
  intro a w R hr hQ
  obtain ⟨φ, hp⟩ := hr
  have hw : Region.wanted o (yielded ops a.tmps) = false := unwanted_of hp hg hj hb hbc
  refine wpList_skip hw ?_
  rw [hd]
  exact k _ _ R ⟨φ, hp⟩ hQ
end
end Go.AM
