/- An abstract machine over the model: abstract values, the relation to the world, and its first laws. -/
import Derived.Tactics2
import Derived.BigFrame
import Derived.Laws.AppendOwn
import Derived.Laws.OwnMore
import Derived.Laws.MakeOwn
import Derived.Below
namespace Go.AM
open Go

inductive AV where
  | int (k : IntKind) (n : Int)
  | bool (b : Bool)
  | str (s : List UInt8)
  | agg (cs : List AV)
  | tup (vs : List AV)
  | snil
  | sl (sz : Nat) (es : List AV)
  | cp (cs : List AV)
  | nilp
  | nilf
  | fn (f : Fn) (first cap : List AV)
  | ptr (id k off : Nat)
  | ow (id : Nat)
  | mp (id : Nat)
  | sub (id n : Nat)
  | junk
  deriving Inhabited

def AV.cells : AV → List AV
  | .agg cs => cs
  | v => [v]

/-- Values of one cell. -/
def one : AV → Bool
  | .agg _ => false
  | .tup _ => false
  | .junk => false
  | _ => true

def flat (es : List AV) : List AV := es.flatMap AV.cells

/-- Kinds of arrays: 'p': the place stays; 'd': the slices within lie in blocks of the array's own. -/
structure Kd where
  p : Bool
  d : Bool
  deriving Inhabited, DecidableEq

inductive AO where
  | box (cs : List AV)
  | arr (k : Kd) (sz : Nat) (E : TypeId) (es : List AV)
  deriving Inhabited

def AO.isBox : AO → Nat
  | .box _ => 0
  | .arr k _ _ _ => bif k.p then 2 else 1

/-- Of one kind; an array whose place stays keeps its length. -/
def AO.alike : AO → AO → Prop
  | .box _, .box _ => True
  | .arr k sz E es, .arr k' sz' E' es' => k'.p = k.p ∧ (k.p = true → sz' = sz ∧ E' = E ∧ es'.length = es.length)
  | _, _ => False
theorem AO.alike_refl (o : AO) : o.alike o := by cases o <;> simp [AO.alike]
theorem AO.alike_trans {a b c : AO} (h : a.alike b) (g : b.alike c) : a.alike c := by
  cases a <;> cases b <;> cases c <;> simp only [AO.alike] at * <;> first | trivial | (exact h.elim) | (exact g.elim) | skip
  refine ⟨g.1.trans h.1, fun hk => ?_⟩
  obtain ⟨h1, h2, h3⟩ := h.2 hk
  obtain ⟨g1, g2, g3⟩ := g.2 (h.1.trans hk)
  exact ⟨g1.trans h1, g2.trans h2, g3.trans h3⟩
theorem AO.alike_box {a b : AO} (h : a.alike b) : b.isBox = a.isBox := by
  cases a <;> cases b <;> simp only [AO.alike, AO.isBox] at * <;> first | rfl | (exact h.elim) | (rw [h.1])

/-- Objects whose place stays. -/
def AO.fixed : AO → Bool
  | .arr k _ _ _ => k.p
  | _ => true

/-- Where an object lies. -/
structure Loc where
  blk : Nat
  cap : Nat
  mat : Bool
  fp : List Nat
  va : Option Addr
  sv : Nat → Option Addr × Nat × Nat

@[reducible] def mkLoc (blk cap : Nat) (mat : Bool) : Loc := ⟨blk, cap, mat, [], none, fun _ => (none, 0, 0)⟩

/-- The blocks that are an object's own. -/
def Loc.owns (l : Loc) (b : Nat) : Prop := (l.mat = true ∧ l.blk = b) ∨ b ∈ l.fp

theorem mkLoc_owns {g c : Nat} {m : Bool} {b : Nat} : (mkLoc g c m).owns b ↔ (m = true ∧ g = b) := by simp [mkLoc, Loc.owns]

def lk {α : Type} : List (Nat × α) → Nat → Option α
  | [], _ => none
  | (k, v) :: r, i => bif Nat.beq k i then some v else lk r i

def sput {α : Type} : List (Nat × α) → Nat → α → Option (List (Nat × α))
  | [], i, v => some [(i, v)]
  | (k, u) :: r, i, v => bif Nat.beq k i then some ((k, v) :: r) else
    match sput r i v with
    | some r' => some ((k, u) :: r')
    | none => none

abbrev Slots := List (Nat × AV)
abbrev Heap := List (Nat × AO)

structure St where
  s : Slots
  h : Heap

theorem beq_iff (k i : Nat) : Nat.beq k i = true ↔ k = i := by
  constructor
  · exact Nat.eq_of_beq_eq_true
  · rintro rfl; exact Nat.beq_refl k

theorem lk_cons {α : Type} (k : Nat) (v : α) (r : List (Nat × α)) (i : Nat) :
    lk ((k, v) :: r) i = if k = i then some v else lk r i := by
  rw [lk]
  by_cases h : k = i
  · simp [h]
  · have : Nat.beq k i = false := by
      cases hb : Nat.beq k i with
      | false => rfl
      | true => exact absurd ((beq_iff k i).1 hb) h
    simp [this, h]

theorem lk_sput {α : Type} : ∀ {l l' : List (Nat × α)} {i : Nat} {v : α}, sput l i v = some l' →
    ∀ j, lk l' j = if i = j then some v else lk l j := by
  intro l
  induction l with
  | nil =>
    intro l' i v h j
    simp only [sput, Option.some.injEq] at h
    subst h
    rw [lk_cons]
  | cons p r ih =>
    obtain ⟨k, u⟩ := p
    intro l' i v h j
    unfold sput at h
    by_cases hk : Nat.beq k i = true
    · have e := (beq_iff k i).1 hk
      subst e
      simp only [hk, cond_true, Option.some.injEq] at h
      subst h
      rw [lk_cons, lk_cons]
      split <;> rfl
    · have hk' : Nat.beq k i = false := Bool.eq_false_iff.2 hk
      simp only [hk', cond_false] at h
      cases hr : sput r i v with
      | none => simp [hr] at h
      | some r' =>
        simp only [hr, Option.some.injEq] at h
        subst h
        have hne : k ≠ i := fun e => hk ((beq_iff k i).2 e)
        rw [lk_cons, lk_cons, ih hr j]
        by_cases hkj : k = j
        · subst hkj
          simp [Ne.symm hne]
        · simp [hkj]

/-! ### Trees -/

inductive RepT (S : Nat → Prop) (w : World) : AV → Value → Prop where
  | int (k : IntKind) (n : Int) : RepT S w (.int k n) (.int k n)
  | bool (b : Bool) : RepT S w (.bool b) (.bool b)
  | str (s : List UInt8) : RepT S w (.str s) (.string ⟨s.toArray⟩)
  | agg (cs : List AV) (vs : Array Value) : cs.length = vs.size →
      (∀ (i : Nat) x v, cs[i]? = some x → vs[i]? = some v → RepT S w x v) → RepT S w (.agg cs) (.agg vs)
  | tup (cs : List AV) (vs : Array Value) : cs.length = vs.size →
      (∀ (i : Nat) x v, cs[i]? = some x → vs[i]? = some v → RepT S w x v) → RepT S w (.tup cs) (.tuple vs)
  | snil : RepT S w .snil (.slice none 0 0)
  | sl0 (sz : Nat) (a : Option Addr) (cap : Nat) : (a = none → cap = 0) → RepT S w (.sl sz []) (.slice a 0 cap)
  | sl (sz : Nat) (es : List AV) (b off cap : Nat) (f : Nat → Value) : es ≠ [] → S b → es.length ≤ cap → cap ≤ maxLen → 0 < sz →
      (∀ e ∈ es, e.cells.length = sz) → (∀ (j : Nat) x, (flat es)[j]? = some x → one x = true) →
      (∀ (j : Nat) x, (flat es)[j]? = some x → w.cell? ⟨b, off + j, none⟩ = some (f j)) →
      (∀ (j : Nat) x, (flat es)[j]? = some x → RepT S w x (f j)) → RepT S w (.sl sz es) (.slice (some ⟨b, off, none⟩) es.length cap)
  | cp (cs : List AV) (b off : Nat) (f : Nat → Value) : S b →
      (∀ (j : Nat) x, cs[j]? = some x → w.cell? ⟨b, off + j, none⟩ = some (f j)) →
      (∀ (j : Nat) x, cs[j]? = some x → RepT S w x (f j)) → RepT S w (.cp cs) (.pointer (some ⟨b, off, none⟩))
  | nilp : RepT S w .nilp (.pointer none)
  | nilf : RepT S w .nilf .nilFunc
  | fn (f : Fn) (first cap : List AV) (as bs : Array Value) : first.length = as.size → cap.length = bs.size →
      (∀ (i : Nat) x v, first[i]? = some x → as[i]? = some v → RepT S w x v) →
      (∀ (i : Nat) x v, cap[i]? = some x → bs[i]? = some v → RepT S w x v) → RepT S w (.fn f first cap) (.func f as bs)
  | junk (v : Value) : RepT S w .junk v

theorem cell?_eq {w w' : World} {b off : Nat} (h : w'.heap[b]? = w.heap[b]?) : w'.cell? ⟨b, off, none⟩ = w.cell? ⟨b, off, none⟩ := by
  simp [World.cell?, h]

theorem RepT.mono {S S' : Nat → Prop} {w w' : World} (hS : ∀ b, S b → S' b) (hw : ∀ b, S b → w'.heap[b]? = w.heap[b]?)
    {x : AV} {v : Value} (h : RepT S w x v) : RepT S' w' x v := by
  induction h with
  | int k n => exact .int k n
  | bool b => exact .bool b
  | str s => exact .str s
  | agg cs vs hl _ ih => exact .agg cs vs hl ih
  | tup cs vs hl _ ih => exact .tup cs vs hl ih
  | snil => exact .snil
  | sl0 sz a cap h0 => exact .sl0 sz a cap h0
  | sl sz es b off cap f hne hb hc hm hsz hlen hone hcell _ ih =>
    exact .sl sz es b off cap f hne (hS b hb) hc hm hsz hlen hone (fun j x hx => by rw [cell?_eq (hw b hb)]; exact hcell j x hx) ih
  | cp cs b off f hb hcell _ ih => exact .cp cs b off f (hS b hb) (fun j x hx => by rw [cell?_eq (hw b hb)]; exact hcell j x hx) ih
  | nilp => exact .nilp
  | nilf => exact .nilf
  | fn f first cap as bs h1 h2 _ _ ih1 ih2 => exact .fn f first cap as bs h1 h2 ih1 ih2
  | junk v => exact .junk v

/-! ### Values that may name objects -/

inductive RepV (S : Nat → Prop) (w : World) (φ : Nat → Loc) (η : Heap) : AV → Value → Prop where
  | pure {x : AV} {v : Value} : RepT S w x v → RepV S w φ η x v
  | ow {id sz : Nat} {k : Kd} {E : TypeId} {es : List AV} : lk η id = some (.arr k sz E es) → (φ id).mat = true →
      RepV S w φ η (.ow id) (.slice (some ⟨(φ id).blk, 0, none⟩) es.length (φ id).cap)
  | ow0 {id sz : Nat} {k : Kd} {E : TypeId} : lk η id = some (.arr k sz E []) → (φ id).mat = false → RepV S w φ η (.ow id) (.slice (φ id).va 0 0)
  | box {id off : Nat} {cs : List AV} : lk η id = some (.box cs) → (φ id).mat = true →
      RepV S w φ η (.ptr id 0 off) (.pointer (some ⟨(φ id).blk, off, none⟩))
  | elt {id k off sz : Nat} {kd : Kd} {E : TypeId} {es : List AV} : lk η id = some (.arr kd sz E es) → (φ id).mat = true →
      RepV S w φ η (.ptr id k off) (.pointer (some ⟨(φ id).blk, k * sz + off, none⟩))
  | sub {id n sz : Nat} {k : Kd} {E : TypeId} {es : List AV} : lk η id = some (.arr k sz E es) → RepV S w φ η (.sub id n) (.slice ((φ id).sv n).1 ((φ id).sv n).2.1 ((φ id).sv n).2.2)
  | agg (cs : List AV) (vs : Array Value) : cs.length = vs.size →
      (∀ (i : Nat) x v, cs[i]? = some x → vs[i]? = some v → RepV S w φ η x v) → RepV S w φ η (.agg cs) (.agg vs)
  | tup (cs : List AV) (vs : Array Value) : cs.length = vs.size →
      (∀ (i : Nat) x v, cs[i]? = some x → vs[i]? = some v → RepV S w φ η x v) → RepV S w φ η (.tup cs) (.tuple vs)
  | fn (f : Fn) (first cap : List AV) (as bs : Array Value) : first.length = as.size → cap.length = bs.size →
      (∀ (i : Nat) x v, first[i]? = some x → as[i]? = some v → RepV S w φ η x v) →
      (∀ (i : Nat) x v, cap[i]? = some x → bs[i]? = some v → RepV S w φ η x v) → RepV S w φ η (.fn f first cap) (.func f as bs)

/-- The heads of a value that names objects. -/
def headsAlike (φ φ' : Nat → Loc) (η η' : Heap) : Prop :=
  (∀ id cs, lk η id = some (.box cs) → (φ id).mat = true → (∃ cs', lk η' id = some (.box cs')) ∧ φ' id = φ id) ∧
  (∀ id k sz E es, lk η id = some (.arr k sz E es) → φ' id = φ id ∧ ∃ k' es', es'.length = es.length ∧ lk η' id = some (.arr k' sz E es'))

theorem RepV.mono {S S' : Nat → Prop} {w w' : World} {φ φ' : Nat → Loc} {η η' : Heap} (hS : ∀ b, S b → S' b)
    (hw : ∀ b, S b → w'.heap[b]? = w.heap[b]?) (hh : headsAlike φ φ' η η') {x : AV} {v : Value}
    (h : RepV S w φ η x v) : RepV S' w' φ' η' x v := by
  induction h with
  | pure h => exact .pure (h.mono hS hw)
  | ow h hm =>
    obtain ⟨e, k', es', hl, h'⟩ := hh.2 _ _ _ _ _ h
    have := RepV.ow (S := S') (w := w') (φ := φ') h' (by rw [e]; exact hm)
    rw [e, hl] at this
    exact this
  | ow0 h hm =>
    obtain ⟨e, k', es', hl, h'⟩ := hh.2 _ _ _ _ _ h
    have : es' = [] := List.eq_nil_of_length_eq_zero (by simpa using hl)
    subst this
    have := RepV.ow0 (S := S') (w := w') (φ := φ') h' (by rw [e]; exact hm)
    rw [e] at this
    exact this
  | @box id off cs h hm =>
    obtain ⟨⟨cs', h'⟩, e⟩ := hh.1 _ _ h hm
    have := RepV.box (S := S') (w := w') (φ := φ') (off := off) h' (by rw [e]; exact hm)
    rw [e] at this
    exact this
  | @elt id k off sz kd E es h hm =>
    obtain ⟨e, k', es', hl, h'⟩ := hh.2 _ _ _ _ _ h
    have := RepV.elt (S := S') (w := w') (φ := φ') (k := k) (off := off) h' (by rw [e]; exact hm)
    rw [e] at this
    exact this
  | @sub id n sz k E es h =>
    obtain ⟨e, k', es', hl, h'⟩ := hh.2 _ _ _ _ _ h
    have := RepV.sub (S := S') (w := w') (φ := φ') (n := n) h'
    rw [e] at this
    exact this
  | agg cs vs hl _ ih => exact .agg cs vs hl ih
  | tup cs vs hl _ ih => exact .tup cs vs hl ih
  | fn f first cap as bs h1 h2 _ _ ih1 ih2 => exact .fn f first cap as bs h1 h2 ih1 ih2

/-! ### Which objects a value names -/

mutual
def men (id : Nat) : AV → Bool
  | .ow i => Nat.beq i id
  | .ptr i _ _ => Nat.beq i id
  | .mp i => Nat.beq i id
  | .sub i _ => Nat.beq i id
  | .agg cs => menL id cs
  | .tup vs => menL id vs
  | .fn _ as bs => menL id as || menL id bs
  | _ => false
def menL (id : Nat) : List AV → Bool
  | [] => false
  | x :: r => men id x || menL id r
end

theorem menL_mem {id : Nat} : ∀ {l : List AV}, menL id l = false → ∀ (i : Nat) x, l[i]? = some x → men id x = false := by
  intro l
  induction l with
  | nil => intro _ i x hx; simp at hx
  | cons y l ih =>
    intro h i x hx
    simp only [menL, Bool.or_eq_false_iff] at h
    cases i with
    | zero => simp at hx; subst hx; exact h.1
    | succ i => simp at hx; exact ih h.2 i x hx

/-- A value that does not name the object 'id' stands for what it did, whatever becomes of that object. -/
theorem RepV.apart {S S' : Nat → Prop} {w w' : World} {φ φ' : Nat → Loc} {η η' : Heap} {id : Nat} (hS : ∀ b, S b → S' b)
    (hw : ∀ b, S b → w'.heap[b]? = w.heap[b]?) (hφ : ∀ i, i ≠ id → φ' i = φ i)
    (hb : ∀ i cs, i ≠ id → lk η i = some (.box cs) → ∃ cs', lk η' i = some (.box cs')) (ha : ∀ i k sz E es, i ≠ id → lk η i = some (.arr k sz E es) → lk η' i = some (.arr k sz E es))
    {x : AV} {v : Value} (h : RepV S w φ η x v) : men id x = false → RepV S' w' φ' η' x v := by
  induction h with
  | pure h => exact fun _ => .pure (h.mono hS hw)
  | @ow i sz k E es h hm =>
    intro hne
    have hi : i ≠ id := fun e => by subst e; simp [men] at hne
    have := RepV.ow (S := S') (w := w') (φ := φ') (ha i _ _ _ _ hi h) (by rw [hφ i hi]; exact hm)
    rw [hφ i hi] at this
    exact this
  | @ow0 i sz k E h hm =>
    intro hne
    have hi : i ≠ id := fun e => by subst e; simp [men] at hne
    have := RepV.ow0 (S := S') (w := w') (φ := φ') (ha i _ _ _ _ hi h) (by rw [hφ i hi]; exact hm)
    rw [hφ i hi] at this
    exact this
  | @box i off cs h hm =>
    intro hne
    have hi : i ≠ id := fun e => by subst e; simp [men] at hne
    obtain ⟨cs', h'⟩ := hb i _ hi h
    have := RepV.box (S := S') (w := w') (φ := φ') (off := off) h' (by rw [hφ i hi]; exact hm)
    rw [hφ i hi] at this
    exact this
  | @elt i k off sz kd E es h hm =>
    intro hne
    have hi : i ≠ id := fun e => by subst e; simp [men] at hne
    have := RepV.elt (S := S') (w := w') (φ := φ') (k := k) (off := off) (ha i _ _ _ _ hi h) (by rw [hφ i hi]; exact hm)
    rw [hφ i hi] at this
    exact this
  | @sub i n sz k E es h =>
    intro hne
    have hi : i ≠ id := fun e => by subst e; simp [men] at hne
    have := RepV.sub (S := S') (w := w') (φ := φ') (n := n) (ha i _ _ _ _ hi h)
    rw [hφ i hi] at this
    exact this
  | agg cs vs hl _ ih =>
    intro hne
    simp only [men] at hne
    exact .agg cs vs hl (fun i x v hx hv => ih i x v hx hv (menL_mem hne i x hx))
  | tup cs vs hl _ ih =>
    intro hne
    simp only [men] at hne
    exact .tup cs vs hl (fun i x v hx hv => ih i x v hx hv (menL_mem hne i x hx))
  | fn f first cap as bs h1 h2 _ _ ih1 ih2 =>
    intro hne
    simp only [men, Bool.or_eq_false_iff] at hne
    exact .fn f first cap as bs h1 h2 (fun i x v hx hv => ih1 i x v hx hv (menL_mem hne.1 i x hx)) (fun i x v hx hv => ih2 i x v hx hv (menL_mem hne.2 i x hx))

mutual
/-- Values that name no object at all. -/
def noIds : AV → Bool
  | .ow _ => false
  | .ptr _ _ _ => false
  | .mp _ => false
  | .sub _ _ => false
  | .agg cs => noIdsL cs
  | .tup vs => noIdsL vs
  | .fn _ as bs => noIdsL as && noIdsL bs
  | _ => true
def noIdsL : List AV → Bool
  | [] => true
  | x :: r => noIds x && noIdsL r
end

theorem noIdsL_mem : ∀ {l : List AV}, noIdsL l = true → ∀ (i : Nat) x, l[i]? = some x → noIds x = true := by
  intro l
  induction l with
  | nil => intro _ i x hx; simp at hx
  | cons y l ih =>
    intro h i x hx
    simp only [noIdsL, Bool.and_eq_true] at h
    cases i with
    | zero => simp at hx; subst hx; exact h.1
    | succ i => simp at hx; exact ih h.2 i x hx

theorem RepV.tree {S : Nat → Prop} {w : World} {φ : Nat → Loc} {η : Heap} {x : AV} {v : Value} (h : RepV S w φ η x v) : noIds x = true → RepT S w x v := by
  induction h with
  | pure h => exact fun _ => h
  | agg cs vs hl _ ih =>
    intro hn
    simp only [noIds] at hn
    exact .agg cs vs hl (fun i x v hx hv => ih i x v hx hv (noIdsL_mem hn i x hx))
  | tup cs vs hl _ ih =>
    intro hn
    simp only [noIds] at hn
    exact .tup cs vs hl (fun i x v hx hv => ih i x v hx hv (noIdsL_mem hn i x hx))
  | fn f first cap as bs h1 h2 _ _ ih1 ih2 =>
    intro hn
    simp only [noIds, Bool.and_eq_true] at hn
    exact .fn f first cap as bs h1 h2 (fun i x v hx hv => ih1 i x v hx hv (noIdsL_mem hn.1 i x hx)) (fun i x v hx hv => ih2 i x v hx hv (noIdsL_mem hn.2 i x hx))
  | _ => intro hn; simp [noIds] at hn

end Go.AM
