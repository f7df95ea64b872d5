import Derived.Tactics2
import Derived.BigFrame
import Derived.Laws.AppendOwn
import Derived.Laws.OwnMore
import Derived.Laws.MakeOwn
import Derived.Below
import Derived.Laws.Slices
import Derived.Laws.Strings
import Derived.IntWalk
import Derived.ChangeKeysEq
import Derived.Laws.Cells
import Derived.Laws.CopyRow
namespace Go.AM
open Go
inductive AV where
  | int (k : IntKind) (n : Int)
  | bool (b : Bool)
  | str (s : List UInt8)
  | agg (cs : List AV)
  | tup (vs : List AV)
  | snil
  | sl (sz : Nat) (es : List AV)
  | cp (cs : List AV)
  | nilp
  | nilf
  | fn (f : Fn) (first cap : List AV)
  | ptr (id k off : Nat)
  | ow (id : Nat)
  | mp (id : Nat)
  | sub (id n : Nat)
  | win (id lo : Nat)
  | tr (x : AV)
  | junk
  deriving Inhabited
def AV.cells : AV → List AV
  | .agg cs => cs
  | v => [v]
def one : AV → Bool
  | .agg _ => false
  | .tup _ => false
  | .junk => false
  | _ => true
def flat (es : List AV) : List AV := es.flatMap AV.cells
structure Kd where
  p : Bool
  d : Bool
  deriving Inhabited, DecidableEq
inductive AO where
  | box (cs : List AV)
  | arr (k : Kd) (sz : Nat) (E : TypeId) (es : List AV)
  deriving Inhabited
def AO.isBox : AO → Nat
  | .box _ => 0
  | .arr k _ _ _ => bif k.p then 2 else 1
def AO.alike : AO → AO → Prop
  | .box _, .box _ => True
  | .arr k sz E es, .arr k' sz' E' es' => k'.p = k.p ∧ (k.p = true → sz' = sz ∧ E' = E ∧ es'.length = es.length)
  | _, _ => False
theorem AO.alike_refl (o : AO) : o.alike o := by cases o <;> simp [AO.alike]
theorem AO.alike_trans {a b c : AO} (h : a.alike b) (g : b.alike c) : a.alike c := by
  cases a <;> cases b <;> cases c <;> simp only [AO.alike] at * <;> first | trivial | (exact h.elim) | (exact g.elim) | skip
  refine ⟨g.1.trans h.1, fun hk => ?_⟩
  obtain ⟨h1, h2, h3⟩ := h.2 hk
  obtain ⟨g1, g2, g3⟩ := g.2 (h.1.trans hk)
  exact ⟨g1.trans h1, g2.trans h2, g3.trans h3⟩
theorem AO.alike_box {a b : AO} (h : a.alike b) : b.isBox = a.isBox := by
  cases a <;> cases b <;> simp only [AO.alike, AO.isBox] at * <;> first | rfl | (exact h.elim) | (rw [h.1])
def AO.fixed : AO → Bool
  | .arr k _ _ _ => k.p
  | _ => true
structure Loc where
  blk : Nat
  cap : Nat
  mat : Bool
  fp : List Nat
  va : Option Addr
  sv : Nat → Option Addr × Nat × Nat
@[reducible] def mkLoc (blk cap : Nat) (mat : Bool) : Loc := ⟨blk, cap, mat, [], none, fun _ => (none, 0, 0)⟩
def Loc.owns (l : Loc) (b : Nat) : Prop := (l.mat = true ∧ l.blk = b) ∨ b ∈ l.fp
theorem mkLoc_owns {g c : Nat} {m : Bool} {b : Nat} : (mkLoc g c m).owns b ↔ (m = true ∧ g = b) := by simp [mkLoc, Loc.owns]
def lk {α : Type} : List (Nat × α) → Nat → Option α
  | [], _ => none
  | (k, v) :: r, i => bif Nat.beq k i then some v else lk r i
def sput {α : Type} : List (Nat × α) → Nat → α → Option (List (Nat × α))
  | [], i, v => some [(i, v)]
  | (k, u) :: r, i, v => bif Nat.beq k i then some ((k, v) :: r) else
    match sput r i v with
    | some r' => some ((k, u) :: r')
    | none => none
abbrev Xb := List (Nat × AV)
abbrev Heap := List (Nat × AO)
structure St where
  s : Xb
  h : Heap
theorem beq_iff (k i : Nat) : Nat.beq k i = true ↔ k = i := by
  constructor
  · exact Nat.eq_of_beq_eq_true
  · rintro rfl; exact Nat.beq_refl k
theorem Q7 {α : Type} (k : Nat) (v : α) (r : List (Nat × α)) (i : Nat) :
    lk ((k, v) :: r) i = if k = i then some v else lk r i := by
  rw [lk]
  by_cases h : k = i
  · simp [h]
  · have : Nat.beq k i = false := by
      cases hb : Nat.beq k i with
      | false => rfl
      | true => exact absurd ((beq_iff k i).1 hb) h
    simp [this, h]
theorem lk_sput {α : Type} : ∀ {l l' : List (Nat × α)} {i : Nat} {v : α}, sput l i v = some l' →
    ∀ j, lk l' j = if i = j then some v else lk l j := by
  intro l
  induction l with
  | nil =>
    intro l' i v h j
    simp only [sput, Option.some.injEq] at h
    subst h
    rw [Q7]
  | cons p r ih =>
    obtain ⟨k, u⟩ := p
    intro l' i v h j
    unfold sput at h
    by_cases hk : Nat.beq k i = true
    · have e := (beq_iff k i).1 hk
      subst e
      simp only [hk, cond_true, Option.some.injEq] at h
      subst h
      rw [Q7, Q7]
      split <;> rfl
    · have hk' : Nat.beq k i = false := Bool.eq_false_iff.2 hk
      simp only [hk', cond_false] at h
      cases hr : sput r i v with
      | none => simp [hr] at h
      | some r' =>
        simp only [hr, Option.some.injEq] at h
        subst h
        have hne : k ≠ i := fun e => hk ((beq_iff k i).2 e)
        rw [Q7, Q7, ih hr j]
        by_cases hkj : k = j
        · subst hkj
          simp [Ne.symm hne]
        · simp [hkj]
inductive RepT (S : Nat → Prop) (w : World) : AV → Value → Prop where
  | int (k : IntKind) (n : Int) : RepT S w (.int k n) (.int k n)
  | bool (b : Bool) : RepT S w (.bool b) (.bool b)
  | str (s : List UInt8) : RepT S w (.str s) (.string ⟨s.toArray⟩)
  | agg (cs : List AV) (vs : Array Value) : cs.length = vs.size →
      (∀ (i : Nat) x v, cs[i]? = some x → vs[i]? = some v → RepT S w x v) → RepT S w (.agg cs) (.agg vs)
  | tup (cs : List AV) (vs : Array Value) : cs.length = vs.size →
      (∀ (i : Nat) x v, cs[i]? = some x → vs[i]? = some v → RepT S w x v) → RepT S w (.tup cs) (.tuple vs)
  | snil : RepT S w .snil (.slice none 0 0)
  | sl0 (sz : Nat) (a : Option Addr) (cap : Nat) : (a = none → cap = 0) → RepT S w (.sl sz []) (.slice a 0 cap)
  | sl (sz : Nat) (es : List AV) (b off cap : Nat) (f : Nat → Value) : es ≠ [] → S b → es.length ≤ cap → cap ≤ maxLen → 0 < sz →
      (∀ e ∈ es, e.cells.length = sz) → (∀ (j : Nat) x, (flat es)[j]? = some x → one x = true) →
      (∀ (j : Nat) x, (flat es)[j]? = some x → w.cell? ⟨b, off + j, none⟩ = some (f j)) →
      (∀ (j : Nat) x, (flat es)[j]? = some x → RepT S w x (f j)) → RepT S w (.sl sz es) (.slice (some ⟨b, off, none⟩) es.length cap)
  | cp (cs : List AV) (b off : Nat) (f : Nat → Value) : S b →
      (∀ (j : Nat) x, cs[j]? = some x → w.cell? ⟨b, off + j, none⟩ = some (f j)) →
      (∀ (j : Nat) x, cs[j]? = some x → RepT S w x (f j)) → RepT S w (.cp cs) (.pointer (some ⟨b, off, none⟩))
  | nilp : RepT S w .nilp (.pointer none)
  | nilf : RepT S w .nilf .nilFunc
  | fn (f : Fn) (first cap : List AV) (as bs : Array Value) : first.length = as.size → cap.length = bs.size →
      (∀ (i : Nat) x v, first[i]? = some x → as[i]? = some v → RepT S w x v) →
      (∀ (i : Nat) x v, cap[i]? = some x → bs[i]? = some v → RepT S w x v) → RepT S w (.fn f first cap) (.func f as bs)
  | tr (x : AV) (p : Option Addr) : RepT S w x (.pointer p) → RepT S w (.tr x) (.pointer p)
  | trm (x : AV) (us : Array Value) : RepT S w x (.tuple us) → RepT S w (.tr x) (.func (.func 0) us #[])
  | ifn : RepT S w (.tr (.bool false)) .nilIface
  | ifs (te : TypeId) (pe : Value) : RepT S w (.tr (.bool true)) (.iface te pe)
  | junk (v : Value) : RepT S w .junk v
theorem cell?_eq {w w' : World} {b off : Nat} (h : w'.heap[b]? = w.heap[b]?) : w'.cell? ⟨b, off, none⟩ = w.cell? ⟨b, off, none⟩ := by
  simp [World.cell?, h]
theorem RepT.mono {S S' : Nat → Prop} {w w' : World} (hS : ∀ b, S b → S' b) (hw : ∀ b, S b → w'.heap[b]? = w.heap[b]?)
    {x : AV} {v : Value} (h : RepT S w x v) : RepT S' w' x v := by
  induction h with
  | int k n => exact .int k n
  | bool b => exact .bool b
  | str s => exact .str s
  | agg cs vs hl _ ih => exact .agg cs vs hl ih
  | tup cs vs hl _ ih => exact .tup cs vs hl ih
  | snil => exact .snil
  | sl0 sz a cap h0 => exact .sl0 sz a cap h0
  | sl sz es b off cap f hne hb hc hm hsz hlen hone hcell _ ih =>
    exact .sl sz es b off cap f hne (hS b hb) hc hm hsz hlen hone (fun j x hx => by rw [cell?_eq (hw b hb)]; exact hcell j x hx) ih
  | cp cs b off f hb hcell _ ih => exact .cp cs b off f (hS b hb) (fun j x hx => by rw [cell?_eq (hw b hb)]; exact hcell j x hx) ih
  | nilp => exact .nilp
  | nilf => exact .nilf
  | fn f first cap as bs h1 h2 _ _ ih1 ih2 => exact .fn f first cap as bs h1 h2 ih1 ih2
  | tr x p _ ih => exact .tr x p ih
  | trm x us _ ih => exact .trm x us ih
  | ifn => exact .ifn
  | ifs te pe => exact .ifs te pe
  | junk v => exact .junk v
inductive RepV (S : Nat → Prop) (w : World) (φ : Nat → Loc) (η : Heap) : AV → Value → Prop where
  | pure {x : AV} {v : Value} : RepT S w x v → RepV S w φ η x v
  | ow {id sz : Nat} {k : Kd} {E : TypeId} {es : List AV} : lk η id = some (.arr k sz E es) → (φ id).mat = true →
      RepV S w φ η (.ow id) (.slice (some ⟨(φ id).blk, 0, none⟩) es.length (φ id).cap)
  | ow0 {id sz : Nat} {k : Kd} {E : TypeId} : lk η id = some (.arr k sz E []) → (φ id).mat = false → RepV S w φ η (.ow id) (.slice (φ id).va 0 0)
  | box {id off : Nat} {cs : List AV} : lk η id = some (.box cs) → (φ id).mat = true →
      RepV S w φ η (.ptr id 0 off) (.pointer (some ⟨(φ id).blk, off, none⟩))
  | mp {id : Nat} {cs : List AV} : lk η id = some (.box cs) → (φ id).mat = true → RepV S w φ η (.mp id) (.map (some (φ id).blk))
  | elt {id k off sz : Nat} {kd : Kd} {E : TypeId} {es : List AV} : lk η id = some (.arr kd sz E es) → (φ id).mat = true →
      RepV S w φ η (.ptr id k off) (.pointer (some ⟨(φ id).blk, k * sz + off, none⟩))
  | sub {id n sz : Nat} {k : Kd} {E : TypeId} {es : List AV} : lk η id = some (.arr k sz E es) → RepV S w φ η (.sub id n) (.slice ((φ id).sv n).1 ((φ id).sv n).2.1 ((φ id).sv n).2.2)
  | win {id lo sz : Nat} {k : Kd} {E : TypeId} {es : List AV} : lk η id = some (.arr k sz E es) → (φ id).mat = true → lo < es.length →
      RepV S w φ η (.win id lo) (.slice (some ⟨(φ id).blk, lo * sz, none⟩) (es.length - lo) ((φ id).cap - lo))
  | winE {id lo sz : Nat} {k : Kd} {E : TypeId} {es : List AV} {a : Option Addr} {c : Nat} : lk η id = some (.arr k sz E es) → es.length ≤ lo → RepV S w φ η (.win id lo) (.slice a 0 c)
  | agg (cs : List AV) (vs : Array Value) : cs.length = vs.size →
      (∀ (i : Nat) x v, cs[i]? = some x → vs[i]? = some v → RepV S w φ η x v) → RepV S w φ η (.agg cs) (.agg vs)
  | tup (cs : List AV) (vs : Array Value) : cs.length = vs.size →
      (∀ (i : Nat) x v, cs[i]? = some x → vs[i]? = some v → RepV S w φ η x v) → RepV S w φ η (.tup cs) (.tuple vs)
  | fn (f : Fn) (first cap : List AV) (as bs : Array Value) : first.length = as.size → cap.length = bs.size →
      (∀ (i : Nat) x v, first[i]? = some x → as[i]? = some v → RepV S w φ η x v) →
      (∀ (i : Nat) x v, cap[i]? = some x → bs[i]? = some v → RepV S w φ η x v) → RepV S w φ η (.fn f first cap) (.func f as bs)
def headsAlike (φ φ' : Nat → Loc) (η η' : Heap) : Prop :=
  (∀ id cs, lk η id = some (.box cs) → (φ id).mat = true → (∃ cs', lk η' id = some (.box cs')) ∧ φ' id = φ id) ∧
  (∀ id k sz E es, lk η id = some (.arr k sz E es) → φ' id = φ id ∧ ∃ k' es', es'.length = es.length ∧ lk η' id = some (.arr k' sz E es'))
theorem RepV.mono {S S' : Nat → Prop} {w w' : World} {φ φ' : Nat → Loc} {η η' : Heap} (hS : ∀ b, S b → S' b)
    (hw : ∀ b, S b → w'.heap[b]? = w.heap[b]?) (hh : headsAlike φ φ' η η') {x : AV} {v : Value}
    (h : RepV S w φ η x v) : RepV S' w' φ' η' x v := by
  induction h with
  | pure h => exact .pure (h.mono hS hw)
  | ow h hm =>
    obtain ⟨e, k', es', hl, h'⟩ := hh.2 _ _ _ _ _ h
    have := RepV.ow (S := S') (w := w') (φ := φ') h' (by rw [e]; exact hm)
    rw [e, hl] at this
    exact this
  | ow0 h hm =>
    obtain ⟨e, k', es', hl, h'⟩ := hh.2 _ _ _ _ _ h
    have : es' = [] := List.eq_nil_of_length_eq_zero (by simpa using hl)
    subst this
    have := RepV.ow0 (S := S') (w := w') (φ := φ') h' (by rw [e]; exact hm)
    rw [e] at this
    exact this
  | @box id off cs h hm =>
    obtain ⟨⟨cs', h'⟩, e⟩ := hh.1 _ _ h hm
    have := RepV.box (S := S') (w := w') (φ := φ') (off := off) h' (by rw [e]; exact hm)
    rw [e] at this
    exact this
  | @mp id cs h hm =>
    obtain ⟨⟨cs', h'⟩, e⟩ := hh.1 _ _ h hm
    have := RepV.mp (S := S') (w := w') (φ := φ') h' (by rw [e]; exact hm)
    rw [e] at this
    exact this
  | @elt id k off sz kd E es h hm =>
    obtain ⟨e, k', es', hl, h'⟩ := hh.2 _ _ _ _ _ h
    have := RepV.elt (S := S') (w := w') (φ := φ') (k := k) (off := off) h' (by rw [e]; exact hm)
    rw [e] at this
    exact this
  | @sub id n sz k E es h =>
    obtain ⟨e, k', es', hl, h'⟩ := hh.2 _ _ _ _ _ h
    have := RepV.sub (S := S') (w := w') (φ := φ') (n := n) h'
    rw [e] at this
    exact this
  | @win id lo sz k E es h hm hlo =>
    obtain ⟨e, k', es', hl, h'⟩ := hh.2 _ _ _ _ _ h
    have := RepV.win (S := S') (w := w') (φ := φ') (lo := lo) h' (by rw [e]; exact hm) (by rw [hl]; exact hlo)
    rw [e, hl] at this
    exact this
  | winE h hlo =>
    obtain ⟨e, k', es', hl, h'⟩ := hh.2 _ _ _ _ _ h
    exact .winE h' (by rw [hl]; exact hlo)
  | agg cs vs hl _ ih => exact .agg cs vs hl ih
  | tup cs vs hl _ ih => exact .tup cs vs hl ih
  | fn f first cap as bs h1 h2 _ _ ih1 ih2 => exact .fn f first cap as bs h1 h2 ih1 ih2
mutual
def men (id : Nat) : AV → Bool
  | .ow i => Nat.beq i id
  | .ptr i _ _ => Nat.beq i id
  | .mp i => Nat.beq i id
  | .sub i _ => Nat.beq i id
  | .win i _ => Nat.beq i id
  | .agg cs => menL id cs
  | .tup vs => menL id vs
  | .fn _ as bs => menL id as || menL id bs
  | _ => false
def menL (id : Nat) : List AV → Bool
  | [] => false
  | x :: r => men id x || menL id r
end
theorem menL_mem {id : Nat} : ∀ {l : List AV}, menL id l = false → ∀ (i : Nat) x, l[i]? = some x → men id x = false := by
  intro l
  induction l with
  | nil => intro _ i x hx; simp at hx
  | cons y l ih =>
    intro h i x hx
    simp only [menL, Bool.or_eq_false_iff] at h
    cases i with
    | zero => simp at hx; subst hx; exact h.1
    | succ i => simp at hx; exact ih h.2 i x hx
theorem RepV.apart {S S' : Nat → Prop} {w w' : World} {φ φ' : Nat → Loc} {η η' : Heap} {id : Nat} (hS : ∀ b, S b → S' b)
    (hw : ∀ b, S b → w'.heap[b]? = w.heap[b]?) (hφ : ∀ i, i ≠ id → φ' i = φ i)
    (hb : ∀ i cs, i ≠ id → lk η i = some (.box cs) → ∃ cs', lk η' i = some (.box cs')) (ha : ∀ i k sz E es, i ≠ id → lk η i = some (.arr k sz E es) → lk η' i = some (.arr k sz E es))
    {x : AV} {v : Value} (h : RepV S w φ η x v) : men id x = false → RepV S' w' φ' η' x v := by
  induction h with
  | pure h => exact fun _ => .pure (h.mono hS hw)
  | @ow i sz k E es h hm =>
    intro hne
    have hi : i ≠ id := fun e => by subst e; simp [men] at hne
    have := RepV.ow (S := S') (w := w') (φ := φ') (ha i _ _ _ _ hi h) (by rw [hφ i hi]; exact hm)
    rw [hφ i hi] at this
    exact this
  | @ow0 i sz k E h hm =>
    intro hne
    have hi : i ≠ id := fun e => by subst e; simp [men] at hne
    have := RepV.ow0 (S := S') (w := w') (φ := φ') (ha i _ _ _ _ hi h) (by rw [hφ i hi]; exact hm)
    rw [hφ i hi] at this
    exact this
  | @box i off cs h hm =>
    intro hne
    have hi : i ≠ id := fun e => by subst e; simp [men] at hne
    obtain ⟨cs', h'⟩ := hb i _ hi h
    have := RepV.box (S := S') (w := w') (φ := φ') (off := off) h' (by rw [hφ i hi]; exact hm)
    rw [hφ i hi] at this
    exact this
  | @mp i cs h hm =>
    intro hne
    have hi : i ≠ id := fun e => by subst e; simp [men] at hne
    obtain ⟨cs', h'⟩ := hb i _ hi h
    have := RepV.mp (S := S') (w := w') (φ := φ') h' (by rw [hφ i hi]; exact hm)
    rw [hφ i hi] at this
    exact this
  | @elt i k off sz kd E es h hm =>
    intro hne
    have hi : i ≠ id := fun e => by subst e; simp [men] at hne
    have := RepV.elt (S := S') (w := w') (φ := φ') (k := k) (off := off) (ha i _ _ _ _ hi h) (by rw [hφ i hi]; exact hm)
    rw [hφ i hi] at this
    exact this
  | @sub i n sz k E es h =>
    intro hne
    have hi : i ≠ id := fun e => by subst e; simp [men] at hne
    have := RepV.sub (S := S') (w := w') (φ := φ') (n := n) (ha i _ _ _ _ hi h)
    rw [hφ i hi] at this
    exact this
  | @win i lo sz k E es h hm hlo =>
    intro hne
    have hi : i ≠ id := fun e => by subst e; simp [men] at hne
    have := RepV.win (S := S') (w := w') (φ := φ') (lo := lo) (ha i _ _ _ _ hi h) (by rw [hφ i hi]; exact hm) hlo
    rw [hφ i hi] at this
    exact this
  | @winE i lo sz k E es a c h hlo =>
    intro hne
    have hi : i ≠ id := fun e => by subst e; simp [men] at hne
    exact .winE (ha i _ _ _ _ hi h) hlo
  | agg cs vs hl _ ih =>
    intro hne
    simp only [men] at hne
    exact .agg cs vs hl (fun i x v hx hv => ih i x v hx hv (menL_mem hne i x hx))
  | tup cs vs hl _ ih =>
    intro hne
    simp only [men] at hne
    exact .tup cs vs hl (fun i x v hx hv => ih i x v hx hv (menL_mem hne i x hx))
  | fn f first cap as bs h1 h2 _ _ ih1 ih2 =>
    intro hne
    simp only [men, Bool.or_eq_false_iff] at hne
    exact .fn f first cap as bs h1 h2 (fun i x v hx hv => ih1 i x v hx hv (menL_mem hne.1 i x hx)) (fun i x v hx hv => ih2 i x v hx hv (menL_mem hne.2 i x hx))
mutual
def noIds : AV → Bool
  | .ow _ => false
  | .ptr _ _ _ => false
  | .mp _ => false
  | .sub _ _ => false
  | .win _ _ => false
  | .agg cs => noIdsL cs
  | .tup vs => noIdsL vs
  | .fn _ as bs => noIdsL as && noIdsL bs
  | _ => true
def noIdsL : List AV → Bool
  | [] => true
  | x :: r => noIds x && noIdsL r
end
theorem noIdsL_mem : ∀ {l : List AV}, noIdsL l = true → ∀ (i : Nat) x, l[i]? = some x → noIds x = true := by
  intro l
  induction l with
  | nil => intro _ i x hx; simp at hx
  | cons y l ih =>
    intro h i x hx
    simp only [noIdsL, Bool.and_eq_true] at h
    cases i with
    | zero => simp at hx; subst hx; exact h.1
    | succ i => simp at hx; exact ih h.2 i x hx
theorem RepV.tree {S : Nat → Prop} {w : World} {φ : Nat → Loc} {η : Heap} {x : AV} {v : Value} (h : RepV S w φ η x v) : noIds x = true → RepT S w x v := by
  induction h with
  | pure h => exact fun _ => h
  | agg cs vs hl _ ih =>
    intro hn
    simp only [noIds] at hn
    exact .agg cs vs hl (fun i x v hx hv => ih i x v hx hv (noIdsL_mem hn i x hx))
  | tup cs vs hl _ ih =>
    intro hn
    simp only [noIds] at hn
    exact .tup cs vs hl (fun i x v hx hv => ih i x v hx hv (noIdsL_mem hn i x hx))
  | fn f first cap as bs h1 h2 _ _ ih1 ih2 =>
    intro hn
    simp only [noIds, Bool.and_eq_true] at hn
    exact .fn f first cap as bs h1 h2 (fun i x v hx hv => ih1 i x v hx hv (noIdsL_mem hn.1 i x hx)) (fun i x v hx hv => ih2 i x v hx hv (noIdsL_mem hn.2 i x hx))
  | _ => intro hn; simp [noIds] at hn
end Go.AM

namespace Go.AM
open Go
inductive LinT (w : World) : AV → Value → List Nat → Prop where
  | int (k : IntKind) (n : Int) : LinT w (.int k n) (.int k n) []
  | bool (b : Bool) : LinT w (.bool b) (.bool b) []
  | str (s : List UInt8) : LinT w (.str s) (.string ⟨s.toArray⟩) []
  | snil : LinT w .snil (.slice none 0 0) []
  | agg (cs : List AV) (vs : Array Value) (fps : List (List Nat)) : cs.length = vs.size → fps.length = cs.length →
      (∀ (i : Nat) x v fp, cs[i]? = some x → vs[i]? = some v → fps[i]? = some fp → LinT w x v fp) → LinT w (.agg cs) (.agg vs) fps.flatten
  | sl0 (sz : Nat) (a : Option Addr) : LinT w (.sl sz []) (.slice a 0 0) []
  | sl (sz : Nat) (es : List AV) (b cap : Nat) (C : Array Value) (E : TypeId) (fps : List (List Nat)) : w.heap[b]? = some (.cells C E (0, 0)) → C.size = cap * sz →
      es.length ≤ cap → cap ≤ maxLen → 0 < sz → (∀ e ∈ es, e.cells.length = sz) → (∀ (j : Nat) x, (flat es)[j]? = some x → one x = true) → fps.length = (flat es).length →
      (∀ (j : Nat) x v fp, (flat es)[j]? = some x → C[j]? = some v → fps[j]? = some fp → LinT w x v fp) →
      LinT w (.sl sz es) (.slice (some ⟨b, 0, none⟩) es.length cap) (b :: fps.flatten)
def isSl : AV → Bool
  | .sl _ _ => true
  | .snil => true
  | _ => false
def CellsOK (k : Kd) (S : Nat → Prop) (w : World) (l : Loc) (xs : List AV) (C : Array Value) : Prop :=
  match k.d with
  | false => ∀ (j : Nat) x v, xs[j]? = some x → C[j]? = some v → RepT S w x v
  | true => ∃ fps : List (List Nat), fps.length = xs.length ∧ (∀ (j : Nat) x v fp, xs[j]? = some x → C[j]? = some v → fps[j]? = some fp → LinT w x v fp) ∧
      (l.blk :: fps.flatten).Nodup ∧ (∀ b ∈ fps.flatten, b ∈ l.fp) ∧ (∀ (j : Nat) x v, xs[j]? = some x → C[j]? = some v → isSl x = true → v = .slice (l.sv j).1 (l.sv j).2.1 (l.sv j).2.2)
@[reducible] def isMapLen (n : Nat) : Bool := Nat.beq n 19
def mapVals (ents : Array MapEntry) : Array Value := ((.func (.func 0) (ents.map fun e => .tuple #[e.key, e.val]) #[]) :: List.replicate 18 undef).toArray
def BoxAt (n : Nat) (o : Option Obj) (C : Array Value) (E : TypeId) : Prop :=
  (isMapLen n = false ∧ o = some (.cells C E (0, 0))) ∨ (isMapLen n = true ∧ ∃ ents clock, o = some (.map ents clock) ∧ C = mapVals ents)
theorem BoxAt.ex {n : Nat} {o : Option Obj} {C : Array Value} {E : TypeId} (h : BoxAt n o C E) : ∃ x, o = some x := by
  rcases h with ⟨_, h⟩ | ⟨_, _, _, h, _⟩ <;> exact ⟨_, h⟩
theorem BoxAt.cells {n : Nat} {o : Option Obj} {C : Array Value} {E : TypeId} (h : BoxAt n o C E) (hn : isMapLen n = false) : o = some (.cells C E (0, 0)) := by
  rcases h with ⟨_, h⟩ | ⟨h, _⟩
  · exact h
  · rw [hn] at h; cases h
theorem BoxAt.len {n m : Nat} {o : Option Obj} {C : Array Value} {E : TypeId} (h : BoxAt n o C E) (e : m = n) : BoxAt m o C E := e ▸ h
theorem BoxAt.lt {n b : Nat} {w : World} {C : Array Value} {E : TypeId} (h : BoxAt n w.heap[b]? C E) : b < w.heap.size := by
  obtain ⟨x, hx⟩ := h.ex
  exact (Array.getElem?_eq_some_iff.1 hx).1
def ObjOK (S : Nat → Prop) (w : World) (φ : Nat → Loc) (η : Heap) (id : Nat) : AO → Prop
  | .box cs => (φ id).mat = true ∧ ∃ C E, BoxAt cs.length w.heap[(φ id).blk]? C E ∧ C.size = cs.length ∧
      ∀ (i : Nat) x v, cs[i]? = some x → C[i]? = some v → RepV S w φ η x v
  | .arr k sz E es => 0 < sz ∧ (∀ e ∈ es, e.cells.length = sz) ∧ (∀ (j : Nat) x, (flat es)[j]? = some x → one x = true) ∧
      (((φ id).mat = false ∧ es = []) ∨
       ((φ id).mat = true ∧ ∃ C, w.heap[(φ id).blk]? = some (.cells C E (0, 0)) ∧ es.length ≤ (φ id).cap ∧ (φ id).cap ≤ maxLen ∧ C.size = (φ id).cap * sz ∧
        CellsOK k S w (φ id) (flat es) C))
structure HeapOK (S : Nat → Prop) (w : World) (φ : Nat → Loc) (η : Heap) : Prop where
  obj : ∀ id o, lk η id = some o → ObjOK S w φ η id o
  injO : ∀ id id' o o' b, lk η id = some o → lk η id' = some o' → (φ id).owns b → (φ id').owns b → id = id'
  free : ∀ b, S b → b < w.heap.size
  apartO : ∀ id o b, lk η id = some o → (φ id).owns b → ¬ S b
  ltO : ∀ id o b, lk η id = some o → (φ id).owns b → b < w.heap.size
theorem HeapOK.inj {S : Nat → Prop} {w : World} {φ : Nat → Loc} {η : Heap} (h : HeapOK S w φ η) (id id' : Nat) (o o' : AO) (h1 : lk η id = some o) (h2 : lk η id' = some o')
    (hm : (φ id).mat = true) (hm' : (φ id').mat = true) (he : (φ id).blk = (φ id').blk) : id = id' :=
  h.injO id id' o o' _ h1 h2 (.inl ⟨hm, rfl⟩) (.inl ⟨hm', he.symm⟩)
theorem HeapOK.apart {S : Nat → Prop} {w : World} {φ : Nat → Loc} {η : Heap} (h : HeapOK S w φ η) (id : Nat) (o : AO) (h1 : lk η id = some o) (hm : (φ id).mat = true) : ¬ S (φ id).blk :=
  h.apartO id o _ h1 (.inl ⟨hm, rfl⟩)
theorem HeapOK.ltB {S : Nat → Prop} {w : World} {φ : Nat → Loc} {η : Heap} (h : HeapOK S w φ η) {id : Nat} {o : AO} (h1 : lk η id = some o) (hm : (φ id).mat = true) : (φ id).blk < w.heap.size :=
  h.ltO id o _ h1 (.inl ⟨hm, rfl⟩)
theorem ObjOK.lt {S : Nat → Prop} {w : World} {φ : Nat → Loc} {η : Heap} {id : Nat} {o : AO} (h : ObjOK S w φ η id o) (hm : (φ id).mat = true) :
    (φ id).blk < w.heap.size := by
  cases o with
  | box cs => obtain ⟨_, C, E, hh, _⟩ := h; exact hh.lt
  | arr k sz E es =>
    obtain ⟨_, _, _, h⟩ := h
    rcases h with ⟨hf, _⟩ | ⟨_, C, hh, _⟩
    · rw [hm] at hf; cases hf
    · exact (Array.getElem?_eq_some_iff.1 hh).1
theorem LinT.mono {w w' : World} {x : AV} {v : Value} {fp : List Nat} (h : LinT w x v fp) : (∀ b ∈ fp, w'.heap[b]? = w.heap[b]?) → LinT w' x v fp := by
  induction h with
  | int k n => exact fun _ => .int k n
  | bool b => exact fun _ => .bool b
  | str s => exact fun _ => .str s
  | snil => exact fun _ => .snil
  | agg cs vs fps h1 h2 _ ih =>
    exact fun hb => .agg cs vs fps h1 h2 (fun i x v fp hx hv hf => ih i x v fp hx hv hf (fun b hbm => hb b (List.mem_flatten.2 ⟨fp, List.mem_of_getElem? hf, hbm⟩)))
  | sl0 sz a => exact fun _ => .sl0 sz a
  | sl sz es b cap C E fps h2 h3 h4 h5 h6 h7 h8 h9 _ ih =>
    exact fun hb => .sl sz es b cap C E fps (by rw [hb b (by simp)]; exact h2) h3 h4 h5 h6 h7 h8 h9
      (fun i x v fp hx hv hf => ih i x v fp hx hv hf (fun b hbm => hb b (by simp only [List.mem_cons]; exact .inr (List.mem_flatten.2 ⟨fp, List.mem_of_getElem? hf, hbm⟩))))
theorem CellsOK.mono {k : Kd} {S S' : Nat → Prop} {w w' : World} {l l' : Loc} {xs : List AV} {C : Array Value} (h : CellsOK k S w l xs C) (hS : ∀ b, S b → S' b)
    (hw : ∀ b, S b → w'.heap[b]? = w.heap[b]?) (hf : ∀ b ∈ l.fp, b ≠ l.blk → w'.heap[b]? = w.heap[b]?) (hl : l' = l) : CellsOK k S' w' l' xs C := by
  subst hl
  unfold CellsOK at *
  cases hk : k.d with
  | false => rw [hk] at h; exact fun j x v hx hv => (h j x v hx hv).mono hS hw
  | true =>
    rw [hk] at h
    obtain ⟨fps, h1, h2, h3, h4, h5⟩ := h
    exact ⟨fps, h1, fun j x v fp hx hv hp => (h2 j x v fp hx hv hp).mono (fun b hb => have hm := List.mem_flatten.2 ⟨fp, List.mem_of_getElem? hp, hb⟩; hf b (h4 b hm) (fun e => (List.nodup_cons.1 h3).1 (e ▸ hm))), h3, h4, h5⟩
theorem CellsOK.trees {k : Kd} {S : Nat → Prop} {w : World} {l : Loc} {xs : List AV} {C : Array Value} (h : CellsOK k S w l xs C) (hk : k.d = false) :
    ∀ (j : Nat) x v, xs[j]? = some x → C[j]? = some v → RepT S w x v := by
  unfold CellsOK at h
  rw [hk] at h
  exact h
theorem CellsOK.ofTrees {k : Kd} {S : Nat → Prop} {w : World} {l : Loc} {xs : List AV} {C : Array Value} (hk : k.d = false)
    (h : ∀ (j : Nat) x v, xs[j]? = some x → C[j]? = some v → RepT S w x v) : CellsOK k S w l xs C := by
  unfold CellsOK
  rw [hk]
  exact h
def flat1 : AV → Bool
  | .int _ _ => true
  | .bool _ => true
  | .str _ => true
  | _ => false
theorem LinT.ofFlat {w : World} {x : AV} {v : Value} {fp : List Nat} (h : LinT w x v fp) (hf : flat1 x = true) (S : Nat → Prop) (w' : World) : RepT S w' x v := by
  cases h <;> first | (simp [flat1] at hf; done) | constructor
theorem RepT.lin {S : Nat → Prop} {w w' : World} {x : AV} {v : Value} (h : RepT S w x v) (hf : flat1 x = true) : LinT w' x v [] := by
  cases h <;> first | (simp [flat1] at hf; done) | constructor
structure Fr where
  w : World
  S : Nat → Prop
  φ : Nat → Loc
  η : Heap
def Fr.mut (F : Fr) (b : Nat) : Prop := ∃ id o, lk F.η id = some o ∧ (F.φ id).owns b
def Stab (F : Fr) (w : World) (φ : Nat → Loc) (η : Heap) (b : Nat) : Prop :=
  b < w.heap.size ∧ (F.S b ∨ F.w.heap.size ≤ b) ∧ ∀ id o, lk η id = some o → ¬ (φ id).owns b
structure SameSys (w w' : World) : Prop where
  os : w'.os = w.os
  tape : w'.tape = w.tape
  output : w'.output = w.output
theorem SameSys.refl (w : World) : SameSys w w := ⟨rfl, rfl, rfl⟩
theorem SameSys.trans {a b c : World} (h : SameSys a b) (k : SameSys b c) : SameSys a c :=
  ⟨k.os.trans h.os, k.tape.trans h.tape, k.output.trans h.output⟩
structure RelP (F : Fr) (N : Nat) (st : St) (φ : Nat → Loc) (a : Act) (w : World) : Prop where
  size : a.tmps.size = N
  defers : a.defers = []
  sys : SameSys F.w w
  grow : F.w.heap.size ≤ w.heap.size
  heap : HeapOK (Stab F w φ st.h) w φ st.h
  slots : ∀ i x, lk st.s i = some x → ∃ v, a.tmps[i]? = some v ∧ RepV (Stab F w φ st.h) w φ st.h x v
  mine : ∀ id o b, lk st.h id = some o → (φ id).owns b → F.w.heap.size ≤ b ∨ ∃ o0, lk F.η id = some o0 ∧ (F.φ id).owns b
  fix : ∀ id o, lk F.η id = some o → o.isBox ≠ 1 → φ id = F.φ id
  keep : ∀ id o, lk F.η id = some o → ∃ o', lk st.h id = some o' ∧ o.alike o'
  frame : ∀ b, b < F.w.heap.size → ¬ F.mut b → w.heap[b]? = F.w.heap[b]?
def Rel (F : Fr) (N : Nat) (st : St) (a : Act) (w : World) : Prop := ∃ φ, RelP F N st φ a w
def cav1 : Value → Option AV
  | .int k n => some (.int k n)
  | .bool b => some (.bool b)
  | .string s => some (.str s.data.toList)
  | .slice none 0 0 => some .snil
  | .pointer none => some .nilp
  | .nilFunc => some .nilf
  | .map none => some .junk
  | .nilIface => some (.tr (.bool false))
  | _ => none
def cavL : List Value → Option (List AV)
  | [] => some []
  | v :: r => match cav1 v with
    | some x => match cavL r with
      | some l => some (x :: l)
      | none => none
    | none => none
def cav : Value → Option AV
  | .agg cs => match cavL cs.toList with
    | some l => some (.agg l)
    | none => none
  | .func f as bs => bif as.toList.isEmpty && bs.toList.isEmpty then some (.fn f [] []) else none
  | v => cav1 v
def aev (s : Xb) : Operand → Option AV
  | .tmp t => lk s t
  | .const v => cav v
  | .func f => some (.fn (.func f) [] [])
  | .global _ => none
theorem cav1_rep {S : Nat → Prop} {w : World} {v : Value} {x : AV} (h : cav1 v = some x) : RepT S w x v := by
  unfold cav1 at h
  split at h <;> first | (cases h; done) | skip
  · cases h; exact .int _ _
  · cases h; exact .bool _
  · rename_i s
    cases h
    have : (Value.string s) = .string ⟨s.data.toList.toArray⟩ := by simp
    rw [this]; exact .str _
  · cases h; exact .snil
  · cases h; exact .nilp
  · cases h; exact .nilf
  · cases h; exact .junk _
  · cases h; exact .ifn
theorem cavL_rep {S : Nat → Prop} {w : World} : ∀ {l : List Value} {xs : List AV}, cavL l = some xs →
    xs.length = l.length ∧ ∀ (i : Nat) x v, xs[i]? = some x → l[i]? = some v → RepT S w x v := by
  intro l
  induction l with
  | nil => intro xs h; cases h; exact ⟨rfl, fun i x v hx _ => by simp at hx⟩
  | cons v r ih =>
    intro xs h
    unfold cavL at h
    cases hv : cav1 v with
    | none => simp [hv] at h
    | some x =>
      simp only [hv] at h
      cases hr : cavL r with
      | none => simp [hr] at h
      | some l =>
        simp only [hr, Option.some.injEq] at h
        subst h
        obtain ⟨h1, h2⟩ := ih hr
        refine ⟨by simp [h1], fun i y u hy hu => ?_⟩
        cases i with
        | zero => simp at hy hu; subst hy; subst hu; exact cav1_rep hv
        | succ i => simp at hy hu; exact h2 i y u hy hu
theorem cav_rep {S : Nat → Prop} {w : World} {v : Value} {x : AV} (h : cav v = some x) : RepT S w x v := by
  unfold cav at h
  split at h
  · rename_i cs
    cases hc : cavL cs.toList with
    | none => simp [hc] at h
    | some l =>
      simp only [hc, Option.some.injEq] at h
      subst h
      obtain ⟨h1, h2⟩ := cavL_rep (S := S) (w := w) hc
      exact .agg l cs (by simpa using h1) (fun i x v hx hv => h2 i x v hx (by simpa using hv))
  · rename_i f as bs
    cases ha : as.toList.isEmpty && bs.toList.isEmpty with
    | false => rw [ha] at h; cases h
    | true =>
      rw [ha] at h
      simp only [cond_true, Option.some.injEq] at h
      subst h
      simp at ha
      obtain ⟨rfl, rfl⟩ := ha
      exact .fn _ [] [] #[] #[] rfl rfl (fun i x v hx _ => by simp at hx) (fun i x v hx _ => by simp at hx)
  · exact cav1_rep h
theorem aev_rep {F : Fr} {N : Nat} {st : St} {φ : Nat → Loc} {a : Act} {w : World} (hp : RelP F N st φ a w) {y : Operand} {z : AV}
    (h : aev st.s y = some z) : RepV (Stab F w φ st.h) w φ st.h z (a.eval y) := by
  cases y with
  | tmp t =>
    obtain ⟨v, hv, hr⟩ := hp.slots t z h
    have : a.eval (.tmp t) = v := by simp [Act.eval, hv]
    rw [this]; exact hr
  | const v => exact .pure (cav_rep h)
  | func f =>
    cases h
    exact .pure (.fn _ [] [] #[] #[] rfl rfl (fun i x v hx _ => by simp at hx) (fun i x v hx _ => by simp at hx))
  | global g => cases h
theorem RepV.bool_inv {S : Nat → Prop} {w : World} {φ : Nat → Loc} {η : Heap} {b : Bool} {v : Value} (h : RepV S w φ η (.bool b) v) : v = .bool b := by
  cases h with
  | pure h => cases h; rfl
theorem RepV.int_inv {S : Nat → Prop} {w : World} {φ : Nat → Loc} {η : Heap} {k : IntKind} {n : Int} {v : Value} (h : RepV S w φ η (.int k n) v) : v = .int k n := by
  cases h with
  | pure h => cases h; rfl
theorem RepV.str_inv {S : Nat → Prop} {w : World} {φ : Nat → Loc} {η : Heap} {s : List UInt8} {v : Value} (h : RepV S w φ η (.str s) v) : v = .string ⟨s.toArray⟩ := by
  cases h with
  | pure h => cases h; rfl
theorem aev_bool {F : Fr} {N : Nat} {st : St} {a : Act} {w : World} (hr : Rel F N st a w) {y : Operand} {b : Bool}
    (h : aev st.s y = some (.bool b)) : a.eval y = .bool b := by
  obtain ⟨φ, hp⟩ := hr
  exact (aev_rep hp h).bool_inv
theorem wanted_of {F : Fr} {N : Nat} {s : Xb} {h : Heap} {φ : Nat → Loc} {a : Act} {w : World} (hp : RelP F N ⟨s, h⟩ φ a w)
    {o : Oper} {ops : Array Oper} {j g : Nat} {b : Bool} (hg : o.guard = some (j, b)) (hj : (ops[j]?).bind (·.dst) = some g)
    (hb : lk s g = some (.bool b)) : Region.wanted o (yielded ops a.tmps) = true := by
  obtain ⟨v, hv, hr⟩ := hp.slots g _ hb
  have := hr.bool_inv
  subst this
  simp [Region.wanted, hg, yielded, hj, hv]
theorem unwanted_of {F : Fr} {N : Nat} {s : Xb} {h : Heap} {φ : Nat → Loc} {a : Act} {w : World} (hp : RelP F N ⟨s, h⟩ φ a w)
    {o : Oper} {ops : Array Oper} {j g : Nat} {b c : Bool} (hg : o.guard = some (j, b)) (hj : (ops[j]?).bind (·.dst) = some g)
    (hb : lk s g = some (.bool c)) (hbc : c = !b) : Region.wanted o (yielded ops a.tmps) = false := by
  obtain ⟨v, hv, hr⟩ := hp.slots g _ hb
  have := hr.bool_inv
  subst this
  subst hbc
  simp [Region.wanted, hg, yielded, hj, hv]
structure Ext (w w' : World) : Prop where
  grow : w.heap.size ≤ w'.heap.size
  same : ∀ b, b < w.heap.size → w'.heap[b]? = w.heap[b]?
theorem Ext.refl (w : World) : Ext w w := ⟨Nat.le_refl _, fun _ _ => rfl⟩
theorem Ext.trans {a b c : World} (h : Ext a b) (k : Ext b c) : Ext a c :=
  ⟨Nat.le_trans h.grow k.grow, fun i hi => (k.same i (Nat.lt_of_lt_of_le hi h.grow)).trans (h.same i hi)⟩
def TLE (ex : Bool) (P : Program) (F : Fr) (N : Nat) (ops : Array Oper) (l : List Oper) (K : St → Prop) (st : St) : Prop :=
  ∀ (a : Act) (w : World) (Q : Exit → Act → World → Prop), Rel F N st a w →
    (∀ st' a' w', K st' → Rel F N st' a' w' → (ex = true → Ext w w') → Q .normal a' w') → wpList P ops Q l a w
@[reducible] def TL (P : Program) (F : Fr) (N : Nat) (ops : Array Oper) (l : List Oper) (K : St → Prop) (st : St) : Prop := TLE false P F N ops l K st
def T (P : Program) (F : Fr) (N : Nat) (c : Code) (Q : Exit → St → Prop) (st : St) : Prop :=
  ∀ (a : Act) (w : World), Rel F N st a w → c.wp P (fun e a' w' => ∃ st', Q e st' ∧ Rel F N st' a' w') a w
@[reducible] def Post.seq (k : St → Prop) (Q : Exit → St → Prop) : Exit → St → Prop
  | .normal, st => k st
  | e, st => Q e st
@[reducible] def Post.blk (id : Nat) (Q : Exit → St → Prop) : Exit → St → Prop
  | .exit i, st => bif Nat.beq i id then Q .normal st else Q (.exit i) st
  | e, st => Q e st
section
variable {P : Program} {F : Fr} {N : Nat} {Q : Exit → St → Prop} {st : St}
theorem Qk {x y : Code} (h : T P F N x (Post.seq (T P F N y Q) Q) st) : T P F N (.seq x y) Q st := by
  intro a w hr
  refine wp_seq (Code.wp_mono ?_ (h a w hr))
  rintro e a' w' ⟨s', hq, hr'⟩
  cases e with
  | normal => exact hq a' w' hr'
  | _ => exact ⟨s', hq, hr'⟩
theorem QG (h : Q .normal st) : T P F N .skip Q st := fun _ _ hr => wp_skip ⟨st, h, hr⟩
theorem QH (h : Q .ret st) : T P F N .ret Q st := fun _ _ hr => wp_ret ⟨st, h, hr⟩
theorem T_exit {id : Nat} (h : Q (.exit id) st) : T P F N (.exit id) Q st := fun _ _ hr => wp_exit ⟨st, h, hr⟩
theorem QV {id : Nat} {c : Code} (h : T P F N c (Post.blk id Q) st) : T P F N (.block id c) Q st := by
  intro a w hr
  refine wp_block (Code.wp_mono ?_ (h a w hr))
  rintro e a' w' ⟨s', hq, hr'⟩
  cases e with
  | exit i =>
    simp only [Post.blk] at hq
    simp only [Exit.inBlock]
    cases hb : Nat.beq i id with
    | true => rw [hb] at hq; rw [if_pos ((beq_iff i id).1 hb)]; exact ⟨s', hq, hr'⟩
    | false => rw [hb] at hq; rw [if_neg (fun e => by rw [(beq_iff i id).2 e] at hb; cases hb)]; exact ⟨s', hq, hr'⟩
  | _ => exact ⟨s', hq, hr'⟩
def TR (P : Program) (F : Fr) (N : Nat) (c : Code) (Q : Exit → St → Prop) (st : St) : Prop :=
  ∀ (a : Act) (w : World), Rel F N st a w → ∀ (b : Frame) (k : List Item) (cs : List Frame),
    ∃ e a' w', (∃ st', Q e st' ∧ Rel F N st' a' w') ∧ Arrives P (lone (b.at a (.code c :: .inLoop c :: k)) cs w) b k cs e a' w'
theorem T_loop {c : Code} (h : TR P F N c Q st) : T P F N (.loop c) Q st := by
  intro a w hr b k cs
  obtain ⟨e, a', w', hq, harr⟩ := h a w hr b k cs
  exact ⟨e, a', w', hq, .of_steps (.one step_loop) harr⟩
theorem TR_step {c : Code} (h : T P F N c (Post.seq (TR P F N c Q) Q) st) : TR P F N c Q st := by
  intro a w hr b k cs
  obtain ⟨e, a₁, w₁, ⟨st₁, hq, hr₁⟩, harr⟩ := h a w hr b (.inLoop c :: k) cs
  cases e with
  | normal =>
    obtain ⟨e₂, a₂, w₂, hq₂, harr₂⟩ := hq a₁ w₁ hr₁ b k cs
    exact ⟨e₂, a₂, w₂, hq₂, .of_steps (Steps.trans harr (.one step_inLoop)) harr₂⟩
  | exit id => exact ⟨_, a₁, w₁, ⟨st₁, hq, hr₁⟩, .pass (x := .inLoop c) rfl (fun _ _ => .inl (by simp)) harr⟩
  | goto l => exact ⟨_, a₁, w₁, ⟨st₁, hq, hr₁⟩, .pass (x := .inLoop c) rfl (fun _ _ => .inl (by simp)) harr⟩
  | ret => exact ⟨_, a₁, w₁, ⟨st₁, hq, hr₁⟩, .pass (x := .inLoop c) rfl (fun _ _ => .inl (by simp)) harr⟩
  | panic ch => exact ⟨_, a₁, w₁, ⟨st₁, hq, hr₁⟩, .pass (x := .inLoop c) rfl (fun _ _ => .inl (by simp)) harr⟩
  | outgrown => exact ⟨_, a₁, w₁, ⟨st₁, hq, hr₁⟩, .pass (x := .inLoop c) rfl (fun _ _ => .inl (by simp)) harr⟩
theorem Qf {id : Nat} {ops : Array Oper} (h : TL P F N ops ops.toList (Q .normal) st) : T P F N (.region id ops false) Q st := by
  intro a w hr
  exact wp_region_list (h a w _ hr fun st' a' w' hk hr' _ => ⟨st', hk, hr'⟩)
theorem QF {c : Operand} {x y : Code} {b : Bool} (hc : aev st.s c = some (.bool b)) (ht : b = true → T P F N x Q st) (hf : b = false → T P F N y Q st) :
    T P F N (.cond c x y) Q st := by
  intro a w hr
  have hv : a.eval c = .bool b := aev_bool hr hc
  exact wp_cond_split hv (fun h => ht h a w hr) (fun h => hf h a w hr)
variable {ex : Bool}
theorem Qe {ops : Array Oper} {K : St → Prop} (h : K st) : TLE ex P F N ops [] K st :=
  fun a w _ hr hQ => wpList_nil (hQ st a w h hr (fun _ => Ext.refl w))
def looks : Op → Bool
  | .lookup _ _ _ _ => true
  | .load _ _ => true
  | _ => false
def OpP (P : Program) (o : Oper) (s : Xb) (h : Heap) (x : AV) : Prop :=
  ∀ (S : Nat → Prop) (w : World) (φ : Nat → Loc) (η : Heap) (ρ : Operand → Value), HeapOK S w φ η →
    (∀ id ob, lk h id = some ob → lk η id = some ob) → (∀ y z, aev s y = some z → RepV S w φ η z (ρ y)) →
    ∃ v, (∀ w', (looks o.op = false ∨ Ext w w') → (execOp ρ o).run P w' = .ok (.value v) w') ∧ RepV S w φ η x v
theorem RelP.put {φ : Nat → Loc} {a : Act} {w : World} {s s' : Xb} {h : Heap} {d : Nat} {x : AV} {v : Value}
    (hr : RelP F N ⟨s, h⟩ φ a w) (hd : d < N) (hs : sput s d x = some s') (hv : RepV (Stab F w φ h) w φ h x v) :
    RelP F N ⟨s', h⟩ φ (a.put (some d) v) w := by
  refine ⟨?_, hr.defers, hr.sys, hr.grow, hr.heap, ?_, hr.mine, hr.fix, hr.keep, hr.frame⟩
  · simpa [Act.put] using hr.size
  · intro i y hi
    rw [lk_sput hs] at hi
    by_cases hdi : d = i
    · subst hdi
      rw [if_pos rfl] at hi
      cases hi
      exact ⟨v, by simp [Act.put, hr.size, hd], hv⟩
    · rw [if_neg hdi] at hi
      obtain ⟨u, hu, hru⟩ := hr.slots i y hi
      exact ⟨u, by simpa [Act.put, Array.getElem?_setIfInBounds_ne hdi] using hu, hru⟩
theorem Qb {ops : Array Oper} {rest : List Oper} {K : St → Prop} {o : Oper} {d : Nat} {x : AV} {s s' : Xb} {h : Heap}
    (hg : o.guard = none) (hd : o.dst = some d) (hN : Nat.blt d N = true) (hs : sput s d x = some s') (hrun : OpP P o s h x)
    (k : TLE ex P F N ops rest K ⟨s', h⟩) : TLE ex P F N ops (o :: rest) K ⟨s, h⟩ := by
  intro a w R hr hQ
  obtain ⟨φ, hp⟩ := hr
  obtain ⟨v, hrun, hv⟩ := hrun _ w φ h a.eval hp.heap (fun _ _ h => h) (fun y z hy => aev_rep hp hy)
  have hrun := hrun w (.inr (Ext.refl w))
  refine wpList_plain hg fun K' hK' => ?_
  unfold Oper.wp
  rw [hrun]
  show K' (a.put o.dst v) w
  rw [hd]
  exact hK' _ _ (k _ _ R ⟨φ, hp.put (Nat.le_of_ble_eq_true hN) hs hv⟩ hQ)
theorem undef_rep {S : Nat → Prop} {w : World} {φ : Nat → Loc} {η : Heap} : RepV S w φ η (.tup []) undef :=
  .pure (.tup [] #[] rfl (fun i x v hx _ => by simp at hx))
theorem T_cond_true {c : Operand} {x y : Code} (hc : aev st.s c = some (.bool true)) (h : T P F N x Q st) : T P F N (.cond c x y) Q st :=
  QF hc (fun _ => h) (fun h => by cases h)
theorem T_cond_false {c : Operand} {x y : Code} (hc : aev st.s c = some (.bool false)) (h : T P F N y Q st) : T P F N (.cond c x y) Q st :=
  QF hc (fun h => by cases h) (fun _ => h)
theorem Qq {ops : Array Oper} {rest : List Oper} {K : St → Prop} {o : Oper} {d g j : Nat} {b c : Bool} {s s' : Xb} {h : Heap}
    (hg : o.guard = some (j, b)) (hj : (ops[j]?).bind (·.dst) = some g) (hb : lk s g = some (.bool c)) (hbc : c = !b)
    (hd : o.dst = some d) (hN : Nat.blt d N = true) (hs : sput s d (.tup []) = some s')
    (k : TLE ex P F N ops rest K ⟨s', h⟩) : TLE ex P F N ops (o :: rest) K ⟨s, h⟩ := by
  intro a w R hr hQ
  obtain ⟨φ, hp⟩ := hr
  have hw : Region.wanted o (yielded ops a.tmps) = false := unwanted_of hp hg hj hb hbc
  refine wpList_skip hw ?_
  rw [hd]
  exact k _ _ R ⟨φ, hp.put (Nat.le_of_ble_eq_true hN) hs undef_rep⟩ hQ
theorem Xm {ops : Array Oper} {rest : List Oper} {K : St → Prop} {o : Oper} {d g j : Nat} {b : Bool} {s s' : Xb} {h : Heap}
    (hg : o.guard = some (j, b)) (hj : (ops[j]?).bind (·.dst) = some g) (hb : lk s g = some (.tup []))
    (hd : o.dst = some d) (hN : Nat.blt d N = true) (hs : sput s d (.tup []) = some s')
    (k : TLE ex P F N ops rest K ⟨s', h⟩) : TLE ex P F N ops (o :: rest) K ⟨s, h⟩ := by
  intro a w R hr hQ
  obtain ⟨φ, hp⟩ := hr
  have hw : Region.wanted o (yielded ops a.tmps) = false := by
    obtain ⟨v, hv, hrep⟩ := hp.slots g _ hb
    have : ∃ us, v = .tuple us := by
      cases hrep with
      | pure h => cases h; exact ⟨_, rfl⟩
      | tup _ us _ _ => exact ⟨us, rfl⟩
    obtain ⟨us, rfl⟩ := this
    simp [Region.wanted, hg, yielded, hj, hv]
  refine wpList_skip hw ?_
  rw [hd]
  exact k _ _ R ⟨φ, hp.put (Nat.le_of_ble_eq_true hN) hs undef_rep⟩ hQ
end
end Go.AM

namespace Go.AM
open Go
section
variable {P : Program} {s : Xb} {h : Heap} {dst : Option Tmp} {ty : TypeId} {pos : String} {after : Array Edge} {gd : Option (Nat × Bool)}
theorem Qi {y : Operand} {z : AV} (hy : aev s y = some z) : OpP P ⟨dst, .move y, ty, pos, after, gd⟩ s h z :=
  fun _ _ _ _ _ _ _ hρ => ⟨_, fun _ _ => rfl, hρ _ _ hy⟩
theorem Qh {y : Operand} {z : AV} (hy : aev s y = some z) : OpP P ⟨dst, .assign y, ty, pos, after, gd⟩ s h z :=
  fun _ _ _ _ _ _ _ hρ => ⟨_, fun _ _ => rfl, hρ _ _ hy⟩
theorem QC {c x y : Operand} {z : AV} (hc : aev s c = some (.bool true)) (hx : aev s x = some z) :
    OpP P ⟨dst, .pick c x y, ty, pos, after, gd⟩ s h z := by
  intro S w φ η ρ hh _ hρ
  have h1 := (hρ _ _ hc).bool_inv
  exact ⟨ρ x, fun w _ => by simp [execOp, h1, asBool], hρ _ _ hx⟩
theorem QB {c x y : Operand} {z : AV} (hc : aev s c = some (.bool false)) (hy : aev s y = some z) :
    OpP P ⟨dst, .pick c x y, ty, pos, after, gd⟩ s h z := by
  intro S w φ η ρ hh _ hρ
  have h1 := (hρ _ _ hc).bool_inv
  exact ⟨ρ y, fun w _ => by simp [execOp, h1, asBool], hρ _ _ hy⟩
theorem op_not {y : Operand} {b : Bool} {t : TypeId} (hy : aev s y = some (.bool b)) :
    OpP P ⟨dst, .unOp .not t y, ty, pos, after, gd⟩ s h (.bool (!b)) := by
  intro S w φ η ρ hh _ hρ
  have h1 := (hρ _ _ hy).bool_inv
  exact ⟨.bool (!b), fun w _ => by show (do pure (.value (← Op.unary .not (ρ y))) : Sem Next).run P w = _; simp only [Op.unary, h1, Sem.run_bind, Sem.run_pure, Result.andThen_ok], .pure (.bool _)⟩
theorem wrap_i64 {n : Int} (h : -9223372036854775808 ≤ n ∧ n ≤ 9223372036854775807) : IntKind.i64.wrap n = n := IntWalk.i64_in n h
variable {x y : Operand} {t t' : TypeId} {a b : Int} {k : IntKind}
theorem eqGuard_int (op : BinOp) (w : World) (k : IntKind) (n : Int) (v : Value) : (eqGuard op t x y (.int k n) v).run P w = .ok () w := by
  have : eqGuard op t x y (.int k n) v = pure () := by cases op <;> rfl
  rw [this]; rfl
theorem eqGuard_bool (op : BinOp) (w : World) (b : Bool) (v : Value) : (eqGuard op t x y (.bool b) v).run P w = .ok () w := by
  have : eqGuard op t x y (.bool b) v = pure () := by cases op <;> rfl
  rw [this]; rfl
theorem exec_binOp (ρ : Operand → Value) (op : BinOp) : execOp ρ ⟨dst, .binOp op t x y t', ty, pos, after, gd⟩ =
    (do pure (.value (← (do eqGuard op t x y (ρ x) (ρ y); binOp op t (ρ x) (ρ y))))) := rfl
theorem exec_len (ρ : Operand → Value) : execOp ρ ⟨dst, .call ⟨.builtin .len, #[x], #[t]⟩, ty, pos, after, gd⟩ = (do pure (.value (← Builtin.len_ #[t] ty #[ρ x]))) := by
  rw [BigFrame.execOp_builtin, BigFrame.builtin_len]
  simp only [List.map_toArray, List.map_cons, List.map_nil]
theorem op_int {op : BinOp} {r : AV} (hx : aev s x = some (.int k a)) (hy : aev s y = some (.int k b))
    (hr : ∃ v, (∀ w, (binOp op t (.int k a) (.int k b)).run P w = .ok v w) ∧ ∀ S w, RepT S w r v) :
    OpP P ⟨dst, .binOp op t x y t', ty, pos, after, gd⟩ s h r := by
  intro S w φ η ρ hh _ hρ
  have h1 := (hρ _ _ hx).int_inv
  have h2 := (hρ _ _ hy).int_inv
  obtain ⟨v, hv, hrep⟩ := hr
  refine ⟨v, fun w _ => ?_, .pure (hrep _ _)⟩
  simp only [exec_binOp, h1, h2, Sem.run_bind, Sem.run_pure, eqGuard_int, hv, Result.andThen_ok]
theorem op_add (hx : aev s x = some (.int k a)) (hy : aev s y = some (.int k b)) :
    OpP P ⟨dst, .binOp .add t x y t', ty, pos, after, gd⟩ s h (.int k (k.wrap (a + b))) :=
  op_int hx hy ⟨.int k (k.wrap (a + b)), fun w => by simp [binOp, Op.intArith], fun _ _ => .int _ _⟩
theorem op_sub (hx : aev s x = some (.int k a)) (hy : aev s y = some (.int k b)) :
    OpP P ⟨dst, .binOp .sub t x y t', ty, pos, after, gd⟩ s h (.int k (k.wrap (a - b))) :=
  op_int hx hy ⟨.int k (k.wrap (a - b)), fun w => by simp [binOp, Op.intArith], fun _ _ => .int _ _⟩
theorem op_add64 (hx : aev s x = some (.int .i64 a)) (hy : aev s y = some (.int .i64 b)) (hf : -9223372036854775808 ≤ a + b ∧ a + b ≤ 9223372036854775807) :
    OpP P ⟨dst, .binOp .add t x y t', ty, pos, after, gd⟩ s h (.int .i64 (a + b)) := by
  have := op_add (P := P) (h := h) (dst := dst) (ty := ty) (pos := pos) (after := after) (gd := gd) (t := t) (t' := t') hx hy
  rwa [wrap_i64 hf] at this
theorem Xd (hx : aev s x = some (.int k a)) (hy : aev s y = some (.int k b)) :
    OpP P ⟨dst, .binOp .lss t x y t', ty, pos, after, gd⟩ s h (.bool (decide (a < b))) :=
  op_int hx hy ⟨.bool (decide (a < b)), fun w => by simp [binOp, Op.intCmp], fun _ _ => .bool _⟩
theorem op_leq (hx : aev s x = some (.int k a)) (hy : aev s y = some (.int k b)) :
    OpP P ⟨dst, .binOp .leq t x y t', ty, pos, after, gd⟩ s h (.bool (decide (a ≤ b))) :=
  op_int hx hy ⟨.bool (decide (a ≤ b)), fun w => by simp [binOp, Op.intCmp], fun _ _ => .bool _⟩
theorem op_gtr (hx : aev s x = some (.int k a)) (hy : aev s y = some (.int k b)) :
    OpP P ⟨dst, .binOp .gtr t x y t', ty, pos, after, gd⟩ s h (.bool (decide (b < a))) :=
  op_int hx hy ⟨.bool (decide (b < a)), fun w => by simp [binOp, Op.intCmp], fun _ _ => .bool _⟩
theorem op_geq (hx : aev s x = some (.int k a)) (hy : aev s y = some (.int k b)) :
    OpP P ⟨dst, .binOp .geq t x y t', ty, pos, after, gd⟩ s h (.bool (decide (b ≤ a))) :=
  op_int hx hy ⟨.bool (decide (b ≤ a)), fun w => by simp [binOp, Op.intCmp], fun _ _ => .bool _⟩
theorem op_eql (hx : aev s x = some (.int k a)) (hy : aev s y = some (.int k b)) :
    OpP P ⟨dst, .binOp .eql t x y t', ty, pos, after, gd⟩ s h (.bool (decide (a = b))) :=
  op_int hx hy ⟨.bool (decide (a = b)), fun w => by
    have : (a == b) = decide (a = b) := by rw [Bool.eq_iff_iff]; simp
    simp [binOp, Op.intCmp, this], fun _ _ => .bool _⟩
theorem op_neq (hx : aev s x = some (.int k a)) (hy : aev s y = some (.int k b)) :
    OpP P ⟨dst, .binOp .neq t x y t', ty, pos, after, gd⟩ s h (.bool (!decide (a = b))) :=
  op_int hx hy ⟨.bool (!decide (a = b)), fun w => by
    have : (a != b) = !decide (a = b) := by rw [Bool.eq_iff_iff]; simp
    simp [binOp, Op.intCmp, this], fun _ _ => .bool _⟩
theorem op_neqB {c d : Bool} (ht : P.underlying t = some .bool) (hx : aev s x = some (.bool c)) (hy : aev s y = some (.bool d)) :
    OpP P ⟨dst, .binOp .neq t x y t', ty, pos, after, gd⟩ s h (.bool (!(c == d))) := by
  intro S w φ η ρ hh _ hρ
  have h1 := (hρ _ _ hx).bool_inv
  have h2 := (hρ _ _ hy).bool_inv
  refine ⟨.bool (!(c == d)), fun w _ => ?_, .pure (.bool _)⟩
  have e : binOp .neq t (.bool c) (.bool d) = (do pure (.bool (!(← Op.equal t (.bool c) (.bool d))))) := rfl
  have r : (Op.equal t (.bool c) (.bool d)).run P w = .ok (c == d) w := run_equalIn_bool w 9999 t c d ht
  simp only [exec_binOp, h1, h2, e, r, Sem.run_bind, Sem.run_pure, eqGuard_bool, Result.andThen_ok]
end
end Go.AM

namespace Go.AM
open Go
def tyAgg (P : Program) (t : TypeId) : Option Bool :=
  (P.underlying t).map fun | .struct _ | .array _ _ => true | _ => false
def tySize (P : Program) (t : TypeId) : Option Nat := (P.info? t).map (·.size)
theorem run_size {P : Program} {t n : Nat} (h : tySize P t = some n) (w : World) : (sizeOf t).run P w = .ok n w := by
  unfold tySize at h
  cases hi : P.info? t with
  | none => simp [hi] at h
  | some i => simp [hi] at h; simp [sizeOf, typeInfo, hi, h]
theorem run_agg {P : Program} {t : Nat} {b : Bool} (h : tyAgg P t = some b) (w : World) : (isAgg t).run P w = .ok b w := by
  unfold tyAgg at h
  cases hu : P.underlying t with
  | none => simp [hu] at h
  | some d =>
    simp [hu] at h
    subst h
    simp only [isAgg, Sem.run_bind, run_underlying hu, Result.andThen_ok]
    cases d <;> rfl
def dropO : List AV → Nat → Option (List AV)
  | l, 0 => some l
  | [], _ + 1 => none
  | _ :: r, n + 1 => dropO r n
def takeO : List AV → Nat → Option (List AV)
  | _, 0 => some []
  | [], _ + 1 => none
  | x :: r, n + 1 => match takeO r n with
    | some l => some (x :: l)
    | none => none
theorem dropO_eq : ∀ {l r : List AV} {n : Nat}, dropO l n = some r → r = l.drop n ∧ n ≤ l.length := by
  intro l
  induction l with
  | nil => intro r n h; cases n with
    | zero => cases h; simp
    | succ n => cases h
  | cons x l ih => intro r n h; cases n with
    | zero => cases h; simp
    | succ n => have := ih (r := r) (n := n) h; simpa using this
theorem takeO_eq : ∀ {l r : List AV} {n : Nat}, takeO l n = some r → r = l.take n ∧ n ≤ l.length := by
  intro l
  induction l with
  | nil => intro r n h; cases n with
    | zero => cases h; simp
    | succ n => cases h
  | cons x l ih =>
    intro r n h
    cases n with
    | zero => cases h; simp
    | succ n =>
      unfold takeO at h
      cases hr : takeO l n with
      | none => simp [hr] at h
      | some l' =>
        simp only [hr, Option.some.injEq] at h
        subst h
        have := ih hr
        simpa using this
def PT (S : Nat → Prop) (w : World) (φ : Nat → Loc) (η : Heap) (v : Value) (cs : List AV) : Prop :=
  ∃ b off, ∃ f : Nat → Value, v = .pointer (some ⟨b, off, none⟩) ∧
    ∀ (j : Nat) x, cs[j]? = some x → w.cell? ⟨b, off + j, none⟩ = some (f j) ∧ RepV S w φ η x (f j)
def dropB (cs : List AV) (off : Nat) : Option (List AV) := bif isMapLen cs.length then none else dropO cs off
theorem dropB_eq {cs cs' : List AV} {off : Nat} (h : dropB cs off = some cs') : dropO cs off = some cs' ∧ isMapLen cs.length = false := by
  unfold dropB at h
  cases hn : isMapLen cs.length with
  | true => rw [hn] at h; cases h
  | false => rw [hn] at h; exact ⟨h, rfl⟩
def acells (h : Heap) : AV → Option (List AV)
  | .cp cs => some cs
  | .ptr id 0 off => match lk h id with
    | some (.box cs) => dropB cs off
    | _ => none
  | _ => none
def cellsO : AV → Option (List AV)
  | .agg cs => some cs
  | v => some [v]
theorem cellsO_eq {e : AV} {cs : List AV} (h : cellsO e = some cs) : cs = e.cells := by
  cases e <;> (cases h; rfl)
theorem cell_at {w : World} {b j : Nat} {C : Array Value} {E : TypeId} {fr : Nat × Nat} (h : w.heap[b]? = some (.cells C E fr)) :
    w.cell? ⟨b, j, none⟩ = C[j]? := by simp [World.cell?, h]
section
variable {S : Nat → Prop} {w : World} {φ : Nat → Loc} {η : Heap}
theorem PT_box (hh : HeapOK S w φ η) {id off : Nat} {v : Value} {cs cs' : List AV} (hv : RepV S w φ η (.ptr id 0 off) v)
    (hl : lk η id = some (.box cs)) (hd : dropB cs off = some cs') : PT S w φ η v cs' := by
  obtain ⟨hd, hn⟩ := dropB_eq hd
  obtain ⟨rfl, hlen⟩ := dropO_eq hd
  obtain ⟨hm, C, E, hC, hsz, hrep⟩ := hh.obj _ _ hl
  replace hC := hC.cells hn
  have hv' : v = .pointer (some ⟨(φ id).blk, off, none⟩) := by
    cases hv with
    | pure h => cases h
    | box _ _ => rfl
    | elt h _ => rw [hl] at h; cases h
  refine ⟨(φ id).blk, off, fun j => C.getD (off + j) undef, hv', fun j x hx => ?_⟩
  rw [List.getElem?_drop] at hx
  have hlt : off + j < C.size := by
    have := (List.getElem?_eq_some_iff.1 hx).1
    omega
  have hc : C[off + j]? = some (C.getD (off + j) undef) := by simp [hlt]
  exact ⟨by rw [cell_at hC, hc], hrep _ _ _ hx hc⟩
theorem PT_cp {v : Value} {cs : List AV} (hv : RepV S w φ η (.cp cs) v) : PT S w φ η v cs := by
  cases hv with
  | pure h =>
    cases h with
    | cp _ b off f _ hc hr => exact ⟨b, off, f, rfl, fun j x hx => ⟨hc j x hx, .pure (hr j x hx)⟩⟩
theorem PT_of (hh : HeapOK S w φ η) {p : AV} {v : Value} {cs : List AV} (hv : RepV S w φ η p v) (hc : acells η p = some cs) : PT S w φ η v cs := by
  unfold acells at hc
  split at hc
  · cases hc; exact PT_cp hv
  · rename_i id off
    cases hl : lk η id with
    | none => simp [hl] at hc
    | some o =>
      cases o with
      | box cs0 =>
        simp only [hl] at hc; exact PT_box hh hv hl hc
      | arr k sz E es => simp [hl] at hc
  · cases hc
theorem flat_get {sz : Nat} : ∀ {es : List AV}, (∀ e ∈ es, e.cells.length = sz) → ∀ {i j : Nat} {e : AV}, es[i]? = some e → j < sz →
    (flat es)[i * sz + j]? = e.cells[j]? := by
  intro es
  induction es with
  | nil => intro _ i j e h; simp at h
  | cons e0 es ih =>
    intro hl i j e h hj
    have h0 : e0.cells.length = sz := hl e0 (by simp)
    have hfl : flat (e0 :: es) = e0.cells ++ flat es := by simp [flat]
    rw [hfl]
    cases i with
    | zero =>
      simp at h
      subst h
      rw [Nat.zero_mul, Nat.zero_add, List.getElem?_append_left (by omega)]
    | succ i =>
      simp at h
      have hge : sz ≤ (i + 1) * sz + j := by rw [Nat.add_mul]; omega
      rw [List.getElem?_append_right (by omega), h0]
      have : (i + 1) * sz + j - sz = i * sz + j := by rw [Nat.add_mul]; omega
      rw [this]
      exact ih (fun e he => hl e (by simp [he])) h hj
theorem Xa {sz : Nat} : ∀ {es : List AV}, (∀ e ∈ es, e.cells.length = sz) → (flat es).length = es.length * sz := by
  intro es
  induction es with
  | nil => intro _; simp [flat]
  | cons e0 es ih =>
    intro hl
    have h0 : e0.cells.length = sz := hl e0 (by simp)
    have hfl : flat (e0 :: es) = e0.cells ++ flat es := by simp [flat]
    rw [hfl, List.length_append, h0, ih (fun e he => hl e (by simp [he]))]
    simp [Nat.add_mul]
    omega
theorem arr_part (hh : HeapOK S w φ η) {id k off sz : Nat} {kd : Kd} {E : TypeId} {es : List AV} {e : AV} {v : Value} {cs cs' : List AV}
    (hv : RepV S w φ η (.ptr id k off) v) (hl : lk η id = some (.arr kd sz E es)) (he : es[k]? = some e) (hc : cellsO e = some cs)
    (hd : dropO cs off = some cs') : (φ id).mat = true ∧ v = .pointer (some ⟨(φ id).blk, k * sz + off, none⟩) ∧ ∃ C, w.heap[(φ id).blk]? = some (.cells C E (0, 0)) ∧ CellsOK kd S w (φ id) (flat es) C ∧
      C.size = (φ id).cap * sz ∧ es.length ≤ (φ id).cap ∧
      ∀ (j : Nat) x, cs'[j]? = some x → (flat es)[k * sz + off + j]? = some x ∧ C[k * sz + off + j]? = some (C.getD (k * sz + off + j) undef) := by
  obtain rfl := cellsO_eq hc
  obtain ⟨rfl, hlen⟩ := dropO_eq hd
  obtain ⟨hsz0, hlens, _, hob⟩ := hh.obj _ _ hl
  have hel : e.cells.length = sz := hlens e (List.mem_of_getElem? he)
  have hv' : v = .pointer (some ⟨(φ id).blk, k * sz + off, none⟩) ∧ (φ id).mat = true := by
    cases hv with
    | pure h => cases h
    | box h _ => rw [hl] at h; cases h
    | elt h hm => rw [hl] at h; cases h; exact ⟨rfl, hm⟩
  rcases hob with ⟨hf, _⟩ | ⟨_, C, hC, hle, hcm, hCs, hrep⟩
  · rw [hv'.2] at hf; cases hf
  have hklt := (List.getElem?_eq_some_iff.1 he).1
  refine ⟨hv'.2, hv'.1, C, hC, hrep, hCs, hle, fun j x hx => ?_⟩
  rw [List.getElem?_drop] at hx
  have hj : off + j < sz := by
    have := (List.getElem?_eq_some_iff.1 hx).1
    omega
  have hfl : (flat es)[k * sz + off + j]? = some x := by
    rw [Nat.add_assoc, flat_get hlens he hj]; exact hx
  have hlt : k * sz + off + j < C.size := by
    have h1 : k * sz + sz ≤ (φ id).cap * sz := by
      rw [← Nat.succ_mul]; exact Nat.mul_le_mul_right _ (by omega)
    omega
  exact ⟨hfl, by simp [hlt]⟩
theorem PT_arr (hh : HeapOK S w φ η) {id k off sz : Nat} {p : Bool} {E : TypeId} {es : List AV} {e : AV} {v : Value} {cs cs' : List AV}
    (hv : RepV S w φ η (.ptr id k off) v) (hl : lk η id = some (.arr ⟨p, false⟩ sz E es)) (he : es[k]? = some e) (hc : cellsO e = some cs)
    (hd : dropO cs off = some cs') : PT S w φ η v cs' := by
  obtain ⟨hm, hv', C, hC, hrep, _, _, hin⟩ := arr_part hh hv hl he hc hd
  refine ⟨(φ id).blk, k * sz + off, fun j => C.getD (k * sz + off + j) undef, hv', fun j x hx => ?_⟩
  obtain ⟨h1, h2⟩ := hin j x hx
  exact ⟨by rw [cell_at hC, h2], .pure (hrep.trees rfl _ _ _ h1 h2)⟩
def dcell (id n : Nat) : AV → AV
  | .sl _ _ => .sub id n
  | .snil => .sub id n
  | x => x
def dcells (id : Nat) : Nat → List AV → List AV
  | _, [] => []
  | n, x :: r => dcell id n x :: dcells id (n + 1) r
theorem dcells_get {id : Nat} : ∀ {l : List AV} {n j : Nat} {y : AV}, (dcells id n l)[j]? = some y → ∃ x, l[j]? = some x ∧ y = dcell id (n + j) x := by
  intro l
  induction l with
  | nil => intro n j y h; simp [dcells] at h
  | cons x r ih =>
    intro n j y h
    cases j with
    | zero => simp [dcells] at h; exact ⟨x, by simp, h.symm⟩
    | succ j =>
      simp [dcells] at h
      obtain ⟨x', h1, h2⟩ := ih h
      exact ⟨x', by simpa using h1, by rw [h2, show n + 1 + j = n + (j + 1) by omega]⟩
theorem PT_arrD (hh : HeapOK S w φ η) {id k off sz : Nat} {p : Bool} {E : TypeId} {es : List AV} {e : AV} {v : Value} {cs cs' : List AV}
    (hv : RepV S w φ η (.ptr id k off) v) (hl : lk η id = some (.arr ⟨p, true⟩ sz E es)) (he : es[k]? = some e) (hc : cellsO e = some cs)
    (hd : dropO cs off = some cs') : PT S w φ η v (dcells id (k * sz + off) cs') := by
  obtain ⟨hm, hv', C, hC, hrep, _, _, hin⟩ := arr_part hh hv hl he hc hd
  refine ⟨(φ id).blk, k * sz + off, fun j => C.getD (k * sz + off + j) undef, hv', fun j y hy => ?_⟩
  obtain ⟨x, hx, rfl⟩ := dcells_get hy
  obtain ⟨h1, h2⟩ := hin j x hx
  refine ⟨by rw [cell_at hC, h2], ?_⟩
  obtain ⟨fps, f1, f2, f3, f4, f5⟩ := (show CellsOK ⟨p, true⟩ S w (φ id) (flat es) C from hrep)
  obtain ⟨fp, hfp⟩ : ∃ fp, fps[k * sz + off + j]? = some fp := by
    have := (List.getElem?_eq_some_iff.1 h1).1
    exact ⟨fps[k * sz + off + j]'(by omega), by simp⟩
  have hlin := f2 _ _ _ _ h1 h2 hfp
  have hsub : isSl x = true → RepV S w φ η (.sub id (k * sz + off + j)) (C.getD (k * sz + off + j) undef) := by
    intro hs
    rw [f5 _ _ _ h1 h2 hs]
    exact .sub hl
  cases x with
  | sl _ _ => exact hsub rfl
  | snil => exact hsub rfl
  | int _ _ => exact .pure (hlin.ofFlat rfl _ _)
  | bool _ => exact .pure (hlin.ofFlat rfl _ _)
  | str _ => exact .pure (hlin.ofFlat rfl _ _)
  | agg cs =>
    have h3 := (hh.obj _ _ hl).2.2.1 _ _ h1
    simp [one] at h3
  | _ => cases hlin
end
section
variable {P : Program} {s : Xb} {h : Heap} {dst : Option Tmp} {ty : TypeId} {pos : String} {after : Array Edge} {gd : Option (Nat × Bool)}
variable {x y : Operand} {t : TypeId}
theorem acells_mono {h h' : Heap} (hh : ∀ id ob, lk h id = some ob → lk h' id = some ob) {p : AV} {cs : List AV} (hc : acells h p = some cs) : acells h' p = some cs := by
  unfold acells at hc ⊢
  split at hc
  · exact hc
  · rename_i id off
    cases hl : lk h id with
    | none => simp [hl] at hc
    | some o => rw [hl] at hc; rw [hh _ _ hl]; exact hc
  · cases hc
theorem run_load1 {w : World} {a : Addr} {u : Value} (h : w.cell? a = some u) : (load a).run P w = .ok u w := by
  simp [h]
theorem _root_.Go.AM.Ext.cell {w w' : World} (h : Ext w w') {b j : Nat} {u : Value} (hc : w.cell? ⟨b, j, none⟩ = some u) : w'.cell? ⟨b, j, none⟩ = some u := by
  have hb : b < w.heap.size := by
    apply Nat.lt_of_not_le
    intro hge
    have : w.heap[b]? = none := Array.getElem?_eq_none hge
    simp [World.cell?, this] at hc
  rw [cell?_eq (h.same b hb)]
  exact hc
theorem load_one {S : Nat → Prop} {w : World} {φ : Nat → Loc} {η : Heap} {v : Value} {c : AV} {r : List AV} (hp : PT S w φ η v (c :: r)) (ha : tyAgg P t = some false) :
    ∃ u, (∀ w', Ext w w' → (Instr.loadAt t v).run P w' = .ok u w') ∧ RepV S w φ η c u := by
  obtain ⟨b, off, f, rfl, hf⟩ := hp
  obtain ⟨h1, h2⟩ := hf 0 c (by simp)
  refine ⟨f 0, fun w' hw' => ?_, h2⟩
  have h1 := hw'.cell h1
  simp only [Instr.loadAt, Instr.sureAddr, Sem.run_bind, Sem.run_pure, Result.andThen_ok, loadVar, run_agg ha]
  exact run_load1 (by simpa using h1)
theorem load_agg {S : Nat → Prop} {w : World} {φ : Nat → Loc} {η : Heap} {v : Value} {cs cs' : List AV} {n : Nat} (hp : PT S w φ η v cs) (ha : tyAgg P t = some true)
    (hs : tySize P t = some n) (ht : takeO cs n = some cs') :
    ∃ u, (∀ w', Ext w w' → (Instr.loadAt t v).run P w' = .ok u w') ∧ RepV S w φ η (.agg cs') u := by
  obtain ⟨b, off, f, rfl, hf⟩ := hp
  obtain ⟨rfl, hlen⟩ := takeO_eq ht
  refine ⟨.agg ((List.range n).map f).toArray, fun w' hw' => ?_, .agg _ _ (by simp; omega) (fun i x v hx hv => ?_)⟩
  · have hcell : ∀ j, j < n → w'.cell? ((⟨b, off, none⟩ : Addr).add j) = some (f j) := by
      intro j hj
      have : ∃ x, cs[j]? = some x := ⟨cs[j], by simp⟩
      obtain ⟨x, hx⟩ := this
      rw [Addr.add_lit]
      exact hw'.cell (hf j x hx).1
    have hrun := run_loadCells (P := P) w' ⟨b, off, none⟩ n f hcell
    simp only [Instr.loadAt, Instr.sureAddr, Sem.run_bind, Sem.run_pure, Result.andThen_ok, loadVar, run_agg ha, run_size hs, if_true, hrun]
  · rw [List.getElem?_take] at hx
    split at hx
    · rename_i hi
      have := (hf i x hx).2
      have e : v = f i := by
        simp [hi] at hv
        exact hv.symm
      rw [e]; exact this
    · cases hx
theorem exec_load (ρ : Operand → Value) : execOp ρ ⟨dst, .load t x, ty, pos, after, gd⟩ = (do pure (.value (← Instr.loadAt t (ρ x)))) := rfl
theorem Qg {p c : AV} {r : List AV} (ha : tyAgg P t = some false) (hx : aev s x = some p) (hc : acells h p = some (c :: r)) :
    OpP P ⟨dst, .load t x, ty, pos, after, gd⟩ s h c := by
  intro S w φ η ρ hh hη hρ
  obtain ⟨u, hu, hr⟩ := load_one (P := P) (PT_of hh (hρ _ _ hx) (acells_mono hη hc)) ha
  exact ⟨u, fun w' hw' => by simp only [exec_load, Sem.run_bind, hu w' (hw'.resolve_left (fun h => by cases h)), Result.andThen_ok, Sem.run_pure], hr⟩
theorem Qv {p : AV} {cs cs' : List AV} {n : Nat} (ha : tyAgg P t = some true) (hs : tySize P t = some n) (hx : aev s x = some p) (hc : acells h p = some cs)
    (ht : takeO cs n = some cs') : OpP P ⟨dst, .load t x, ty, pos, after, gd⟩ s h (.agg cs') := by
  intro S w φ η ρ hh hη hρ
  obtain ⟨u, hu, hr⟩ := load_agg (P := P) (PT_of hh (hρ _ _ hx) (acells_mono hη hc)) ha hs ht
  exact ⟨u, fun w' hw' => by simp only [exec_load, Sem.run_bind, hu w' (hw'.resolve_left (fun h => by cases h)), Result.andThen_ok, Sem.run_pure], hr⟩
theorem op_load_arr1 {id k off sz : Nat} {p : Bool} {E : TypeId} {es : List AV} {e c : AV} {cs r : List AV} (ha : tyAgg P t = some false) (hx : aev s x = some (.ptr id k off))
    (hl : lk h id = some (.arr ⟨p, false⟩ sz E es)) (he : es[k]? = some e) (hc : cellsO e = some cs) (hd : dropO cs off = some (c :: r)) :
    OpP P ⟨dst, .load t x, ty, pos, after, gd⟩ s h c := by
  intro S w φ η ρ hh hη hρ
  obtain ⟨u, hu, hr⟩ := load_one (P := P) (PT_arr hh (hρ _ _ hx) (hη _ _ hl) he hc hd) ha
  exact ⟨u, fun w' hw => by simp only [exec_load, Sem.run_bind, hu w' (by simpa [looks] using hw), Result.andThen_ok, Sem.run_pure], hr⟩
theorem op_load_arrD1 {id k off sz n : Nat} {p : Bool} {E : TypeId} {es : List AV} {e c c' : AV} {cs r : List AV} (ha : tyAgg P t = some false) (hx : aev s x = some (.ptr id k off))
    (hl : lk h id = some (.arr ⟨p, true⟩ sz E es)) (he : es[k]? = some e) (hc : cellsO e = some cs) (hd : dropO cs off = some (c :: r)) (hn : n = k * sz + off) (hcc : dcell id n c = c') :
    OpP P ⟨dst, .load t x, ty, pos, after, gd⟩ s h c' := by
  intro S w φ η ρ hh hη hρ
  subst hn hcc
  obtain ⟨u, hu, hr⟩ := load_one (P := P) (PT_arrD hh (hρ _ _ hx) (hη _ _ hl) he hc hd) ha
  exact ⟨u, fun w' hw => by simp only [exec_load, Sem.run_bind, hu w' (by simpa [looks] using hw), Result.andThen_ok, Sem.run_pure], hr⟩
theorem exec_nilCheck (ρ : Operand → Value) : execOp ρ ⟨dst, .nilCheck x, ty, pos, after, gd⟩ = (match ρ x with
    | .pointer none | .nilIface | .nilFunc => runtimePanic .nilDeref
    | .func (.method name) first captured =>
      match (first[0]? : Option Value) with
      | some .nilIface => runtimePanic .nilDeref
      | some (.iface t w) => do
        if (← nilAhead ((← program).types.size + Made.depth) t w name) != some false then
          unsupported (.noEntry "op/nilCheck.the method's receiver behind this interface value is a nil pointer, or cannot be seen to be none, and the arguments act or may panic (ledger 612)")
        pure (.value (.func (.method name) first captured))
      | _ => pure (.value (.func (.method name) first captured))
    | x => pure (.value x)) := rfl
def isPtr : AV → Bool
  | .cp _ => true
  | .ptr _ _ _ => true
  | _ => false
theorem RepV.ptr_inv {S : Nat → Prop} {w : World} {φ : Nat → Loc} {η : Heap} {p : AV} {v : Value} (h : RepV S w φ η p v) (hp : isPtr p = true) :
    ∃ b off, v = .pointer (some ⟨b, off, none⟩) := by
  cases h with
  | pure h => cases h <;> first | (cases hp; done) | exact ⟨_, _, rfl⟩
  | box _ _ => exact ⟨_, _, rfl⟩
  | elt _ _ => exact ⟨_, _, rfl⟩
  | _ => cases hp
theorem Xe {p : AV} (hx : aev s x = some p) (hp : isPtr p = true) : OpP P ⟨dst, .nilCheck x, ty, pos, after, gd⟩ s h p := by
  intro S w φ η ρ hh hη hρ
  obtain ⟨b, off, e⟩ := (hρ _ _ hx).ptr_inv hp
  refine ⟨ρ x, fun w _ => ?_, hρ _ _ hx⟩
  rw [exec_nilCheck, e]
  rfl
theorem exec_fieldAddr (ρ : Operand → Value) (f : Nat) : execOp ρ ⟨dst, .fieldAddr t x f, ty, pos, after, gd⟩ = (do pure (.value (← Instr.fieldAt t (ρ x) f))) := rfl
def afield (off : Nat) : AV → Option AV
  | .cp cs => match dropO cs off with
    | some cs' => some (.cp cs')
    | none => none
  | .ptr id k o => some (.ptr id k (o + off))
  | _ => none
def tyField (P : Program) (t : TypeId) (f : Nat) : Option Nat :=
  match P.underlying t with
  | some (.struct fs) => match fs[f]? with
    | some g => match tySize P g.type with
      | some (_ + 1) => some g.offset
      | _ => none
    | none => none
  | _ => none
theorem run_fieldAt {w : World} {b off o f : Nat} (hf : tyField P t f = some o) :
    (Instr.fieldAt t (.pointer (some ⟨b, off, none⟩)) f).run P w = .ok (.pointer (some ⟨b, off + o, none⟩)) w := by
  unfold tyField at hf
  cases hu : P.underlying t with
  | none => simp [hu] at hf
  | some d =>
    rw [hu] at hf
    cases d <;> simp only [reduceCtorEq] at hf
    rename_i fs
    cases hg : fs[f]? with
    | none => simp [hg] at hf
    | some g =>
      simp only [hg] at hf
      cases hz : tySize P g.type with
      | none => simp [hz] at hf
      | some n =>
        cases n with
        | zero => simp [hz] at hf
        | succ n =>
          simp only [hz, Option.some.injEq] at hf
          subst hf
          simp only [Instr.fieldAt, Sem.run_bind, run_underlying hu, Result.andThen_ok, hg, Instr.sureAddr, Sem.run_pure, fieldPlace, run_size hz]
          simp [Addr.add_lit]
theorem Qj {p q : AV} {f o : Nat} (hf : tyField P t f = some o) (hx : aev s x = some p) (hq : afield o p = some q) :
    OpP P ⟨dst, .fieldAddr t x f, ty, pos, after, gd⟩ s h q := by
  intro S w φ η ρ hh hη hρ
  have hv := hρ _ _ hx
  suffices hsuff : ∃ b off, ρ x = .pointer (some ⟨b, off, none⟩) ∧ RepV S w φ η q (.pointer (some ⟨b, off + o, none⟩)) by
    obtain ⟨b, off, e, hr⟩ := hsuff
    exact ⟨_, fun w _ => by simp only [exec_fieldAddr, e, Sem.run_bind, run_fieldAt hf, Result.andThen_ok, Sem.run_pure], hr⟩
  unfold afield at hq
  split at hq
  · rename_i cs
    cases hd : dropO cs o with
    | none => simp [hd] at hq
    | some cs' =>
      simp only [hd, Option.some.injEq] at hq
      subst hq
      obtain ⟨rfl, hlen⟩ := dropO_eq hd
      generalize ρ x = v at hv
      cases hv with
      | pure hv =>
        cases hv with
        | cp _ b off f hb hc hr =>
          refine ⟨b, off, rfl, .pure (.cp _ b (off + o) (fun j => f (o + j)) hb (fun j x hx => ?_) (fun j x hx => ?_))⟩
          · rw [List.getElem?_drop] at hx
            rw [Nat.add_assoc]; exact hc _ _ hx
          · rw [List.getElem?_drop] at hx
            exact hr _ _ hx
  · rename_i id k o'
    cases hq
    generalize ρ x = v at hv
    cases hv with
    | pure hv => cases hv
    | box h1 h2 => exact ⟨_, _, rfl, .box h1 h2⟩
    | elt h1 h2 =>
      refine ⟨_, _, rfl, ?_⟩
      rw [Nat.add_assoc]
      exact .elt h1 h2
  · cases hq
theorem exec_indexAddr (ρ : Operand → Value) : execOp ρ ⟨dst, .indexAddr t x y, ty, pos, after, gd⟩ = (do pure (.value (← Instr.indexAt t (ρ x) (ρ y)))) := rfl
def tyElem (P : Program) (t : TypeId) : Option (TypeId × Nat) :=
  match P.underlying t with
  | some (.slice e) => match tySize P e with
    | some n => some (e, n)
    | none => none
  | _ => none
theorem tyElem_inv {e : TypeId} {n : Nat} (h : tyElem P t = some (e, n)) : P.underlying t = some (.slice e) ∧ tySize P e = some n := by
  unfold tyElem at h
  cases hu : P.underlying t with
  | none => simp [hu] at h
  | some d =>
    rw [hu] at h
    cases d <;> simp only [reduceCtorEq] at h
    rename_i e'
    cases hz : tySize P e' with
    | none => simp [hz] at h
    | some m =>
      simp only [hz, Option.some.injEq, Prod.mk.injEq] at h
      obtain ⟨rfl, rfl⟩ := h
      exact ⟨rfl, hz⟩
theorem run_indexAt {w : World} {e : TypeId} {n len cap i : Nat} {b off : Nat} {k : IntKind} (ht : tyElem P t = some (e, n)) (hi : i < len) :
    (Instr.indexAt t (.slice (some ⟨b, off, none⟩) len cap) (.int k (i : Int))).run P w = .ok (.pointer (some ⟨b, off + i * n, none⟩)) w := by
  obtain ⟨hu, hz⟩ := tyElem_inv ht
  have h1 : (0 : Int) ≤ (i : Int) ∧ (i : Int) < (len : Int) := ⟨Int.natCast_nonneg i, by exact_mod_cast hi⟩
  simp only [Instr.indexAt, asIntOf, Sem.run_bind, Sem.run_pure, Result.andThen_ok, run_underlying hu]
  rw [if_pos h1]
  simp only [Sem.run_bind, Sem.run_pure, Result.andThen_ok, run_size hz, Int.toNat_natCast, Addr.add_lit]
theorem op_index_sl {sz i : Nat} {E : TypeId} {es : List AV} {e : AV} {cs : List AV} {k : IntKind} {a : Int} (ht : tyElem P t = some (E, sz))
    (hx : aev s x = some (.sl sz es)) (hy : aev s y = some (.int k a)) (hi : a = (i : Int)) (he : es[i]? = some e) (hc : cellsO e = some cs) :
    OpP P ⟨dst, .indexAddr t x y, ty, pos, after, gd⟩ s h (.cp cs) := by
  intro S w φ η ρ hh hη hρ
  have hv := hρ _ _ hx
  have hy := (hρ _ _ hy).int_inv
  obtain rfl := cellsO_eq hc
  subst hi
  have hlt := (List.getElem?_eq_some_iff.1 he).1
  rw [exec_indexAddr, hy]
  generalize ρ x = v at hv
  cases hv with
  | pure hv =>
    cases hv with
    | sl0 _ a cap _ => simp at hlt
    | sl _ _ b off cap f hne hb hcap hm hsz hlens _ hcell hrep =>
      refine ⟨.pointer (some ⟨b, off + i * sz, none⟩), fun w _ => ?_, .pure (.cp _ b _ (fun j => f (i * sz + j)) hb (fun j u hu => ?_) (fun j u hu => ?_))⟩
      · simp only [Sem.run_bind, run_indexAt ht hlt, Result.andThen_ok, Sem.run_pure]
      · have hj : j < sz := by
          have := (List.getElem?_eq_some_iff.1 hu).1
          have := hlens e (List.mem_of_getElem? he)
          omega
        rw [Nat.add_assoc]
        exact hcell _ u (by rw [flat_get hlens he hj]; exact hu)
      · have hj : j < sz := by
          have := (List.getElem?_eq_some_iff.1 hu).1
          have := hlens e (List.mem_of_getElem? he)
          omega
        exact hrep _ u (by rw [flat_get hlens he hj]; exact hu)
theorem op_index_ow {id sz i : Nat} {kd : Kd} {E E' : TypeId} {es : List AV} {k : IntKind} {a : Int} (ht : tyElem P t = some (E, sz))
    (hx : aev s x = some (.ow id)) (hl : lk h id = some (.arr kd sz E' es)) (hy : aev s y = some (.int k a)) (hi : a = (i : Int)) (he : i < es.length) :
    OpP P ⟨dst, .indexAddr t x y, ty, pos, after, gd⟩ s h (.ptr id i 0) := by
  intro S w φ η ρ hh hη hρ
  have hv := hρ _ _ hx
  have hy := (hρ _ _ hy).int_inv
  have hl' := hη _ _ hl
  subst hi
  rw [exec_indexAddr, hy]
  generalize ρ x = v at hv
  cases hv with
  | pure hv => cases hv
  | ow0 h1 h2 => rw [hl'] at h1; cases h1; simp at he
  | ow h1 h2 =>
    rw [hl'] at h1
    cases h1
    refine ⟨.pointer (some ⟨(φ id).blk, 0 + i * sz, none⟩), fun w _ => ?_, ?_⟩
    · simp only [Sem.run_bind, run_indexAt ht he, Result.andThen_ok, Sem.run_pure]
    · have := RepV.elt (S := S) (w := w) (φ := φ) (k := i) (off := 0) hl' h2
      rw [Nat.zero_add, ← Nat.add_zero (i * sz)]
      exact this
theorem run_len_slice {w : World} {e : TypeId} {a : Option Addr} {n c : Nat} (hu : P.underlying t = some (.slice e)) :
    (Builtin.len_ #[t] ty #[Value.slice a n c]).run P w = .ok (.int .i64 n) w := by
  unfold Builtin.len_
  simp [run_underlying hu, goInt]
theorem RepV.sl_inv {S : Nat → Prop} {w : World} {φ : Nat → Loc} {η : Heap} {sz : Nat} {es : List AV} {v : Value} (h : RepV S w φ η (.sl sz es) v) :
    ∃ a cap, v = .slice a es.length cap := by
  cases h with
  | pure h => cases h <;> exact ⟨_, _, rfl⟩
theorem RepV.ow_inv {S : Nat → Prop} {w : World} {φ : Nat → Loc} {η : Heap} {id sz : Nat} {k : Kd} {E : TypeId} {es : List AV} {v : Value} (h : RepV S w φ η (.ow id) v)
    (hl : lk η id = some (.arr k sz E es)) : ((φ id).mat = true ∧ v = .slice (some ⟨(φ id).blk, 0, none⟩) es.length (φ id).cap) ∨ ((φ id).mat = false ∧ es = [] ∧ v = .slice (φ id).va 0 0) := by
  cases h with
  | pure h => cases h
  | ow h1 h2 => rw [hl] at h1; cases h1; exact .inl ⟨h2, rfl⟩
  | ow0 h1 h2 => rw [hl] at h1; cases h1; exact .inr ⟨h2, rfl, rfl⟩
theorem op_len_sl {sz : Nat} {es : List AV} {e : TypeId} (hu : P.underlying t = some (.slice e)) (hx : aev s x = some (.sl sz es)) :
    OpP P ⟨dst, .call ⟨.builtin .len, #[x], #[t]⟩, ty, pos, after, gd⟩ s h (.int .i64 es.length) := by
  intro S w φ η ρ hh hη hρ
  obtain ⟨a, cap, hv⟩ := (hρ _ _ hx).sl_inv
  exact ⟨.int .i64 es.length, fun w _ => by simp only [exec_len, hv, run_len_slice hu, Sem.run_bind, Sem.run_pure, Result.andThen_ok], .pure (.int _ _)⟩
theorem op_len_ow {id sz : Nat} {k : Kd} {E : TypeId} {es : List AV} {e : TypeId} (hu : P.underlying t = some (.slice e)) (hx : aev s x = some (.ow id)) (hl : lk h id = some (.arr k sz E es)) :
    OpP P ⟨dst, .call ⟨.builtin .len, #[x], #[t]⟩, ty, pos, after, gd⟩ s h (.int .i64 es.length) := by
  intro S w φ η ρ hh hη hρ
  refine ⟨.int .i64 es.length, fun w _ => ?_, .pure (.int _ _)⟩
  rcases (hρ _ _ hx).ow_inv (hη _ _ hl) with ⟨_, hv⟩ | ⟨_, rfl, hv⟩
  · simp only [exec_len, hv, run_len_slice hu, Sem.run_bind, Sem.run_pure, Result.andThen_ok]
  · simp only [exec_len, hv, run_len_slice hu, Sem.run_bind, Sem.run_pure, Result.andThen_ok]; rfl
theorem exec_slice (ρ : Operand → Value) (lo hi mx : Option Operand) : execOp ρ ⟨dst, .slice t x lo hi mx, ty, pos, after, gd⟩ =
    (do pure (.value (← Instr.sliceAt t (ρ x) (lo.map ρ) (hi.map ρ) (mx.map ρ)))) := rfl
theorem run_bound {w : World} {k : IntKind} {l y : Nat} {code : BoundsCode} (hl : l ≤ y) : (Instr.sliceBound (.int k (l : Int)) y code).run P w = .ok l w := by
  have h1 : (0 : Int) ≤ (l : Int) ∧ (l : Int) ≤ (y : Int) := ⟨Int.natCast_nonneg l, by exact_mod_cast hl⟩
  simp only [Instr.sliceBound, asIntOf, Sem.run_bind, Sem.run_pure, Result.andThen_ok, if_pos h1, Int.toNat_natCast]
def Bnds (s : Xb) (len : Nat) (lo hi : Option Operand) (l u : Nat) : Prop :=
  (match lo with
   | none => l = 0
   | some y => ∃ k, aev s y = some (.int k (l : Int))) ∧
  (match hi with
   | none => u = len
   | some y => ∃ k, aev s y = some (.int k (u : Int)))
theorem run_bounds (w' : World) {S : Nat → Prop} {w : World} {φ : Nat → Loc} {η : Heap} {ρ : Operand → Value} {isS : Bool} {len cap : Nat} {lo hi : Option Operand} {l u : Nat}
    (hρ : ∀ y z, aev s y = some z → RepV S w φ η z (ρ y)) (hb : Bnds s len lo hi l u) (hlu : l ≤ u) (hu : u ≤ cap) :
    (Instr.sliceBounds isS len cap (lo.map ρ) (hi.map ρ) none).run P w' = .ok (l, u, cap) w' := by
  obtain ⟨h1, h2⟩ := hb
  unfold Instr.sliceBounds
  cases hi with
  | none =>
    simp only at h2
    subst h2
    cases lo with
    | none =>
      simp only at h1
      subst h1
      simp
    | some y =>
      obtain ⟨k, hy⟩ := h1
      have := (hρ _ _ hy).int_inv
      simp [this, run_bound hlu]
  | some z =>
    obtain ⟨k', hz⟩ := h2
    have hz' := (hρ _ _ hz).int_inv
    cases lo with
    | none =>
      simp only at h1
      subst h1
      simp [hz', run_bound hu]
    | some y =>
      obtain ⟨k, hy⟩ := h1
      have := (hρ _ _ hy).int_inv
      simp [this, hz', run_bound hu, run_bound hlu]
theorem run_slice_slice {w : World} {e : TypeId} {n l u len cap : Nat} {a : Option Addr} {lo hi : Option Value} (ht : tyElem P t = some (e, n))
    (hb : (Instr.sliceBounds true len cap lo hi none).run P w = .ok (l, u, cap) w) :
    (Instr.sliceAt t (.slice a len cap) lo hi none).run P w = .ok (.slice (if cap = l then a else a.map (·.add (l * n))) (u - l) (cap - l)) w := by
  obtain ⟨hu, hz⟩ := tyElem_inv ht
  unfold Instr.sliceAt Instr.slice
  simp only [Sem.run_bind, run_underlying hu, Result.andThen_ok, hb, run_size hz, Sem.run_pure]
theorem op_slice_sl {sz l u : Nat} {E : TypeId} {es : List AV} {lo hi : Option Operand} (ht : tyElem P t = some (E, sz))
    (hx : aev s x = some (.sl sz es)) (hb : Bnds s es.length lo hi l u) (hlu : l ≤ u) (hu : u ≤ es.length) :
    OpP P ⟨dst, .slice t x lo hi none, ty, pos, after, gd⟩ s h (.sl sz ((es.drop l).take (u - l))) := by
  intro S w φ η ρ hh hη hρ
  have hv := hρ _ _ hx
  rw [exec_slice]
  generalize ρ x = v at hv
  cases hv with
  | pure hv =>
    cases hv with
    | sl0 _ a cap h0 =>
      simp at hu
      obtain rfl : u = 0 := by omega
      obtain rfl : l = 0 := by omega
      have hbr := fun w' => run_bounds w' (P := P) (isS := true) (cap := cap) hρ hb hlu (by omega)
      simp only [List.length_nil] at hbr
      refine ⟨_, fun w _ => by simp only [Option.map_none, Sem.run_bind, run_slice_slice ht (hbr w), Result.andThen_ok, Sem.run_pure]; rfl, ?_⟩
      simp only [List.drop_zero, Nat.sub_zero, List.take_zero]
      refine .pure (.sl0 _ _ _ (fun hn => ?_))
      split at hn
      · exact h0 hn
      · cases a with
        | none => exact h0 rfl
        | some _ => cases hn
    | sl _ _ b off cap f hne hS hcap hm hsz hlens hone hcell hrep =>
      have hbr := fun w' => run_bounds w' (P := P) (isS := true) (cap := cap) hρ hb hlu (by omega)
      refine ⟨_, fun w _ => by simp only [Option.map_none, Sem.run_bind, run_slice_slice ht (hbr w), Result.andThen_ok, Sem.run_pure]; rfl, ?_⟩
      have hlen : ((es.drop l).take (u - l)).length = u - l := by simp; omega
      by_cases hlt : l = u
      · subst hlt
        have : (es.drop l).take (l - l) = [] := by simp
        rw [this]
        simp only [Nat.sub_self]
        exact .pure (.sl0 _ _ _ (fun hn => by split at hn <;> cases hn))
      · have hcl : cap ≠ l := by omega
        have hflat : ∀ (j : Nat) z, (flat ((es.drop l).take (u - l)))[j]? = some z → (flat es)[l * sz + j]? = some z := by
          intro j z hz
          have hl2 : ∀ e ∈ (es.drop l).take (u - l), e.cells.length = sz := fun e he => hlens e (List.mem_of_mem_drop (List.mem_of_mem_take he))
          have hj := (List.getElem?_eq_some_iff.1 hz).1
          rw [Xa hl2, hlen] at hj
          have hq : j / sz < u - l := by rw [Nat.div_lt_iff_lt_mul hsz]; exact hj
          have hm' : j % sz < sz := Nat.mod_lt _ hsz
          have hdm : j / sz * sz + j % sz = j := by rw [Nat.mul_comm]; exact Nat.div_add_mod j sz
          obtain ⟨e, he⟩ : ∃ e, es[l + j / sz]? = some e := ⟨es[l + j / sz]'(by omega), by simp⟩
          have he2 : ((es.drop l).take (u - l))[j / sz]? = some e := by
            rw [List.getElem?_take, if_pos hq, List.getElem?_drop]; exact he
          rw [← hdm, flat_get hl2 he2 hm'] at hz
          have : l * sz + j = (l + j / sz) * sz + j % sz := by rw [Nat.add_mul]; omega
          rw [this, flat_get hlens he hm']
          exact hz
        rw [if_neg hcl]
        simp only [Option.map_some, Addr.add_lit]
        have hres := RepT.sl (S := S) (w := w) sz ((es.drop l).take (u - l)) b (off + l * sz) (cap - l) (fun j => f (l * sz + j))
          (by intro h0; rw [h0] at hlen; simp at hlen; omega) hS (by omega) (by omega) hsz
          (fun e he => hlens e (List.mem_of_mem_drop (List.mem_of_mem_take he))) (fun j z hz => hone _ z (hflat j z hz))
          (fun j z hz => by rw [Nat.add_assoc]; exact hcell _ z (hflat j z hz)) (fun j z hz => hrep _ z (hflat j z hz))
        rw [hlen] at hres
        exact .pure hres
theorem exec_extract (ρ : Operand → Value) (i : Nat) : execOp ρ ⟨dst, .extract x i, ty, pos, after, gd⟩ = (do pure (.value (← Instr.extract (ρ x) i))) := rfl
def nthO : List AV → Nat → Option AV
  | [], _ => none
  | x :: _, 0 => some x
  | _ :: r, n + 1 => nthO r n
theorem nthO_eq : ∀ {l : List AV} {n : Nat} {x : AV}, nthO l n = some x → l[n]? = some x := by
  intro l
  induction l with
  | nil => intro n x h; cases h
  | cons y l ih => intro n x h; cases n with
    | zero => cases h; rfl
    | succ n => simpa using ih h
theorem RepV.tup_inv {S : Nat → Prop} {w : World} {φ : Nat → Loc} {η : Heap} {vs : List AV} {v : Value} (h : RepV S w φ η (.tup vs) v) :
    ∃ us : Array Value, v = .tuple us ∧ vs.length = us.size ∧ ∀ (i : Nat) x u, vs[i]? = some x → us[i]? = some u → RepV S w φ η x u := by
  cases h with
  | pure h => cases h with
    | tup _ us h1 h2 => exact ⟨us, rfl, h1, fun i x u hx hu => .pure (h2 i x u hx hu)⟩
  | tup _ us h1 h2 => exact ⟨us, rfl, h1, h2⟩
theorem RepV.agg_inv {S : Nat → Prop} {w : World} {φ : Nat → Loc} {η : Heap} {vs : List AV} {v : Value} (h : RepV S w φ η (.agg vs) v) :
    ∃ us : Array Value, v = .agg us ∧ vs.length = us.size ∧ ∀ (i : Nat) x u, vs[i]? = some x → us[i]? = some u → RepV S w φ η x u := by
  cases h with
  | pure h => cases h with
    | agg _ us h1 h2 => exact ⟨us, rfl, h1, fun i x u hx hu => .pure (h2 i x u hx hu)⟩
  | agg _ us h1 h2 => exact ⟨us, rfl, h1, h2⟩
theorem op_extract {vs : List AV} {i : Nat} {z : AV} (hx : aev s x = some (.tup vs)) (hi : nthO vs i = some z) :
    OpP P ⟨dst, .extract x i, ty, pos, after, gd⟩ s h z := by
  intro S w φ η ρ hh hη hρ
  obtain ⟨us, hv, hlen, hrep⟩ := (hρ _ _ hx).tup_inv
  have hi' := nthO_eq hi
  have hlt : i < us.size := by rw [← hlen]; exact (List.getElem?_eq_some_iff.1 hi').1
  refine ⟨us[i], fun w _ => ?_, hrep i z us[i] hi' (by simp)⟩
  rw [exec_extract, hv]
  simp only [Instr.extract, Sem.run_bind]
  rw [show us[i]? = some us[i] from by simp]
  rfl
def aevL (s : Xb) : List Operand → Option (List AV)
  | [] => some []
  | y :: r => match aev s y with
    | some x => match aevL s r with
      | some l => some (x :: l)
      | none => none
    | none => none
theorem aevL_eq : ∀ {l : List Operand} {xs : List AV}, aevL s l = some xs → xs.length = l.length ∧
    ∀ (i : Nat) x, xs[i]? = some x → ∃ y, l[i]? = some y ∧ aev s y = some x := by
  intro l
  induction l with
  | nil => intro xs h; cases h; exact ⟨rfl, fun i x hx => by simp at hx⟩
  | cons y r ih =>
    intro xs h
    unfold aevL at h
    cases hy : aev s y with
    | none => simp [hy] at h
    | some x0 =>
      simp only [hy] at h
      cases hr : aevL s r with
      | none => simp [hr] at h
      | some l0 =>
        simp only [hr, Option.some.injEq] at h
        subst h
        obtain ⟨h1, h2⟩ := ih hr
        refine ⟨by simp [h1], fun i x hx => ?_⟩
        cases i with
        | zero => simp at hx; subst hx; exact ⟨y, by simp, hy⟩
        | succ i => simp at hx; obtain ⟨z, hz, hz'⟩ := h2 i x hx; exact ⟨z, by simpa using hz, hz'⟩
theorem aevL_rep {S : Nat → Prop} {w : World} {φ : Nat → Loc} {η : Heap} {ρ : Operand → Value} (hρ : ∀ y z, aev s y = some z → RepV S w φ η z (ρ y))
    {as : Array Operand} {xs : List AV} (h : aevL s as.toList = some xs) : xs.length = (as.map ρ).size ∧
    ∀ (i : Nat) x v, xs[i]? = some x → (as.map ρ)[i]? = some v → RepV S w φ η x v := by
  obtain ⟨h1, h2⟩ := aevL_eq h
  refine ⟨by simpa using h1, fun i x v hx hv => ?_⟩
  obtain ⟨y, hy, hy'⟩ := h2 i x hx
  have hy2 : as[i]? = some y := by simpa using hy
  rw [Array.getElem?_map, hy2] at hv
  cases hv
  exact hρ _ _ hy'
end
end Go.AM

namespace Go.AM
open Go
section
variable {F : Fr} {N : Nat}
theorem Stab.grow {w w' : World} {φ : Nat → Loc} {h : Heap} (hg : w.heap.size ≤ w'.heap.size) {b : Nat} (hb : Stab F w φ h b) : Stab F w' φ h b :=
  ⟨Nat.lt_of_lt_of_le hb.1 hg, hb.2.1, hb.2.2⟩
theorem headsAlike.refl (φ : Nat → Loc) (η : Heap) : headsAlike φ φ η η :=
  ⟨fun _ cs h _ => ⟨⟨cs, h⟩, rfl⟩, fun _ k _ _ es h => ⟨rfl, k, es, rfl, h⟩⟩
theorem RelP.world {st : St} {φ : Nat → Loc} {a : Act} {w w' : World} (hr : RelP F N st φ a w) (hsys : SameSys w w') (hg : w.heap.size ≤ w'.heap.size)
    (hb : ∀ b, b < w.heap.size → w'.heap[b]? = w.heap[b]?) : RelP F N st φ a w' := by
  have hV : ∀ {x v}, RepV (Stab F w φ st.h) w φ st.h x v → RepV (Stab F w' φ st.h) w' φ st.h x v := fun h =>
    h.mono (fun b hb' => hb'.grow hg) (fun b hb' => hb b hb'.1) (headsAlike.refl _ _)
  refine ⟨hr.size, hr.defers, hr.sys.trans hsys, Nat.le_trans hr.grow hg, ⟨fun id o ho => ?_, hr.heap.injO, fun b hb => hb.1, fun id o b ho hm hs => hs.2.2 id o ho hm, fun id o b ho hm => Nat.lt_of_lt_of_le (hr.heap.ltO id o b ho hm) hg⟩,
    fun i x hx => ?_, hr.mine, hr.fix, hr.keep, fun b hb1 hb2 => ?_⟩
  · have hok := hr.heap.obj id o ho
    cases o with
    | box cs =>
      have hlt := hok.lt hok.1
      obtain ⟨hm, C, E, hC, hsz, hrep⟩ := hok
      exact ⟨hm, C, E, by rw [hb _ hlt]; exact hC, hsz, fun i x v hx hv => hV (hrep i x v hx hv)⟩
    | arr k sz E es =>
      obtain ⟨h0, hl, hone, hh⟩ := hok
      refine ⟨h0, hl, hone, ?_⟩
      rcases hh with hh | ⟨hm, C, hC, h1, h2, h3, h4⟩
      · exact .inl hh
      · exact .inr ⟨hm, C, by rw [hb _ (Array.getElem?_eq_some_iff.1 hC).1]; exact hC, h1, h2, h3,
          h4.mono (fun b hb' => hb'.grow hg) (fun b hb' => hb b hb'.1) (fun b hbf _ => hb b (hr.heap.ltO id _ b ho (.inr hbf))) rfl⟩
  · obtain ⟨v, hv, hrep⟩ := hr.slots i x hx
    exact ⟨v, hv, hV hrep⟩
  · rw [hb b (Nat.lt_of_lt_of_le hb1 hr.grow)]
    exact hr.frame b hb1 hb2
theorem RelP.updX {s : Xb} {h h' : Heap} {φ φ' : Nat → Loc} {a : Act} {w w' : World} {id : Nat} {o' : AO} (gone : Nat → Prop)
    (hr : RelP F N ⟨s, h⟩ φ a w) (hl1 : lk h' id = some o') (hl2 : ∀ j, j ≠ id → ¬ gone j → lk h' j = lk h j) (hl3 : ∀ j, j ≠ id → gone j → lk h' j = none)
    (hgF : ∀ j, gone j → j ≠ id ∧ lk F.η j = none) (hφ : ∀ i, i ≠ id → φ' i = φ i) (hsys : SameSys w w') (hg : w.heap.size ≤ w'.heap.size)
    (hblk : ∀ b, b < w.heap.size → (∀ o, lk h id = some o → ¬ (φ id).owns b) → w'.heap[b]? = w.heap[b]?)
    (hloc : ∀ b, (φ' id).owns b → (w.heap.size ≤ b ∧ b < w'.heap.size) ∨ (∃ o, lk h id = some o ∧ (φ id).owns b) ∨ ∃ j o, gone j ∧ lk h j = some o ∧ (φ j).owns b)
    (hfix : ∀ o, lk F.η id = some o → o.isBox ≠ 1 → φ' id = F.φ id) (hkind : ∀ o, lk h id = some o → o.alike o')
    (hV : (∀ b, Stab F w φ h b → Stab F w' φ' h' b) → (∀ b, Stab F w φ h b → w'.heap[b]? = w.heap[b]?) →
      ∀ x v, ((∃ i, lk s i = some x) ∨ ∃ i cs, i ≠ id ∧ lk h i = some (.box cs) ∧ x ∈ cs) → RepV (Stab F w φ h) w φ h x v → RepV (Stab F w' φ' h') w' φ' h' x v)
    (hO : (∀ b, Stab F w φ h b → Stab F w' φ' h' b) → (∀ b, Stab F w φ h b → w'.heap[b]? = w.heap[b]?) → ObjOK (Stab F w' φ' h') w' φ' h' id o') :
    RelP F N ⟨s, h'⟩ φ' a w' := by
  have hin : ∀ j o, j ≠ id → lk h' j = some o → lk h j = some o ∧ ¬ gone j := by
    intro j o hj ho
    by_cases hgj : gone j
    · rw [hl3 j hj hgj] at ho; cases ho
    · exact ⟨by rw [← hl2 j hj hgj]; exact ho, hgj⟩
  have hS : ∀ b, Stab F w φ h b → Stab F w' φ' h' b := by
    intro b hb
    refine ⟨Nat.lt_of_lt_of_le hb.1 hg, hb.2.1, fun i o ho hm => ?_⟩
    by_cases hi : id = i
    · subst hi
      rcases hloc b hm with h1 | ⟨o1, ho1, hm1⟩ | ⟨j, o1, _, ho1, hm1⟩
      · have := hb.1; omega
      · exact hb.2.2 id o1 ho1 hm1
      · exact hb.2.2 j o1 ho1 hm1
    · have ho' := (hin i o (Ne.symm hi) ho).1
      rw [hφ i (Ne.symm hi)] at hm
      exact hb.2.2 i o ho' hm
  have hw : ∀ b, Stab F w φ h b → w'.heap[b]? = w.heap[b]? := fun b hb => hblk b hb.1 (fun o ho hm => hb.2.2 id o ho hm)
  have hV := hV hS hw
  have hO := hO hS hw
  have hotherO : ∀ i o b, i ≠ id → lk h i = some o → (φ i).owns b → w'.heap[b]? = w.heap[b]? := by
    intro i o b hi ho hm
    exact hblk _ (hr.heap.ltO i o b ho hm) (fun o1 ho1 hm1 => hi (hr.heap.injO i id o o1 b ho ho1 hm hm1))
  have hother : ∀ i o, i ≠ id → lk h i = some o → (φ i).mat = true → w'.heap[(φ i).blk]? = w.heap[(φ i).blk]? :=
    fun i o hi ho hm => hotherO i o _ hi ho (.inl ⟨hm, rfl⟩)
  -- a block of the new object's is no other object's
  have hsep : ∀ b, (φ' id).owns b → ∀ j oj, j ≠ id → lk h' j = some oj → (φ j).owns b → False := by
    intro b hmi j oj hj ho hmj
    obtain ⟨ho', hng⟩ := hin j oj hj ho
    have hlt := hr.heap.ltO j oj b ho' hmj
    rcases hloc b hmi with h1 | ⟨o1, ho1, hm1⟩ | ⟨k, o1, hgk, ho1, hm1⟩
    · omega
    · exact hj (hr.heap.injO j id oj o1 b ho' ho1 hmj hm1)
    · exact hng (by rw [hr.heap.injO j k oj o1 b ho' ho1 hmj hm1]; exact hgk)
  refine ⟨hr.size, hr.defers, hr.sys.trans hsys, Nat.le_trans hr.grow hg, ⟨fun i o ho => ?_, ?_, fun b hb => hb.1, fun i o b ho hm hst => hst.2.2 i o ho hm, fun i o b ho hm => ?_⟩,
    fun i x hx => ?_, fun i o b ho hm => ?_, fun i o hi hb => ?_, fun i o hi => ?_, fun b hb1 hb2 => ?_⟩
  · simp only at ho
    by_cases hi : id = i
    · subst hi
      rw [hl1] at ho
      cases ho
      exact hO
    · have hi' : i ≠ id := Ne.symm hi
      have ho := (hin i o hi' ho).1
      have hok := hr.heap.obj i o ho
      cases o with
      | box cs =>
        obtain ⟨hm, C, E, hC, hsz, hrep⟩ := hok
        refine ⟨by rw [hφ i hi']; exact hm, C, E, by rw [hφ i hi', hother i _ hi' ho hm]; exact hC, hsz, fun j x v hx hv => ?_⟩
        exact hV x v (.inr ⟨i, cs, hi', ho, List.mem_of_getElem? hx⟩) (hrep j x v hx hv)
      | arr k sz E es =>
        obtain ⟨h0, hl, hone, hh⟩ := hok
        refine ⟨h0, hl, hone, ?_⟩
        rw [hφ i hi']
        rcases hh with hh | ⟨hm, C, hC, h1, h2, h3, h4⟩
        · exact .inl hh
        · exact .inr ⟨hm, C, by rw [hother i _ hi' ho hm]; exact hC, h1, h2, h3, h4.mono hS hw (fun b hbm _ => hotherO i _ b hi' ho (.inr hbm)) rfl⟩
  · intro i j oi oj b hi hj hmi hmj
    simp only at hi hj
    by_cases hii : id = i
    · subst hii
      by_cases hjj : id = j
      · exact hjj
      · have hj' : j ≠ id := Ne.symm hjj
        rw [hφ j hj'] at hmj
        exact (hsep b hmi j oj hj' hj hmj).elim
    · have hi' : i ≠ id := Ne.symm hii
      rw [hφ i hi'] at hmi
      by_cases hjj : id = j
      · subst hjj
        exact (hsep b hmj i oi hi' hi hmi).elim
      · rw [hφ j (Ne.symm hjj)] at hmj
        exact hr.heap.injO i j oi oj b (hin i oi hi' hi).1 (hin j oj (Ne.symm hjj) hj).1 hmi hmj
  · simp only at ho
    by_cases hi : id = i
    · subst hi
      rcases hloc b hm with h1 | ⟨o1, ho1, hm1⟩ | ⟨j, o1, _, ho1, hm1⟩
      · exact h1.2
      · exact Nat.lt_of_lt_of_le (hr.heap.ltO id o1 b ho1 hm1) hg
      · exact Nat.lt_of_lt_of_le (hr.heap.ltO j o1 b ho1 hm1) hg
    · rw [hφ i (Ne.symm hi)] at hm
      exact Nat.lt_of_lt_of_le (hr.heap.ltO i o b (hin i o (Ne.symm hi) ho).1 hm) hg
  · obtain ⟨v, hv, hrep⟩ := hr.slots i x hx
    exact ⟨v, hv, hV x v (.inl ⟨i, hx⟩) hrep⟩
  · simp only at ho
    by_cases hi : id = i
    · subst hi
      rcases hloc b hm with h1 | ⟨o1, ho1, hm1⟩ | ⟨j, o1, hgj, ho1, hm1⟩
      · exact .inl (Nat.le_trans hr.grow h1.1)
      · exact hr.mine id o1 b ho1 hm1
      · rcases hr.mine j o1 b ho1 hm1 with h2 | ⟨o0, h2, _⟩
        · exact .inl h2
        · rw [(hgF j hgj).2] at h2; cases h2
    · rw [hφ i (Ne.symm hi)] at hm
      exact hr.mine i o b (hin i o (Ne.symm hi) ho).1 hm
  · by_cases hi2 : i = id
    · subst hi2; exact hfix o hi hb
    · rw [hφ i hi2]; exact hr.fix i o hi hb
  · obtain ⟨o1, ho1, hb1⟩ := hr.keep i o hi
    simp only
    by_cases hii : id = i
    · subst hii
      exact ⟨o', hl1, AO.alike_trans hb1 (hkind o1 ho1)⟩
    · refine ⟨o1, ?_, hb1⟩
      rw [hl2 i (Ne.symm hii) (fun hgi => by rw [(hgF i hgi).2] at hi; cases hi)]
      exact ho1
  · have hne : ∀ o, lk h id = some o → ¬ (φ id).owns b := by
      intro o ho hm
      rcases hr.mine id o b ho hm with h1 | ⟨o0, h1, h2⟩
      · omega
      · exact hb2 ⟨id, o0, h1, h2⟩
    rw [hblk b (Nat.lt_of_lt_of_le hb1 hr.grow) hne]
    exact hr.frame b hb1 hb2
theorem RelP.upd {s : Xb} {h h' : Heap} {φ φ' : Nat → Loc} {a : Act} {w w' : World} {id : Nat} {o' : AO}
    (hr : RelP F N ⟨s, h⟩ φ a w) (hs : sput h id o' = some h') (hφ : ∀ i, i ≠ id → φ' i = φ i) (hsys : SameSys w w') (hg : w.heap.size ≤ w'.heap.size)
    (hblk : ∀ b, b < w.heap.size → (∀ o, lk h id = some o → ¬ (φ id).owns b) → w'.heap[b]? = w.heap[b]?)
    (hloc : ∀ b, (φ' id).owns b → (w.heap.size ≤ b ∧ b < w'.heap.size) ∨ ∃ o, lk h id = some o ∧ (φ id).owns b)
    (hfix : ∀ o, lk F.η id = some o → o.isBox ≠ 1 → φ' id = F.φ id) (hkind : ∀ o, lk h id = some o → o.alike o')
    (hV : (∀ b, Stab F w φ h b → Stab F w' φ' h' b) → (∀ b, Stab F w φ h b → w'.heap[b]? = w.heap[b]?) →
      ∀ x v, ((∃ i, lk s i = some x) ∨ ∃ i cs, i ≠ id ∧ lk h i = some (.box cs) ∧ x ∈ cs) → RepV (Stab F w φ h) w φ h x v → RepV (Stab F w' φ' h') w' φ' h' x v)
    (hO : (∀ b, Stab F w φ h b → Stab F w' φ' h' b) → (∀ b, Stab F w φ h b → w'.heap[b]? = w.heap[b]?) → ObjOK (Stab F w' φ' h') w' φ' h' id o') :
    RelP F N ⟨s, h'⟩ φ' a w' := by
  have hlk := lk_sput hs
  exact hr.updX (fun _ => False) (by rw [hlk, if_pos rfl]) (fun j hj _ => by rw [hlk, if_neg (Ne.symm hj)]) (fun _ _ h => h.elim) (fun _ h => h.elim) hφ hsys hg hblk
    (fun b hb => (hloc b hb).imp_right .inl) hfix hkind hV hO
theorem RelP.slots_sub {s s' : Xb} {h : Heap} {φ : Nat → Loc} {a : Act} {w : World} (hr : RelP F N ⟨s, h⟩ φ a w)
    (hs : ∀ i x, lk s' i = some x → lk s i = some x ∨ x = .junk ∧ i < N) : RelP F N ⟨s', h⟩ φ a w := by
  refine ⟨hr.size, hr.defers, hr.sys, hr.grow, hr.heap, fun i x hx => ?_, hr.mine, hr.fix, hr.keep, hr.frame⟩
  rcases hs i x hx with h1 | ⟨rfl, hi⟩
  · exact hr.slots i x h1
  · have : i < a.tmps.size := by rw [hr.size]; exact hi
    exact ⟨a.tmps[i], by simp [this], .pure (.junk _)⟩
theorem headsAlike_new {φ φ' : Nat → Loc} {h h' : Heap} {id : Nat} {o : AO} (hl : lk h id = none) (hs : sput h id o = some h') (hφ : ∀ i, i ≠ id → φ' i = φ i) :
    headsAlike φ φ' h h' := by
  have hlk := lk_sput hs
  refine ⟨fun i cs hi _ => ?_, fun i k sz E es hi => ?_⟩
  · have hne : id ≠ i := fun e => by subst e; rw [hl] at hi; cases hi
    exact ⟨⟨cs, by rw [hlk, if_neg hne]; exact hi⟩, hφ i (Ne.symm hne)⟩
  · have hne : id ≠ i := fun e => by subst e; rw [hl] at hi; cases hi
    exact ⟨hφ i (Ne.symm hne), k, es, rfl, by rw [hlk, if_neg hne]; exact hi⟩
def updLoc (φ : Nat → Loc) (id : Nat) (l : Loc) : Nat → Loc := fun i => if i = id then l else φ i
theorem Qu (φ : Nat → Loc) (id : Nat) (l : Loc) : updLoc φ id l id = l := by simp [updLoc]
theorem updLoc_ne (φ : Nat → Loc) (id : Nat) (l : Loc) (i : Nat) (h : i ≠ id) : updLoc φ id l i = φ i := by simp [updLoc, h]
theorem RelP.newBox {s : Xb} {h h' : Heap} {φ : Nat → Loc} {a : Act} {w w' : World} {id : Nat} {cs : List AV} {C : Array Value} {E : TypeId}
    (hr : RelP F N ⟨s, h⟩ φ a w) (hl : lk h id = none) (hs : sput h id (.box cs) = some h') (hsys : SameSys w w') (hg : w.heap.size ≤ w'.heap.size)
    (hb : ∀ b, b < w.heap.size → w'.heap[b]? = w.heap[b]?) {g : Nat} (hgl : w.heap.size ≤ g) (hC : BoxAt cs.length w'.heap[g]? C E)
    (hsz : C.size = cs.length) (hrep : ∀ (i : Nat) x v, cs[i]? = some x → C[i]? = some v → RepV (Stab F w φ h) w φ h x v) :
    RelP F N ⟨s, h'⟩ (updLoc φ id (mkLoc g 0 true)) a w' := by
  have hal := headsAlike_new (φ' := updLoc φ id (mkLoc g 0 true)) hl hs (updLoc_ne φ id _)
  refine hr.upd hs (updLoc_ne φ id _) hsys hg (fun b hb' _ => hb b hb') (fun b hbo => .inl (by rw [Qu, mkLoc_owns] at hbo; rw [← hbo.2]; exact ⟨hgl, hC.lt⟩)) (fun cs hcs _ => ?_) (fun o ho => by rw [hl] at ho; cases ho)
    (fun hS hw x v _ hv => hv.mono hS hw hal) (fun hS hw => ⟨by rw [Qu], C, E, by rw [Qu]; exact hC, hsz, fun i x v hx hv => (hrep i x v hx hv).mono hS hw hal⟩)
  obtain ⟨o1, ho1, _⟩ := hr.keep id _ hcs
  rw [hl] at ho1; cases ho1
theorem RelP.newArrK {k : Kd} {s : Xb} {h h' : Heap} {φ : Nat → Loc} {a : Act} {w w' : World} {id sz : Nat} {es : List AV} {C : Array Value} {E : TypeId} {cap : Nat}
    (hr : RelP F N ⟨s, h⟩ φ a w) (hl : lk h id = none) (hs : sput h id (.arr k sz E es) = some h') (hsys : SameSys w w') (hg : w.heap.size ≤ w'.heap.size)
    (hb : ∀ b, b < w.heap.size → w'.heap[b]? = w.heap[b]?) {g : Nat} (hgl : w.heap.size ≤ g) (hC : w'.heap[g]? = some (.cells C E (0, 0)))
    (hsz : 0 < sz) (hlens : ∀ e ∈ es, e.cells.length = sz) (hone : ∀ (j : Nat) x, (flat es)[j]? = some x → one x = true)
    (hcap : es.length ≤ cap) (hcm : cap ≤ maxLen) (hCs : C.size = cap * sz)
    (hrep : CellsOK k (Stab F w φ h) w (mkLoc g cap true) (flat es) C) :
    RelP F N ⟨s, h'⟩ (updLoc φ id (mkLoc g cap true)) a w' := by
  have hal := headsAlike_new (φ' := updLoc φ id (mkLoc g cap true)) hl hs (updLoc_ne φ id _)
  refine hr.upd hs (updLoc_ne φ id _) hsys hg (fun b hb' _ => hb b hb') (fun b hbo => .inl (by rw [Qu, mkLoc_owns] at hbo; rw [← hbo.2]; exact ⟨hgl, (Array.getElem?_eq_some_iff.1 hC).1⟩)) (fun cs hcs _ => ?_) (fun o ho => by rw [hl] at ho; cases ho)
    (fun hS hw x v _ hv => hv.mono hS hw hal) (fun hS hw => ⟨hsz, hlens, hone, .inr ⟨by rw [Qu], C, by rw [Qu]; exact hC,
      by rw [Qu]; exact hcap, by rw [Qu]; exact hcm, by rw [Qu]; exact hCs, hrep.mono hS hw (fun b hb _ => by simp at hb) (Qu _ _ _)⟩⟩)
  obtain ⟨o1, ho1, _⟩ := hr.keep id _ hcs
  rw [hl] at ho1; cases ho1
theorem RelP.newArr {s : Xb} {h h' : Heap} {φ : Nat → Loc} {a : Act} {w w' : World} {id sz : Nat} {p : Bool} {es : List AV} {C : Array Value} {E : TypeId} {cap : Nat}
    (hr : RelP F N ⟨s, h⟩ φ a w) (hl : lk h id = none) (hs : sput h id (.arr ⟨p, false⟩ sz E es) = some h') (hsys : SameSys w w') (hg : w.heap.size ≤ w'.heap.size)
    (hb : ∀ b, b < w.heap.size → w'.heap[b]? = w.heap[b]?) {g : Nat} (hgl : w.heap.size ≤ g) (hC : w'.heap[g]? = some (.cells C E (0, 0)))
    (hsz : 0 < sz) (hlens : ∀ e ∈ es, e.cells.length = sz) (hone : ∀ (j : Nat) x, (flat es)[j]? = some x → one x = true)
    (hcap : es.length ≤ cap) (hcm : cap ≤ maxLen) (hCs : C.size = cap * sz)
    (hrep : ∀ (j : Nat) x v, (flat es)[j]? = some x → C[j]? = some v → RepT (Stab F w φ h) w x v) :
    RelP F N ⟨s, h'⟩ (updLoc φ id (mkLoc g cap true)) a w' :=
  hr.newArrK hl hs hsys hg hb hgl hC hsz hlens hone hcap hcm hCs (CellsOK.ofTrees rfl hrep)
theorem RelP.newNil {s : Xb} {h h' : Heap} {φ : Nat → Loc} {a : Act} {w : World} {id sz : Nat} {k : Kd} {E : TypeId} (va : Option Addr := none)
    (hr : RelP F N ⟨s, h⟩ φ a w) (hl : lk h id = none) (hs : sput h id (.arr k sz E []) = some h') (hsz : 0 < sz) :
    RelP F N ⟨s, h'⟩ (updLoc φ id { mkLoc 0 0 false with va := va }) a w := by
  have hal := headsAlike_new (φ' := updLoc φ id { mkLoc 0 0 false with va := va }) hl hs (updLoc_ne φ id _)
  refine hr.upd hs (updLoc_ne φ id _) (SameSys.refl w) (Nat.le_refl _) (fun b _ _ => rfl) (fun b hm => ?_) (fun cs hcs _ => ?_) (fun o ho => by rw [hl] at ho; cases ho)
    (fun hS hw x v _ hv => hv.mono hS hw hal) (fun hS hw => ⟨hsz, fun e he => by simp at he, fun j x hx => by simp [flat] at hx, .inl ⟨by rw [Qu], rfl⟩⟩)
  · rw [Qu] at hm; simp [Loc.owns] at hm
  · obtain ⟨o1, ho1, _⟩ := hr.keep id _ hcs
    rw [hl] at ho1; cases ho1
end
end Go.AM

namespace Go.AM
open Go
def overO : List AV → List AV → Option (List AV)
  | l, [] => some l
  | _ :: r, c :: cs => match overO r cs with
    | some l => some (c :: l)
    | none => none
  | [], _ :: _ => none
def setO : List AV → Nat → List AV → Option (List AV)
  | l, 0, cs => overO l cs
  | x :: r, n + 1, cs => match setO r n cs with
    | some l => some (x :: l)
    | none => none
  | [], _ + 1, _ => none
theorem overO_eq : ∀ {l cs r : List AV}, overO l cs = some r → r = cs ++ l.drop cs.length ∧ cs.length ≤ l.length := by
  intro l
  induction l with
  | nil => intro cs r h; cases cs with
    | nil => cases h; simp
    | cons c cs => cases h
  | cons x l ih =>
    intro cs r h
    cases cs with
    | nil => cases h; simp
    | cons c cs =>
      unfold overO at h
      cases ho : overO l cs with
      | none => simp [ho] at h
      | some l' =>
        simp only [ho, Option.some.injEq] at h
        subst h
        obtain ⟨rfl, h2⟩ := ih ho
        simpa using h2
theorem setO_eq : ∀ {l cs r : List AV} {n : Nat}, setO l n cs = some r → r = l.take n ++ cs ++ l.drop (n + cs.length) ∧ n + cs.length ≤ l.length := by
  intro l
  induction l with
  | nil =>
    intro cs r n h
    cases n with
    | zero => obtain ⟨rfl, h2⟩ := overO_eq (l := []) (cs := cs) h; simpa using h2
    | succ n => cases h
  | cons x l ih =>
    intro cs r n h
    cases n with
    | zero =>
      have h' : overO (x :: l) cs = some r := h
      obtain ⟨rfl, h2⟩ := overO_eq h'
      simp at h2 ⊢
      exact h2
    | succ n =>
      unfold setO at h
      cases ho : setO l n cs with
      | none => simp [ho] at h
      | some l' =>
        simp only [ho, Option.some.injEq] at h
        subst h
        obtain ⟨rfl, h2⟩ := ih ho
        refine ⟨by simp [Nat.add_right_comm], by simp; omega⟩
theorem foldl_set : ∀ (l : List Value) (i off : Nat) (cs : Array Value), off + i + l.length ≤ cs.size →
    ((l.zipIdx i).foldl (fun cs p => cs.setIfInBounds (off + p.2) p.1) cs).toList = cs.toList.take (off + i) ++ l ++ cs.toList.drop (off + i + l.length) := by
  intro l
  induction l with
  | nil => intro i off cs _; simp
  | cons v l ih =>
    intro i off cs h
    simp only [List.length_cons] at h
    rw [List.zipIdx_cons, List.foldl_cons, ih (i + 1) off _ (by simp; omega)]
    have e := list_seg_step cs.toList (off + i) v l (by simp; omega)
    simpa [Array.toList_setIfInBounds, Nat.add_assoc] using e
theorem foldl_setA (vs cs : Array Value) (off : Nat) (h : off + vs.size ≤ cs.size) :
    (vs.zipIdx.foldl (fun cs (c, j) => cs.setIfInBounds (off + j) c) cs).toList = cs.toList.take off ++ vs.toList ++ cs.toList.drop (off + vs.size) := by
  rw [← Array.foldl_toList, Array.toList_zipIdx]
  have := foldl_set vs.toList 0 off cs (by simpa using h)
  simpa using this
def PW (S : Nat → Prop) (w : World) (φ : Nat → Loc) (η : Heap) (xs : List AV) (vs : List Value) : Prop :=
  xs.length = vs.length ∧ ∀ (i : Nat) x v, xs[i]? = some x → vs[i]? = some v → RepV S w φ η x v
section
variable {S : Nat → Prop} {w : World} {φ : Nat → Loc} {η : Heap}
theorem PW.append {xs ys : List AV} {us vs : List Value} (h : PW S w φ η xs us) (k : PW S w φ η ys vs) : PW S w φ η (xs ++ ys) (us ++ vs) := by
  refine ⟨by simp [h.1, k.1], fun i x v hx hv => ?_⟩
  by_cases hi : i < xs.length
  · rw [List.getElem?_append_left hi] at hx
    rw [List.getElem?_append_left (by rw [← h.1]; exact hi)] at hv
    exact h.2 i x v hx hv
  · rw [List.getElem?_append_right (by omega)] at hx
    rw [List.getElem?_append_right (by rw [← h.1]; omega), ← h.1] at hv
    exact k.2 _ x v hx hv
theorem PW.take {xs : List AV} {us : List Value} (h : PW S w φ η xs us) (n : Nat) : PW S w φ η (xs.take n) (us.take n) := by
  refine ⟨by simp [h.1], fun i x v hx hv => ?_⟩
  rw [List.getElem?_take] at hx hv
  split at hx
  · rw [if_pos (by assumption)] at hv; exact h.2 i x v hx hv
  · cases hx
theorem PW.drop {xs : List AV} {us : List Value} (h : PW S w φ η xs us) (n : Nat) : PW S w φ η (xs.drop n) (us.drop n) := by
  refine ⟨by simp [h.1], fun i x v hx hv => ?_⟩
  rw [List.getElem?_drop] at hx hv
  exact h.2 _ x v hx hv
theorem RepV.cells {z : AV} {v : Value} {cs : List AV} (h : RepV S w φ η z v) (hc : cellsO z = some cs) (hj : ∀ u, z = .junk → v ≠ .agg u) :
    PW S w φ η cs v.cells.toList := by
  cases z with
  | agg as =>
    cases hc
    obtain ⟨us, rfl, h1, h2⟩ := h.agg_inv
    exact ⟨by simpa [Value.cells] using h1, fun i x u hx hu => h2 i x u hx (by simpa [Value.cells] using hu)⟩
  | _ =>
    cases hc
    have hv : v.cells = #[v] := by
      cases v <;> first | rfl | skip
      exfalso
      cases h <;> first | (rename_i h; cases h; done) | skip
      all_goals first | (exact hj _ rfl rfl) | (rename_i h; cases h; exact hj _ rfl rfl)
    rw [hv]
    refine ⟨rfl, fun i x u hx hu => ?_⟩
    cases i with
    | zero => simp at hx hu; subst hx; subst hu; exact h
    | succ i => simp at hx
theorem RepT.one {x : AV} {v : Value} (h : RepT S w x v) (ho : one x = true) : v.oneCell' = true := by
  cases h <;> first | rfl | cases ho
theorem RepV.one {x : AV} {v : Value} (h : RepV S w φ η x v) (ho : one x = true) : v.oneCell' = true := by
  cases h with
  | pure h => exact h.one ho
  | agg _ _ _ _ => cases ho
  | tup _ _ _ _ => cases ho
  | _ => rfl
end
end Go.AM

namespace Go.AM
open Go
section
variable {P : Program} {F : Fr} {N : Nat} {ops : Array Oper} {rest : List Oper} {K : St → Prop} {ex : Bool}
theorem TL_val {o : Oper} {st st' : St} (hg : o.guard = none)
    (h : ∀ φ a w, RelP F N st φ a w → ∃ v w', (ex = true → Ext w w') ∧ (execOp a.eval o).run P w = .ok (.value v) w' ∧ Rel F N st' (a.put o.dst v) w')
    (k : TLE ex P F N ops rest K st') : TLE ex P F N ops (o :: rest) K st := by
  intro a w R hr hQ
  obtain ⟨φ, hp⟩ := hr
  obtain ⟨v, w', hext, hrun, hr'⟩ := h φ a w hp
  refine wpList_plain hg fun K' hK' => ?_
  unfold Oper.wp
  rw [hrun]
  exact hK' _ _ (k _ _ R hr' (fun st' a' w'' hk hr'' he => hQ st' a' w'' hk hr'' (fun h => (hext h).trans (he h))))
theorem TL_skip {o : Oper} {st st' : St} (hg : o.guard = none) (hd : o.dst = none)
    (h : ∀ φ a w, RelP F N st φ a w → ∃ w', (execOp a.eval o).run P w = .ok .skip w' ∧ Rel F N st' a w')
    (k : TL P F N ops rest K st') : TL P F N ops (o :: rest) K st := by
  intro a w R hr hQ
  obtain ⟨φ, hp⟩ := hr
  obtain ⟨w', hrun, hr'⟩ := h φ a w hp
  refine wpList_plain hg fun K' hK' => ?_
  unfold Oper.wp
  rw [hrun]
  show K' (a.put o.dst undef) w'
  rw [hd]
  exact hK' _ _ (k _ _ R hr' (fun st' a' w'' hk hr'' _ => hQ st' a' w'' hk hr'' (fun h => by cases h)))
theorem TL_sub {l : List Oper} {st st' : St} (h : ∀ φ a w, RelP F N st φ a w → Rel F N st' a w) (k : TLE ex P F N ops l K st') : TLE ex P F N ops l K st := by
  intro a w R hr hQ
  obtain ⟨φ, hp⟩ := hr
  exact k a w R (h φ a w hp) hQ
theorem T_sub {c : Code} {Q : Exit → St → Prop} {st st' : St} (h : ∀ φ a w, RelP F N st φ a w → Rel F N st' a w) (k : T P F N c Q st') : T P F N c Q st := by
  intro a w hr
  obtain ⟨φ, hp⟩ := hr
  exact k a w (h φ a w hp)
theorem TR_sub {c : Code} {Q : Exit → St → Prop} {st st' : St} (h : ∀ φ a w, RelP F N st φ a w → Rel F N st' a w) (k : TR P F N c Q st') : TR P F N c Q st := by
  intro a w hr
  obtain ⟨φ, hp⟩ := hr
  exact k a w (h φ a w hp)
def isJunk : AV → Bool
  | .junk => true
  | _ => false
variable {ty : TypeId} {pos : String} {after : Array Edge} {d id : Nat} {s s' : Xb} {h h' : Heap} {y : Operand}
theorem alloc_new (w : World) (o : Obj) : SameSys w (w.alloc o) ∧ w.heap.size ≤ (w.alloc o).heap.size ∧ (∀ b, b < w.heap.size → (w.alloc o).heap[b]? = w.heap[b]?) ∧
    (w.alloc o).heap[w.heap.size]? = some o :=
  ⟨⟨rfl, rfl, rfl⟩, by simp, fun b hb => heap_alloc_old w o b hb, heap_alloc_new w o⟩
def cellsB (z : AV) : Option (List AV) := match cellsO z with
  | some cs => bif isMapLen cs.length then none else some cs
  | none => none
theorem cellsB_eq {z : AV} {cs : List AV} (h : cellsB z = some cs) : cellsO z = some cs ∧ isMapLen cs.length = false := by
  unfold cellsB at h
  cases hc : cellsO z with
  | none => rw [hc] at h; cases h
  | some l =>
    rw [hc] at h
    simp only at h
    cases hn : isMapLen l.length with
    | true => rw [hn] at h; cases h
    | false => rw [hn] at h; cases h; exact ⟨rfl, hn⟩
theorem TL_box {E : TypeId} {z : AV} {cs : List AV} (id : Nat) (hy : aev s y = some z) (hj : isJunk z = false) (hc : cellsB z = some cs)
    (hl : lk h id = none) (hh : sput h id (.box cs) = some h') (hN : Nat.blt d N = true) (hs : sput s d (.ptr id 0 0) = some s')
    (k : TLE ex P F N ops rest K ⟨s', h'⟩) : TLE ex P F N ops (⟨some d, .box E y, ty, pos, after, none⟩ :: rest) K ⟨s, h⟩ := by
  refine TL_val rfl (fun φ a w hp => ?_) k
  obtain ⟨hc, hn⟩ := cellsB_eq hc
  have hv := aev_rep hp hy
  have hcells := hv.cells hc (fun u hu => by subst hu; cases hj)
  obtain ⟨h1, h2, h3, h4⟩ := alloc_new w (.cells (a.eval y).cells E)
  refine ⟨.pointer (some ⟨w.heap.size, 0, none⟩), _, fun _ => ⟨h2, h3⟩, rfl, _, RelP.put (hp.newBox hl hh h1 h2 h3 (Nat.le_refl _) (.inl ⟨hn, h4⟩) (by simpa using hcells.1.symm)
    (fun i x v hx hv => hcells.2 i x v hx (by simpa using hv))) (Nat.le_of_ble_eq_true hN) hs ?_⟩
  have := RepV.box (S := Stab F (w.alloc (.cells (a.eval y).cells E)) (updLoc φ id (mkLoc w.heap.size 0 true)) h') (w := w.alloc (.cells (a.eval y).cells E))
    (φ := updLoc φ id (mkLoc w.heap.size 0 true)) (η := h') (id := id) (off := 0) (cs := cs) (by rw [lk_sput hh, if_pos rfl]) (by rw [Qu])
  rw [Qu] at this
  exact this
def tyZero (P : Program) (t : TypeId) : Option (Value × Nat × Nat) :=
  (P.info? t).bind fun i => i.zero.map fun z => (z, i.size, i.bytes)
theorem tyZero_inv {t : TypeId} {z : Value} {n b : Nat} (h : tyZero P t = some (z, n, b)) : ∃ i, P.info? t = some i ∧ i.zero = some z ∧ i.size = n ∧ i.bytes = b := by
  unfold tyZero at h
  cases hi : P.info? t with
  | none => simp [hi] at h
  | some i =>
    cases hz : i.zero with
    | none => simp [hi, hz] at h
    | some z' => simp [hi, hz] at h; exact ⟨i, rfl, by rw [hz, h.1], h.2.1, h.2.2⟩
theorem run_zero {t : TypeId} {z : Value} {n b : Nat} (h : tyZero P t = some (z, n, b)) (w : World) : (zeroValue t).run P w = .ok z w := by
  obtain ⟨i, h1, h2, _⟩ := tyZero_inv h
  simp [zeroValue, typeInfo, h1, h2]
theorem QJ {E : TypeId} {zv : Value} {n b : Nat} {z : AV} {cs : List AV} (id : Nat) (hz : tyZero P E = some (zv, n, b)) (hy : cav zv = some z) (hj : isJunk z = false)
    (hc : cellsB z = some cs) (hl : lk h id = none) (hh : sput h id (.box cs) = some h') (hN : Nat.blt d N = true) (hs : sput s d (.ptr id 0 0) = some s')
    (k : TLE ex P F N ops rest K ⟨s', h'⟩) : TLE ex P F N ops (⟨some d, .alloc E, ty, pos, after, none⟩ :: rest) K ⟨s, h⟩ := by
  refine TL_val rfl (fun φ a w hp => ?_) k
  obtain ⟨hc, hn⟩ := cellsB_eq hc
  have hv : RepV (Stab F w φ h) w φ h z zv := .pure (cav_rep hy)
  have hcells := hv.cells hc (fun u hu => by subst hu; cases hj)
  obtain ⟨h1, h2, h3, h4⟩ := alloc_new w (.cells zv.cells E)
  have hrun : (execOp a.eval ⟨some d, .alloc E, ty, pos, after, none⟩).run P w = .ok (.value (.pointer (some ⟨w.heap.size, 0, none⟩))) (w.alloc (.cells zv.cells E)) := by
    show (do pure (.value (← Instr.alloc E true (.tuple #[]))) : Sem Next).run P w = _
    simp only [Instr.alloc, Sem.run_bind, run_zero hz, Result.andThen_ok]
    rfl
  refine ⟨.pointer (some ⟨w.heap.size, 0, none⟩), _, fun _ => ⟨h2, h3⟩, hrun, _, RelP.put (hp.newBox hl hh h1 h2 h3 (Nat.le_refl _) (.inl ⟨hn, h4⟩) (by simpa using hcells.1.symm)
    (fun i x v hx hv => hcells.2 i x v hx (by simpa using hv))) (Nat.le_of_ble_eq_true hN) hs ?_⟩
  have := RepV.box (S := Stab F (w.alloc (.cells zv.cells E)) (updLoc φ id (mkLoc w.heap.size 0 true)) h') (w := w.alloc (.cells zv.cells E))
    (φ := updLoc φ id (mkLoc w.heap.size 0 true)) (η := h') (id := id) (off := 0) (cs := cs) (by rw [lk_sput hh, if_pos rfl]) (by rw [Qu])
  rw [Qu] at this
  exact this
theorem fill_ordered (sz : Nat) : ∀ (vs : List Value) (k : Nat) (cells : Array Value), (k + vs.length) * sz ≤ cells.size → (∀ v ∈ vs, v.cells.size = sz) →
    ∃ C, Instr.fill (fun i => some (i * sz, sz)) cells ((List.range' k vs.length).zip vs) = some C ∧
      C.toList = cells.toList.take (k * sz) ++ vs.flatMap (·.cells.toList) ++ cells.toList.drop ((k + vs.length) * sz) := by
  intro vs
  induction vs with
  | nil => intro k cells _ _; exact ⟨cells, rfl, by simp⟩
  | cons v vs ih =>
    intro k cells hsz hv
    have h0 : v.cells.size = sz := hv v (by simp)
    have e1 : (k + (v :: vs).length) * sz = k * sz + sz + vs.length * sz := by
      simp only [List.length_cons, Nat.add_mul, Nat.one_mul]; omega
    have e2 : (k + 1 + vs.length) * sz = k * sz + sz + vs.length * sz := by simp only [Nat.add_mul, Nat.one_mul]
    have hf := foldl_setA v.cells cells (k * sz) (by rw [h0]; omega)
    generalize hC1 : v.cells.zipIdx.foldl (fun cs (c, j) => cs.setIfInBounds (k * sz + j) c) cells = C1 at hf
    have hs1 : C1.size = cells.size := by
      rw [← Array.length_toList, hf]; simp [h0]; omega
    obtain ⟨C, hC, hCl⟩ := ih (k + 1) C1 (by rw [hs1]; omega) (fun u hu => hv u (by simp [hu]))
    refine ⟨C, ?_, ?_⟩
    · simp only [List.length_cons, List.range'_succ, List.zip_cons_cons, Instr.fill]
      rw [if_neg]
      · rw [hC1]; exact hC
      · simp [h0]; omega
    · rw [hCl, hf]
      have e3 : (k + 1) * sz = k * sz + sz := by simp only [Nat.add_mul, Nat.one_mul]
      rw [e3, e2, e1, h0]
      have hlen : (cells.toList.take (k * sz)).length = k * sz := by simp; omega
      have hlen2 : v.cells.toList.length = sz := by simpa using h0
      rw [List.take_append_of_le_length (by simp [h0]; omega), List.take_of_length_le (by simp [h0]; omega)]
      rw [List.drop_append, List.drop_of_length_le (by simp [h0]; omega), List.nil_append, List.drop_drop]
      simp only [List.flatMap_cons, List.append_assoc]
      congr 3
      simp [h0]
      congr 1
      omega
def aevP (s : Xb) (k : Nat) : List (Nat × Operand) → Option (List AV)
  | [] => some []
  | (i, y) :: r => bif Nat.beq i k then
    match aev s y with
    | some x => match aevP s (k + 1) r with
      | some l => some (x :: l)
      | none => none
    | none => none
    else none
theorem aevP_eq : ∀ {l : List (Nat × Operand)} {k : Nat} {xs : List AV}, aevP s k l = some xs → xs.length = l.length ∧ l.map (·.1) = List.range' k l.length ∧
    ∀ (i : Nat) x, xs[i]? = some x → ∃ p, l[i]? = some p ∧ aev s p.2 = some x := by
  intro l
  induction l with
  | nil => intro k xs h; cases h; exact ⟨rfl, rfl, fun i x hx => by simp at hx⟩
  | cons p r ih =>
    obtain ⟨j, y⟩ := p
    intro k xs h
    unfold aevP at h
    cases hjk : Nat.beq j k with
    | false => simp [hjk] at h
    | true =>
      obtain rfl := (beq_iff j k).1 hjk
      simp only [hjk, cond_true] at h
      cases hy : aev s y with
      | none => simp [hy] at h
      | some x0 =>
        simp only [hy] at h
        cases hr : aevP s (j + 1) r with
        | none => simp [hr] at h
        | some l0 =>
          simp only [hr, Option.some.injEq] at h
          subst h
          obtain ⟨h1, h2, h3⟩ := ih hr
          refine ⟨by simp [h1], by simp [List.range'_succ, h2], fun i x hx => ?_⟩
          cases i with
          | zero => simp at hx; subst hx; exact ⟨(j, y), by simp, hy⟩
          | succ i => simp at hx; obtain ⟨p, hp, hp'⟩ := h3 i x hx; exact ⟨p, by simpa using hp, hp'⟩
def elemsOK (sz : Nat) : List AV → Bool
  | [] => true
  | e :: r => match cellsO e with
    | some cs => Nat.beq cs.length sz && cs.all one && noIds e && !isJunk e && elemsOK sz r
    | none => false
theorem elemsOK_mem {sz : Nat} : ∀ {es : List AV}, elemsOK sz es = true → ∀ e ∈ es, e.cells.length = sz ∧ (∀ x ∈ e.cells, one x = true) ∧ noIds e = true ∧ isJunk e = false := by
  intro es
  induction es with
  | nil => intro _ e he; simp at he
  | cons e0 es ih =>
    intro h e he
    unfold elemsOK at h
    cases hc : cellsO e0 with
    | none => simp [hc] at h
    | some cs =>
      obtain rfl := cellsO_eq hc
      simp only [hc, Bool.and_eq_true, Bool.not_eq_true'] at h
      obtain ⟨⟨⟨⟨h1, h2⟩, h3⟩, h4⟩, h5⟩ := h
      rcases List.mem_cons.1 he with rfl | he
      · exact ⟨(beq_iff _ _).1 h1, fun x hx => (List.all_eq_true.1 h2) x hx, h3, h4⟩
      · exact ih h5 e he
theorem flat_one {es : List AV} (h : ∀ e ∈ es, ∀ x ∈ e.cells, one x = true) (j : Nat) (x : AV) (hx : (flat es)[j]? = some x) : one x = true := by
  have hm := List.mem_of_getElem? hx
  unfold flat at hm
  obtain ⟨e, he, hxe⟩ := List.mem_flatMap.1 hm
  exact h e he x hxe
theorem PW_flat {S : Nat → Prop} {w : World} {φ : Nat → Loc} {η : Heap} : ∀ {es : List AV} {vs : List Value}, es.length = vs.length →
    (∀ (i : Nat) e v, es[i]? = some e → vs[i]? = some v → RepV S w φ η e v ∧ isJunk e = false) → PW S w φ η (flat es) (vs.flatMap (·.cells.toList)) := by
  intro es
  induction es with
  | nil => intro vs hl _; cases vs with
    | nil => exact ⟨rfl, fun i x v hx => by simp [flat] at hx⟩
    | cons _ _ => simp at hl
  | cons e es ih =>
    intro vs hl h
    cases vs with
    | nil => simp at hl
    | cons v vs =>
      have hfl : flat (e :: es) = e.cells ++ flat es := by simp [flat]
      rw [hfl, List.flatMap_cons]
      obtain ⟨h1, h2⟩ := h 0 e v (by simp) (by simp)
      refine PW.append (h1.cells (by cases e <;> rfl) (fun u hu => by subst hu; cases h2)) (ih (by simpa using hl) (fun i e' v' he hv => h (i + 1) e' v' (by simpa using he) (by simpa using hv)))
theorem zip_parts {α β γ : Type} (f : β → γ) : ∀ l : List (α × β), l.map (fun p => (p.1, f p.2)) = (l.map (·.1)).zip (l.map fun p => f p.2) := by
  intro l
  induction l with
  | nil => rfl
  | cons p l ih => simp [ih]
theorem QE {t E : TypeId} {n sz : Nat} {parts : Array (Nat × Operand)} {es : List AV} (id : Nat) {zv : Value} {bz : Nat} (ht : tyElem P t = some (E, sz))
    (hz : tyZero P E = some (zv, sz, bz))
    (hsz : Nat.blt 0 sz = true) (hp : aevP s 0 parts.toList = some es) (hn : Nat.beq parts.toList.length n = true) (hok : elemsOK sz es = true) (hbig : Nat.ble (n * sz) 16777216 = true)
    (hl : lk h id = none) (hh : sput h id (.arr ⟨false, false⟩ sz E es) = some h') (hN : Nat.blt d N = true) (hs : sput s d (.ow id) = some s')
    (k : TLE ex P F N ops rest K ⟨s', h'⟩) : TLE ex P F N ops (⟨some d, .buildSlice t n parts, ty, pos, after, none⟩ :: rest) K ⟨s, h⟩ := by
  refine TL_val rfl (fun φ a w hr => ?_) k
  have hsz' : 0 < sz := Nat.le_of_ble_eq_true hsz
  have hbig' : n * sz ≤ 16777216 := Nat.le_of_ble_eq_true hbig
  obtain ⟨hu, hsize⟩ := tyElem_inv ht
  obtain ⟨h1, h2, h3⟩ := aevP_eq hp
  have hn' : parts.toList.length = n := (beq_iff _ _).1 hn
  have hmem := elemsOK_mem hok
  -- the values of the parts
  let vs : List Value := parts.toList.map fun p => a.eval p.2
  have hvl : vs.length = n := by simp only [vs, List.length_map]; exact hn'
  have hzip : (parts.map fun (i, x) => (i, a.eval x)).toList = (List.range' 0 vs.length).zip vs := by
    rw [hvl, ← hn', ← h2]
    rw [Array.toList_map]
    exact zip_parts (fun y => a.eval y) parts.toList
  have hrep : ∀ (i : Nat) e v, es[i]? = some e → vs[i]? = some v → RepV (Stab F w φ h) w φ h e v ∧ isJunk e = false := by
    intro i e v he hv
    obtain ⟨p, hp1, hp2⟩ := h3 i e he
    have hpv : vs[i]? = some (a.eval p.2) := by simp only [vs, List.getElem?_map, hp1, Option.map_some]
    rw [hpv] at hv
    cases hv
    exact ⟨aev_rep hr hp2, (hmem e (List.mem_of_getElem? he)).2.2.2⟩
  have hpw := PW_flat (S := Stab F w φ h) (w := w) (φ := φ) (η := h) (es := es) (vs := vs) (by rw [h1, hvl, hn']) hrep
  have hvc : ∀ v ∈ vs, v.cells.size = sz := by
    intro v hv
    obtain ⟨i, hi⟩ := List.getElem?_of_mem hv
    have hlt := (List.getElem?_eq_some_iff.1 hi).1
    obtain ⟨e, he⟩ : ∃ e, es[i]? = some e := ⟨es[i]'(by rw [h1, hn', ← hvl]; exact hlt), by simp⟩
    obtain ⟨r1, r2⟩ := hrep i e v he hi
    have := (r1.cells (cs := e.cells) (by cases e <;> rfl) (fun u hu => by subst hu; cases r2)).1
    rw [(hmem e (List.mem_of_getElem? he)).1] at this
    simpa using this.symm
  let Z : Array Value := (Array.range (n * sz)).map ((if n * sz = 0 then #[] else zv.cells)[· % (if n * sz = 0 then #[] else zv.cells).size]!)
  have hZ : Z.size = n * sz := by simp [Z]
  obtain ⟨C, hC, hCl⟩ := fill_ordered sz vs 0 Z (by rw [hZ, hvl, Nat.zero_add]; exact Nat.le_refl _) hvc
  have hCl' : C.toList = vs.flatMap (·.cells.toList) := by
    rw [hCl]
    rw [List.drop_of_length_le (by rw [Array.length_toList, hZ, hvl]; simp)]
    simp
  have hCs : C.size = n * sz := by
    rw [← Array.length_toList, hCl', ← hpw.1, Xa (fun e he => (hmem e he).1), h1, hn']
  have hrun : (execOp a.eval ⟨some d, .buildSlice t n parts, ty, pos, after, none⟩).run P w = .ok (.value (.slice (some ⟨w.heap.size, 0, none⟩) n n)) (w.alloc (.cells C E)) := by
    show (do pure (.value (← Instr.buildSlice t n (parts.map fun (i, x) => (i, a.eval x)))) : Sem Next).run P w = _
    unfold Instr.buildSlice
    simp only [Sem.run_bind, run_underlying hu, Result.andThen_ok, run_size hsize]
    rw [if_neg (by simp; omega)]
    rw [hzip]
    simp only [Z] at hC
    by_cases h0 : n * sz = 0
    · rw [if_pos h0] at hC ⊢
      simp only [Sem.run_bind, Sem.run_pure, Result.andThen_ok]
      rw [hC]
      rfl
    · rw [if_neg h0] at hC ⊢
      simp only [Sem.run_bind, Sem.run_pure, Result.andThen_ok, run_zero hz]
      rw [hC]
      rfl
  obtain ⟨g1, g2, g3, g4⟩ := alloc_new w (.cells C E)
  refine ⟨_, _, fun _ => ⟨g2, g3⟩, hrun, _, RelP.put (hr.newArr (cap := n) hl hh g1 g2 g3 (Nat.le_refl _) g4 hsz' (fun e he => (hmem e he).1) (flat_one (fun e he => (hmem e he).2.1))
    (by rw [h1, hn']; exact Nat.le_refl _) ?_ hCs ?_) (Nat.le_of_ble_eq_true hN) hs ?_⟩
  · have : n ≤ n * sz := Nat.le_mul_of_pos_right n hsz'
    simp only [maxLen]; omega
  · intro j x v hx hv
    have hv' : (vs.flatMap (·.cells.toList))[j]? = some v := by rw [← hCl']; simpa using hv
    have hxr := hpw.2 j x v hx hv'
    have hm := List.mem_of_getElem? hx
    unfold flat at hm
    obtain ⟨e, he, hxe⟩ := List.mem_flatMap.1 hm
    refine hxr.tree ?_
    have hne := (hmem e he).2.2.1
    cases e with
    | agg cs => obtain ⟨i, hi⟩ := List.getElem?_of_mem hxe; exact noIdsL_mem (by simpa [noIds, AV.cells] using hne) i x hi
    | _ => simp [AV.cells] at hxe; subst hxe; exact hne
  · have := RepV.ow (S := Stab F (w.alloc (.cells C E)) (updLoc φ id (mkLoc w.heap.size n true)) h') (w := w.alloc (.cells C E))
      (φ := updLoc φ id (mkLoc w.heap.size n true)) (η := h') (id := id) (sz := sz) (k := ⟨false, false⟩) (E := E) (es := es) (by rw [lk_sput hh, if_pos rfl]) (by rw [Qu])
    rw [Qu, h1, hn'] at this
    exact this
end
end Go.AM

namespace Go.AM
open Go
section
variable {P : Program} {F : Fr} {N : Nat} {ops : Array Oper} {rest : List Oper} {K : St → Prop}
variable {ty : TypeId} {pos : String} {after : Array Edge} {d id : Nat} {s s' : Xb} {h h' : Heap} {x y : Operand}
theorem flat_replicate {z : AV} {sz : Nat} (hz : z.cells.length = sz) (hsz : 0 < sz) (n j : Nat) (c : AV) (hc : (flat (List.replicate n z))[j]? = some c) :
    z.cells[j % sz]? = some c := by
  have hl : ∀ e ∈ List.replicate n z, e.cells.length = sz := fun e he => by rw [(List.mem_replicate.1 he).2]; exact hz
  have hj := (List.getElem?_eq_some_iff.1 hc).1
  rw [Xa hl, List.length_replicate] at hj
  have hq : j / sz < n := by rw [Nat.div_lt_iff_lt_mul hsz]; exact hj
  have hdm : j / sz * sz + j % sz = j := by rw [Nat.mul_comm]; exact Nat.div_add_mod j sz
  have := flat_get hl (i := j / sz) (j := j % sz) (e := z) (by simp [hq]) (Nat.mod_lt _ hsz)
  rw [hdm] at this
  rw [← this]; exact hc
theorem TL_make {ex : Bool} {t E : TypeId} {n sz bz : Nat} {zv : Value} {z : AV} {k1 k2 : IntKind} {a1 a2 : Int} (id : Nat) (ht : tyElem P t = some (E, sz)) (hz : tyZero P E = some (zv, sz, bz))
    (hc : cav zv = some z) (hok : elemsOK sz [z] = true) (hsz : Nat.blt 0 sz = true) (hb : Nat.blt 0 bz = true)
    (hx : aev s x = some (.int k1 a1)) (hy : aev s y = some (.int k2 a2)) (h1 : a1 = (n : Int)) (h2 : a2 = (n : Int)) (hbig : n * bz ≤ 281474976710656)
    (hl : lk h id = none) (hh : sput h id (.arr ⟨false, false⟩ sz E (List.replicate n z)) = some h') (hN : Nat.blt d N = true) (hs : sput s d (.ow id) = some s')
    (k : TLE ex P F N ops rest K ⟨s', h'⟩) : TLE ex P F N ops (⟨some d, .makeSlice t x y, ty, pos, after, none⟩ :: rest) K ⟨s, h⟩ := by
  refine TL_val rfl (fun φ a w hr => ?_) k
  subst h1; subst h2
  have hsz' : 0 < sz := Nat.le_of_ble_eq_true hsz
  have hb' : 0 < bz := Nat.le_of_ble_eq_true hb
  obtain ⟨hu, hsize⟩ := tyElem_inv ht
  obtain ⟨i, hi, hzero, hisz, hiby⟩ := tyZero_inv hz
  obtain ⟨m1, m2, m3, m4⟩ := elemsOK_mem hok z (by simp)
  have hxv := (aev_rep hr hx).int_inv
  have hyv := (aev_rep hr hy).int_inv
  have hnb : n ≤ n * bz := Nat.le_mul_of_pos_right n hb'
  have hbytes : (i.bytes : Int) * (n : Int) ≤ 281474976710656 := by
    rw [hiby]
    have : ((bz * n : Nat) : Int) ≤ 281474976710656 := by rw [Nat.mul_comm]; omega
    rwa [Int.natCast_mul] at this
  have hrun := run_make (P := P) w t E i zv hu hi hzero k1 k2 n n (by omega) (Int.le_refl _) hbytes (by omega)
  simp only [Int.toNat_natCast, hisz] at hrun
  obtain ⟨g1, g2, g3, g4⟩ := alloc_new w (.cells (madeCells zv.cells (n * sz)) E)
  have hzr : RepT (Stab F w φ h) w z zv := cav_rep hc
  have hzc := RepV.cells (S := Stab F w φ h) (w := w) (φ := φ) (η := h) (.pure hzr) (cs := z.cells) (by cases z <;> rfl) (fun u hu => by subst hu; cases m4)
  have hzs : zv.cells.size = sz := by rw [← m1]; simpa using hzc.1.symm
  refine ⟨.slice (some ⟨w.heap.size, 0, none⟩) n n, w.alloc (.cells (madeCells zv.cells (n * sz)) E), fun _ => ⟨g2, g3⟩, ?_, _, RelP.put (hr.newArr (cap := n) hl hh g1 g2 g3 (Nat.le_refl _) g4 hsz'
    (fun e he => by rw [(List.mem_replicate.1 he).2]; exact m1) (flat_one (fun e he u hu => by rw [(List.mem_replicate.1 he).2] at hu; exact m2 u hu))
    (by simp) ?_ (size_madeCells _ _) ?_) (Nat.le_of_ble_eq_true hN) hs ?_⟩
  · show (do pure (.value (← Instr.makeSlice t (a.eval x) (a.eval y))) : Sem Next).run P w = _
    rw [hxv, hyv]
    simp only [Sem.run_bind, hrun, Result.andThen_ok, Sem.run_pure]
  · simp only [maxLen]; omega
  · intro j c v hcj hv
    have hcz := flat_replicate m1 hsz' n j c hcj
    have hvz : zv.cells.toList[j % sz]? = some v := by
      have hjlt : j < n * sz := by
        have := (Array.getElem?_eq_some_iff.1 hv).1
        rwa [size_madeCells] at this
      simp only [madeCells, Array.getElem?_map, hzs] at hv
      rw [Array.getElem?_range, if_pos hjlt] at hv
      simp only [Option.map_some, Option.some.injEq] at hv
      have hm : j % sz < zv.cells.size := by rw [hzs]; exact Nat.mod_lt _ hsz'
      rw [getElem!_pos zv.cells (j % sz) hm] at hv
      rw [Array.getElem?_toList, Array.getElem?_eq_getElem hm, hv]
    refine (hzc.2 _ c v hcz hvz).tree ?_
    cases z with
    | agg cs => exact noIdsL_mem (by simpa [noIds, AV.cells] using m3) _ c hcz
    | _ =>
      have hmem := List.mem_of_getElem? hcz
      simp [AV.cells] at hmem; subst hmem; exact m3
  · have := RepV.ow (S := Stab F (w.alloc (.cells (madeCells zv.cells (n * sz)) E)) (updLoc φ id (mkLoc w.heap.size n true)) h') (w := w.alloc (.cells (madeCells zv.cells (n * sz)) E))
      (φ := updLoc φ id (mkLoc w.heap.size n true)) (η := h') (id := id) (sz := sz) (E := E) (es := List.replicate n z) (by rw [lk_sput hh, if_pos rfl]) (by rw [Qu])
    rw [Qu, List.length_replicate] at this
    exact this
theorem exec_store {t : TypeId} {gd : Option (Nat × Bool)} {dst : Option Tmp} (ρ : Operand → Value) :
    execOp ρ ⟨dst, .store t x y, ty, pos, after, gd⟩ = (do Instr.storeAt t (ρ x) (ρ y); pure .skip) := rfl
theorem run_storeAt {w : World} {t n g off : Nat} {C : Array Value} {E : TypeId} {v : Value} (hs : tySize P t = some n) (hv : v.cells.size = n)
    (hC : w.heap[g]? = some (.cells C E (0, 0))) (hfit : off + n ≤ C.size) (h1 : ∀ u ∈ v.cells.toList, u.oneCell' = true) :
    (Instr.storeAt t (.pointer (some ⟨g, off, none⟩)) v).run P w = .ok () (w.setRow g (C.toList.take off ++ v.cells.toList ++ C.toList.drop (off + n)).toArray) := by
  have hst := run_storeCells_at P g off E v.cells.toList 0 C w hC (by simp [hv]; omega) h1
  simp only [Nat.add_zero, Array.length_toList, hv] at hst
  simp only [Instr.storeAt, Instr.sureAddr, Sem.run_bind, Sem.run_pure, Result.andThen_ok, storeVar, run_size hs]
  rw [if_neg (by simp [hv])]
  exact hst
theorem setRow_sys (w : World) (g : Nat) (cs : Array Value) : SameSys w (w.setRow g cs) := ⟨rfl, rfl, rfl⟩
def setB (cs : List AV) (off : Nat) (zc : List AV) : Option (List AV) := bif isMapLen cs.length then none else setO cs off zc
theorem setB_eq {cs zc cs' : List AV} {off : Nat} (h : setB cs off zc = some cs') : setO cs off zc = some cs' ∧ isMapLen cs.length = false := by
  unfold setB at h
  cases hn : isMapLen cs.length with
  | true => rw [hn] at h; cases h
  | false => rw [hn] at h; exact ⟨h, rfl⟩
theorem Qo {t n off : Nat} {z : AV} {cs zc cs' : List AV} (hs : tySize P t = some n) (hx : aev s x = some (.ptr id 0 off)) (hl : lk h id = some (.box cs))
    (hy : aev s y = some z) (hj : isJunk z = false) (hc : cellsO z = some zc) (hn : Nat.beq zc.length n = true) (hone : zc.all one = true) (hset : setB cs off zc = some cs')
    (hh : sput h id (.box cs') = some h') (k : TL P F N ops rest K ⟨s, h'⟩) : TL P F N ops (⟨none, .store t x y, ty, pos, after, none⟩ :: rest) K ⟨s, h⟩ := by
  refine TL_skip rfl rfl (fun φ a w hr => ?_) k
  have hn' : zc.length = n := (beq_iff _ _).1 hn
  obtain ⟨hset, hnm⟩ := setB_eq hset
  obtain ⟨hm, C, E, hC, hsz, hrep⟩ := hr.heap.obj _ _ hl
  replace hC := hC.cells hnm
  obtain ⟨rfl, hlen⟩ := setO_eq hset
  have hzv := aev_rep hr hy
  have hcells := hzv.cells hc (fun u hu => by subst hu; cases hj)
  have hvs : (a.eval y).cells.size = n := by rw [← hn']; simpa using hcells.1.symm
  have hptr : a.eval x = .pointer (some ⟨(φ id).blk, off, none⟩) := by
    have := aev_rep hr hx
    generalize a.eval x = v at this
    cases this with
    | pure h => cases h
    | box _ _ => rfl
    | elt h _ => rw [hl] at h; cases h
  have h1 : ∀ u ∈ (a.eval y).cells.toList, u.oneCell' = true := by
    intro u hu
    obtain ⟨i, hi⟩ := List.getElem?_of_mem hu
    have hlt := (List.getElem?_eq_some_iff.1 hi).1
    obtain ⟨c, hci⟩ : ∃ c, zc[i]? = some c := ⟨zc[i]'(by rw [hcells.1]; exact hlt), by simp⟩
    exact (hcells.2 i c u hci hi).one ((List.all_eq_true.1 hone) c (List.mem_of_getElem? hci))
  have hrun := run_storeAt (P := P) (E := E) hs hvs hC (by rw [hsz, ← hn']; exact hlen) h1
  refine ⟨_, by rw [exec_store, hptr]; simp only [Sem.run_bind, hrun, Result.andThen_ok, Sem.run_pure]; rfl, φ, ?_⟩
  have hlk := lk_sput hh
  have hal : headsAlike φ φ h h' := by
    refine ⟨fun i cs1 hi _ => ?_, fun i k1 sz E1 es hi => ⟨rfl, k1, es, rfl, ?_⟩⟩
    · by_cases hid : id = i
      · subst hid; exact ⟨⟨_, by rw [hlk, if_pos rfl]⟩, rfl⟩
      · exact ⟨⟨cs1, by rw [hlk, if_neg hid]; exact hi⟩, rfl⟩
    · have hid : id ≠ i := fun e => by subst e; rw [hl] at hi; cases hi
      rw [hlk, if_neg hid]; exact hi
  refine hr.upd hh (fun _ _ => rfl) (setRow_sys _ _ _) (by simp) (fun b _ hb => setRow_other _ _ _ _ (fun e => hb _ hl (.inl ⟨hm, e.symm⟩))) (fun b hbo => .inr ⟨_, hl, hbo⟩) (fun o1 h1 h2 => hr.fix id o1 h1 h2) (fun o ho => by rw [hl] at ho; cases ho; trivial)
    (fun hS hw x v _ hv => hv.mono hS hw hal) (fun hS hw => ⟨hm, _, E, .inl ⟨by rw [show (cs.take off ++ zc ++ cs.drop (off + zc.length)).length = cs.length by simp; omega]; exact hnm, setRow_heap _ _ _ _ _ _ hC⟩, ?_, ?_⟩)
  · simp [hvs, hsz, hn']
    try omega
  · intro i c v hci hvi
    have hCl : PW (Stab F w φ h) w φ h cs C.toList := ⟨by simpa using hsz.symm, fun i x v hx hv => hrep i x v hx (by simpa using hv)⟩
    have hpw := PW.append (PW.append (hCl.take off) hcells) (hCl.drop (off + n))
    rw [hn'] at hci
    exact (hpw.2 i c v hci (by simpa using hvi)).mono hS hw hal
theorem flat_get_inv {sz : Nat} (hsz : 0 < sz) {es : List AV} (hl : ∀ e ∈ es, e.cells.length = sz) {j : Nat} {c : AV} (h : (flat es)[j]? = some c) :
    ∃ q r e, j = q * sz + r ∧ r < sz ∧ q < es.length ∧ es[q]? = some e ∧ e.cells[r]? = some c := by
  have hj := (List.getElem?_eq_some_iff.1 h).1
  rw [Xa hl] at hj
  have hq : j / sz < es.length := by rw [Nat.div_lt_iff_lt_mul hsz]; exact hj
  have hdm : j / sz * sz + j % sz = j := by rw [Nat.mul_comm]; exact Nat.div_add_mod j sz
  obtain ⟨e, he⟩ : ∃ e, es[j / sz]? = some e := ⟨es[j / sz], by simp⟩
  refine ⟨j / sz, j % sz, e, hdm.symm, Nat.mod_lt _ hsz, hq, he, ?_⟩
  rw [← flat_get hl he (Nat.mod_lt _ hsz), hdm]
  exact h
theorem flat_set {sz k0 off : Nat} (hsz : 0 < sz) {es : List AV} {e e' : AV} {zc : List AV} (hl : ∀ e ∈ es, e.cells.length = sz) (he : es[k0]? = some e)
    (he' : e'.cells = e.cells.take off ++ zc ++ e.cells.drop (off + zc.length)) (hoff : off + zc.length ≤ sz) {j : Nat} {c : AV} (h : (flat (es.set k0 e'))[j]? = some c) :
    (∃ i, j = k0 * sz + off + i ∧ zc[i]? = some c) ∨ ((flat es)[j]? = some c ∧ (j < k0 * sz + off ∨ k0 * sz + off + zc.length ≤ j)) := by
  have hek : e.cells.length = sz := hl e (List.mem_of_getElem? he)
  have he'k : e'.cells.length = sz := by rw [he']; simp; omega
  have hk0 := (List.getElem?_eq_some_iff.1 he).1
  have hl' : ∀ u ∈ es.set k0 e', u.cells.length = sz := by
    intro u hu
    rcases List.mem_or_eq_of_mem_set hu with hu | rfl
    · exact hl u hu
    · exact he'k
  obtain ⟨q, r, u, hj, hr, hq, hu, hc⟩ := flat_get_inv hsz hl' h
  rw [List.length_set] at hq
  by_cases hqk : k0 = q
  · subst hqk
    rw [List.getElem?_set_self hk0] at hu
    cases hu
    rw [he'] at hc
    by_cases h1 : r < off
    · right
      rw [List.getElem?_append_left (by simp; omega), List.getElem?_append_left (by simp; omega), List.getElem?_take, if_pos h1] at hc
      exact ⟨by rw [hj, flat_get hl he hr]; exact hc, .inl (by omega)⟩
    · by_cases h2 : r < off + zc.length
      · left
        refine ⟨r - off, by omega, ?_⟩
        rw [List.getElem?_append_left (by simp; omega), List.getElem?_append_right (by simp; omega)] at hc
        rw [show (e.cells.take off).length = off from by simp; omega] at hc
        exact hc
      · right
        rw [List.getElem?_append_right (by simp; omega), List.getElem?_drop] at hc
        have : off + zc.length + (r - (List.take off e.cells ++ zc).length) = r := by simp; omega
        rw [this] at hc
        exact ⟨by rw [hj, flat_get hl he hr]; exact hc, .inr (by omega)⟩
  · right
    rw [List.getElem?_set_ne hqk] at hu
    refine ⟨by rw [hj, flat_get hl hu hr]; exact hc, ?_⟩
    have : q < k0 ∨ k0 < q := by omega
    rcases this with h1 | h1
    · have : (q + 1) * sz ≤ k0 * sz := Nat.mul_le_mul_right _ h1
      rw [Nat.add_mul, Nat.one_mul] at this
      exact .inl (by omega)
    · have : (k0 + 1) * sz ≤ q * sz := Nat.mul_le_mul_right _ h1
      rw [Nat.add_mul, Nat.one_mul] at this
      exact .inr (by omega)
theorem RelP.storeArr {t n off k0 sz : Nat} {p : Bool} {E : TypeId} {z e e' : AV} {es zc : List AV} {φ : Nat → Loc} {a : Act} {w : World} (hr : RelP F N ⟨s, h⟩ φ a w)
    (hs : tySize P t = some n) (hx : aev s x = some (.ptr id k0 off))
    (hl : lk h id = some (.arr ⟨p, false⟩ sz E es)) (he : es[k0]? = some e)
    (hy : aev s y = some z) (hj : isJunk z = false) (hnoi : noIds z = true) (hc : cellsO z = some zc) (hn : zc.length = n) (hone : zc.all one = true)
    (he' : e'.cells = e.cells.take off ++ zc ++ e.cells.drop (off + zc.length)) (hoff : off + zc.length ≤ sz)
    (hh : sput h id (.arr ⟨p, false⟩ sz E (es.set k0 e')) = some h') :
    ∃ w', (execOp a.eval ⟨none, .store t x y, ty, pos, after, none⟩).run P w = .ok .skip w' ∧ Rel F N ⟨s, h'⟩ a w' := by
  obtain ⟨hsz, hlens, hones, hob⟩ := hr.heap.obj _ _ hl
  have hek : e.cells.length = sz := hlens e (List.mem_of_getElem? he)
  have hk0 := (List.getElem?_eq_some_iff.1 he).1
  rcases hob with ⟨_, rfl⟩ | ⟨hm, C, hC, hle, hcm, hCs, hrep⟩
  · simp at he
  replace hrep := hrep.trees rfl
  have hzv := aev_rep hr hy
  have hcells := hzv.cells hc (fun u hu => by subst hu; cases hj)
  have hvs : (a.eval y).cells.size = n := by rw [← hn]; simpa using hcells.1.symm
  have hptr : a.eval x = .pointer (some ⟨(φ id).blk, k0 * sz + off, none⟩) := by
    have := aev_rep hr hx
    generalize a.eval x = v at this
    cases this with
    | pure h => cases h
    | box h _ => rw [hl] at h; cases h
    | elt h _ => rw [hl] at h; cases h; rfl
  have h1 : ∀ u ∈ (a.eval y).cells.toList, u.oneCell' = true := by
    intro u hu
    obtain ⟨i, hi⟩ := List.getElem?_of_mem hu
    have hlt := (List.getElem?_eq_some_iff.1 hi).1
    obtain ⟨c, hci⟩ : ∃ c, zc[i]? = some c := ⟨zc[i]'(by rw [hcells.1]; exact hlt), by simp⟩
    exact (hcells.2 i c u hci hi).one ((List.all_eq_true.1 hone) c (List.mem_of_getElem? hci))
  have hcapsz : k0 * sz + sz ≤ (φ id).cap * sz := by
    rw [← Nat.succ_mul]; exact Nat.mul_le_mul_right _ (by omega)
  have hrun := run_storeAt (P := P) (E := E) hs hvs hC (off := k0 * sz + off) (by rw [hCs]; omega) h1
  refine ⟨_, by rw [exec_store, hptr]; simp only [Sem.run_bind, hrun, Result.andThen_ok, Sem.run_pure]; rfl, φ, ?_⟩
  have hlk := lk_sput hh
  have hal : headsAlike φ φ h h' := by
    refine ⟨fun i cs1 hi _ => ?_, fun i k1 sz1 E1 es1 hi => ⟨rfl, ?_⟩⟩
    · have hid : id ≠ i := fun e => by subst e; rw [hl] at hi; cases hi
      exact ⟨⟨cs1, by rw [hlk, if_neg hid]; exact hi⟩, rfl⟩
    · by_cases hid : id = i
      · subst hid
        rw [hl] at hi
        cases hi
        exact ⟨_, _, List.length_set, by rw [hlk, if_pos rfl]⟩
      · exact ⟨k1, es1, rfl, by rw [hlk, if_neg hid]; exact hi⟩
  have he'k : e'.cells.length = sz := by rw [he']; simp; omega
  refine hr.upd hh (fun _ _ => rfl) (setRow_sys _ _ _) (by simp) (fun b _ hb => setRow_other _ _ _ _ (fun e => hb _ hl (.inl ⟨hm, e.symm⟩))) (fun b hbo => .inr ⟨_, hl, hbo⟩) (fun o1 h1 h2 => hr.fix id o1 h1 h2) (fun o ho => by rw [hl] at ho; cases ho; exact ⟨rfl, fun _ => ⟨rfl, rfl, by simp⟩⟩)
    (fun hS hw x v _ hv => hv.mono hS hw hal) (fun hS hw => ⟨hsz, ?_, ?_, .inr ⟨hm, _, setRow_heap _ _ _ _ _ _ hC, by simpa using hle, hcm, ?_, ?_⟩⟩)
  · intro u hu
    rcases List.mem_or_eq_of_mem_set hu with hu | rfl
    · exact hlens u hu
    · exact he'k
  · intro j c hcj
    rcases flat_set hsz hlens he he' hoff hcj with ⟨i, _, hi⟩ | ⟨hi, _⟩
    · exact (List.all_eq_true.1 hone) c (List.mem_of_getElem? hi)
    · exact hones j c hi
  · simp [hvs]; omega
  · refine CellsOK.ofTrees rfl ?_
    intro j c v hcj hvj
    have hvj' : (C.toList.take (k0 * sz + off) ++ (a.eval y).cells.toList ++ C.toList.drop (k0 * sz + off + n))[j]? = some v := by simpa using hvj
    have hlen1 : (C.toList.take (k0 * sz + off)).length = k0 * sz + off := by simp; omega
    rcases flat_set hsz hlens he he' hoff hcj with ⟨i, rfl, hi⟩ | ⟨hi, hj1 | hj1⟩
    · have hilt := (List.getElem?_eq_some_iff.1 hi).1
      rw [List.getElem?_append_left (by simp [hvs]; omega), List.getElem?_append_right (by omega), hlen1, Nat.add_sub_cancel_left] at hvj'
      refine ((hcells.2 i c v hi hvj').tree ?_).mono hS hw
      cases z with
      | agg cs => cases hc; exact noIdsL_mem (by simpa [noIds] using hnoi) i c hi
      | _ =>
        cases hc
        have hmem := List.mem_of_getElem? hi
        simp at hmem; subst hmem; exact hnoi
    · rw [List.append_assoc, List.getElem?_append_left (by omega), List.getElem?_take, if_pos hj1] at hvj'
      exact (hrep j c v hi (by simpa using hvj')).mono hS hw
    · rw [hn] at hj1
      rw [List.getElem?_append_right (by simp [hvs]; omega), List.getElem?_drop] at hvj'
      have : k0 * sz + off + n + (j - (C.toList.take (k0 * sz + off) ++ (a.eval y).cells.toList).length) = j := by simp [hvs]; omega
      rw [this] at hvj'
      exact (hrep j c v hi (by simpa using hvj')).mono hS hw
end
end Go.AM

namespace Go.AM
open Go
def killC (id : Nat) : List AV → Option (List AV)
  | [] => some []
  | x :: r => match killC id r with
    | some r' => bif men id x then some (.junk :: r') else some (x :: r')
    | none => none
def killS (id : Nat) : Xb → Option Xb
  | [] => some []
  | (k, x) :: r => match killS id r with
    | some r' => bif men id x then some ((k, .junk) :: r') else some ((k, x) :: r')
    | none => none
def killH (id : Nat) : Heap → Option Heap
  | [] => some []
  | (k, .box cs) :: r => match killC id cs with
    | some cs' => match killH id r with
      | some r' => some ((k, .box cs') :: r')
      | none => none
    | none => none
  | (k, .arr kd sz E es) :: r => match killH id r with
    | some r' => some ((k, .arr kd sz E es) :: r')
    | none => none
def isWeak (x' x : AV) : Prop := x' = x ∨ x' = .junk
def objWeak : AO → AO → Prop
  | .box cs', .box cs => cs'.length = cs.length ∧ ∀ (i : Nat) x', cs'[i]? = some x' → ∃ x, cs[i]? = some x ∧ isWeak x' x
  | .arr k' sz' E' es', .arr k sz E es => k' = k ∧ sz' = sz ∧ E' = E ∧ es' = es
  | _, _ => False
theorem killC_spec {id : Nat} : ∀ {l l' : List AV}, killC id l = some l' → l'.length = l.length ∧
    ∀ (i : Nat) x', l'[i]? = some x' → men id x' = false ∧ ∃ x, l[i]? = some x ∧ isWeak x' x := by
  intro l
  induction l with
  | nil => intro l' h; cases h; exact ⟨rfl, fun i x hx => by simp at hx⟩
  | cons x l ih =>
    intro l' h
    unfold killC at h
    cases hr : killC id l with
    | none => simp [hr] at h
    | some r' =>
      simp only [hr] at h
      obtain ⟨h1, h2⟩ := ih hr
      cases hm : men id x with
      | true =>
        simp only [hm, cond_true, Option.some.injEq] at h
        subst h
        refine ⟨by simp [h1], fun i y hy => ?_⟩
        cases i with
        | zero => simp at hy; subst hy; exact ⟨rfl, x, by simp, .inr rfl⟩
        | succ i => simp at hy; simpa using h2 i y hy
      | false =>
        simp only [hm, cond_false, Option.some.injEq] at h
        subst h
        refine ⟨by simp [h1], fun i y hy => ?_⟩
        cases i with
        | zero => simp at hy; subst hy; exact ⟨hm, x, by simp, .inl rfl⟩
        | succ i => simp at hy; simpa using h2 i y hy
theorem killS_spec {id : Nat} : ∀ {l l' : Xb}, killS id l = some l' → ∀ (i : Nat) x', lk l' i = some x' → men id x' = false ∧ ∃ x, lk l i = some x ∧ isWeak x' x := by
  intro l
  induction l with
  | nil => intro l' h i x hx; cases h; cases hx
  | cons p l ih =>
    obtain ⟨k, x⟩ := p
    intro l' h
    unfold killS at h
    cases hr : killS id l with
    | none => simp [hr] at h
    | some r' =>
      simp only [hr] at h
      have h2 := ih hr
      cases hm : men id x with
      | true =>
        simp only [hm, cond_true, Option.some.injEq] at h
        subst h
        intro i y hy
        rw [Q7] at hy ⊢
        split at hy
        · cases hy; rename_i hki; rw [if_pos hki]; exact ⟨rfl, x, rfl, .inr rfl⟩
        · rename_i hki; rw [if_neg hki]; exact h2 i y hy
      | false =>
        simp only [hm, cond_false, Option.some.injEq] at h
        subst h
        intro i y hy
        rw [Q7] at hy ⊢
        split at hy
        · cases hy; rename_i hki; rw [if_pos hki]; exact ⟨hm, x, rfl, .inl rfl⟩
        · rename_i hki; rw [if_neg hki]; exact h2 i y hy
theorem killH_spec {id : Nat} : ∀ {l l' : Heap}, killH id l = some l' →
    (∀ i, lk l' i = none ↔ lk l i = none) ∧ ∀ (i : Nat) o', lk l' i = some o' → (∀ cs', o' = .box cs' → ∀ x ∈ cs', men id x = false) ∧ ∃ o, lk l i = some o ∧ objWeak o' o := by
  intro l
  induction l with
  | nil => intro l' h; cases h; exact ⟨fun i => Iff.rfl, fun i o ho => by cases ho⟩
  | cons p l ih =>
    obtain ⟨k, o0⟩ := p
    intro l' h
    cases o0 with
    | box cs =>
      unfold killH at h
      cases hc : killC id cs with
      | none => simp [hc] at h
      | some cs' =>
        simp only [hc] at h
        cases hr : killH id l with
        | none => simp [hr] at h
        | some r' =>
          simp only [hr, Option.some.injEq] at h
          subst h
          obtain ⟨h1, h2⟩ := ih hr
          obtain ⟨c1, c2⟩ := killC_spec hc
          refine ⟨fun i => ?_, fun i o ho => ?_⟩
          · rw [Q7, Q7]; split
            · simp
            · exact h1 i
          · rw [Q7] at ho ⊢
            split at ho
            · cases ho
              rename_i hki
              rw [if_pos hki]
              refine ⟨fun cs1 he x hx => ?_, _, rfl, c1, fun i x hx => (c2 i x hx).2⟩
              cases he
              obtain ⟨i, hi⟩ := List.getElem?_of_mem hx
              exact (c2 i x hi).1
            · rename_i hki
              rw [if_neg hki]
              exact h2 i o ho
    | arr kd sz E es =>
      unfold killH at h
      cases hr : killH id l with
      | none => simp [hr] at h
      | some r' =>
        simp only [hr, Option.some.injEq] at h
        subst h
        obtain ⟨h1, h2⟩ := ih hr
        refine ⟨fun i => ?_, fun i o ho => ?_⟩
        · rw [Q7, Q7]; split
          · simp
          · exact h1 i
        · rw [Q7] at ho ⊢
          split at ho
          · cases ho
            rename_i hki
            rw [if_pos hki]
            exact ⟨fun cs1 he => (by cases he), _, rfl, rfl, rfl, rfl, rfl⟩
          · rename_i hki
            rw [if_neg hki]
            exact h2 i o ho
section
variable {F : Fr} {N : Nat}
theorem RelP.weaken {s s' : Xb} {h h' : Heap} {φ : Nat → Loc} {a : Act} {w : World} (hr : RelP F N ⟨s, h⟩ φ a w)
    (hs : ∀ i x', lk s' i = some x' → ∃ x, lk s i = some x ∧ isWeak x' x) (hn : ∀ i, lk h' i = none ↔ lk h i = none)
    (hh : ∀ i o', lk h' i = some o' → ∃ o, lk h i = some o ∧ objWeak o' o) : RelP F N ⟨s', h'⟩ φ a w := by
  have hS : ∀ b, Stab F w φ h b → Stab F w φ h' b := fun b hb => ⟨hb.1, hb.2.1, fun i o ho hm => by
    obtain ⟨o1, ho1, _⟩ := hh i o ho
    exact hb.2.2 i o1 ho1 hm⟩
  have hal : headsAlike φ φ h h' := by
    refine ⟨fun i cs hi _ => ⟨?_, rfl⟩, fun i k sz E es hi => ⟨rfl, ?_⟩⟩
    · cases hl : lk h' i with
      | none => rw [(hn i).1 hl] at hi; cases hi
      | some o' =>
        obtain ⟨o, ho, hw⟩ := hh i o' hl
        rw [hi] at ho
        cases ho
        cases o' with
        | box cs' => exact ⟨cs', rfl⟩
        | arr _ _ _ _ => exact hw.elim
    · cases hl : lk h' i with
      | none => rw [(hn i).1 hl] at hi; cases hi
      | some o' =>
        obtain ⟨o, ho, hw⟩ := hh i o' hl
        rw [hi] at ho
        cases ho
        cases o' with
        | box cs' => exact hw.elim
        | arr _ _ _ _ => obtain ⟨rfl, rfl, rfl, rfl⟩ := hw; exact ⟨_, _, rfl, rfl⟩
  have hV : ∀ {x v}, RepV (Stab F w φ h) w φ h x v → RepV (Stab F w φ h') w φ h' x v := fun hx => hx.mono hS (fun _ _ => rfl) hal
  refine ⟨hr.size, hr.defers, hr.sys, hr.grow, ⟨fun i o ho => ?_, fun i j oi oj b hi hj hmi hmj => ?_, fun b hb => hb.1, fun i o b ho hm hst => hst.2.2 i o ho hm, fun i o b ho hm => ?_⟩,
    fun i x hx => ?_, fun i o b ho hm => ?_, hr.fix, fun i o hi => ?_, hr.frame⟩
  · obtain ⟨o1, ho1, hw⟩ := hh i o ho
    have hok := hr.heap.obj i o1 ho1
    cases o with
    | box cs' =>
      cases o1 with
      | arr _ _ _ _ => exact hw.elim
      | box cs =>
        obtain ⟨hm, C, E, hC, hsz, hrep⟩ := hok
        refine ⟨hm, C, E, hC.len hw.1, by rw [hsz]; exact hw.1.symm, fun j x v hx hv => ?_⟩
        obtain ⟨y, hy, hxy⟩ := hw.2 j x hx
        rcases hxy with rfl | rfl
        · exact hV (hrep j x v hy hv)
        · exact .pure (.junk _)
    | arr k sz E es =>
      cases o1 with
      | box _ => exact hw.elim
      | arr _ _ _ _ =>
        obtain ⟨rfl, rfl, rfl, rfl⟩ := hw
        obtain ⟨h0, hl, hone, hob⟩ := hok
        refine ⟨h0, hl, hone, ?_⟩
        rcases hob with hob | ⟨hm, C, hC, h1, h2, h3, h4⟩
        · exact .inl hob
        · exact .inr ⟨hm, C, hC, h1, h2, h3, h4.mono hS (fun _ _ => rfl) (fun _ _ _ => rfl) rfl⟩
  · obtain ⟨o1, ho1, _⟩ := hh i oi hi
    obtain ⟨o2, ho2, _⟩ := hh j oj hj
    exact hr.heap.injO i j o1 o2 b ho1 ho2 hmi hmj
  · obtain ⟨o1, ho1, _⟩ := hh i o ho
    exact hr.heap.ltO i o1 b ho1 hm
  · obtain ⟨y, hy, hxy⟩ := hs i x hx
    obtain ⟨v, hv, hrep⟩ := hr.slots i y hy
    rcases hxy with rfl | rfl
    · exact ⟨v, hv, hV hrep⟩
    · exact ⟨v, hv, .pure (.junk _)⟩
  · obtain ⟨o1, ho1, _⟩ := hh i o ho
    exact hr.mine i o1 b ho1 hm
  · obtain ⟨o1, ho1, hb1⟩ := hr.keep i o hi
    cases hl : lk h' i with
    | none => rw [(hn i).1 hl] at ho1; cases ho1
    | some o' =>
      obtain ⟨o2, ho2, hw⟩ := hh i o' hl
      rw [ho1] at ho2
      cases ho2
      refine ⟨o', rfl, AO.alike_trans hb1 ?_⟩
      cases o' <;> cases o1 <;> first | trivial | exact hw.elim | (obtain ⟨rfl, rfl, rfl, rfl⟩ := hw; exact AO.alike_refl _)
def asrc (h : Heap) (sz : Nat) : AV → Option (List AV)
  | .snil => some []
  | .sl n xs => bif Nat.beq n sz then some xs else none
  | .ow i => match lk h i with
    | some (.arr ⟨_, false⟩ n _ xs) => bif Nat.beq n sz then some xs else none
    | _ => none
  | _ => none
theorem src_cells {S : Nat → Prop} {w : World} {φ : Nat → Loc} {h : Heap} {sz : Nat} {z : AV} {v : Value} {xs : List AV} (hh : HeapOK S w φ h) (hv : RepV S w φ h z v) (hsrc : asrc h sz z = some xs) :
    (∃ va, v = .slice va 0 0 ∧ xs = []) ∨ ∃ ad c, ∃ news : List Value, v = .slice (some ad) xs.length c ∧ news.length = xs.length * sz ∧ (∀ (j : Nat) u, news[j]? = some u → w.cell? (ad.add j) = some u) ∧
      (∀ (j : Nat) c u, (flat xs)[j]? = some c → news[j]? = some u → RepT S w c u) ∧ (∀ u ∈ news, u.oneCell' = true) ∧ (∀ e ∈ xs, e.cells.length = sz) ∧
      (∀ (j : Nat) c, (flat xs)[j]? = some c → one c = true) := by
  have build : ∀ (b off cap : Nat) (f : Nat → Value), (∀ e ∈ xs, e.cells.length = sz) → (∀ (j : Nat) c, (flat xs)[j]? = some c → one c = true) →
      (∀ (j : Nat) c, (flat xs)[j]? = some c → w.cell? ⟨b, off + j, none⟩ = some (f j)) → (∀ (j : Nat) c, (flat xs)[j]? = some c → RepT S w c (f j)) →
      ∃ ad c, ∃ news : List Value, Value.slice (some ⟨b, off, none⟩) xs.length cap = .slice (some ad) xs.length c ∧ news.length = xs.length * sz ∧ (∀ (j : Nat) u, news[j]? = some u → w.cell? (ad.add j) = some u) ∧
      (∀ (j : Nat) c u, (flat xs)[j]? = some c → news[j]? = some u → RepT S w c u) ∧ (∀ u ∈ news, u.oneCell' = true) ∧ (∀ e ∈ xs, e.cells.length = sz) ∧
      (∀ (j : Nat) c, (flat xs)[j]? = some c → one c = true) := by
    intro b off cap f hlens hones hcell hrep
    have hfl := Xa hlens
    have hget : ∀ (j : Nat) u, ((List.range (xs.length * sz)).map f)[j]? = some u → u = f j ∧ ∃ c, (flat xs)[j]? = some c := by
      intro j u hu
      have hj := (List.getElem?_eq_some_iff.1 hu).1
      simp at hj
      simp [hj] at hu
      exact ⟨hu.symm, ⟨(flat xs)[j]'(by rw [hfl]; exact hj), by simp⟩⟩
    refine ⟨⟨b, off, none⟩, cap, (List.range (xs.length * sz)).map f, rfl, by simp, fun j u hu => ?_, fun j c u hc hu => ?_, fun u hu => ?_, hlens, hones⟩
    · obtain ⟨rfl, c, hc⟩ := hget j u hu
      rw [Addr.add_lit]; exact hcell j c hc
    · obtain ⟨rfl, _⟩ := hget j u hu
      exact hrep j c hc
    · obtain ⟨j, hj⟩ := List.getElem?_of_mem hu
      obtain ⟨rfl, c, hc⟩ := hget j u hj
      exact (hrep j c hc).one (hones j c hc)
  unfold asrc at hsrc
  split at hsrc
  · cases hsrc
    cases hv with
    | pure hv => cases hv; exact .inl ⟨none, rfl, rfl⟩
  · rename_i n es
    cases hb : Nat.beq n sz with
    | false => simp [hb] at hsrc
    | true =>
      obtain rfl := (beq_iff _ _).1 hb
      simp only [hb, cond_true, Option.some.injEq] at hsrc
      subst hsrc
      cases hv with
      | pure hv =>
        cases hv with
        | sl0 _ a cap h0 =>
          cases a with
          | none => rw [h0 rfl]; exact .inl ⟨none, rfl, rfl⟩
          | some ad => exact .inr ⟨ad, cap, [], rfl, by simp, fun j u hu => by simp at hu, fun j c u hc => by simp [flat] at hc, fun u hu => by simp at hu, fun e he => by simp at he, fun j c hc => by simp [flat] at hc⟩
        | sl _ _ b off cap f hne hS hcap hm hsz hlens hones hcell hrep => exact .inr (build b off cap f hlens hones hcell hrep)
  · rename_i i
    cases hl : lk h i with
    | none => simp [hl] at hsrc
    | some o =>
      cases o with
      | box cs => simp [hl] at hsrc
      | arr kd n E es =>
        obtain ⟨p, dd⟩ := kd
        cases dd with
        | true => simp [hl] at hsrc
        | false =>
        simp only [hl] at hsrc
        cases hb : Nat.beq n sz with
        | false => simp [hb] at hsrc
        | true =>
          obtain rfl := (beq_iff _ _).1 hb
          simp only [hb, cond_true, Option.some.injEq] at hsrc
          subst hsrc
          obtain ⟨hsz, hlens, hones, hob⟩ := hh.obj _ _ hl
          rcases hv.ow_inv hl with ⟨hm, rfl⟩ | ⟨hm, rfl, rfl⟩
          · rcases hob with ⟨hf, _⟩ | ⟨_, C, hC, hle, hcm, hCs, hrep⟩
            · rw [hm] at hf; cases hf
            · replace hrep := hrep.trees rfl
              have hcap : es.length * n ≤ (φ i).cap * n := Nat.mul_le_mul_right _ hle
              have hin : ∀ (j : Nat) c, (flat es)[j]? = some c → C[j]? = some (C.getD j undef) := by
                intro j c hc
                have hj := (List.getElem?_eq_some_iff.1 hc).1
                rw [Xa hlens] at hj
                have : j < C.size := by omega
                simp [this]
              refine .inr (build _ 0 _ (fun j => C.getD j undef) hlens hones (fun j c hc => ?_) (fun j c hc => hrep j c _ hc (hin j c hc)))
              rw [Nat.zero_add, cell_at hC]; exact hin j c hc
          · exact .inl ⟨_, rfl, rfl⟩
  · cases hsrc
theorem exec_append {dst : Option Tmp} {ty : TypeId} {pos : String} {after : Array Edge} {gd : Option (Nat × Bool)} {x y : Operand} {t t' : TypeId} (ρ : Operand → Value) :
    execOp ρ ⟨dst, .call ⟨.builtin .append, #[x, y], #[t, t']⟩, ty, pos, after, gd⟩ = (do pure (.value (← Builtin.append_ #[t, t'] ty #[ρ x, ρ y]))) := by
  rw [BigFrame.execOp_builtin, BigFrame.builtin_append]
  simp only [List.map_toArray, List.map_cons, List.map_nil]
end
end Go.AM

namespace Go.AM
open Go
theorem run_append_zero {P : Program} {w : World} {t ty e : TypeId} {i : TypeInfo} (ht : P.underlying t = some (.slice e)) (hi : P.info? e = some i) (xa ya : Option Addr) (n c c' : Nat) (hn : n ≤ c) :
    (Builtin.append_ #[t, t] ty #[.slice xa n c, .slice ya 0 c']).run P w = .ok (.slice xa n c) w := by
  cases xa <;> cases ya <;>
  simp [Builtin.append_, run_underlying ht, sizeOf, typeInfo, hi, Builtin.lenOf, Builtin.firstCells, hn, storeCells, loadCells, loadCellsFrom]
structure AppX (w : World) (E : TypeId) (sz : Nat) (l : Loc) (n : Nat) (xv : Value) (olds : List Value) : Prop where
  go : (l.mat = true ∧ xv = .slice (some ⟨l.blk, 0, none⟩) n l.cap ∧ ∃ C, w.heap[l.blk]? = some (.cells C E (0, 0)) ∧ n ≤ l.cap ∧ l.cap ≤ maxLen ∧ C.size = l.cap * sz ∧ olds = C.toList.take (n * sz)) ∨
    (l.mat = false ∧ n = 0 ∧ olds = [] ∧ xv = .slice l.va 0 0)
structure AppY (w : World) (sz : Nat) (m : Nat) (yv : Value) (news : List Value) : Prop where
  go : (∃ va, yv = .slice va 0 0 ∧ m = 0 ∧ news = []) ∨ ∃ ad c, yv = .slice (some ad) m c ∧ news.length = m * sz ∧ (∀ (j : Nat) u, news[j]? = some u → w.cell? (ad.add j) = some u) ∧ ∀ u ∈ news, u.oneCell' = true
structure AppR (w w' : World) (E : TypeId) (sz : Nat) (l l' : Loc) (n : Nat) (v' : Value) (cs : List Value) : Prop where
  sys : SameSys w w'
  grow : w.heap.size ≤ w'.heap.size
  same : ∀ b, b < w.heap.size → (l.mat = true → l'.blk = l.blk → l.blk ≠ b) → w'.heap[b]? = w.heap[b]?
  fp : l'.fp = l.fp
  sv : l'.sv = l.sv
  go : (l'.mat = false ∧ l.mat = false ∧ n = 0 ∧ l' = l ∧ v' = .slice l'.va 0 0) ∨
    (l'.mat = true ∧ v' = .slice (some ⟨l'.blk, 0, none⟩) n l'.cap ∧ (∃ C', w'.heap[l'.blk]? = some (.cells C' E (0, 0)) ∧ n ≤ l'.cap ∧ l'.cap ≤ maxLen ∧ C'.size = l'.cap * sz ∧ C'.toList.take (n * sz) = cs) ∧
      ((l.mat = true ∧ l'.blk = l.blk) ∨ (w.heap.size ≤ l'.blk ∧ l'.blk < w'.heap.size)))
theorem append_core {P : Program} {w : World} {t ty E : TypeId} {sz bz : Nat} {zv : Value} (ht : tyElem P t = some (E, sz)) (hz : tyZero P E = some (zv, sz, bz)) (hzs : zv.cells.size = sz) (hsz : 0 < sz)
    (hb : 0 < bz) {l : Loc} {n m : Nat} {xv yv : Value} {olds news : List Value} (hx : AppX w E sz l n xv olds) (hy : AppY w sz m yv news) (hbig : (n + m) * bz ≤ 140737488355328) :
    ∃ v' w' l', (Builtin.append_ #[t, t] ty #[xv, yv]).run P w = .ok v' w' ∧ AppR w w' E sz l l' (n + m) v' (olds ++ news) := by
  obtain ⟨hu, hsize⟩ := tyElem_inv ht
  obtain ⟨i, hi, hzero, hisz, hiby⟩ := tyZero_inv hz
  have hnb : n + m ≤ (n + m) * bz := Nat.le_mul_of_pos_right _ hb
  have h63 : n + m ≤ maxLen := by simp only [maxLen]; omega
  -- nothing is appended
  have nothing : ∀ ya c', yv = .slice ya 0 c' → m = 0 → news = [] → ∃ v' w' l', (Builtin.append_ #[t, t] ty #[xv, yv]).run P w = .ok v' w' ∧ AppR w w' E sz l l' (n + m) v' (olds ++ news) := by
    intro ya c' h1 h2 h3
    subst h1 h2 h3
    rcases hx.go with ⟨hm, rfl, C, hC, hle, hcm, hCs, rfl⟩ | ⟨hm, rfl, rfl, rfl⟩
    · exact ⟨_, w, l, run_append_zero hu hi _ _ _ _ _ hle, SameSys.refl w, Nat.le_refl _, fun _ _ _ => rfl, rfl, rfl, .inr ⟨hm, rfl, ⟨C, hC, hle, hcm, hCs, by simp⟩, .inl ⟨hm, rfl⟩⟩⟩
    · exact ⟨_, w, l, run_append_zero hu hi _ _ _ _ _ (Nat.le_refl _), SameSys.refl w, Nat.le_refl _, fun _ _ _ => rfl, rfl, rfl, .inl ⟨hm, hm, rfl, rfl, rfl⟩⟩
  -- a new row
  have grown : ∀ (b : Addr) (n0 c0 : Nat) (os : List Value), xv = .slice (some b) n0 c0 → n0 = n → os = olds → os.length = n0 * sz → (∀ (j : Nat) u, os[j]? = some u → w.cell? (b.add j) = some u) → c0 < n0 + m →
      ∀ ad c, yv = .slice (some ad) m c → news.length = m * sz → (∀ (j : Nat) u, news[j]? = some u → w.cell? (ad.add j) = some u) →
      ∃ v' w' l', (Builtin.append_ #[t, t] ty #[xv, yv]).run P w = .ok v' w' ∧ AppR w w' E sz l l' (n + m) v' (olds ++ news) := by
    intro b n0 c0 os h1 h2 h3 hol hos hlt ad c hyv hnl hnews
    subst h1 h2 h3 hyv
    have hrun := run_append_grow (P := P) w t ty E i zv hu hi hzero b n0 c0 os (by rw [hisz]; exact hol) hos ad m c news
      (by rw [hisz]; exact hnl) hnews hlt (by simp only [maxLen] at h63; omega) (growslice_fits (by omega) (by rw [hiby]; exact hbig))
    have hge := grownCap_ge w (n0 + m) c0 E
    have hgm := grownCap_le_maxLen w (n0 + m) c0 E h63
    generalize grownCap w (n0 + m) c0 E = cap' at hrun hge hgm
    generalize hcur : os.toArray ++ news.toArray ++ Builtin.zeroCells zv.cells (cap' - (n0 + m)) = cur at hrun
    obtain ⟨g1, g2, g3, g4⟩ := alloc_new w.drew (.cells cur E)
    refine ⟨_, _, { l with blk := w.heap.size, cap := cap', mat := true }, hrun, ⟨g1.os, g1.tape, g1.output⟩, g2, fun b hb _ => g3 b hb, rfl, rfl, .inr ⟨rfl, rfl, ⟨cur, g4, hge, hgm, ?_, ?_⟩, .inr ⟨Nat.le_refl _, (Array.getElem?_eq_some_iff.1 g4).1⟩⟩⟩
    · rw [← hcur]
      simp only [Array.size_append, List.size_toArray, size_zeroCells, hzs, hol, hnl, ← Nat.add_mul]
      congr 1
      omega
    · have : (n0 + m) * sz = (os ++ news).length := by rw [List.length_append, hol, hnl, Nat.add_mul]
      rw [this, ← hcur]
      simp only [Array.toList_append]
      exact List.take_left
  rcases hy.go with ⟨va, h1, h2, h3⟩ | ⟨ad, c, hyv, hnl, hnews, hn1⟩
  · exact nothing va 0 h1 h2 h3
  by_cases hm0 : m = 0
  · refine nothing (some ad) c (by rw [hyv, hm0]) hm0 ?_
    subst hm0
    exact List.eq_nil_of_length_eq_zero (by simpa using hnl)
  rcases hx.go with ⟨hm, hxv, C, hC, hle, hcm, hCs, hol0⟩ | ⟨hm, rfl, rfl, hxv⟩
  · have hcapn : n * sz ≤ C.size := by rw [hCs]; exact Nat.mul_le_mul_right _ hle
    have hol : olds.length = n * sz := by rw [hol0]; simp; omega
    by_cases hroom : n + m ≤ l.cap
    · subst hxv hyv
      have hnl' : news.length = m * i.size := by rw [hisz]; exact hnl
      have hfit : n * i.size + news.length ≤ C.size := by rw [hisz, hnl, hCs, ← Nat.add_mul]; exact Nat.mul_le_mul_right _ hroom
      have hrun := run_append_room (P := P) w t ty E i hu hi l.blk n l.cap C hC ad m c news hnl' hnews hn1 hroom hfit
      rw [hisz] at hrun
      refine ⟨_, _, l, hrun, setRow_sys _ _ _, by simp, fun b _ hb => setRow_other _ _ _ _ (fun e => hb hm rfl e.symm), rfl, rfl, .inr ⟨hm, rfl, ⟨_, setRow_heap _ _ _ _ _ _ hC, hroom, hcm, ?_, ?_⟩, .inl ⟨hm, rfl⟩⟩⟩
      · rw [hisz] at hfit
        have hCl : C.toList.length = C.size := by simp
        rw [List.size_toArray, List.length_append, List.length_append, ← hol0, hol, List.length_drop, hCl]
        omega
      · have : (n + m) * sz = (C.toList.take (n * sz) ++ news).length := by rw [List.length_append, ← hol0, hol, hnl, Nat.add_mul]
        rw [this, hol0]
        exact List.take_left
    · refine grown ⟨l.blk, 0, none⟩ n l.cap olds hxv rfl rfl hol (fun j u hu => ?_) (by omega) ad c hyv hnl hnews
      rw [Addr.add_lit, Nat.zero_add, cell_at hC]
      rw [hol0, List.getElem?_take] at hu
      split at hu
      · simpa using hu
      · cases hu
  · cases hva : l.va with
    | some b => exact grown b 0 0 [] (by rw [hxv, hva]) rfl rfl (by simp) (fun j u hu => by simp at hu) (by omega) ad c hyv hnl hnews
    | none =>
      subst hxv hyv
      rw [hva]
      obtain ⟨v', w', hrun, hown, hgrow, hiff⟩ := run_append_own (P := P) w w.heap.size t ty E i zv sz bz hu hi hzero hisz hiby hzs hsz (.slice none 0 0) 0 [] (World.ownsRow_nil w _ E sz)
        ad m c news hnl hnews hn1 (by simpa using h63) (by simpa using hbig) (Nat.le_refl _)
      have hsame : ∀ b, b < w.heap.size → w'.heap[b]? = w.heap[b]? := fun b hb => hgrow.block b hb (by simp [Value.ownBlock])
      rcases hown.2 with ⟨rfl, h0⟩ | ⟨g, cap', cur, rfl, hg, hcC, hnc, hcm', hcs', htake⟩
      · exact absurd (by omega) hm0
      · exact ⟨_, _, { l with blk := g, cap := cap', mat := true }, hrun, ⟨hgrow.os, hgrow.tape, hgrow.output⟩, hgrow.size, fun b hb _ => hsame b hb, rfl, rfl,
          .inr ⟨rfl, rfl, ⟨cur, hcC, hnc, hcm', hcs', by simpa using htake⟩, .inr ⟨hg, (Array.getElem?_eq_some_iff.1 hcC).1⟩⟩⟩
end Go.AM

namespace Go.AM
open Go
inductive Ren (ρ : Nat → Nat → Prop) : AV → AV → Prop where
  | tree {x : AV} : noIds x = true → Ren ρ x x
  | ow {i j : Nat} : ρ i j → Ren ρ (.ow i) (.ow j)
  | ptr {i j k o : Nat} : ρ i j → Ren ρ (.ptr i k o) (.ptr j k o)
  | mp {i j : Nat} : ρ i j → Ren ρ (.mp i) (.mp j)
  | sub {i j n : Nat} : ρ i j → Ren ρ (.sub i n) (.sub j n)
  | win {i j n : Nat} : ρ i j → Ren ρ (.win i n) (.win j n)
  | agg {xs ys : List AV} : xs.length = ys.length → (∀ (n : Nat) x y, xs[n]? = some x → ys[n]? = some y → Ren ρ x y) → Ren ρ (.agg xs) (.agg ys)
  | tup {xs ys : List AV} : xs.length = ys.length → (∀ (n : Nat) x y, xs[n]? = some x → ys[n]? = some y → Ren ρ x y) → Ren ρ (.tup xs) (.tup ys)
  | fn {f : Fn} {xs ys us vs : List AV} : xs.length = ys.length → us.length = vs.length → (∀ (n : Nat) x y, xs[n]? = some x → ys[n]? = some y → Ren ρ x y) →
      (∀ (n : Nat) x y, us[n]? = some x → vs[n]? = some y → Ren ρ x y) → Ren ρ (.fn f xs us) (.fn f ys vs)
theorem Ren.symm {ρ σ : Nat → Nat → Prop} (h : ∀ i j, ρ i j → σ j i) {x y : AV} (hr : Ren ρ x y) : Ren σ y x := by
  induction hr with
  | tree h => exact .tree h
  | ow hi => exact .ow (h _ _ hi)
  | ptr hi => exact .ptr (h _ _ hi)
  | mp hi => exact .mp (h _ _ hi)
  | sub hi => exact .sub (h _ _ hi)
  | win hi => exact .win (h _ _ hi)
  | agg hl _ ih => exact .agg hl.symm (fun n y x hy hx => ih n x y hx hy)
  | tup hl _ ih => exact .tup hl.symm (fun n y x hy hx => ih n x y hx hy)
  | fn h1 h2 _ _ ih1 ih2 => exact .fn h1.symm h2.symm (fun n y x hy hx => ih1 n x y hx hy) (fun n y x hy hx => ih2 n x y hx hy)
theorem RepV.fn_inv {S : Nat → Prop} {w : World} {φ : Nat → Loc} {η : Heap} {f : Fn} {xs us : List AV} {v : Value} (h : RepV S w φ η (.fn f xs us) v) :
    ∃ as bs : Array Value, v = .func f as bs ∧ xs.length = as.size ∧ us.length = bs.size ∧ (∀ (i : Nat) x u, xs[i]? = some x → as[i]? = some u → RepV S w φ η x u) ∧
      (∀ (i : Nat) x u, us[i]? = some x → bs[i]? = some u → RepV S w φ η x u) := by
  cases h with
  | pure h => cases h with
    | fn _ _ _ as bs h1 h2 h3 h4 => exact ⟨as, bs, rfl, h1, h2, fun i x u hx hu => .pure (h3 i x u hx hu), fun i x u hx hu => .pure (h4 i x u hx hu)⟩
  | fn _ _ _ as bs h1 h2 h3 h4 => exact ⟨as, bs, rfl, h1, h2, h3, h4⟩
def objAlike (η η' : Heap) (i j : Nat) : Prop :=
  (∀ k sz E es, lk η i = some (.arr k sz E es) → ∃ k' es', es'.length = es.length ∧ lk η' j = some (.arr k' sz E es')) ∧ (∀ cs, lk η i = some (.box cs) → ∃ cs', lk η' j = some (.box cs'))
theorem RepV.ren {S S' : Nat → Prop} {w w' : World} {φ φ' : Nat → Loc} {η η' : Heap} {ρ : Nat → Nat → Prop} (hS : ∀ b, S b → S' b)
    (hw : ∀ b, S b → w'.heap[b]? = w.heap[b]?) (hρ : ∀ i j, ρ i j → (∀ o, lk η i = some o → φ' j = φ i) ∧ objAlike η η' i j) {x y : AV} (hr : Ren ρ x y) :
    ∀ {v : Value}, RepV S w φ η x v → RepV S' w' φ' η' y v := by
  induction hr with
  | tree h => intro v hv; exact .pure ((hv.tree h).mono hS hw)
  | @ow i j hij =>
    intro v hv
    obtain ⟨he', ha, _⟩ := hρ i j hij
    cases hv with
    | pure hv => cases hv
    | @ow _ sz k E es h1 h2 =>
      have he := he' _ h1
      obtain ⟨k', es', hle, h3⟩ := ha _ _ _ _ h1
      have := RepV.ow (S := S') (w := w') (φ := φ') h3 (by rw [he]; exact h2)
      rw [he, hle] at this
      exact this
    | ow0 h1 h2 =>
      have he := he' _ h1
      obtain ⟨k', es', hle, h3⟩ := ha _ _ _ _ h1
      have : es' = [] := List.eq_nil_of_length_eq_zero (by simpa using hle)
      subst this
      have := RepV.ow0 (S := S') (w := w') (φ := φ') h3 (by rw [he]; exact h2)
      rw [he] at this
      exact this
  | @ptr i j k o hij =>
    intro v hv
    obtain ⟨he', ha, hb⟩ := hρ i j hij
    cases hv with
    | pure hv => cases hv
    | box h1 h2 =>
      have he := he' _ h1
      obtain ⟨cs', h3⟩ := hb _ h1
      have := RepV.box (S := S') (w := w') (φ := φ') (off := o) h3 (by rw [he]; exact h2)
      rw [he] at this
      exact this
    | elt h1 h2 =>
      have he := he' _ h1
      obtain ⟨k', es', hle, h3⟩ := ha _ _ _ _ h1
      have := RepV.elt (S := S') (w := w') (φ := φ') (k := k) (off := o) h3 (by rw [he]; exact h2)
      rw [he] at this
      exact this
  | @mp i j hij =>
    intro v hv
    obtain ⟨he', _, hb⟩ := hρ i j hij
    cases hv with
    | pure hv => cases hv
    | mp h1 h2 =>
      have he := he' _ h1
      obtain ⟨cs', h3⟩ := hb _ h1
      have := RepV.mp (S := S') (w := w') (φ := φ') h3 (by rw [he]; exact h2)
      rw [he] at this
      exact this
  | @sub i j n hij =>
    intro v hv
    obtain ⟨he', ha, _⟩ := hρ i j hij
    cases hv with
    | pure hv => cases hv
    | sub h1 =>
      have he := he' _ h1
      obtain ⟨k', es', hle, h3⟩ := ha _ _ _ _ h1
      have := RepV.sub (S := S') (w := w') (φ := φ') (n := n) h3
      rw [he] at this
      exact this
  | @win i j n hij =>
    intro v hv
    obtain ⟨he', ha, _⟩ := hρ i j hij
    cases hv with
    | pure hv => cases hv
    | win h1 h2 hlo =>
      have he := he' _ h1
      obtain ⟨k', es', hle, h3⟩ := ha _ _ _ _ h1
      have := RepV.win (S := S') (w := w') (φ := φ') (lo := n) h3 (by rw [he]; exact h2) (by rw [hle]; exact hlo)
      rw [he, hle] at this
      exact this
    | winE h1 hlo =>
      obtain ⟨k', es', hle, h3⟩ := ha _ _ _ _ h1
      exact .winE h3 (by rw [hle]; exact hlo)
  | @agg xs ys hl _ ih =>
    intro v hv
    obtain ⟨us, rfl, h1, h2⟩ := hv.agg_inv
    refine .agg ys us (by rw [← hl]; exact h1) (fun i y v hy hv => ?_)
    obtain ⟨x, hx⟩ : ∃ x, xs[i]? = some x := ⟨xs[i]'(by rw [hl]; exact (List.getElem?_eq_some_iff.1 hy).1), by simp⟩
    exact ih i x y hx hy (h2 i x v hx hv)
  | @tup xs ys hl _ ih =>
    intro v hv
    obtain ⟨us, rfl, h1, h2⟩ := hv.tup_inv
    refine .tup ys us (by rw [← hl]; exact h1) (fun i y v hy hv => ?_)
    obtain ⟨x, hx⟩ : ∃ x, xs[i]? = some x := ⟨xs[i]'(by rw [hl]; exact (List.getElem?_eq_some_iff.1 hy).1), by simp⟩
    exact ih i x y hx hy (h2 i x v hx hv)
  | @fn f xs ys us vs hl1 hl2 _ _ ih1 ih2 =>
    intro v hv
    obtain ⟨as, bs, rfl, h1, h2, h3, h4⟩ := hv.fn_inv
    refine .fn f ys vs as bs (by rw [← hl1]; exact h1) (by rw [← hl2]; exact h2) (fun i y v hy hv => ?_) (fun i y v hy hv => ?_)
    · obtain ⟨x, hx⟩ : ∃ x, xs[i]? = some x := ⟨xs[i]'(by rw [hl1]; exact (List.getElem?_eq_some_iff.1 hy).1), by simp⟩
      exact ih1 i x y hx hy (h3 i x v hx hv)
    · obtain ⟨x, hx⟩ : ∃ x, us[i]? = some x := ⟨us[i]'(by rw [hl2]; exact (List.getElem?_eq_some_iff.1 hy).1), by simp⟩
      exact ih2 i x y hx hy (h4 i x v hx hv)
mutual
def renO (ρ : List (Nat × Nat)) : AV → Option AV
  | .ow i => match lk ρ i with
    | some j => some (.ow j)
    | none => none
  | .ptr i k o => match lk ρ i with
    | some j => some (.ptr j k o)
    | none => none
  | .mp i => match lk ρ i with
    | some j => some (.mp j)
    | none => none
  | .sub i n => match lk ρ i with
    | some j => some (.sub j n)
    | none => none
  | .win i n => match lk ρ i with
    | some j => some (.win j n)
    | none => none
  | .agg xs => match renL ρ xs with
    | some ys => some (.agg ys)
    | none => none
  | .tup xs => match renL ρ xs with
    | some ys => some (.tup ys)
    | none => none
  | .fn f xs us => match renL ρ xs with
    | some ys => match renL ρ us with
      | some vs => some (.fn f ys vs)
      | none => none
    | none => none
  | x => some x
def renL (ρ : List (Nat × Nat)) : List AV → Option (List AV)
  | [] => some []
  | x :: r => match renO ρ x with
    | some y => match renL ρ r with
      | some l => some (y :: l)
      | none => none
    | none => none
end
mutual
theorem renO_spec {ρ : List (Nat × Nat)} : ∀ (x y : AV), renO ρ x = some y → Ren (fun i j => lk ρ i = some j) x y
  | .ow i, y, h => by
    unfold renO at h
    cases hl : lk ρ i with
    | none => simp [hl] at h
    | some j => simp only [hl, Option.some.injEq] at h; subst h; exact .ow hl
  | .ptr i k o, y, h => by
    unfold renO at h
    cases hl : lk ρ i with
    | none => simp [hl] at h
    | some j => simp only [hl, Option.some.injEq] at h; subst h; exact .ptr hl
  | .mp i, y, h => by
    unfold renO at h
    cases hl : lk ρ i with
    | none => simp [hl] at h
    | some j => simp only [hl, Option.some.injEq] at h; subst h; exact .mp hl
  | .sub i n, y, h => by
    unfold renO at h
    cases hl : lk ρ i with
    | none => simp [hl] at h
    | some j => simp only [hl, Option.some.injEq] at h; subst h; exact .sub hl
  | .win i n, y, h => by
    unfold renO at h
    cases hl : lk ρ i with
    | none => simp [hl] at h
    | some j => simp only [hl, Option.some.injEq] at h; subst h; exact .win hl
  | .agg xs, y, h => by
    unfold renO at h
    cases hl : renL ρ xs with
    | none => simp [hl] at h
    | some ys =>
      simp only [hl, Option.some.injEq] at h
      subst h
      obtain ⟨h1, h2⟩ := renL_spec xs ys hl
      exact .agg h1 h2
  | .tup xs, y, h => by
    unfold renO at h
    cases hl : renL ρ xs with
    | none => simp [hl] at h
    | some ys =>
      simp only [hl, Option.some.injEq] at h
      subst h
      obtain ⟨h1, h2⟩ := renL_spec xs ys hl
      exact .tup h1 h2
  | .fn f xs us, y, h => by
    unfold renO at h
    cases hl : renL ρ xs with
    | none => simp [hl] at h
    | some ys =>
      simp only [hl] at h
      cases hl2 : renL ρ us with
      | none => simp [hl2] at h
      | some vs =>
        simp only [hl2, Option.some.injEq] at h
        subst h
        obtain ⟨h1, h2⟩ := renL_spec xs ys hl
        obtain ⟨h3, h4⟩ := renL_spec us vs hl2
        exact .fn h1 h3 h2 h4
  | .int _ _, y, h => by simp only [renO, Option.some.injEq] at h; subst h; exact .tree rfl
  | .bool _, y, h => by simp only [renO, Option.some.injEq] at h; subst h; exact .tree rfl
  | .str _, y, h => by simp only [renO, Option.some.injEq] at h; subst h; exact .tree rfl
  | .snil, y, h => by simp only [renO, Option.some.injEq] at h; subst h; exact .tree rfl
  | .sl _ _, y, h => by simp only [renO, Option.some.injEq] at h; subst h; exact .tree rfl
  | .cp _, y, h => by simp only [renO, Option.some.injEq] at h; subst h; exact .tree rfl
  | .nilp, y, h => by simp only [renO, Option.some.injEq] at h; subst h; exact .tree rfl
  | .tr _, y, h => by simp only [renO, Option.some.injEq] at h; subst h; exact .tree rfl
  | .nilf, y, h => by simp only [renO, Option.some.injEq] at h; subst h; exact .tree rfl
  | .junk, y, h => by simp only [renO, Option.some.injEq] at h; subst h; exact .tree rfl
theorem renL_spec {ρ : List (Nat × Nat)} : ∀ (xs ys : List AV), renL ρ xs = some ys → xs.length = ys.length ∧
    ∀ (n : Nat) x y, xs[n]? = some x → ys[n]? = some y → Ren (fun i j => lk ρ i = some j) x y
  | [], ys, h => by simp only [renL, Option.some.injEq] at h; subst h; exact ⟨rfl, fun n x y hx => by simp at hx⟩
  | x :: r, ys, h => by
    unfold renL at h
    cases hx : renO ρ x with
    | none => simp [hx] at h
    | some y =>
      simp only [hx] at h
      cases hr : renL ρ r with
      | none => simp [hr] at h
      | some l =>
        simp only [hr, Option.some.injEq] at h
        subst h
        obtain ⟨h1, h2⟩ := renL_spec r l hr
        refine ⟨by simp [h1], fun n u v hu hv => ?_⟩
        cases n with
        | zero => simp at hu hv; subst hu; subst hv; exact renO_spec x y hx
        | succ n => simp at hu hv; exact h2 n u v hu hv
end
def renH (ρ : List (Nat × Nat)) : Heap → Option Heap
  | [] => some []
  | (i, .box cs) :: r => match lk ρ i with
    | some j => match renL ρ cs with
      | some cs' => match renH ρ r with
        | some r' => some ((j, .box cs') :: r')
        | none => none
      | none => none
    | none => none
  | (i, .arr kd sz E es) :: r => match lk ρ i with
    | some j => match renH ρ r with
      | some r' => some ((j, .arr kd sz E es) :: r')
      | none => none
    | none => none
structure Ret (F : Fr) (w' : World) (φ' : Nat → Loc) (L' : Heap) (r : AV) (v : Value) : Prop where
  sys : SameSys F.w w'
  grow : F.w.heap.size ≤ w'.heap.size
  heap : HeapOK (Stab F w' φ' L') w' φ' L'
  val : RepV (Stab F w' φ' L') w' φ' L' r v
  mine : ∀ id o b, lk L' id = some o → (φ' id).owns b → F.w.heap.size ≤ b ∨ ∃ o0, lk F.η id = some o0 ∧ (F.φ id).owns b
  fix : ∀ id o, lk F.η id = some o → o.isBox ≠ 1 → φ' id = F.φ id
  keep : ∀ id o, lk F.η id = some o → ∃ o', lk L' id = some o' ∧ o.alike o'
  frame : ∀ b, b < F.w.heap.size → ¬ F.mut b → w'.heap[b]? = F.w.heap[b]?
def ACall (P : Program) (f : FuncId) (args : List AV) (L : Heap) (r : AV) (L' : Heap) : Prop :=
  ∀ (w : World) (S : Nat → Prop) (φ : Nat → Loc) (vs : Array Value), HeapOK S w φ L → PW S w φ L args vs.toList →
    Calls P f vs w fun e w' => ∃ v φ', e = .returned v ∧ Ret ⟨w, S, φ, L⟩ w' φ' L' r v
def Keeps (F : Fr) (w : World) (S : Nat → Prop) : Prop := ∀ b, F.S b → b < F.w.heap.size → (∀ id o, lk F.η id = some o → ¬ (F.φ id).owns b) → S b ∧ w.heap[b]? = F.w.heap[b]?
def ACallF (F : Fr) (P : Program) (f : FuncId) (args : List AV) (L : Heap) (r : AV) (L' : Heap) : Prop :=
  ∀ (w : World) (S : Nat → Prop) (φ : Nat → Loc) (vs : Array Value), Keeps F w S → HeapOK S w φ L → PW S w φ L args vs.toList →
    Calls P f vs w fun e w' => ∃ v φ', e = .returned v ∧ Ret ⟨w, S, φ, L⟩ w' φ' L' r v
theorem ACall.F {F : Fr} {P : Program} {f : FuncId} {args : List AV} {L L' : Heap} {r : AV} (h : ACall P f args L r L') : ACallF F P f args L r L' := fun w S φ vs _ => h w S φ vs
theorem RelP.keepsAll {F : Fr} {N : Nat} {st : St} {φ : Nat → Loc} {a : Act} {w : World} (hr : RelP F N st φ a w) : Keeps F w (fun b => b < w.heap.size) :=
  fun b hS hlt hno => ⟨Nat.lt_of_lt_of_le hlt hr.grow, hr.frame b hlt (fun ⟨id, o, h1, h2⟩ => hno id o h1 h2)⟩
theorem RelP.keeps {F : Fr} {N : Nat} {st : St} {φ : Nat → Loc} {a : Act} {w : World} (hr : RelP F N st φ a w) : Keeps F w (Stab F w φ st.h) := by
  intro b hS hlt hno
  refine ⟨⟨Nat.lt_of_lt_of_le hlt hr.grow, .inl hS, fun id o ho hw => ?_⟩, hr.frame b hlt (fun ⟨id, o, h1, h2⟩ => hno id o h1 h2)⟩
  rcases hr.mine id o b ho hw with h1 | ⟨o0, h1, h2⟩
  · omega
  · exact hno id o0 h1 h2
structure Glob where
  B : List Nat
  G : World → Prop
  stab : ∀ w w', (∀ b ∈ B, w'.heap[b]? = w.heap[b]?) → G w → G w'
def Glob.at (g : Glob) (S : Nat → Prop) (w : World) : Prop := (∀ b ∈ g.B, S b) ∧ g.G w
def ACallG (g : Glob) (P : Program) (f : FuncId) (args : List AV) (L : Heap) (r : AV) (L' : Heap) : Prop :=
  ∀ (w : World) (S : Nat → Prop) (φ : Nat → Loc) (vs : Array Value), g.at S w → HeapOK S w φ L → PW S w φ L args vs.toList →
    Calls P f vs w fun e w' => ∃ v φ', e = .returned v ∧ Ret ⟨w, S, φ, L⟩ w' φ' L' r v
theorem ACallG.F {g : Glob} {F : Fr} {P : Program} {f : FuncId} {args : List AV} {L L' : Heap} {r : AV} (hI : HeapOK F.S F.w F.φ F.η) (hg : g.at F.S F.w) (h : ACallG g P f args L r L') : ACallF F P f args L r L' := by
  intro w S φ vs hk
  have hb : ∀ b ∈ g.B, S b ∧ w.heap[b]? = F.w.heap[b]? := fun b hb => hk b (hg.1 b hb) (hI.free b (hg.1 b hb)) (fun id o ho hw => hI.apartO id o b ho hw (hg.1 b hb))
  exact h w S φ vs ⟨fun b h => (hb b h).1, g.stab _ _ (fun b h => (hb b h).2) hg.2⟩
theorem ACall.G {g : Glob} {P : Program} {f : FuncId} {args : List AV} {L L' : Heap} {r : AV} (h : ACall P f args L r L') : ACallG g P f args L r L' := fun w S φ vs _ => h w S φ vs
def ResOK (P : Program) (s : Xb) (h : Heap) : ResultVar → AV → Prop
  | .tmp t, x => lk s t = some x
  | .cell a t, x => ∃ p cs, lk s a = some p ∧ acells h p = some cs ∧
      ((tyAgg P t = some false ∧ ∃ r, cs = x :: r) ∨ (tyAgg P t = some true ∧ ∃ n cs', tySize P t = some n ∧ takeO cs n = some cs' ∧ x = .agg cs'))
def ResL (P : Program) (s : Xb) (h : Heap) : List ResultVar → List AV → Prop
  | [], [] => True
  | rv :: rs, x :: xs => ResOK P s h rv x ∧ ResL P s h rs xs
  | _, _ => False
def resVal : List AV → AV
  | [x] => x
  | xs => .tup xs
mutual
def closed (h : Heap) : AV → Bool
  | .ow i => (lk h i).isSome
  | .ptr i _ _ => (lk h i).isSome
  | .mp i => (lk h i).isSome
  | .sub i _ => (lk h i).isSome
  | .win i _ => (lk h i).isSome
  | .agg cs => closedL h cs
  | .tup vs => closedL h vs
  | .fn _ as bs => closedL h as && closedL h bs
  | _ => true
def closedL (h : Heap) : List AV → Bool
  | [] => true
  | x :: r => closed h x && closedL h r
end
mutual
theorem closed_ren {h : Heap} : ∀ (x : AV), closed h x = true → Ren (fun i j => i = j ∧ (lk h i).isSome = true) x x
  | .ow i, hc => .ow ⟨rfl, by simpa [closed] using hc⟩
  | .ptr i k o, hc => .ptr ⟨rfl, by simpa [closed] using hc⟩
  | .mp i, hc => .mp ⟨rfl, by simpa [closed] using hc⟩
  | .sub i _, hc => .sub ⟨rfl, by simpa [closed] using hc⟩
  | .win i _, hc => .win ⟨rfl, by simpa [closed] using hc⟩
  | .agg xs, hc => .agg rfl (fun n x y hx hy => by
      rw [hx] at hy
      cases hy
      exact closedL_ren xs (by simpa [closed] using hc) n x hx)
  | .tup xs, hc => .tup rfl (fun n x y hx hy => by
      rw [hx] at hy
      cases hy
      exact closedL_ren xs (by simpa [closed] using hc) n x hx)
  | .fn f xs us, hc => by
    simp only [closed, Bool.and_eq_true] at hc
    refine .fn rfl rfl (fun n x y hx hy => ?_) (fun n x y hx hy => ?_)
    · rw [hx] at hy; cases hy; exact closedL_ren xs hc.1 n x hx
    · rw [hx] at hy; cases hy; exact closedL_ren us hc.2 n x hx
  | .int _ _, _ => .tree rfl
  | .bool _, _ => .tree rfl
  | .str _, _ => .tree rfl
  | .snil, _ => .tree rfl
  | .sl _ _, _ => .tree rfl
  | .cp _, _ => .tree rfl
  | .nilp, _ => .tree rfl
  | .tr _, _ => .tree rfl
  | .nilf, _ => .tree rfl
  | .junk, _ => .tree rfl
theorem closedL_ren {h : Heap} : ∀ (xs : List AV), closedL h xs = true → ∀ (n : Nat) x, xs[n]? = some x → Ren (fun i j => i = j ∧ (lk h i).isSome = true) x x
  | [], _, n, x, hx => by simp at hx
  | y :: r, hc, n, x, hx => by
    simp only [closedL, Bool.and_eq_true] at hc
    cases n with
    | zero => simp at hx; subst hx; exact closed_ren y hc.1
    | succ n => simp at hx; exact closedL_ren r hc.2 n x hx
end
def closedH (h : Heap) : Heap → Bool
  | [] => true
  | (_, .box cs) :: r => closedL h cs && closedH h r
  | (_, .arr _ _ _ _) :: r => closedH h r
theorem closedH_lk {h : Heap} : ∀ {l : Heap}, closedH h l = true → ∀ i cs, lk l i = some (.box cs) → closedL h cs = true := by
  intro l
  induction l with
  | nil => intro _ i cs hi; cases hi
  | cons p l ih =>
    obtain ⟨k, o⟩ := p
    intro hc i cs hi
    rw [Q7] at hi
    cases o with
    | box cs0 =>
      simp only [closedH, Bool.and_eq_true] at hc
      split at hi
      · cases hi; exact hc.1
      · exact ih hc.2 i cs hi
    | arr kd sz E es =>
      simp only [closedH] at hc
      split at hi
      · cases hi
      · exact ih hc i cs hi
def keepO {α : Type} : List Nat → List (Nat × α) → Option (List (Nat × α))
  | [], _ => some []
  | i :: r, s => match lk s i with
    | some x => match keepO r s with
      | some l => some ((i, x) :: l)
      | none => none
    | none => none
theorem keepO_lk {α : Type} {s : List (Nat × α)} : ∀ {ids : List Nat} {s' : List (Nat × α)}, keepO ids s = some s' → ∀ i x, lk s' i = some x → lk s i = some x := by
  intro ids
  induction ids with
  | nil => intro s' h i x hx; cases h; cases hx
  | cons j ids ih =>
    intro s' h i x hx
    unfold keepO at h
    cases hj : lk s j with
    | none => simp [hj] at h
    | some y =>
      simp only [hj] at h
      cases hr : keepO ids s with
      | none => simp [hr] at h
      | some l =>
        simp only [hr, Option.some.injEq] at h
        subst h
        rw [Q7] at hx
        split at hx
        · cases hx; rename_i hji; rw [← hji]; exact hj
        · exact ih hr i x hx
def RetPost (P : Program) (rs : List ResultVar) (L : Heap) (r : AV) (L' : Heap) (st : St) : Prop :=
  ∃ xs ids, ResL P st.s st.h rs xs ∧ resVal xs = r ∧ keepO ids st.h = some L' ∧ closed L' r = true ∧ closedH L' L' = true ∧ L.all (fun p => (lk L' p.1).isSome) = true
def BodyPost (P : Program) (rs : List ResultVar) (L : Heap) (r : AV) (L' : Heap) : Exit → St → Prop
  | .normal, st => RetPost P rs L r L' st
  | .ret, st => RetPost P rs L r L' st
  | _, _ => False
section
variable {P : Program} {F : Fr} {N : Nat}
theorem ResOK_run {st : St} {φ : Nat → Loc} {a : Act} {w : World} (hr : RelP F N st φ a w) {rv : ResultVar} {x : AV} (h : ResOK P st.s st.h rv x) :
    ∃ v, ((match rv with
      | .tmp t => pure (a.tmps.getD t undef)
      | .cell b t => do loadVar t (← asAddr (a.tmps.getD b undef))) : Sem Value).run P w = .ok v w ∧ RepV (Stab F w φ st.h) w φ st.h x v := by
  cases rv with
  | tmp t =>
    obtain ⟨v, hv, hrep⟩ := hr.slots t x h
    exact ⟨v, by simp [hv], hrep⟩
  | cell b t =>
    obtain ⟨p, cs, hp, hcs, hx⟩ := h
    obtain ⟨v, hv, hrep⟩ := hr.slots b p hp
    have hgd : a.tmps.getD b undef = v := by simp [hv]
    have hpt := PT_of hr.heap hrep hcs
    have hav : ∃ bb off, v = .pointer (some ⟨bb, off, none⟩) := by
      obtain ⟨bb, off, f, e, _⟩ := hpt
      exact ⟨bb, off, e⟩
    obtain ⟨bb, off, rfl⟩ := hav
    have hload : ∀ u, (Instr.loadAt t (.pointer (some ⟨bb, off, none⟩))).run P w = .ok u w →
        ((do loadVar t (← asAddr (a.tmps.getD b undef))) : Sem Value).run P w = .ok u w := by
      intro u hu
      rw [hgd]
      exact hu
    rcases hx with ⟨ha, r, rfl⟩ | ⟨ha, n, cs', hs, ht, rfl⟩
    · obtain ⟨u, hu, hrep⟩ := load_one (P := P) hpt ha
      exact ⟨u, hload u (hu w (Ext.refl w)), hrep⟩
    · obtain ⟨u, hu, hrep⟩ := load_agg (P := P) hpt ha hs ht
      exact ⟨u, hload u (hu w (Ext.refl w)), hrep⟩
theorem ResL_run {st : St} {φ : Nat → Loc} {a : Act} {w : World} (hr : RelP F N st φ a w) : ∀ {rs : List ResultVar} {xs : List AV}, ResL P st.s st.h rs xs →
    ∃ vs, (rs.mapM fun rv => (match rv with
      | .tmp t => pure (a.tmps.getD t undef)
      | .cell b t => do loadVar t (← asAddr (a.tmps.getD b undef)) : Sem Value)).run P w = .ok vs w ∧ PW (Stab F w φ st.h) w φ st.h xs vs := by
  intro rs
  induction rs with
  | nil =>
    intro xs h
    cases xs with
    | nil => exact ⟨[], rfl, rfl, fun i x v hx => by simp at hx⟩
    | cons _ _ => exact h.elim
  | cons rv rs ih =>
    intro xs h
    cases xs with
    | nil => exact h.elim
    | cons x xs =>
      obtain ⟨v, hv, hrep⟩ := ResOK_run hr h.1
      obtain ⟨vs, hvs, hpw⟩ := ih h.2
      refine ⟨v :: vs, ?_, by simp [hpw.1], fun i y u hy hu => ?_⟩
      · simp only [List.mapM_cons, Sem.run_bind, hv, hvs, Result.andThen_ok, Sem.run_pure]
      · cases i with
        | zero => simp at hy hu; subst hy; subst hu; exact hrep
        | succ i => simp at hy hu; exact hpw.2 i y u hy hu
theorem results_run {fn : Func} {st : St} {φ : Nat → Loc} {a : Act} {w : World} (hr : RelP F N st φ a w) {xs : List AV} (h : ResL P st.s st.h fn.results.toList xs) :
    ∃ v, (results fn a.tmps).run P w = .ok v w ∧ RepV (Stab F w φ st.h) w φ st.h (resVal xs) v := by
  obtain ⟨vs, hvs, hpw⟩ := ResL_run hr h
  have hm : (fn.results.mapM fun rv => (match rv with
      | .tmp t => pure (a.tmps.getD t undef)
      | .cell b t => do loadVar t (← asAddr (a.tmps.getD b undef)) : Sem Value)).run P w = .ok vs.toArray w := by
    rw [Array.mapM_eq_mapM_toList]
    simp only [Sem.run_map, hvs, Result.andThen_ok]
  refine ⟨if h : vs.toArray.size = 1 then vs.toArray[0] else .tuple vs.toArray, ?_, ?_⟩
  · unfold results
    simp only [Sem.run_bind, Sem.run_pure]
    exact (congrArg (fun r => Result.andThen r fun a w' => Result.ok (if h : a.size = 1 then a[0] else Value.tuple a) w') (show _ = Result.ok vs.toArray w from hm)).trans rfl
  · by_cases h1 : vs.toArray.size = 1
    · rw [dif_pos h1]
      have hxl : xs.length = 1 := by rw [hpw.1]; simpa using h1
      match xs, hxl with
      | [x], _ => exact hpw.2 0 x _ (by simp) (by simp at h1; simp [h1])
    · rw [dif_neg h1]
      have hxl : xs.length ≠ 1 := by rw [hpw.1]; simpa using h1
      have : resVal xs = .tup xs := by
        unfold resVal
        split
        · simp at hxl
        · rfl
      rw [this]
      exact .tup xs vs.toArray (by simpa using hpw.1) (fun i x v hx hv => hpw.2 i x v hx (by simpa using hv))
def argS : Nat → List AV → Xb
  | _, [] => []
  | k, x :: r => (k, x) :: argS (k + 1) r
theorem argS_lk : ∀ {l : List AV} {k i : Nat} {x : AV}, lk (argS k l) i = some x → k ≤ i ∧ l[i - k]? = some x := by
  intro l
  induction l with
  | nil => intro k i x h; cases h
  | cons y l ih =>
    intro k i x h
    unfold argS at h
    rw [Q7] at h
    split at h
    · cases h; rename_i hk; subst hk; simp
    · rename_i hk
      obtain ⟨h1, h2⟩ := ih h
      refine ⟨by omega, ?_⟩
      have : i - k = (i - (k + 1)) + 1 := by omega
      rw [this]
      simpa using h2
theorem Ret.of_rel {st : St} {φ : Nat → Loc} {a : Act} {w : World} (hr : RelP F N st φ a w) {ids : List Nat} {L' : Heap} {r : AV} {v : Value}
    (hk : keepO ids st.h = some L') (hc : closed L' r = true) (hcH : closedH L' L' = true) (hall : F.η.all (fun p => (lk L' p.1).isSome) = true)
    (hv : RepV (Stab F w φ st.h) w φ st.h r v) : Ret F w φ L' r v := by
  have hlk := keepO_lk hk
  have hS : ∀ b, Stab F w φ st.h b → Stab F w φ L' b := fun b hb => ⟨hb.1, hb.2.1, fun i o ho hm => hb.2.2 i o (hlk i o ho) hm⟩
  have hρ : ∀ i j, (i = j ∧ (lk L' i).isSome = true) → (∀ o, lk st.h i = some o → φ j = φ i) ∧ objAlike st.h L' i j := by
    rintro i j ⟨rfl, hi⟩
    refine ⟨fun _ _ => rfl, fun k sz E es ho => ⟨k, es, rfl, ?_⟩, fun cs ho => ⟨cs, ?_⟩⟩
    · obtain ⟨o, hl⟩ := Option.isSome_iff_exists.1 hi
      have := hlk i o hl
      rw [ho] at this; cases this; exact hl
    · obtain ⟨o, hl⟩ := Option.isSome_iff_exists.1 hi
      have := hlk i o hl
      rw [ho] at this; cases this; exact hl
  have hR : ∀ {x v}, Ren (fun i j => i = j ∧ (lk L' i).isSome = true) x x → RepV (Stab F w φ st.h) w φ st.h x v → RepV (Stab F w φ L') w φ L' x v :=
    fun hx h => h.ren hS (fun _ _ => rfl) hρ hx
  have hkeep : ∀ id, lk F.η id ≠ none → (lk L' id).isSome = true := by
    intro id hid
    have : ∃ o, (id, o) ∈ F.η := by
      clear hr hk hc hcH hv hlk hS hρ hR
      generalize F.η = l at hid
      induction l with
      | nil => exact absurd rfl hid
      | cons p l ih =>
        obtain ⟨k, o⟩ := p
        rw [Q7] at hid
        by_cases hki : k = id
        · subst hki; exact ⟨o, by simp⟩
        · rw [if_neg hki] at hid
          obtain ⟨o', ho'⟩ := ih hid
          exact ⟨o', by simp [ho']⟩
    obtain ⟨o, ho⟩ := this
    exact (List.all_eq_true.1 hall) (id, o) ho
  refine ⟨hr.sys, hr.grow, ⟨fun i o ho => ?_, fun i j oi oj b hi hj hmi hmj => hr.heap.injO i j oi oj b (hlk i oi hi) (hlk j oj hj) hmi hmj, fun b hb => hb.1,
    fun i o b ho hm hst => hst.2.2 i o ho hm, fun i o b ho hm => hr.heap.ltO i o b (hlk i o ho) hm⟩, hR (closed_ren r hc) hv, fun i o b ho hm => hr.mine i o b (hlk i o ho) hm, hr.fix, fun i o hi => ?_, hr.frame⟩
  · have hok := hr.heap.obj i o (hlk i o ho)
    cases o with
    | box cs =>
      obtain ⟨hm, C, E, hC, hsz, hrep⟩ := hok
      exact ⟨hm, C, E, hC, hsz, fun j x v hx hv => hR (closedL_ren cs (closedH_lk hcH i cs ho) j x hx) (hrep j x v hx hv)⟩
    | arr kd sz E es =>
      obtain ⟨h0, hl, hone, hob⟩ := hok
      refine ⟨h0, hl, hone, ?_⟩
      rcases hob with hob | ⟨hm, C, hC, h1, h2, h3, h4⟩
      · exact .inl hob
      · exact .inr ⟨hm, C, hC, h1, h2, h3, h4.mono hS (fun _ _ => rfl) (fun _ _ _ => rfl) rfl⟩
  · obtain ⟨o', ho', hb⟩ := hr.keep i o hi
    obtain ⟨o2, ho2⟩ := Option.isSome_iff_exists.1 (hkeep i (by rw [hi]; simp))
    have := hlk i o2 ho2
    rw [ho'] at this
    cases this
    exact ⟨o', ho2, hb⟩
theorem ACallG.intro {g : Glob} {f : FuncId} {fn : Func} {c : Code} {args : List AV} {L L' : Heap} {r : AV} (hf : P.funcs[f]? = some fn) (hb : fn.body = some c) (hN : fn.ntmps = N)
    (ha : Nat.ble args.length N = true) (hT : ∀ F : Fr, F.η = L → HeapOK F.S F.w F.φ F.η → g.at F.S F.w → T P F N c (BodyPost P fn.results.toList L r L') ⟨argS 0 args, L⟩) : ACallG g P f args L r L' := by
  intro w S φ vs hG hH hvs
  have ha' : args.length ≤ N := Nat.le_of_ble_eq_true ha
  have hvl : vs.size = args.length := by simpa using hvs.1.symm
  let F : Fr := ⟨w, S, φ, L⟩
  have hS1 : ∀ b, S b → Stab F w φ L b := fun b hb => ⟨hH.free b hb, .inl hb, fun id o ho hm => hH.apartO id o b ho hm hb⟩
  have hrel : RelP F N ⟨argS 0 args, L⟩ φ { tmps := vs ++ Array.replicate (fn.ntmps - vs.size) undef, defers := [] } w := by
    refine ⟨by simp [hN, hvl]; omega, rfl, SameSys.refl w, Nat.le_refl _, ⟨fun id o ho => ?_, hH.injO, fun b hb => hb.1, fun id o b ho hm hs => hs.2.2 id o ho hm, hH.ltO⟩, fun i x hx => ?_,
      fun id o b ho hm => .inr ⟨o, ho, hm⟩, fun _ _ _ _ => rfl, fun id o ho => ⟨o, ho, AO.alike_refl o⟩, fun _ _ _ => rfl⟩
    · have hok := hH.obj id o ho
      cases o with
      | box cs =>
        obtain ⟨hm, C, E, hC, hsz, hrep⟩ := hok
        exact ⟨hm, C, E, hC, hsz, fun j x v hx hv => (hrep j x v hx hv).mono hS1 (fun _ _ => rfl) (headsAlike.refl _ _)⟩
      | arr kd sz E es =>
        obtain ⟨h0, hl, hone, hob⟩ := hok
        refine ⟨h0, hl, hone, ?_⟩
        rcases hob with hob | ⟨hm, C, hC, h1, h2, h3, h4⟩
        · exact .inl hob
        · exact .inr ⟨hm, C, hC, h1, h2, h3, h4.mono hS1 (fun _ _ => rfl) (fun _ _ _ => rfl) rfl⟩
    · obtain ⟨_, hi⟩ := argS_lk hx
      have hlt := (List.getElem?_eq_some_iff.1 hi).1
      have hi' : args[i]? = some x := by simpa using hi
      have hlt' : i < vs.size := by rw [hvl]; simpa using hlt
      refine ⟨vs[i], ?_, (hvs.2 i x vs[i] hi' (by simp)).mono hS1 (fun _ _ => rfl) (headsAlike.refl _ _)⟩
      rw [Array.getElem?_append_left hlt']
      simp
  refine calls_of_wp hf hb (Code.wp_mono ?_ (hT F rfl hH hG _ w ⟨φ, hrel⟩))
  rintro e a' w' ⟨st', hq, φ', hr'⟩
  have hfin : ∀ {st'}, RetPost P fn.results.toList L r L' st' → RelP F N st' φ' a' w' → a'.defers = [] ∧ ∃ v, (results fn a'.tmps).run P w' = .ok v w' ∧ ∃ v' φ', Ending.returned v = .returned v' ∧ Ret F w' φ' L' r v' := by
    rintro st' ⟨xs, ids, hres, rfl, hk, hc, hcH, hall⟩ hr'
    obtain ⟨v, hv, hrep⟩ := results_run hr' hres
    exact ⟨hr'.defers, v, hv, v, φ', rfl, Ret.of_rel hr' hk hc hcH hall hrep⟩
  cases e with
  | normal => exact hfin hq hr'
  | ret => exact hfin hq hr'
  | _ => exact hq.elim
def Glob.none : Glob := ⟨[], fun _ => True, fun _ _ _ h => h⟩
theorem ACall.intro {f : FuncId} {fn : Func} {c : Code} {args : List AV} {L L' : Heap} {r : AV} (hf : P.funcs[f]? = some fn) (hb : fn.body = some c) (hN : fn.ntmps = N)
    (ha : Nat.ble args.length N = true) (hT : ∀ F : Fr, F.η = L → T P F N c (BodyPost P fn.results.toList L r L') ⟨argS 0 args, L⟩) : ACall P f args L r L' := fun w S φ vs =>
  ACallG.intro (g := Glob.none) hf hb hN ha (fun F hF _ _ => hT F hF) w S φ vs ⟨fun _ h => (by simp [Glob.none] at h), trivial⟩
end
end Go.AM
