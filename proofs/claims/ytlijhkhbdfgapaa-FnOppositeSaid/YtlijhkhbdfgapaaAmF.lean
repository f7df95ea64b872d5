/- Operations that make memory or write to it. -/
import Derived.Test.YtlijhkhbdfgapaaAmE
namespace Go.AM
open Go

/-! ### Writing into a row of cells -/

def overO : List AV → List AV → Option (List AV)
  | l, [] => some l
  | _ :: r, c :: cs => match overO r cs with
    | some l => some (c :: l)
    | none => none
  | [], _ :: _ => none

def setO : List AV → Nat → List AV → Option (List AV)
  | l, 0, cs => overO l cs
  | x :: r, n + 1, cs => match setO r n cs with
    | some l => some (x :: l)
    | none => none
  | [], _ + 1, _ => none

theorem overO_eq : ∀ {l cs r : List AV}, overO l cs = some r → r = cs ++ l.drop cs.length ∧ cs.length ≤ l.length := by
  intro l
  induction l with
  | nil => intro cs r h; cases cs with
    | nil => cases h; simp
    | cons c cs => cases h
  | cons x l ih =>
    intro cs r h
    cases cs with
    | nil => cases h; simp
    | cons c cs =>
      unfold overO at h
      cases ho : overO l cs with
      | none => simp [ho] at h
      | some l' =>
        simp only [ho, Option.some.injEq] at h
        subst h
        obtain ⟨rfl, h2⟩ := ih ho
        simpa using h2

theorem setO_eq : ∀ {l cs r : List AV} {n : Nat}, setO l n cs = some r → r = l.take n ++ cs ++ l.drop (n + cs.length) ∧ n + cs.length ≤ l.length := by
  intro l
  induction l with
  | nil =>
    intro cs r n h
    cases n with
    | zero => obtain ⟨rfl, h2⟩ := overO_eq (l := []) (cs := cs) h; simpa using h2
    | succ n => cases h
  | cons x l ih =>
    intro cs r n h
    cases n with
    | zero =>
      have h' : overO (x :: l) cs = some r := h
      obtain ⟨rfl, h2⟩ := overO_eq h'
      simp at h2 ⊢
      exact h2
    | succ n =>
      unfold setO at h
      cases ho : setO l n cs with
      | none => simp [ho] at h
      | some l' =>
        simp only [ho, Option.some.injEq] at h
        subst h
        obtain ⟨rfl, h2⟩ := ih ho
        refine ⟨by simp [Nat.add_right_comm], by simp; omega⟩

theorem foldl_set : ∀ (l : List Value) (i off : Nat) (cs : Array Value), off + i + l.length ≤ cs.size →
    ((l.zipIdx i).foldl (fun cs p => cs.setIfInBounds (off + p.2) p.1) cs).toList = cs.toList.take (off + i) ++ l ++ cs.toList.drop (off + i + l.length) := by
  intro l
  induction l with
  | nil => intro i off cs _; simp
  | cons v l ih =>
    intro i off cs h
    simp only [List.length_cons] at h
    rw [List.zipIdx_cons, List.foldl_cons, ih (i + 1) off _ (by simp; omega)]
    have e := list_seg_step cs.toList (off + i) v l (by simp; omega)
    simpa [Array.toList_setIfInBounds, Nat.add_assoc] using e

theorem foldl_setA (vs cs : Array Value) (off : Nat) (h : off + vs.size ≤ cs.size) :
    (vs.zipIdx.foldl (fun cs (c, j) => cs.setIfInBounds (off + j) c) cs).toList = cs.toList.take off ++ vs.toList ++ cs.toList.drop (off + vs.size) := by
  rw [← Array.foldl_toList, Array.toList_zipIdx]
  have := foldl_set vs.toList 0 off cs (by simpa using h)
  simpa using this

/-- Cells stand for abstract cells, one by one. -/
def PW (S : Nat → Prop) (w : World) (φ : Nat → Loc) (η : Heap) (xs : List AV) (vs : List Value) : Prop :=
  xs.length = vs.length ∧ ∀ (i : Nat) x v, xs[i]? = some x → vs[i]? = some v → RepV S w φ η x v

section
variable {S : Nat → Prop} {w : World} {φ : Nat → Loc} {η : Heap}

theorem PW.append {xs ys : List AV} {us vs : List Value} (h : PW S w φ η xs us) (k : PW S w φ η ys vs) : PW S w φ η (xs ++ ys) (us ++ vs) := by
  refine ⟨by simp [h.1, k.1], fun i x v hx hv => ?_⟩
  by_cases hi : i < xs.length
  · rw [List.getElem?_append_left hi] at hx
    rw [List.getElem?_append_left (by rw [← h.1]; exact hi)] at hv
    exact h.2 i x v hx hv
  · rw [List.getElem?_append_right (by omega)] at hx
    rw [List.getElem?_append_right (by rw [← h.1]; omega), ← h.1] at hv
    exact k.2 _ x v hx hv

theorem PW.take {xs : List AV} {us : List Value} (h : PW S w φ η xs us) (n : Nat) : PW S w φ η (xs.take n) (us.take n) := by
  refine ⟨by simp [h.1], fun i x v hx hv => ?_⟩
  rw [List.getElem?_take] at hx hv
  split at hx
  · rw [if_pos (by assumption)] at hv; exact h.2 i x v hx hv
  · cases hx

theorem PW.drop {xs : List AV} {us : List Value} (h : PW S w φ η xs us) (n : Nat) : PW S w φ η (xs.drop n) (us.drop n) := by
  refine ⟨by simp [h.1], fun i x v hx hv => ?_⟩
  rw [List.getElem?_drop] at hx hv
  exact h.2 _ x v hx hv

/-- A value that is no junk has the cells that are said. -/
theorem RepV.cells {z : AV} {v : Value} {cs : List AV} (h : RepV S w φ η z v) (hc : cellsO z = some cs) (hj : ∀ u, z = .junk → v ≠ .agg u) :
    PW S w φ η cs v.cells.toList := by
  cases z with
  | agg as =>
    cases hc
    obtain ⟨us, rfl, h1, h2⟩ := h.agg_inv
    exact ⟨by simpa [Value.cells] using h1, fun i x u hx hu => h2 i x u hx (by simpa [Value.cells] using hu)⟩
  | _ =>
    cases hc
    have hv : v.cells = #[v] := by
      cases v <;> first | rfl | skip
      exfalso
      cases h <;> first | (rename_i h; cases h; done) | skip
      all_goals first | (exact hj _ rfl rfl) | (rename_i h; cases h; exact hj _ rfl rfl)
    rw [hv]
    refine ⟨rfl, fun i x u hx hu => ?_⟩
    cases i with
    | zero => simp at hx hu; subst hx; subst hu; exact h
    | succ i => simp at hx

theorem RepT.one {x : AV} {v : Value} (h : RepT S w x v) (ho : one x = true) : v.oneCell' = true := by
  cases h <;> first | rfl | cases ho

theorem RepV.one {x : AV} {v : Value} (h : RepV S w φ η x v) (ho : one x = true) : v.oneCell' = true := by
  cases h with
  | pure h => exact h.one ho
  | agg _ _ _ _ => cases ho
  | tup _ _ _ _ => cases ho
  | _ => rfl

end
end Go.AM
