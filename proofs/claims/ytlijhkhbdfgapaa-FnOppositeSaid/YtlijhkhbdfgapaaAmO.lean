/- Regions whose order is drawn: every order is walked. -/
import Derived.Test.YtlijhkhbdfgapaaAmN
import Derived.Orders
namespace Go.AM
open Go

section
variable {P : Program} {F : Fr} {N : Nat} {Q : Exit → St → Prop} {st : St} {ops : Array Oper}

/-- The rest of a region, whatever order is drawn. -/
def TA (P : Program) (F : Fr) (N : Nat) (ops : Array Oper) (fuel : Nat) (listed : List Bool) (K : St → Prop) (st : St) : Prop :=
  ∀ (a : Act) (w : World) (Q : Exit → Act → World → Prop), Rel F N st a w →
    (∀ st' a' w', K st' → Rel F N st' a' w' → Q .normal a' w') → wpAny P .any ops Q fuel listed.toArray a w

theorem Rel.drew {a : Act} {w : World} (h : Rel F N st a w) : Rel F N st a { w with drawn := w.drawn + 1 } := by
  obtain ⟨φ, hr⟩ := h
  exact ⟨φ, hr.world ⟨rfl, rfl, rfl⟩ (Nat.le_refl _) (fun _ _ => rfl)⟩

theorem T_draw {id n : Nat} (hm : P.follows .mixedOrders = true) (hn : ops.size = n) (h : TA P F N ops n (List.replicate n false) (Q .normal) st) :
    T P F N (.region id ops true) Q st := by
  intro a w hr
  subst hn
  refine wp_region_any hm ?_
  have := h a { w with drawn := w.drawn + 1 } (fun e a' w' => ∃ st', Q e st' ∧ Rel F N st' a' w') hr.drew (fun st' a' w' hk hr' => ⟨st', hk, hr'⟩)
  simpa using this

def setL : List Bool → Nat → List Bool
  | [], _ => []
  | _ :: r, 0 => true :: r
  | b :: r, n + 1 => b :: setL r n

theorem setL_list : ∀ (l : List Bool) (i : Nat), l.set i true = setL l i := by
  intro l
  induction l with
  | nil => intro i; rfl
  | cons b r ih =>
    intro i
    cases i with
    | zero => rfl
    | succ i => simp [setL, ih]

theorem setL_eq (l : List Bool) (i : Nat) : (l.toArray.setIfInBounds i true) = (setL l i).toArray := by
  simp [setL_list]

/-- What is to follow one operation. -/
@[reducible] def after1 (K : Act → World → Prop) (Q : Exit → Act → World → Prop) : Exit → Act → World → Prop
  | .normal, a, w => K a w
  | e, a, w => Q e a w

theorem wpOp_of_list {Q : Exit → Act → World → Prop} {i : Nat} {o : Oper} (hi : ops[i]? = some o) {K : Act → World → Prop} {a : Act} {w : World}
    (h : wpList P ops (after1 K Q) [o] a w) : wpOp P ops Q i K a w := by
  have hlet : LetsOut (after1 K Q) → LetsOut Q := fun ⟨a, w, h⟩ => ⟨a, w, h⟩
  unfold wpOp
  simp only [hi]
  unfold wpList at h
  by_cases hw : Region.wanted o (yielded ops a.tmps) = true
  · rw [if_pos hw] at h ⊢
    refine h.imp (fun h => ?_) (fun h => ⟨h.1, hlet h.2⟩)
    unfold Oper.wp at *
    generalize (execOp a.eval o).run P w = r at *
    cases r with
    | ok n w' =>
      cases n <;> simp only [Oper.upon] at h ⊢ <;>
        first
          | exact h
          | exact Calls.mono h (fun e w'' he => by cases e <;> first | exact he | exact hlet he)
          | exact Rows.mono h (fun _ _ he => he)
    | halt x w' => cases x <;> simp only [Oper.upon] at h ⊢ <;> exact h
  · rw [if_neg hw] at h ⊢
    exact h

theorem TA_done {fuel : Nat} {listed : List Bool} {K : St → Prop} (hr : Region.ready .any ops listed.toArray = []) (h : K st) : TA P F N ops fuel listed K st := by
  intro a w R hrel hQ
  cases fuel with
  | zero => exact ⟨hr, hQ _ _ _ h hrel⟩
  | succ fuel => exact ⟨fun _ => hQ _ _ _ h hrel, fun i hi => by rw [hr] at hi; cases hi⟩

/-- All ways to go on. -/
def each {α : Type} (p : α → Prop) : List α → Prop
  | [] => True
  | [x] => p x
  | x :: y :: r => p x ∧ each p (y :: r)

theorem each_mem {α : Type} {p : α → Prop} : ∀ {l : List α}, each p l → ∀ x ∈ l, p x := by
  intro l
  induction l with
  | nil => intro _ x hx; cases hx
  | cons y r ih =>
    intro h x hx
    cases r with
    | nil => simp at hx; subst hx; exact h
    | cons z r =>
      rcases List.mem_cons.1 hx with rfl | hx
      · exact h.1
      · exact ih h.2 x hx

/-- One of the operations that may come next comes next: whichever it is. -/
theorem TA_step {fuel : Nat} {listed : List Bool} {K : St → Prop} (L : List Nat) (hr : Region.ready .any ops listed.toArray = L) (hL : L.isEmpty = false)
    (h : each (fun i => ∃ o, ops[i]? = some o ∧ TL P F N ops [o] (TA P F N ops fuel (setL listed i) K) st) L) : TA P F N ops (fuel + 1) listed K st := by
  intro a w R hrel hQ
  refine ⟨fun h0 => (by rw [hr] at h0; rw [h0] at hL; exact absurd hL (by decide)), fun i hi => ?_⟩
  rw [hr] at hi
  obtain ⟨o, ho, ht⟩ := each_mem h i hi
  refine wpOp_of_list ho (ht a w _ hrel fun st' a' w' hk hr' _ => ?_)
  show wpAny P .any ops R fuel (listed.toArray.setIfInBounds i true) a' w'
  rw [setL_eq]
  exact hk a' w' R hr' hQ

end
end Go.AM
