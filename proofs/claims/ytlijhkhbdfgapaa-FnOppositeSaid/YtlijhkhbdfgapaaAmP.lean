/- Loops: induction; tests that are known. -/
import Derived.Test.YtlijhkhbdfgapaaAmO
namespace Go.AM
open Go

section
variable {P : Program} {F : Fr} {N : Nat} {Q : Exit → St → Prop} {st : St} {c : Code}

theorem T_if_true {x : Operand} {y z : Code} {b : Bool} (hc : aev st.s x = some (.bool b)) (hb : b = true) (h : T P F N y Q st) : T P F N (.cond x y z) Q st :=
  T_cond hc (fun _ => h) (fun h => by rw [hb] at h; cases h)
theorem T_if_false {x : Operand} {y z : Code} {b : Bool} (hc : aev st.s x = some (.bool b)) (hb : b = false) (h : T P F N z Q st) : T P F N (.cond x y z) Q st :=
  T_cond hc (fun h => by rw [hb] at h; cases h) (fun _ => h)

/-- A loop by a measure. -/
theorem TR_ind {α : Type} (inv : α → St) (I : α → Prop) (m : α → Nat) (x0 : α) (h0 : I x0)
    (h : ∀ x, I x → (∀ y, I y → m y < m x → ∀ st, st = inv y → TR P F N c Q st) → T P F N c (Post.seq (TR P F N c Q) Q) (inv x)) : TR P F N c Q (inv x0) := by
  have : ∀ n x, m x = n → I x → TR P F N c Q (inv x) := by
    intro n
    induction n using Nat.strongRecOn with
    | _ n ih =>
      intro x hx hI
      refine TR_step (h x hI fun y hy hlt st hst => ?_)
      subst hst
      exact ih (m y) (by omega) y rfl hy
  exact this _ x0 rfl h0

/-- A loop over a list. -/
theorem TR_list {α : Type} (xs : List α) (inv : List α → List α → St) (I : List α → Prop) (h0 : I [])
    (h : ∀ pre suf, xs = pre ++ suf → I pre → (∀ x r, suf = x :: r → I (pre ++ [x]) → ∀ st, st = inv (pre ++ [x]) r → TR P F N c Q st) →
      T P F N c (Post.seq (TR P F N c Q) Q) (inv pre suf)) : TR P F N c Q (inv [] xs) := by
  have : ∀ suf pre, xs = pre ++ suf → I pre → TR P F N c Q (inv pre suf) := by
    intro suf
    induction suf with
    | nil => intro pre hx hI; exact TR_step (h pre [] hx hI (fun x r e => by cases e))
    | cons x r ih =>
      intro pre hx hI
      refine TR_step (h pre (x :: r) hx hI (fun x' r' e hI' st hst => ?_))
      cases e
      subst hst
      exact ih (pre ++ [x]) (by simp [hx]) hI'
  exact this xs [] rfl h0

theorem T_mono_ret {Q' : Exit → St → Prop} (h : T P F N c Q' st) (hq : ∀ e s, Q' e s → Q e s) : T P F N c Q st := T_mono hq h
end

/-! ### Numbers and lists as values -/
def ai (n : Int) : AV := .int .i64 n
def ais (xs : List Int) : AV := .sl 1 (xs.map ai)
def aiss (xs : List (List Int)) : AV := .sl 1 (xs.map ais)

theorem get_mid {α : Type} (pre : List α) (x : α) (suf : List α) : (pre ++ x :: suf)[pre.length]? = some x := by simp
theorem get_map {α β : Type} {f : α → β} {xs : List α} {i : Nat} {x : α} (h : xs[i]? = some x) : (xs.map f)[i]? = some (f x) := by simp [h]
theorem set_mid {α : Type} (pre : List α) (x y : α) (suf : List α) : (pre ++ x :: suf).set pre.length y = pre ++ y :: suf := by simp

end Go.AM
