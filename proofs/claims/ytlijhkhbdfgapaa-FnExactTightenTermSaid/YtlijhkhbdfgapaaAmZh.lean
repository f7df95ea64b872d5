/- The larger and the smaller of two numbers. -/
import Derived.Test.YtlijhkhbdfgapaaAmZg
namespace Go.AM
open Go
section
variable {P : Program} {dst : Option Tmp} {x y : Operand} {t ty : TypeId} {pos : String} {after : Array Edge} {gd : Option (Nat × Bool)} {s : Slots} {h : Heap} {k k' : IntKind} {a b : Int} {tys : Array TypeId}
theorem exec_max (ρ : Operand → Value) : execOp ρ ⟨dst, .call ⟨.builtin .max, #[x, y], tys⟩, ty, pos, after, gd⟩ = (do pure (.value (← Builtin.max_ tys ty #[ρ x, ρ y]))) := by
  rw [BigFrame.execOp_builtin]
  simp only [List.map_toArray, List.map_cons, List.map_nil]
  rfl
theorem exec_min (ρ : Operand → Value) : execOp ρ ⟨dst, .call ⟨.builtin .min, #[x, y], tys⟩, ty, pos, after, gd⟩ = (do pure (.value (← Builtin.min_ tys ty #[ρ x, ρ y]))) := by
  rw [BigFrame.execOp_builtin]
  simp only [List.map_toArray, List.map_cons, List.map_nil]
  rfl
theorem op_max (hx : aev s x = some (.int k a)) (hy : aev s y = some (.int k' b)) : OpP P ⟨dst, .call ⟨.builtin .max, #[x, y], tys⟩, ty, pos, after, gd⟩ s h (.int k (max a b)) := by
  intro S w φ η ρ hh _ hρ
  have h1 := (hρ _ _ hx).int_inv
  have h2 := (hρ _ _ hy).int_inv
  refine ⟨.int k (max a b), fun w _ => ?_, .pure (.int _ _)⟩
  have e : max a b = if b > a then b else a := by
    by_cases hab : b > a
    · rw [if_pos hab]; omega
    · rw [if_neg hab]; omega
  rw [exec_max, h1, h2, e]
  rfl
theorem op_min (hx : aev s x = some (.int k a)) (hy : aev s y = some (.int k' b)) : OpP P ⟨dst, .call ⟨.builtin .min, #[x, y], tys⟩, ty, pos, after, gd⟩ s h (.int k (min a b)) := by
  intro S w φ η ρ hh _ hρ
  have h1 := (hρ _ _ hx).int_inv
  have h2 := (hρ _ _ hy).int_inv
  refine ⟨.int k (min a b), fun w _ => ?_, .pure (.int _ _)⟩
  have e : min a b = if b < a then b else a := by
    by_cases hab : b < a
    · rw [if_pos hab]; omega
    · rw [if_neg hab]; omega
  rw [exec_min, h1, h2, e]
  rfl
end
end Go.AM
