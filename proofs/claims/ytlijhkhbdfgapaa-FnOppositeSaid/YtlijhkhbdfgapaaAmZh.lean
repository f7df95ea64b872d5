/- The larger and the smaller of two numbers. -/
import Derived.Test.YtlijhkhbdfgapaaAmZg
import Derived.Test.YtlijhkhbdfgapaaAmPb
namespace Go.AM
open Go
section
variable {P : Program} {dst : Option Tmp} {x y : Operand} {t ty : TypeId} {pos : String} {after : Array Edge} {gd : Option (Nat × Bool)} {s : Slots} {h : Heap} {k k' : IntKind} {a b : Int} {tys : Array TypeId}
theorem exec_max (ρ : Operand → Value) : execOp ρ ⟨dst, .call ⟨.builtin .max, #[x, y], tys⟩, ty, pos, after, gd⟩ = (do pure (.value (← Builtin.max_ tys ty #[ρ x, ρ y]))) := by
  rw [BigFrame.execOp_builtin]
  simp only [List.map_toArray, List.map_cons, List.map_nil]
  rfl
theorem exec_min (ρ : Operand → Value) : execOp ρ ⟨dst, .call ⟨.builtin .min, #[x, y], tys⟩, ty, pos, after, gd⟩ = (do pure (.value (← Builtin.min_ tys ty #[ρ x, ρ y]))) := by
  rw [BigFrame.execOp_builtin]
  simp only [List.map_toArray, List.map_cons, List.map_nil]
  rfl
theorem op_max (hx : aev s x = some (.int k a)) (hy : aev s y = some (.int k' b)) : OpP P ⟨dst, .call ⟨.builtin .max, #[x, y], tys⟩, ty, pos, after, gd⟩ s h (.int k (max a b)) := by
  intro S w φ η ρ hh _ hρ
  have h1 := (hρ _ _ hx).int_inv
  have h2 := (hρ _ _ hy).int_inv
  refine ⟨.int k (max a b), fun w _ => ?_, .pure (.int _ _)⟩
  have e : max a b = if b > a then b else a := by
    by_cases hab : b > a
    · rw [if_pos hab]; omega
    · rw [if_neg hab]; omega
  rw [exec_max, h1, h2, e]
  rfl
theorem op_min (hx : aev s x = some (.int k a)) (hy : aev s y = some (.int k' b)) : OpP P ⟨dst, .call ⟨.builtin .min, #[x, y], tys⟩, ty, pos, after, gd⟩ s h (.int k (min a b)) := by
  intro S w φ η ρ hh _ hρ
  have h1 := (hρ _ _ hx).int_inv
  have h2 := (hρ _ _ hy).int_inv
  refine ⟨.int k (min a b), fun w _ => ?_, .pure (.int _ _)⟩
  have e : min a b = if b < a then b else a := by
    by_cases hab : b < a
    · rw [if_pos hab]; omega
    · rw [if_neg hab]; omega
  rw [exec_min, h1, h2, e]
  rfl
theorem wrap_u64 (n : Int) : IntKind.u64.wrap n = wu 64 n := rfl
theorem wrap_u8 (n : Int) : IntKind.u8.wrap n = wu 8 n := rfl
theorem wrap_i32 (n : Int) : IntKind.i32.wrap n = w32 n := by
  unfold w32
  by_cases h : n % 4294967296 ≥ 2147483648
  · have e : IntKind.i32.wrap n = n % 4294967296 - 4294967296 := by unfold IntKind.wrap; simp [IntKind.signed, IntKind.bits, h]
    rw [e]; omega
  · have e : IntKind.i32.wrap n = n % 4294967296 := by unfold IntKind.wrap; simp [IntKind.signed, IntKind.bits]; omega
    rw [e]; omega
section
variable {t' : TypeId} {W : Int → Int}
theorem op_addK (hw : ∀ n, k.wrap n = W n) (hx : aev s x = some (.int k a)) (hy : aev s y = some (.int k b)) : OpP P ⟨dst, .binOp .add t x y t', ty, pos, after, gd⟩ s h (.int k (W (a + b))) := by
  rw [← hw]; exact op_add hx hy
theorem op_subK (hw : ∀ n, k.wrap n = W n) (hx : aev s x = some (.int k a)) (hy : aev s y = some (.int k b)) : OpP P ⟨dst, .binOp .sub t x y t', ty, pos, after, gd⟩ s h (.int k (W (a - b))) := by
  rw [← hw]; exact op_sub hx hy
theorem op_mulK (hw : ∀ n, k.wrap n = W n) (hx : aev s x = some (.int k a)) (hy : aev s y = some (.int k b)) : OpP P ⟨dst, .binOp .mul t x y t', ty, pos, after, gd⟩ s h (.int k (W (a * b))) := by
  rw [← hw]; exact op_mul hx hy
theorem op_convK {t2 : TypeId} (hw : ∀ n, k.wrap n = W n) (h1 : ∃ d, P.underlying t = some d) (h2 : P.underlying t2 = some (.int k)) (hx : aev s x = some (.int k' a)) :
    OpP P ⟨dst, .convert t t2 x, ty, pos, after, gd⟩ s h (.int k (W a)) := by
  rw [← hw]; exact op_conv h1 h2 hx
theorem op_andU (hx : aev s x = some (.int .u64 a)) (hy : aev s y = some (.int .u64 b)) :
    OpP P ⟨dst, .binOp .and t x y t', ty, pos, after, gd⟩ s h (.int .u64 (andU 64 a b)) := by
  refine op_int hx hy ⟨.int .u64 (andU 64 a b), fun w => ?_, fun _ _ => .int _ _⟩
  simp [binOp, Op.intBits]
  rfl
theorem op_shrC {n : Nat} (hn : n = min b.toNat k.bits) (hb : 0 ≤ b) (hx : aev s x = some (.int k a)) (hy : aev s y = some (.int k' b)) :
    OpP P ⟨dst, .binOp .shr t x y t', ty, pos, after, gd⟩ s h (.int k (a.fdiv (2 ^ n))) := by
  intro S w φ η ρ hh _ hρ
  have h1 := (hρ _ _ hx).int_inv
  have h2 := (hρ _ _ hy).int_inv
  refine ⟨.int k (a.fdiv (2 ^ n)), fun w _ => ?_, .pure (.int _ _)⟩
  have e : ∀ w, (binOp .shr t (.int k a) (.int k' b)).run P w = .ok (.int k (a.fdiv (2 ^ n))) w := by
    intro w
    have : ¬ b < 0 := by omega
    subst hn
    simp [binOp, Op.shift, this]
  simp only [exec_binOp, h1, h2, Sem.run_bind, Sem.run_pure, eqGuard_int, e, Result.andThen_ok]
end
end
end Go.AM
