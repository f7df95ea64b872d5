/- Shifts and bits. -/
import Derived.Test.YtlijhkhbdfgapaaAmU
namespace Go.AM
open Go

section
variable {P : Program} {s : Slots} {h : Heap} {dst : Option Tmp} {ty : TypeId} {pos : String} {after : Array Edge} {gd : Option (Nat × Bool)}
variable {x y : Operand} {t t' : TypeId} {a b : Int} {k k' : IntKind}

def band (k : IntKind) (a b : Int) : Int := k.wrap (BitVec.ofInt k.bits a &&& BitVec.ofInt k.bits b).toNat

theorem op_int2 {op : BinOp} {r : AV} (hx : aev s x = some (.int k a)) (hy : aev s y = some (.int k' b))
    (hr : ∃ v, (∀ w, (binOp op t (.int k a) (.int k' b)).run P w = .ok v w) ∧ ∀ S w, RepT S w r v) :
    OpP P ⟨dst, .binOp op t x y t', ty, pos, after, gd⟩ s h r := by
  intro S w φ η ρ hh _ hρ
  have h1 := (hρ _ _ hx).int_inv
  have h2 := (hρ _ _ hy).int_inv
  obtain ⟨v, hv, hrep⟩ := hr
  refine ⟨v, fun w _ => ?_, .pure (hrep _ _)⟩
  simp only [exec_binOp, h1, h2, Sem.run_bind, Sem.run_pure, eqGuard_int, hv, Result.andThen_ok]

theorem op_shr (hx : aev s x = some (.int k a)) (hy : aev s y = some (.int k' b)) (hb : 0 ≤ b) :
    OpP P ⟨dst, .binOp .shr t x y t', ty, pos, after, gd⟩ s h (.int k (a.fdiv (2 ^ (min b.toNat k.bits)))) :=
  op_int2 hx hy ⟨.int k (a.fdiv (2 ^ (min b.toNat k.bits))), fun w => by
    have : ¬ b < 0 := by omega
    show (Op.shift .shr k a k' b).run P w = _
    unfold Op.shift
    rw [if_neg this]; rfl, fun _ _ => .int _ _⟩

theorem op_shl (hx : aev s x = some (.int k a)) (hy : aev s y = some (.int k' b)) (hb : 0 ≤ b) :
    OpP P ⟨dst, .binOp .shl t x y t', ty, pos, after, gd⟩ s h (.int k (k.wrap (a * 2 ^ (min b.toNat k.bits)))) :=
  op_int2 hx hy ⟨.int k (k.wrap (a * 2 ^ (min b.toNat k.bits))), fun w => by
    have : ¬ b < 0 := by omega
    show (Op.shift .shl k a k' b).run P w = _
    unfold Op.shift
    rw [if_neg this]; rfl, fun _ _ => .int _ _⟩

theorem op_and (hx : aev s x = some (.int k a)) (hy : aev s y = some (.int k b)) :
    OpP P ⟨dst, .binOp .and t x y t', ty, pos, after, gd⟩ s h (.int k (band k a b)) :=
  op_int2 hx hy ⟨.int k (band k a b), fun w => by
    show (if k ≠ k then _ else Op.intBits .and k a b : Sem Value).run P w = _
    rw [if_neg (by simp)]; rfl, fun _ _ => .int _ _⟩

theorem band255 (a : Int) : 0 ≤ band .u64 a 255 ∧ band .u64 a 255 ≤ 255 := by
  unfold band
  have h1 : (BitVec.ofInt IntKind.u64.bits a &&& BitVec.ofInt IntKind.u64.bits 255).toNat ≤ 255 := by
    rw [BitVec.toNat_and]
    exact Nat.and_le_right
  generalize (BitVec.ofInt IntKind.u64.bits a &&& BitVec.ofInt IntKind.u64.bits 255).toNat = n at h1
  have : IntKind.u64.wrap (n : Int) = n := by
    have e : (n : Int) % 18446744073709551616 = n := Int.emod_eq_of_lt (by omega) (by omega)
    unfold IntKind.wrap
    simp only [IntKind.signed, Bool.false_and, Bool.false_eq_true, if_false]
    exact e
  rw [this]; omega

end
end Go.AM
