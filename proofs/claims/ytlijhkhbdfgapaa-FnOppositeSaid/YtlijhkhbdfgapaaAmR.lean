/- Calls that hand back trees; states that are the same. -/
import Derived.Test.YtlijhkhbdfgapaaAmQ
namespace Go.AM
open Go

section
variable {P : Program} {F : Fr} {N : Nat} {Q : Exit → St → Prop} {st st' : St} {c : Code} {K : St → Prop} {ops : Array Oper} {l rest : List Oper} {ex : Bool}
variable {ty : TypeId} {pos : String} {after : Array Edge} {d : Nat} {s s' : Slots} {h h' : Heap}

/-- The state at which a loop over a list begins. -/
def at0 {α : Type} (xs : List α) (inv : List α → List α → St) : St := inv [] xs

theorem TR_cast (st' : St) (he : st = st') (k : TR P F N c Q st') : TR P F N c Q st := by subst he; exact k
theorem T_cast (st' : St) (he : st = st') (k : T P F N c Q st') : T P F N c Q st := by subst he; exact k
theorem TL_cast (st' : St) (he : st = st') (k : TLE ex P F N ops l K st') : TLE ex P F N ops l K st := by subst he; exact k

mutual
theorem renO_nil : ∀ (x : AV), noIds x = true → renO [] x = some x
  | .ow _, h => by cases h
  | .ptr _ _ _, h => by cases h
  | .mp _, h => by cases h
  | .sub _ _, h => by cases h
  | .agg cs, h => by unfold renO; rw [renL_nil cs (by simpa [noIds] using h)]
  | .tup cs, h => by unfold renO; rw [renL_nil cs (by simpa [noIds] using h)]
  | .fn f as bs, h => by
    simp only [noIds, Bool.and_eq_true] at h
    unfold renO; rw [renL_nil as h.1]; simp only; rw [renL_nil bs h.2]
  | .int _ _, _ => rfl
  | .bool _, _ => rfl
  | .str _, _ => rfl
  | .snil, _ => rfl
  | .sl _ _, _ => rfl
  | .cp _, _ => rfl
  | .nilp, _ => rfl
  | .nilf, _ => rfl
  | .junk, _ => rfl
theorem renL_nil : ∀ (xs : List AV), noIdsL xs = true → renL [] xs = some xs
  | [], _ => rfl
  | x :: r, h => by
    simp only [noIdsL, Bool.and_eq_true] at h
    unfold renL; rw [renO_nil x h.1]; simp only; rw [renL_nil r h.2]
end

theorem killSL_nil : killSL [] s = some s := by rfl
theorem killHL_nil : killHL [] h = some h := by rfl

/-- A call that is given trees and hands back a tree. -/
theorem TL_callT {f : FuncId} {args : Array Operand} {tys : Array TypeId} {zs : List AV} {r : AV} (hc : ACall P f zs [] r []) (hcall : ∀ args w, (callFunc f args).run P w = .ok (.enter f args) w)
    (hz : aevL s args.toList = some zs) (hn : noIdsL zs = true) (hr : noIds r = true) (hN : Nat.blt d N = true) (hs : sput s d r = some s')
    (k : TLE ex P F N ops rest K ⟨s', h⟩) : TLE ex P F N ops (⟨some d, .call ⟨.value (.func f), args, tys⟩, ty, pos, after, none⟩ :: rest) K ⟨s, h⟩ :=
  TLE_call [] [] [] hc (fun _ => rfl) hcall hz rfl (renL_nil _ hn) rfl rfl trivial rfl rfl rfl rfl (renO_nil _ hr) rfl killSL_nil killHL_nil rfl hN hs k

end
end Go.AM
