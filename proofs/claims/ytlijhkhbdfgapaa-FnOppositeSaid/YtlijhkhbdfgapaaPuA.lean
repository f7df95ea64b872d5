/- Terms: sizes, copies, comparisons, marks. Plain Lean. -/
import Derived.Test.YtlijhkhbdfgapaaAmPc
import Derived.Test.YtlijhkhbdfgapaaModTe
namespace Go.Mod
open Go.AM
set_option linter.unusedVariables false

/-! ### Lists of numbers -/
theorem sz_ints {xs : List Int} (hl : xs.length ≤ 9223372036854775807) : SzP m_laws_szInt64S List.length xs := fun _ hb => sz_flat hl hb
theorem to_ints {xs : List Int} (hl : xs.length ≤ 1048576) : m_laws_toInt64S xs = some xs := by
  unfold m_laws_toInt64S
  rw [makeI_some (by omega), Option.bind_some, iter_to (xs := xs) (z := 0) (cp := some)
    (fun n x ys hx => by unfold m_laws_toInt64S_L0; rw [dec_lt (get_lt hx), cond_true, getI_some hx]; rfl)
    (fun ys => by unfold m_laws_toInt64S_L0; rw [dec_self]; rfl) hl (fun _ _ => rfl)]
  rfl
theorem eq_ints {xs ys : List Int} (hl : xs.length ≤ 9223372036854775807) : m_laws_eqInt64S xs ys = some (decide (xs = ys)) := by
  unfold m_laws_eqInt64S
  by_cases h : xs.length = ys.length
  · rw [decide_eq_true (by omega), Bool.not_true, cond_false, iter_eq (xs := xs) (ys := ys) (eq := fun x y => some (decide (x = y)))
      (fun n x y hx hy => by unfold m_laws_eqInt64S_L0; rw [dec_lt (get_lt hx), cond_true, getI_some hx, getI_some hy]; rfl)
      (by unfold m_laws_eqInt64S_L0; rw [dec_self]; rfl) hl h (fun _ _ _ => rfl)]
    by_cases e : xs = ys
    · rw [if_pos e, decide_eq_true e]; rfl
    · rw [if_neg e, decide_eq_false e]; rfl
  · rw [decide_eq_false (by omega), decide_eq_false (fun e => h (by rw [e]))]; rfl
theorem sum_one {α : Type} (xs : List α) : (xs.map fun _ => 1).sum = xs.length := by
  induction xs with
  | nil => rfl
  | cons x r ih => simp only [List.map_cons, List.sum_cons, List.length_cons, ih]; omega
def heldI (x k : Int) : Option Int := some (bif !decide (x = k) then -1 else w64 (k + 1))
def markI (_x k : Int) : Option (Int × Int) := some (w64 (k + 1), k)
theorem mk_I (x : Int) : MkP markI heldI (fun _ => 1) x := fun k hk => by
  have h : w64 ((k : Int) + 1) = ((k + 1 : Nat) : Int) := w64_succ (by omega)
  refine ⟨k, ?_, ?_⟩
  · unfold markI; rw [h]
  · unfold heldI; rw [decide_eq_true (rfl : (k : Int) = k), Bool.not_true, cond_false, h]
theorem mk_ints {xs : List Int} (hl : xs.length ≤ 1048576) {k : Nat} (hk : k ≤ 1125899906842624) :
    ∃ xs', m_laws_markInt64S xs k = some (((k + xs.length : Nat) : Int), xs') ∧ m_laws_heldInt64S xs' k = some ((k + xs.length : Nat) : Int) := by
  obtain ⟨xs', h1, h2, h3⟩ := iter_mark (xs := xs) (m := fun _ => 1) (mk := markI) (held := heldI)
    (step := m_laws_markInt64S_L0) (hstep := m_laws_heldInt64S_L0)
    (fun n ys x k hk hx => by unfold m_laws_markInt64S_L0; rw [dec_lt (get_lt hx), cond_true, getI_some hx]; rfl)
    (fun ys k => by unfold m_laws_markInt64S_L0; rw [dec_self]; rfl)
    (fun n ys x k hk hx => by
      unfold m_laws_heldInt64S_L0 heldI; rw [dec_lt (get_lt hx), cond_true, getI_some hx, Option.bind_some, Option.bind_some]
      have h2 : w64 ((k : Int) + 1) = ((k + 1 : Nat) : Int) := w64_succ (by omega)
      by_cases h : x = k
      · rw [decide_eq_true h, Bool.not_true, cond_false, cond_false, h2, decide_eq_false (by omega), cond_false]
      · rw [decide_eq_false h, Bool.not_false, cond_true, cond_true, decide_eq_true (by decide), cond_true])
    (fun ys k => by unfold m_laws_heldInt64S_L0; rw [dec_self]; rfl)
    (by omega) (fun x _ => mk_I x) (k := k) (by rw [sum_one]; omega)
  rw [sum_one] at h1 h3
  exact ⟨xs', by unfold m_laws_markInt64S; rw [h1]; rfl, by unfold m_laws_heldInt64S; rw [h3]; rfl⟩

/-! ### Terms -/
def cTerm (t : Term) : Nat := t.Coeffs.length
theorem sz_Term {t : Term} (hl : t.Coeffs.length ≤ 9223372036854775807) : SzP m_laws_szTerm cTerm t := fun b hb => by
  unfold m_laws_szTerm
  rw [sz_ints hl b hb, Option.bind_some]
  by_cases h : t.Coeffs.length ≤ b
  · rw [show szOut (cTerm t) b = _ from szOut_ok h, szOut_ok h, decide_eq_false (by omega)]; rfl
  · rw [show szOut (cTerm t) b = _ from szOut_no h, szOut_no h]; rfl
theorem to_Term {t : Term} (hl : cTerm t ≤ 1048576) : m_laws_toTerm t = some t := by
  unfold m_laws_toTerm; rw [to_ints hl]; rfl
theorem eq_Term {x y : Term} (hl : cTerm x ≤ 1048576) : m_laws_eqTerm x y = some (decide (x = y)) := by
  unfold m_laws_eqTerm
  unfold cTerm at hl
  rw [eq_ints (by omega), Option.bind_some]
  obtain ⟨a, as⟩ := x
  obtain ⟨b, bs⟩ := y
  by_cases h1 : a = b <;> by_cases h2 : as = bs <;> simp [h1, h2]
theorem mk_Term {t : Term} (hl : cTerm t ≤ 1048576) {k : Nat} (hk : k ≤ 1125899906842624) :
    ∃ r, m_laws_markTerm t k = some (((k + cTerm t : Nat) : Int), r) ∧ m_laws_heldTerm (Term.mk t.Const r) k = some ((k + cTerm t : Nat) : Int) := by
  obtain ⟨r, h1, h2⟩ := mk_ints hl hk
  refine ⟨r, ?_, ?_⟩
  · unfold m_laws_markTerm; rw [h1]; rfl
  · unfold m_laws_heldTerm; rw [h2, Option.bind_some, decide_eq_false (by omega)]; rfl
end Go.Mod
