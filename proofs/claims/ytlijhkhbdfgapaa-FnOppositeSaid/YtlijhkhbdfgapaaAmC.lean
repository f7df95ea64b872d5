/- Operations that leave the world alone: their abstract values. -/
import Derived.Test.YtlijhkhbdfgapaaAmB
import Derived.Laws.Slices
import Derived.Laws.Strings
import Derived.IntWalk
import Derived.ChangeKeysEq
namespace Go.AM
open Go

section
variable {P : Program} {s : Slots} {h : Heap} {dst : Option Tmp} {ty : TypeId} {pos : String} {after : Array Edge} {gd : Option (Nat × Bool)}

theorem op_move {y : Operand} {z : AV} (hy : aev s y = some z) : OpP P ⟨dst, .move y, ty, pos, after, gd⟩ s h z :=
  fun _ _ _ _ _ _ _ hρ => ⟨_, fun _ _ => rfl, hρ _ _ hy⟩

theorem op_assign {y : Operand} {z : AV} (hy : aev s y = some z) : OpP P ⟨dst, .assign y, ty, pos, after, gd⟩ s h z :=
  fun _ _ _ _ _ _ _ hρ => ⟨_, fun _ _ => rfl, hρ _ _ hy⟩

/-- 'pick' at a test that is known. -/
theorem op_pick_true {c x y : Operand} {z : AV} (hc : aev s c = some (.bool true)) (hx : aev s x = some z) :
    OpP P ⟨dst, .pick c x y, ty, pos, after, gd⟩ s h z := by
  intro S w φ η ρ hh _ hρ
  have h1 := (hρ _ _ hc).bool_inv
  exact ⟨ρ x, fun w _ => by simp [execOp, h1, asBool], hρ _ _ hx⟩

theorem op_pick_false {c x y : Operand} {z : AV} (hc : aev s c = some (.bool false)) (hy : aev s y = some z) :
    OpP P ⟨dst, .pick c x y, ty, pos, after, gd⟩ s h z := by
  intro S w φ η ρ hh _ hρ
  have h1 := (hρ _ _ hc).bool_inv
  exact ⟨ρ y, fun w _ => by simp [execOp, h1, asBool], hρ _ _ hy⟩

theorem op_not {y : Operand} {b : Bool} {t : TypeId} (hy : aev s y = some (.bool b)) :
    OpP P ⟨dst, .unOp .not t y, ty, pos, after, gd⟩ s h (.bool (!b)) := by
  intro S w φ η ρ hh _ hρ
  have h1 := (hρ _ _ hy).bool_inv
  exact ⟨.bool (!b), fun w _ => by show (do pure (.value (← Op.unary .not (ρ y))) : Sem Next).run P w = _; simp only [Op.unary, h1, Sem.run_bind, Sem.run_pure, Result.andThen_ok], .pure (.bool _)⟩

/-! ### Whole numbers -/

theorem wrap_i64 {n : Int} (h : -9223372036854775808 ≤ n ∧ n ≤ 9223372036854775807) : IntKind.i64.wrap n = n := IntWalk.i64_in n h

variable {x y : Operand} {t t' : TypeId} {a b : Int} {k : IntKind}

theorem eqGuard_int (op : BinOp) (w : World) (k : IntKind) (n : Int) (v : Value) : (eqGuard op t x y (.int k n) v).run P w = .ok () w := by
  have : eqGuard op t x y (.int k n) v = pure () := by cases op <;> rfl
  rw [this]; rfl

theorem eqGuard_bool (op : BinOp) (w : World) (b : Bool) (v : Value) : (eqGuard op t x y (.bool b) v).run P w = .ok () w := by
  have : eqGuard op t x y (.bool b) v = pure () := by cases op <;> rfl
  rw [this]; rfl

theorem eqGuard_str (op : BinOp) (w : World) (b : ByteArray) (v : Value) : (eqGuard op t x y (.string b) v).run P w = .ok () w := by
  have : eqGuard op t x y (.string b) v = pure () := by cases op <;> rfl
  rw [this]; rfl

theorem eqGuard_ptr (op : BinOp) (w : World) (b : Option Addr) (v : Value) : (eqGuard op t x y (.pointer b) v).run P w = .ok () w := by
  have : eqGuard op t x y (.pointer b) v = pure () := by cases op <;> rfl
  rw [this]; rfl

theorem exec_binOp (ρ : Operand → Value) (op : BinOp) : execOp ρ ⟨dst, .binOp op t x y t', ty, pos, after, gd⟩ =
    (do pure (.value (← (do eqGuard op t x y (ρ x) (ρ y); binOp op t (ρ x) (ρ y))))) := rfl
theorem exec_unOp (ρ : Operand → Value) (op : UnOp) : execOp ρ ⟨dst, .unOp op t x, ty, pos, after, gd⟩ = (do pure (.value (← Op.unary op (ρ x)))) := rfl
theorem exec_len (ρ : Operand → Value) : execOp ρ ⟨dst, .call ⟨.builtin .len, #[x], #[t]⟩, ty, pos, after, gd⟩ = (do pure (.value (← Builtin.len_ #[t] ty #[ρ x]))) := by
  rw [BigFrame.execOp_builtin, BigFrame.builtin_len]
  simp only [List.map_toArray, List.map_cons, List.map_nil]
theorem size_mk (l : List UInt8) : (ByteArray.mk l.toArray).size = l.length := by show l.toArray.size = _; simp
theorem exec_index (ρ : Operand → Value) : execOp ρ ⟨dst, .index t x y, ty, pos, after, gd⟩ = (do pure (.value (← Instr.index t (ρ x) (ρ y)))) := rfl

theorem op_int {op : BinOp} {r : AV} (hx : aev s x = some (.int k a)) (hy : aev s y = some (.int k b))
    (hr : ∃ v, (∀ w, (binOp op t (.int k a) (.int k b)).run P w = .ok v w) ∧ ∀ S w, RepT S w r v) :
    OpP P ⟨dst, .binOp op t x y t', ty, pos, after, gd⟩ s h r := by
  intro S w φ η ρ hh _ hρ
  have h1 := (hρ _ _ hx).int_inv
  have h2 := (hρ _ _ hy).int_inv
  obtain ⟨v, hv, hrep⟩ := hr
  refine ⟨v, fun w _ => ?_, .pure (hrep _ _)⟩
  simp only [exec_binOp, h1, h2, Sem.run_bind, Sem.run_pure, eqGuard_int, hv, Result.andThen_ok]

theorem op_add (hx : aev s x = some (.int k a)) (hy : aev s y = some (.int k b)) :
    OpP P ⟨dst, .binOp .add t x y t', ty, pos, after, gd⟩ s h (.int k (k.wrap (a + b))) :=
  op_int hx hy ⟨.int k (k.wrap (a + b)), fun w => by simp [binOp, Op.intArith], fun _ _ => .int _ _⟩

theorem op_sub (hx : aev s x = some (.int k a)) (hy : aev s y = some (.int k b)) :
    OpP P ⟨dst, .binOp .sub t x y t', ty, pos, after, gd⟩ s h (.int k (k.wrap (a - b))) :=
  op_int hx hy ⟨.int k (k.wrap (a - b)), fun w => by simp [binOp, Op.intArith], fun _ _ => .int _ _⟩

theorem op_mul (hx : aev s x = some (.int k a)) (hy : aev s y = some (.int k b)) :
    OpP P ⟨dst, .binOp .mul t x y t', ty, pos, after, gd⟩ s h (.int k (k.wrap (a * b))) :=
  op_int hx hy ⟨.int k (k.wrap (a * b)), fun w => by simp [binOp, Op.intArith], fun _ _ => .int _ _⟩

/-- The sum, where it fits. -/
theorem op_add64 (hx : aev s x = some (.int .i64 a)) (hy : aev s y = some (.int .i64 b)) (hf : -9223372036854775808 ≤ a + b ∧ a + b ≤ 9223372036854775807) :
    OpP P ⟨dst, .binOp .add t x y t', ty, pos, after, gd⟩ s h (.int .i64 (a + b)) := by
  have := op_add (P := P) (h := h) (dst := dst) (ty := ty) (pos := pos) (after := after) (gd := gd) (t := t) (t' := t') hx hy
  rwa [wrap_i64 hf] at this

theorem op_sub64 (hx : aev s x = some (.int .i64 a)) (hy : aev s y = some (.int .i64 b)) (hf : -9223372036854775808 ≤ a - b ∧ a - b ≤ 9223372036854775807) :
    OpP P ⟨dst, .binOp .sub t x y t', ty, pos, after, gd⟩ s h (.int .i64 (a - b)) := by
  have := op_sub (P := P) (h := h) (dst := dst) (ty := ty) (pos := pos) (after := after) (gd := gd) (t := t) (t' := t') hx hy
  rwa [wrap_i64 hf] at this

theorem op_mul64 (hx : aev s x = some (.int .i64 a)) (hy : aev s y = some (.int .i64 b)) (hf : -9223372036854775808 ≤ a * b ∧ a * b ≤ 9223372036854775807) :
    OpP P ⟨dst, .binOp .mul t x y t', ty, pos, after, gd⟩ s h (.int .i64 (a * b)) := by
  have := op_mul (P := P) (h := h) (dst := dst) (ty := ty) (pos := pos) (after := after) (gd := gd) (t := t) (t' := t') hx hy
  rwa [wrap_i64 hf] at this

theorem op_quo (hx : aev s x = some (.int k a)) (hy : aev s y = some (.int k b)) (hb : b ≠ 0) :
    OpP P ⟨dst, .binOp .quo t x y t', ty, pos, after, gd⟩ s h (.int k (k.wrap (a.tdiv b))) :=
  op_int hx hy ⟨.int k (k.wrap (a.tdiv b)), fun w => by simp [binOp, Op.intDiv, hb], fun _ _ => .int _ _⟩

theorem op_quo64 (hx : aev s x = some (.int .i64 a)) (hy : aev s y = some (.int .i64 b)) (hb : b ≠ 0)
    (hf : -9223372036854775808 ≤ a.tdiv b ∧ a.tdiv b ≤ 9223372036854775807) :
    OpP P ⟨dst, .binOp .quo t x y t', ty, pos, after, gd⟩ s h (.int .i64 (a.tdiv b)) := by
  have := op_quo (P := P) (h := h) (dst := dst) (ty := ty) (pos := pos) (after := after) (gd := gd) (t := t) (t' := t') hx hy hb
  rwa [wrap_i64 hf] at this

theorem op_rem (hx : aev s x = some (.int k a)) (hy : aev s y = some (.int k b)) (hb : b ≠ 0) :
    OpP P ⟨dst, .binOp .rem t x y t', ty, pos, after, gd⟩ s h (.int k (a.tmod b)) :=
  op_int hx hy ⟨.int k (a.tmod b), fun w => by simp [binOp, Op.intDiv, hb], fun _ _ => .int _ _⟩

theorem op_lss (hx : aev s x = some (.int k a)) (hy : aev s y = some (.int k b)) :
    OpP P ⟨dst, .binOp .lss t x y t', ty, pos, after, gd⟩ s h (.bool (decide (a < b))) :=
  op_int hx hy ⟨.bool (decide (a < b)), fun w => by simp [binOp, Op.intCmp], fun _ _ => .bool _⟩

theorem op_leq (hx : aev s x = some (.int k a)) (hy : aev s y = some (.int k b)) :
    OpP P ⟨dst, .binOp .leq t x y t', ty, pos, after, gd⟩ s h (.bool (decide (a ≤ b))) :=
  op_int hx hy ⟨.bool (decide (a ≤ b)), fun w => by simp [binOp, Op.intCmp], fun _ _ => .bool _⟩

theorem op_gtr (hx : aev s x = some (.int k a)) (hy : aev s y = some (.int k b)) :
    OpP P ⟨dst, .binOp .gtr t x y t', ty, pos, after, gd⟩ s h (.bool (decide (b < a))) :=
  op_int hx hy ⟨.bool (decide (b < a)), fun w => by simp [binOp, Op.intCmp], fun _ _ => .bool _⟩

theorem op_geq (hx : aev s x = some (.int k a)) (hy : aev s y = some (.int k b)) :
    OpP P ⟨dst, .binOp .geq t x y t', ty, pos, after, gd⟩ s h (.bool (decide (b ≤ a))) :=
  op_int hx hy ⟨.bool (decide (b ≤ a)), fun w => by simp [binOp, Op.intCmp], fun _ _ => .bool _⟩

theorem op_eql (hx : aev s x = some (.int k a)) (hy : aev s y = some (.int k b)) :
    OpP P ⟨dst, .binOp .eql t x y t', ty, pos, after, gd⟩ s h (.bool (decide (a = b))) :=
  op_int hx hy ⟨.bool (decide (a = b)), fun w => by
    have : (a == b) = decide (a = b) := by rw [Bool.eq_iff_iff]; simp
    simp [binOp, Op.intCmp, this], fun _ _ => .bool _⟩

theorem op_neq (hx : aev s x = some (.int k a)) (hy : aev s y = some (.int k b)) :
    OpP P ⟨dst, .binOp .neq t x y t', ty, pos, after, gd⟩ s h (.bool (!decide (a = b))) :=
  op_int hx hy ⟨.bool (!decide (a = b)), fun w => by
    have : (a != b) = !decide (a = b) := by rw [Bool.eq_iff_iff]; simp
    simp [binOp, Op.intCmp, this], fun _ _ => .bool _⟩

theorem op_neg64 (hx : aev s x = some (.int .i64 a)) (hf : -9223372036854775807 ≤ a ∧ a ≤ 9223372036854775807) :
    OpP P ⟨dst, .unOp .neg t x, ty, pos, after, gd⟩ s h (.int .i64 (-a)) := by
  intro S w φ η ρ hh _ hρ
  have h1 := (hρ _ _ hx).int_inv
  have : IntKind.i64.wrap (0 - a) = -a := by rw [wrap_i64 (by omega)]; omega
  exact ⟨.int .i64 (-a), fun w _ => by simp only [exec_unOp, Op.unary, Op.intArith, h1, this, Sem.run_bind, Sem.run_pure, Result.andThen_ok], .pure (.int _ _)⟩

theorem op_neg (hx : aev s x = some (.int k a)) : OpP P ⟨dst, .unOp .neg t x, ty, pos, after, gd⟩ s h (.int k (k.wrap (0 - a))) := by
  intro S w φ η ρ hh _ hρ
  have h1 := (hρ _ _ hx).int_inv
  exact ⟨.int k (k.wrap (0 - a)), fun w _ => by simp only [exec_unOp, Op.unary, Op.intArith, h1, Sem.run_bind, Sem.run_pure, Result.andThen_ok], .pure (.int _ _)⟩

/-! ### Bools and strings -/

theorem op_eqlB {c d : Bool} (ht : P.underlying t = some .bool) (hx : aev s x = some (.bool c)) (hy : aev s y = some (.bool d)) :
    OpP P ⟨dst, .binOp .eql t x y t', ty, pos, after, gd⟩ s h (.bool (c == d)) := by
  intro S w φ η ρ hh _ hρ
  have h1 := (hρ _ _ hx).bool_inv
  have h2 := (hρ _ _ hy).bool_inv
  refine ⟨.bool (c == d), fun w _ => ?_, .pure (.bool _)⟩
  have e : binOp .eql t (.bool c) (.bool d) = (do pure (.bool (← Op.equal t (.bool c) (.bool d)))) := rfl
  have r : (Op.equal t (.bool c) (.bool d)).run P w = .ok (c == d) w := run_equalIn_bool w 9999 t c d ht
  simp only [exec_binOp, h1, h2, e, r, Sem.run_bind, Sem.run_pure, eqGuard_bool, Result.andThen_ok]

theorem op_neqB {c d : Bool} (ht : P.underlying t = some .bool) (hx : aev s x = some (.bool c)) (hy : aev s y = some (.bool d)) :
    OpP P ⟨dst, .binOp .neq t x y t', ty, pos, after, gd⟩ s h (.bool (!(c == d))) := by
  intro S w φ η ρ hh _ hρ
  have h1 := (hρ _ _ hx).bool_inv
  have h2 := (hρ _ _ hy).bool_inv
  refine ⟨.bool (!(c == d)), fun w _ => ?_, .pure (.bool _)⟩
  have e : binOp .neq t (.bool c) (.bool d) = (do pure (.bool (!(← Op.equal t (.bool c) (.bool d))))) := rfl
  have r : (Op.equal t (.bool c) (.bool d)).run P w = .ok (c == d) w := run_equalIn_bool w 9999 t c d ht
  simp only [exec_binOp, h1, h2, e, r, Sem.run_bind, Sem.run_pure, eqGuard_bool, Result.andThen_ok]

theorem op_eqlS {c d : List UInt8} (hx : aev s x = some (.str c)) (hy : aev s y = some (.str d)) :
    OpP P ⟨dst, .binOp .eql t x y t', ty, pos, after, gd⟩ s h (.bool (decide (c = d))) := by
  intro S w φ η ρ hh _ hρ
  have h1 := (hρ _ _ hx).str_inv
  have h2 := (hρ _ _ hy).str_inv
  refine ⟨.bool (decide (c = d)), fun w _ => ?_, .pure (.bool _)⟩
  have : (c == d) = decide (c = d) := by rw [Bool.eq_iff_iff]; simp
  have e : binOp .eql t (.string ⟨c.toArray⟩) (.string ⟨d.toArray⟩) = pure (.bool ((ByteArray.mk c.toArray).toList == (ByteArray.mk d.toArray).toList)) := rfl
  simp only [exec_binOp, h1, h2, e, Sem.run_bind, Sem.run_pure, eqGuard_str, Result.andThen_ok, ByteArray.toList_mk, this]

theorem op_neqS {c d : List UInt8} (hx : aev s x = some (.str c)) (hy : aev s y = some (.str d)) :
    OpP P ⟨dst, .binOp .neq t x y t', ty, pos, after, gd⟩ s h (.bool (!decide (c = d))) := by
  intro S w φ η ρ hh _ hρ
  have h1 := (hρ _ _ hx).str_inv
  have h2 := (hρ _ _ hy).str_inv
  refine ⟨.bool (!decide (c = d)), fun w _ => ?_, .pure (.bool _)⟩
  have : (c == d) = decide (c = d) := by rw [Bool.eq_iff_iff]; simp
  have e : binOp .neq t (.string ⟨c.toArray⟩) (.string ⟨d.toArray⟩) = pure (.bool (!((ByteArray.mk c.toArray).toList == (ByteArray.mk d.toArray).toList))) := rfl
  simp only [exec_binOp, h1, h2, e, Sem.run_bind, Sem.run_pure, eqGuard_str, Result.andThen_ok, ByteArray.toList_mk, this]

theorem op_addS {c d : List UInt8} (hx : aev s x = some (.str c)) (hy : aev s y = some (.str d)) (hl : c.length + d.length ≤ 9223372036854775807) :
    OpP P ⟨dst, .binOp .add t x y t', ty, pos, after, gd⟩ s h (.str (c ++ d)) := by
  intro S w φ η ρ hh _ hρ
  have h1 := (hρ _ _ hx).str_inv
  have h2 := (hρ _ _ hy).str_inv
  refine ⟨.string ⟨(c ++ d).toArray⟩, fun w _ => ?_, .pure (.str _)⟩
  have e : (ByteArray.mk c.toArray) ++ (ByteArray.mk d.toArray) = ByteArray.mk (c ++ d).toArray := by
    apply ByteArray.ext; simp
  have n : ¬ ((((ByteArray.mk c.toArray).size + (ByteArray.mk d.toArray).size : Nat) : Int) > IntKind.i64.max) := by
    rw [size_mk, size_mk]; simp; omega
  have r : (binOp .add t (.string ⟨c.toArray⟩) (.string ⟨d.toArray⟩)).run P w = .ok (.string ⟨(c ++ d).toArray⟩) w := by
    show (if ((((ByteArray.mk c.toArray).size + (ByteArray.mk d.toArray).size : Nat) : Int) > IntKind.i64.max) then _ else pure (Value.string _) : Sem Value).run P w = _
    rw [if_neg n, e]; rfl
  simp only [exec_binOp, h1, h2, r, Sem.run_bind, Sem.run_pure, eqGuard_str, Result.andThen_ok]

/-- len of a string. -/
theorem op_lenS {c : List UInt8} (ht : P.underlying t = some .string) (hx : aev s x = some (.str c)) :
    OpP P ⟨dst, .call ⟨.builtin .len, #[x], #[t]⟩, ty, pos, after, gd⟩ s h (.int .i64 c.length) := by
  intro S w φ η ρ hh _ hρ
  have h1 := (hρ _ _ hx).str_inv
  refine ⟨.int .i64 c.length, fun w _ => ?_, .pure (.int _ _)⟩
  have r : (Builtin.len_ #[t] ty #[Value.string ⟨c.toArray⟩]).run P w = .ok (.int .i64 c.length) w := by
    unfold Builtin.len_
    simp [run_underlying ht, goInt, size_mk]
  simp only [exec_len, h1, r, Sem.run_bind, Sem.run_pure, Result.andThen_ok]

/-- A byte of a string. -/
theorem op_indexS {c : List UInt8} {i : Nat} {u : UInt8} (ht : P.underlying t = some .string) (hx : aev s x = some (.str c)) (hy : aev s y = some (.int k a))
    (hi : a = i) (hu : c[i]? = some u) : OpP P ⟨dst, .index t x y, ty, pos, after, gd⟩ s h (.int .u8 u.toNat) := by
  intro S w φ η ρ hh _ hρ
  have h1 := (hρ _ _ hx).str_inv
  have h2 := (hρ _ _ hy).int_inv
  subst hi
  refine ⟨.int .u8 u.toNat, fun w _ => ?_, .pure (.int _ _)⟩
  obtain ⟨hlt, hu'⟩ := List.getElem?_eq_some_iff.1 hu
  have hb : (if (0 : Int) ≤ (i : Int) then (ByteArray.mk c.toArray)[(i : Int).toNat]? else none) = some u := by
    rw [if_pos (Int.natCast_nonneg i), Int.toNat_natCast]
    have hsz : i < (ByteArray.mk c.toArray).size := by rw [size_mk]; exact hlt
    rw [getElem?_pos (ByteArray.mk c.toArray) i hsz]
    congr 1
  have r : (Instr.index t (.string ⟨c.toArray⟩) (.int k (i : Int))).run P w = .ok (.int .u8 u.toNat) w := by
    unfold Instr.index
    simp only [asIntOf, Sem.run_bind, Sem.run_pure, Result.andThen_ok, run_underlying ht]
    rw [hb]
    rfl
  simp only [exec_index, h1, h2, r, Sem.run_bind, Sem.run_pure, Result.andThen_ok]

end
end Go.AM
