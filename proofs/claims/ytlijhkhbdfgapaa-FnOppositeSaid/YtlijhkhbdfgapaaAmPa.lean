/- Loops as functions, and reckoning that may fail: plain Lean. -/
namespace Go.AM

inductive Ctl (σ τ : Type) where
  | next (s : σ)
  | out (t : τ)

def forL {α σ τ : Type} (step : Nat → α → σ → Option (Ctl σ τ)) (fin : σ → τ) : Nat → List α → σ → Option τ
  | _, [], s => some (fin s)
  | n, x :: r, s => match step n x s with
    | none => none
    | some (.next s') => forL step fin (n + 1) r s'
    | some (.out t) => some t

def iterN {σ τ : Type} (step : σ → Option (Ctl σ τ)) : Nat → σ → Option τ
  | 0, _ => none
  | n + 1, s => match step s with
    | none => none
    | some (.next s') => iterN step n s'
    | some (.out t) => some t

theorem iterN_mono {σ τ : Type} {step : σ → Option (Ctl σ τ)} : ∀ {n m : Nat} {s : σ} {t : τ}, n ≤ m → iterN step n s = some t → iterN step m s = some t := by
  intro n
  induction n with
  | zero => intro m s t _ h; cases h
  | succ n ih =>
    intro m s t hm h
    obtain ⟨k, rfl⟩ : ∃ k, m = k + 1 := ⟨m - 1, by omega⟩
    unfold iterN at h ⊢
    cases hs : step s with
    | none => rw [hs] at h; cases h
    | some c =>
      rw [hs] at h
      cases c with
      | next s' => exact ih (by omega) h
      | out t' => exact h

open Classical in
/-- A loop that ends when its round says so. -/
noncomputable def iter {σ τ : Type} (step : σ → Option (Ctl σ τ)) (s : σ) : Option τ :=
  if h : ∃ t, ∃ n, iterN step n s = some t then some (Classical.choose h) else none

theorem iter_iff {σ τ : Type} {step : σ → Option (Ctl σ τ)} {s : σ} {t : τ} : iter step s = some t ↔ ∃ n, iterN step n s = some t := by
  unfold iter
  constructor
  · intro h
    split at h
    · rename_i hex
      cases h
      exact Classical.choose_spec hex
    · cases h
  · rintro ⟨n, hn⟩
    have hex : ∃ t, ∃ n, iterN step n s = some t := ⟨t, n, hn⟩
    rw [dif_pos hex]
    obtain ⟨m, hm⟩ := Classical.choose_spec hex
    have h1 := iterN_mono (Nat.le_max_left n m) hn
    have h2 := iterN_mono (Nat.le_max_right n m) hm
    rw [h1] at h2
    exact congrArg some (Option.some.inj h2).symm

theorem iter_next {σ τ : Type} {step : σ → Option (Ctl σ τ)} {s s' : σ} (h : step s = some (.next s')) : iter step s = iter step s' := by
  have key : ∀ t, iter step s = some t ↔ iter step s' = some t := by
    intro t
    rw [iter_iff, iter_iff]
    constructor
    · rintro ⟨n, hn⟩
      cases n with
      | zero => cases hn
      | succ n => unfold iterN at hn; rw [h] at hn; exact ⟨n, hn⟩
    · rintro ⟨n, hn⟩
      exact ⟨n + 1, by unfold iterN; rw [h]; exact hn⟩
  cases h1 : iter step s with
  | some t => exact ((key t).1 h1).symm
  | none =>
    cases h2 : iter step s' with
    | none => rfl
    | some t => rw [(key t).2 h2] at h1; cases h1

theorem iter_out {σ τ : Type} {step : σ → Option (Ctl σ τ)} {s : σ} {t : τ} (h : step s = some (.out t)) : iter step s = some t :=
  iter_iff.2 ⟨1, by unfold iterN; rw [h]⟩

theorem iter_none {σ τ : Type} {step : σ → Option (Ctl σ τ)} {s : σ} (h : step s = none) : iter step s = none := by
  cases h1 : iter step s with
  | none => rfl
  | some t =>
    obtain ⟨n, hn⟩ := iter_iff.1 h1
    cases n with
    | zero => cases hn
    | succ n => unfold iterN at hn; rw [h] at hn; cases hn

/-! ### What a walk takes out of a model -/

theorem bindS {α β : Type} {m : Option α} {f : α → Option β} {r : β} (h : m.bind f = some r) : ∃ a, m = some a ∧ f a = some r := by
  cases m with
  | none => cases h
  | some a => exact ⟨a, rfl, h⟩
theorem condT {α : Type} {b : Bool} {x y z : α} (hb : b = true) (h : cond b x y = z) : x = z := by rw [hb] at h; exact h
theorem condF {α : Type} {b : Bool} {x y z : α} (hb : b = false) (h : cond b x y = z) : y = z := by rw [hb] at h; exact h


/-! ### Reckoning -/

/-- The number of 64 bits that a number is. -/
def w64 (n : Int) : Int := (n + 9223372036854775808) % 18446744073709551616 - 9223372036854775808
theorem w64_eq {n : Int} (h : -9223372036854775808 ≤ n ∧ n ≤ 9223372036854775807) : w64 n = n := by unfold w64; omega
theorem w64_rng (n : Int) : -9223372036854775808 ≤ w64 n ∧ w64 n ≤ 9223372036854775807 := by unfold w64; omega

def getI {α : Type} (xs : List α) (i : Int) : Option α := bif decide (0 ≤ i) then xs[i.toNat]? else none
theorem getI_spec {α : Type} {xs : List α} {i : Int} {x : α} (h : getI xs i = some x) : i = (i.toNat : Int) ∧ xs[i.toNat]? = some x := by
  unfold getI at h
  by_cases h0 : 0 ≤ i
  · simp [h0] at h; exact ⟨by omega, h⟩
  · simp [h0] at h
theorem getI_nat {α : Type} {xs : List α} {n : Nat} : getI xs (n : Int) = xs[n]? := by simp [getI]
theorem getI_lt {α : Type} {xs : List α} {i : Int} {x : α} (h : getI xs i = some x) : i.toNat < xs.length := (List.getElem?_eq_some_iff.1 (getI_spec h).2).1

def sliceI {α : Type} (xs : List α) (l u : Int) : Option (List α) := bif decide (0 ≤ l) && decide (l ≤ u) && decide (u ≤ xs.length) then some ((xs.drop l.toNat).take (u.toNat - l.toNat)) else none
theorem sliceI_spec {α : Type} {xs ys : List α} {l u : Int} (h : sliceI xs l u = some ys) : l = (l.toNat : Int) ∧ u = (u.toNat : Int) ∧ l.toNat ≤ u.toNat ∧ u.toNat ≤ xs.length ∧ ys = (xs.drop l.toNat).take (u.toNat - l.toNat) := by
  unfold sliceI at h
  by_cases h0 : (decide (0 ≤ l) && decide (l ≤ u) && decide (u ≤ xs.length)) = true
  · rw [h0, cond_true] at h
    simp only [Bool.and_eq_true, decide_eq_true_eq] at h0
    cases h
    exact ⟨by omega, by omega, by omega, by omega, rfl⟩
  · rw [Bool.eq_false_iff.2 h0] at h; cases h

def quoI (a b : Int) : Option Int := bif decide (b = 0) then none else some (w64 (a.tdiv b))
def remI (a b : Int) : Option Int := bif decide (b = 0) then none else some (a.tmod b)
theorem quoI_spec {a b c : Int} (h : quoI a b = some c) : b ≠ 0 ∧ c = w64 (a.tdiv b) := by
  unfold quoI at h
  by_cases h0 : b = 0 <;> simp [h0] at h
  exact ⟨h0, h.symm⟩
theorem remI_spec {a b c : Int} (h : remI a b = some c) : b ≠ 0 ∧ c = a.tmod b := by
  unfold remI at h
  by_cases h0 : b = 0 <;> simp [h0] at h
  exact ⟨h0, h.symm⟩

/-- How many elements a 'make' makes. -/
def makeI (n : Int) (bz : Nat) : Option Nat := bif decide (0 ≤ n) && decide (n.toNat * bz ≤ 281474976710656) then some n.toNat else none
theorem makeI_spec {n : Int} {bz k : Nat} (h : makeI n bz = some k) : n = (k : Int) ∧ k * bz ≤ 281474976710656 := by
  unfold makeI at h
  by_cases h0 : (decide (0 ≤ n) && decide (n.toNat * bz ≤ 281474976710656)) = true
  · rw [h0, cond_true] at h
    simp only [Bool.and_eq_true, decide_eq_true_eq] at h0
    cases h
    exact ⟨by omega, h0.2⟩
  · rw [Bool.eq_false_iff.2 h0] at h; cases h
/-- Whether an append fits. -/
def capI (n bz : Nat) : Option Unit := bif decide (n * bz ≤ 140737488355328) then some () else none
theorem capI_spec {n bz : Nat} {u : Unit} (h : capI n bz = some u) : n * bz ≤ 140737488355328 := by
  unfold capI at h
  by_cases h0 : n * bz ≤ 140737488355328
  · exact h0
  · simp [h0] at h
def strI (n : Nat) : Option Unit := bif decide (n ≤ 9223372036854775807) then some () else none
theorem strI_spec {n : Nat} {u : Unit} (h : strI n = some u) : n ≤ 9223372036854775807 := by
  unfold strI at h
  by_cases h0 : n ≤ 9223372036854775807
  · exact h0
  · simp [h0] at h

end Go.AM
