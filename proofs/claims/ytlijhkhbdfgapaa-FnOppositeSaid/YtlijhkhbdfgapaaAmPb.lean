/- Loops as functions, their laws: plain Lean. -/
import Derived.Test.YtlijhkhbdfgapaaAmPa
namespace Go.AM

theorem iter_inv {σ τ : Type} {step : σ → Option (Ctl σ τ)} (I : σ → Prop) (μ : σ → Nat) (Q : τ → Prop)
    (h : ∀ s, I s → (∃ s', step s = some (.next s') ∧ I s' ∧ μ s' < μ s) ∨ ∃ t, step s = some (.out t) ∧ Q t) : ∀ {s : σ}, I s → ∃ t, iter step s = some t ∧ Q t := by
  have key : ∀ (n : Nat) (s : σ), μ s < n → I s → ∃ t, iter step s = some t ∧ Q t := by
    intro n
    induction n with
    | zero => intro s h0; omega
    | succ n ih =>
      intro s hn hI
      rcases h s hI with ⟨s', h1, h2, h3⟩ | ⟨t, h1, h2⟩
      · rw [iter_next h1]; exact ih s' (by omega) h2
      · exact ⟨t, iter_out h1, h2⟩
  exact fun {s} hI => key _ s (Nat.lt_succ_self _) hI

theorem forL_inv' {α σ τ : Type} {step : Nat → α → σ → Option (Ctl σ τ)} {fin : σ → τ} (I : Nat → σ → Prop) (Q : τ → Prop) : ∀ (xs : List α) (k : Nat) (s : σ),
    (∀ n x s, xs[n]? = some x → I (k + n) s → (∃ s', step (k + n) x s = some (.next s') ∧ I (k + n + 1) s') ∨ ∃ t, step (k + n) x s = some (.out t) ∧ Q t) →
    (∀ s, I (k + xs.length) s → Q (fin s)) → I k s → ∃ t, forL step fin k xs s = some t ∧ Q t := by
  intro xs
  induction xs with
  | nil => intro k s _ hf hI; exact ⟨_, rfl, hf s hI⟩
  | cons x r ih =>
    intro k s h hf hI
    rcases h 0 x s rfl hI with ⟨s', h1, h2⟩ | ⟨t, h1, h2⟩
    · have e : forL step fin k (x :: r) s = forL step fin (k + 1) r s' := by simp only [Nat.add_zero] at h1; simp [forL, h1]
      rw [e]
      refine ih (k + 1) s' (fun n y s2 hy hI2 => ?_) (fun s2 hI2 => hf s2 ?_) h2
      · have := h (n + 1) y s2 (by simpa using hy) (by rw [show k + (n + 1) = k + 1 + n by omega]; exact hI2)
        rw [show k + (n + 1) = k + 1 + n by omega] at this
        exact this
      · rw [show k + (x :: r).length = k + 1 + r.length by simp; omega]; exact hI2
    · exact ⟨t, by simp only [Nat.add_zero] at h1; simp [forL, h1], h2⟩
theorem forL_inv {α σ τ : Type} {step : Nat → α → σ → Option (Ctl σ τ)} {fin : σ → τ} {xs : List α} (I : Nat → σ → Prop) (Q : τ → Prop)
    (h : ∀ n x s, xs[n]? = some x → I n s → (∃ s', step n x s = some (.next s') ∧ I (n + 1) s') ∨ ∃ t, step n x s = some (.out t) ∧ Q t)
    (hf : ∀ s, I xs.length s → Q (fin s)) {s : σ} (hI : I 0 s) : ∃ t, forL step fin 0 xs s = some t ∧ Q t :=
  forL_inv' I Q xs 0 s (fun n x s hx hI => by simp only [Nat.zero_add] at *; exact h n x s hx hI) (fun s hI => hf s (by simpa using hI)) hI

/-- A loop with a counter is a loop over the list. -/
theorem iter_for' {α ρ σ τ : Type} {step : σ → Option (Ctl σ τ)} (st : Nat → ρ → σ) (body : Nat → α → ρ → Option (Ctl ρ τ)) (fin : ρ → τ) : ∀ (xs : List α) (k : Nat) (r : ρ),
    (∀ n x r, xs[n]? = some x → step (st (k + n) r) = (body (k + n) x r).map fun c => match c with | .next r' => .next (st (k + n + 1) r') | .out t => .out t) →
    (∀ r, step (st (k + xs.length) r) = some (.out (fin r))) → iter step (st k r) = forL body fin k xs r := by
  intro xs
  induction xs with
  | nil => intro k r _ he; exact iter_out (he r)
  | cons x xs ih =>
    intro k r hs he
    have h0 := hs 0 x r rfl
    simp only [Nat.add_zero] at h0
    unfold forL
    cases hb : body k x r with
    | none => rw [hb] at h0; exact iter_none h0
    | some c =>
      rw [hb] at h0
      cases c with
      | next r' =>
        rw [iter_next h0]
        refine ih (k + 1) r' (fun n y r2 hy => ?_) (fun r2 => ?_)
        · have := hs (n + 1) y r2 (by simpa using hy)
          rw [show k + (n + 1) = k + 1 + n by omega] at this
          exact this
        · have := he r2
          rw [show k + (x :: xs).length = k + 1 + xs.length by simp; omega] at this
          exact this
      | out t => exact iter_out h0
theorem iter_for {α ρ σ τ : Type} {step : σ → Option (Ctl σ τ)} (xs : List α) (st : Nat → ρ → σ) (body : Nat → α → ρ → Option (Ctl ρ τ)) (fin : ρ → τ)
    (hs : ∀ n x r, xs[n]? = some x → step (st n r) = (body n x r).map fun c => match c with | .next r' => .next (st (n + 1) r') | .out t => .out t)
    (he : ∀ r, step (st xs.length r) = some (.out (fin r))) (r : ρ) : iter step (st 0 r) = forL body fin 0 xs r :=
  iter_for' st body fin xs 0 r (fun n x r hx => by rw [Nat.zero_add]; exact hs n x r hx) (fun r => by rw [Nat.zero_add]; exact he r)

theorem forL_all {α τ : Type} {body : Nat → α → Unit → Option (Ctl Unit τ)} {fin : Unit → τ} {f : τ} (p : α → Bool) : ∀ (xs : List α) (k : Nat),
    (∀ n, ∀ x ∈ xs, body n x () = bif p x then some (.next ()) else some (.out f)) → forL body fin k xs () = some (bif xs.all p then fin () else f) := by
  intro xs
  induction xs with
  | nil => intro k _; rfl
  | cons x xs ih =>
    intro k h
    have h0 := h k x (by simp)
    unfold forL
    cases hp : p x with
    | true => rw [hp] at h0; rw [h0]; simp only [cond_true, List.all_cons, hp, Bool.true_and]; exact ih (k + 1) (fun n y hy => h n y (by simp [hy]))
    | false => rw [hp] at h0; rw [h0]; simp [hp]

theorem forL_fold {α σ τ : Type} {body : Nat → α → σ → Option (Ctl σ τ)} {fin : σ → τ} (g : σ → α → σ) (I : Nat → σ → Prop) : ∀ (xs : List α) (k : Nat) (s : σ), I k s →
    (∀ n x s, xs[n]? = some x → I (k + n) s → body (k + n) x s = some (.next (g s x)) ∧ I (k + n + 1) (g s x)) → forL body fin k xs s = some (fin (xs.foldl g s)) := by
  intro xs
  induction xs with
  | nil => intro k s _ _; rfl
  | cons x xs ih =>
    intro k s hI h
    obtain ⟨h0, h1⟩ := h 0 x s rfl (by simpa using hI)
    simp only [Nat.add_zero] at h0 h1
    unfold forL
    rw [h0]
    refine ih (k + 1) _ h1 (fun n y s2 hy hI2 => ?_)
    have := h (n + 1) y s2 (by simpa using hy) (by rw [show k + (n + 1) = k + 1 + n by omega]; exact hI2)
    rw [show k + (n + 1) = k + 1 + n by omega] at this
    exact this

/-! ### Other kinds of numbers -/
/-- The number without a sign that the last b bits are. -/
def wu (b : Nat) (n : Int) : Int := n % 2 ^ b
def andU (b : Nat) (x y : Int) : Int := wu b ((BitVec.ofInt b x &&& BitVec.ofInt b y).toNat : Int)
/-- The number of 32 bits that a number is. -/
def w32 (n : Int) : Int := (n + 2147483648) % 4294967296 - 2147483648
theorem wu_rng (b : Nat) (n : Int) : 0 ≤ wu b n := Int.emod_nonneg n (by have : (0 : Int) < 2 ^ b := Int.pow_pos (by decide); omega)
theorem w32_eq {n : Int} (h : -2147483648 ≤ n ∧ n ≤ 2147483647) : w32 n = n := by unfold w32; omega

/-! ### Small facts -/
theorem getI_some {α : Type} {xs : List α} {n : Nat} {x : α} (h : xs[n]? = some x) : getI xs (n : Int) = some x := by rw [getI_nat, h]
theorem w64_succ {n : Nat} (h : n < 9223372036854775807) : w64 ((n : Int) + 1) = ((n + 1 : Nat) : Int) := by rw [w64_eq (by omega)]; omega
theorem w64_pred {n : Nat} (h : 0 < n) (h2 : n ≤ 9223372036854775807) : w64 ((n : Int) - 1) = ((n - 1 : Nat) : Int) := by rw [w64_eq (by omega)]; omega
theorem get_lt {α : Type} {xs : List α} {n : Nat} {x : α} (h : xs[n]? = some x) : n < xs.length := (List.getElem?_eq_some_iff.1 h).1
theorem makeI_some {n : Nat} {bz : Nat} (h : n * bz ≤ 281474976710656) : makeI (n : Int) bz = some n := by simp [makeI, h]
theorem capI_some {n bz : Nat} (h : n * bz ≤ 140737488355328) : capI n bz = some () := by simp [capI, h]
theorem strI_some {n : Nat} (h : n ≤ 9223372036854775807) : strI n = some () := by simp [strI, h]
theorem sliceI_some {α : Type} {xs : List α} {l u : Nat} (h1 : l ≤ u) (h2 : u ≤ xs.length) : sliceI xs (l : Int) (u : Int) = some ((xs.drop l).take (u - l)) := by
  simp [sliceI, h1, h2]
theorem dec_lt {a b : Nat} (h : a < b) : decide ((a : Int) < (b : Int)) = true := decide_eq_true (by omega)
theorem dec_not_lt {a b : Nat} (h : ¬ a < b) : decide ((a : Int) < (b : Int)) = false := decide_eq_false (by omega)
theorem dec_self {a : Nat} : decide ((a : Int) < (a : Int)) = false := decide_eq_false (by omega)

/-! ### Lists that are written front to back -/
theorem set_front {α : Type} {xs : List α} {z x : α} {n k : Nat} (hx : xs[n]? = some x) (hk : xs.length = n + 1 + k) :
    (xs.take n ++ List.replicate (k + 1) z).set n x = xs.take (n + 1) ++ List.replicate k z := by
  have hn := get_lt hx
  apply List.ext_getElem?
  intro i
  rw [List.getElem?_set]
  have hl : (xs.take n).length = n := by simp; omega
  have hl2 : (xs.take (n + 1)).length = n + 1 := by simp; omega
  by_cases hi : n = i
  · subst hi
    rw [if_pos rfl, List.getElem?_append_left (by omega)]
    simp [hx]
    omega
  · rw [if_neg hi]
    by_cases h2 : i < n
    · rw [List.getElem?_append_left (by omega), List.getElem?_append_left (by omega)]
      simp [List.getElem?_take, h2]
      omega
    · rw [List.getElem?_append_right (by omega), List.getElem?_append_right (by omega)]
      rw [hl, hl2]
      simp [List.getElem?_replicate]
      by_cases h3 : i - n < k + 1
      · rw [if_pos h3, if_pos (by omega)]
      · rw [if_neg h3, if_neg (by omega)]

end Go.AM
