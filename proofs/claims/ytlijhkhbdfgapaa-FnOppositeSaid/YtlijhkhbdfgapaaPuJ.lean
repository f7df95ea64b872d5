/- Drawn terms, and values. Plain Lean. -/
import Derived.Test.YtlijhkhbdfgapaaPuI
namespace Go.Mod
open Go.AM
set_option linter.unusedVariables false
set_option linter.unusedSimpArgs false

/-! ### The source of the draws -/
def Src (s : l00Src) (k : Nat) : Prop := (∀ x ∈ s.code, 0 ≤ x ∧ x ≤ 255) ∧ s.code.length ≤ 1048576 ∧ 0 ≤ s.at_ ∧ s.at_ ≤ k
theorem Src.mono {s : l00Src} {k k' : Nat} (h : Src s k) (hk : k ≤ k') : Src s k' := ⟨h.1, h.2.1, h.2.2.1, by have := h.2.2.2; omega⟩
theorem and_rng (a : Int) : 0 ≤ andU 64 a 255 ∧ andU 64 a 255 ≤ 255 := by
  unfold andU
  have h : (BitVec.ofInt 64 a &&& BitVec.ofInt 64 255).toNat ≤ 255 := by
    rw [BitVec.toNat_and]
    have : (BitVec.ofInt 64 255).toNat = 255 := by decide
    rw [this]
    exact Nat.and_le_right
  generalize (BitVec.ofInt 64 a &&& BitVec.ofInt 64 255).toNat = q at h
  unfold wu
  omega
theorem next_ok {s : l00Src} {k : Nat} (h : Src s k) (hk : k ≤ 1000000000) : ∃ r s', m_spec_l00Src_next s = some (r, s') ∧ 0 ≤ r ∧ r ≤ 255 ∧ Src s' (k + 1) := by
  obtain ⟨h1, h2, h3, h4⟩ := h
  have hJ : ∀ j : Int, 0 ≤ j → j ≤ 255 → ∃ r s', m_spec_l00Src_next_J0 s j = some (r, s') ∧ 0 ≤ r ∧ r ≤ 255 ∧ Src s' (k + 1) := by
    intro j hj0 hj1
    unfold m_spec_l00Src_next_J0
    rw [w64_eq (n := s.at_ + 1) (by omega)]
    have hS : ∀ sd, Src (l00Src.mk s.code (s.at_ + 1) sd) (k + 1) := fun sd => ⟨h1, h2, by simp only; omega, by simp only; omega⟩
    by_cases hq : s.at_ + 1 ≤ (s.code.length : Int)
    · rw [decide_eq_true hq, cond_true]; exact ⟨_, _, rfl, hj0, hj1, hS _⟩
    · rw [decide_eq_false hq, cond_false]
      have := and_rng (Int.fdiv (wu 64 ((wu 64 ((wu 64 (s.seed * (6364136223846793005 : Int))) + (wu 64 j))) + (1442695040888963407 : Int))) (2 ^ 40))
      exact ⟨_, _, rfl, by rw [w64_eq (by omega)]; omega, by rw [w64_eq (by omega)]; omega, hS _⟩
  unfold m_spec_l00Src_next
  by_cases hq : s.at_ < (s.code.length : Int)
  · obtain ⟨n, hn⟩ := Int.eq_ofNat_of_zero_le h3
    have hlt : n < s.code.length := by omega
    have hx : s.code[n]? = some s.code[n] := by simp
    have hb := h1 _ (List.getElem_mem hlt)
    rw [decide_eq_true hq, cond_true, hn, getI_some hx, Option.bind_some, w64_eq (by omega)]
    exact hJ _ hb.1 hb.2
  · rw [decide_eq_false hq, cond_false]; exact hJ 0 (by omega) (by omega)
theorem pick_ok {s : l00Src} {k : Nat} {n : Int} (h : Src s k) (hk : k ≤ 100000000) (hn : n ≤ 200) : ∃ r s', m_spec_l00Src_pick s n = some (r, s') ∧ 0 ≤ r ∧ (r < n ∨ r = 0) ∧ Src s' (k + 1) := by
  unfold m_spec_l00Src_pick
  by_cases h1 : n ≤ 1
  · rw [decide_eq_true h1, cond_true]; exact ⟨_, _, rfl, by omega, .inr rfl, h.mono (by omega)⟩
  · rw [decide_eq_false h1, cond_false]
    obtain ⟨r, s', e1, e2, e3, e4⟩ := next_ok h (by omega)
    rw [e1, Option.bind_some, decide_eq_false (by omega), cond_false]
    simp only
    unfold remI
    rw [decide_eq_false (by omega), cond_false, Option.bind_some]
    exact ⟨_, _, rfl, Int.tmod_nonneg _ e2, .inl (Int.tmod_lt_of_pos _ (by omega)), e4⟩
theorem from_ok {code : List Int} (h1 : ∀ x ∈ code, 0 ≤ x ∧ x ≤ 255) (h2 : code.length ≤ 1048576) : m_spec_l00From code = some (l00Src.mk code 0 0) ∧ Src (l00Src.mk code 0 0) 0 :=
  ⟨rfl, h1, h2, Int.le_refl _, Int.le_refl _⟩
theorem at_ok {code : List Int} {i : Nat} {n : Int} (h1 : ∀ x ∈ code, 0 ≤ x ∧ x ≤ 255) (hi : i ≤ 1000000) (hn : 1 < n) : ∃ r, m_laws_b10At code (i : Int) n = some r ∧ 0 ≤ r ∧ r < n := by
  unfold m_laws_b10At
  rw [decide_eq_false (by omega), cond_false]
  by_cases h : i < code.length
  · have hx : code[i]? = some code[i] := by simp [h]
    have hb := h1 _ (List.getElem_mem h)
    rw [dec_lt h, cond_true, getI_some hx, Option.bind_some, w64_eq (by omega)]
    unfold remI
    rw [decide_eq_false (by omega), cond_false, Option.bind_some]
    exact ⟨_, rfl, Int.tmod_nonneg _ hb.1, Int.tmod_lt_of_pos _ (by omega)⟩
  · rw [dec_not_lt h, cond_false, w64_eq (n := (i : Int) * 37) (by omega), w64_eq (by omega)]
    unfold remI
    rw [decide_eq_false (by omega), cond_false, Option.bind_some]
    exact ⟨_, rfl, Int.tmod_nonneg _ (by omega), Int.tmod_lt_of_pos _ (by omega)⟩

/-! ### Trimmed lists -/
theorem tl_last {xs : List Int} : ∀ n, n ≤ xs.length → lastOK (xs.take (tl xs n)) = true := by
  intro n
  induction n with
  | zero => intro _; rfl
  | succ n ih =>
    intro hn
    unfold tl
    split
    · exact ih (by omega)
    · rename_i h
      have hx : xs[n]? = some xs[n] := by simp
      unfold lastOK
      rw [List.getLast?_eq_getElem?]
      have hl : (xs.take (n + 1)).length = n + 1 := by simp; omega
      rw [hl, show n + 1 - 1 = n from rfl, List.getElem?_take, if_pos (by omega), hx]
      rw [hx] at h
      simpa using h
theorem trim_last (xs : List Int) : lastOK (trim xs) = true := tl_last _ (Nat.le_refl _)
theorem tl_zero {xs : List Int} : ∀ n, n ≤ xs.length → ∀ i, tl xs n ≤ i → i < n → coef xs i = 0 := by
  intro n
  induction n with
  | zero => intro _ i _ h; omega
  | succ n ih =>
    intro hn i h1 h2
    unfold tl at h1
    split at h1
    · rename_i h
      by_cases hi : i = n
      · subst hi; exact coef_get h
      · exact ih (by omega) i h1 (by omega)
    · omega
theorem trim_coef (xs : List Int) (i : Nat) : coef (trim xs) i = coef xs i := by
  unfold trim
  by_cases h : i < tl xs xs.length
  · unfold coef; rw [List.getElem?_take, if_pos h]
  · rw [coef_no (by simp; omega)]
    by_cases h2 : i < xs.length
    · rw [tl_zero xs.length (Nat.le_refl _) i (by omega) h2]
    · rw [coef_no (by omega)]
theorem tab_coef (f : Nat → Int) (i : Nat) : coef (tab f) i = if i < 10 then f i else 0 := by
  by_cases h : i < 10
  · rw [if_pos h, coef_get (tab_get h)]
  · rw [if_neg h, coef_no (by rw [tab_len]; omega)]
theorem last_coef {xs : List Int} (h : lastOK xs = true) (h0 : 0 < xs.length) : coef xs (xs.length - 1) ≠ 0 := by
  unfold lastOK at h
  rw [List.getLast?_eq_getElem?] at h
  have hx : xs[xs.length - 1]? = some (xs[xs.length - 1]'(by omega)) := by simp
  rw [hx] at h
  rw [coef_get hx]
  simpa using h
theorem coef_ext {xs ys : List Int} (hx : lastOK xs = true) (hy : lastOK ys = true) (h : ∀ i, coef xs i = coef ys i) : xs = ys := by
  have key : ∀ (xs ys : List Int), lastOK xs = true → (∀ i, coef xs i = coef ys i) → xs.length ≤ ys.length := by
    intro xs ys hx h
    apply Nat.le_of_not_lt
    intro hlt
    have := last_coef hx (by omega)
    rw [h, coef_no (by omega)] at this
    exact this rfl
  have hl : xs.length = ys.length := Nat.le_antisymm (key xs ys hx h) (key ys xs hy (fun i => (h i).symm))
  apply List.ext_getElem hl
  intro i h1 h2
  have := h i
  rw [coef_get (show xs[i]? = some xs[i] by simp), coef_get (show ys[i]? = some ys[i] by simp)] at this
  exact this
theorem coef_ten {t : Term} (h : vT t = true) {i : Nat} (hi : 10 ≤ i) : coef t.Coeffs i = 0 := coef_no (by have := vT_len h; omega)
/-- A term made of a table. -/
def mkT (c : Int) (f : Nat → Int) : Term := Term.mk c (trim (tab f))
theorem mkT_coef (c : Int) (f : Nat → Int) (i : Nat) : coef (mkT c f).Coeffs i = if i < 10 then f i else 0 := by
  unfold mkT; rw [trim_coef, tab_coef]
theorem mkT_valid {c : Int} {f : Nat → Int} (hc : -1000000 ≤ c ∧ c ≤ 1000000) (hf : ∀ i, i < 10 → -1000000 ≤ f i ∧ f i ≤ 1000000) : vT (mkT c f) = true := by
  have h1 : (mkT c f).Coeffs.length ≤ 10 := by have := trim_len (tab f); rw [tab_len] at this; exact this
  have h2 : lastOK (mkT c f).Coeffs = true := trim_last _
  have h3 : (mkT c f).Coeffs.all inR = true := by
    rw [List.all_eq_true]
    intro x hx
    obtain ⟨i, hi⟩ := List.getElem?_of_mem hx
    have := mkT_coef c f i
    rw [coef_get hi] at this
    rw [this]
    have hlt := get_lt hi
    rw [if_pos (by omega)]
    exact inR_iff.2 (hf i (by omega))
  unfold vT
  rw [h2, h3, inR_iff.2 (show -1000000 ≤ (mkT c f).Const ∧ (mkT c f).Const ≤ 1000000 from hc)]
  simp [h1]
theorem mkT_chk {c : Int} {f : Nat → Int} (hc : -1000000 ≤ c ∧ c ≤ 1000000) (hf : ∀ i, i < 10 → -1000000 ≤ f i ∧ f i ≤ 1000000) : chk (Term.mk c (trim (tab f))) = (mkT c f, true) := by
  have := mkT_valid hc hf
  unfold chk
  rw [show Term.mk c (trim (tab f)) = mkT c f from rfl, this]; rfl
theorem mkT_self {t : Term} (h : vT t = true) : mkT t.Const (fun i => coef t.Coeffs i) = t := by
  have : trim (tab fun i => coef t.Coeffs i) = t.Coeffs := coef_ext (trim_last _) (vT_last h) (fun i => by
    rw [trim_coef, tab_coef]
    by_cases hi : i < 10
    · rw [if_pos hi]
    · rw [if_neg hi, coef_ten h (by omega)])
  unfold mkT
  rw [this]
theorem mkT_ext {t : Term} {c : Int} {f : Nat → Int} (h : vT t = true) (hc : c = t.Const) (hf : ∀ i, i < 10 → f i = coef t.Coeffs i) : mkT c f = t := by
  rw [← mkT_self h]
  unfold mkT tab
  subst hc
  congr 2
  apply List.map_congr_left
  intro i hi
  exact hf i (by simpa using hi)
end Go.Mod
