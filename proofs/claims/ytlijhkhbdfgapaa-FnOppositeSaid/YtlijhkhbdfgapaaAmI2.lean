/- append: what the machine does. -/
import Derived.Test.YtlijhkhbdfgapaaAmI
namespace Go.AM
open Go

theorem run_append_zero {P : Program} {w : World} {t ty e : TypeId} {i : TypeInfo} (ht : P.underlying t = some (.slice e)) (hi : P.info? e = some i) (xa ya : Option Addr) (n c c' : Nat) (hn : n ≤ c) :
    (Builtin.append_ #[t, t] ty #[.slice xa n c, .slice ya 0 c']).run P w = .ok (.slice xa n c) w := by
  cases xa <;> cases ya <;>
  simp [Builtin.append_, run_underlying ht, sizeOf, typeInfo, hi, Builtin.lenOf, Builtin.firstCells, hn, storeCells, loadCells, loadCellsFrom]

structure AppX (w : World) (E : TypeId) (sz : Nat) (l : Loc) (n : Nat) (xv : Value) (olds : List Value) : Prop where
  go : (l.mat = true ∧ xv = .slice (some ⟨l.blk, 0, none⟩) n l.cap ∧ ∃ C, w.heap[l.blk]? = some (.cells C E (0, 0)) ∧ n ≤ l.cap ∧ l.cap ≤ maxLen ∧ C.size = l.cap * sz ∧ olds = C.toList.take (n * sz)) ∨
    (l.mat = false ∧ n = 0 ∧ olds = [] ∧ xv = .slice l.va 0 0)

structure AppY (w : World) (sz : Nat) (m : Nat) (yv : Value) (news : List Value) : Prop where
  go : (∃ va, yv = .slice va 0 0 ∧ m = 0 ∧ news = []) ∨ ∃ ad c, yv = .slice (some ad) m c ∧ news.length = m * sz ∧ (∀ (j : Nat) u, news[j]? = some u → w.cell? (ad.add j) = some u) ∧ ∀ u ∈ news, u.oneCell' = true

structure AppR (w w' : World) (E : TypeId) (sz : Nat) (l l' : Loc) (n : Nat) (v' : Value) (cs : List Value) : Prop where
  sys : SameSys w w'
  grow : w.heap.size ≤ w'.heap.size
  same : ∀ b, b < w.heap.size → (l.mat = true → l'.blk = l.blk → l.blk ≠ b) → w'.heap[b]? = w.heap[b]?
  fp : l'.fp = l.fp
  sv : l'.sv = l.sv
  go : (l'.mat = false ∧ l.mat = false ∧ n = 0 ∧ l' = l ∧ v' = .slice l'.va 0 0) ∨
    (l'.mat = true ∧ v' = .slice (some ⟨l'.blk, 0, none⟩) n l'.cap ∧ (∃ C', w'.heap[l'.blk]? = some (.cells C' E (0, 0)) ∧ n ≤ l'.cap ∧ l'.cap ≤ maxLen ∧ C'.size = l'.cap * sz ∧ C'.toList.take (n * sz) = cs) ∧
      ((l.mat = true ∧ l'.blk = l.blk) ∨ (w.heap.size ≤ l'.blk ∧ l'.blk < w'.heap.size)))

theorem append_core {P : Program} {w : World} {t ty E : TypeId} {sz bz : Nat} {zv : Value} (ht : tyElem P t = some (E, sz)) (hz : tyZero P E = some (zv, sz, bz)) (hzs : zv.cells.size = sz) (hsz : 0 < sz)
    (hb : 0 < bz) {l : Loc} {n m : Nat} {xv yv : Value} {olds news : List Value} (hx : AppX w E sz l n xv olds) (hy : AppY w sz m yv news) (hbig : (n + m) * bz ≤ 140737488355328) :
    ∃ v' w' l', (Builtin.append_ #[t, t] ty #[xv, yv]).run P w = .ok v' w' ∧ AppR w w' E sz l l' (n + m) v' (olds ++ news) := by
  obtain ⟨hu, hsize⟩ := tyElem_inv ht
  obtain ⟨i, hi, hzero, hisz, hiby⟩ := tyZero_inv hz
  have hnb : n + m ≤ (n + m) * bz := Nat.le_mul_of_pos_right _ hb
  have h63 : n + m ≤ maxLen := by simp only [maxLen]; omega
  -- nothing is appended
  have nothing : ∀ ya c', yv = .slice ya 0 c' → m = 0 → news = [] → ∃ v' w' l', (Builtin.append_ #[t, t] ty #[xv, yv]).run P w = .ok v' w' ∧ AppR w w' E sz l l' (n + m) v' (olds ++ news) := by
    intro ya c' h1 h2 h3
    subst h1 h2 h3
    rcases hx.go with ⟨hm, rfl, C, hC, hle, hcm, hCs, rfl⟩ | ⟨hm, rfl, rfl, rfl⟩
    · exact ⟨_, w, l, run_append_zero hu hi _ _ _ _ _ hle, SameSys.refl w, Nat.le_refl _, fun _ _ _ => rfl, rfl, rfl, .inr ⟨hm, rfl, ⟨C, hC, hle, hcm, hCs, by simp⟩, .inl ⟨hm, rfl⟩⟩⟩
    · exact ⟨_, w, l, run_append_zero hu hi _ _ _ _ _ (Nat.le_refl _), SameSys.refl w, Nat.le_refl _, fun _ _ _ => rfl, rfl, rfl, .inl ⟨hm, hm, rfl, rfl, rfl⟩⟩
  -- a new row
  have grown : ∀ (b : Addr) (n0 c0 : Nat) (os : List Value), xv = .slice (some b) n0 c0 → n0 = n → os = olds → os.length = n0 * sz → (∀ (j : Nat) u, os[j]? = some u → w.cell? (b.add j) = some u) → c0 < n0 + m →
      ∀ ad c, yv = .slice (some ad) m c → news.length = m * sz → (∀ (j : Nat) u, news[j]? = some u → w.cell? (ad.add j) = some u) →
      ∃ v' w' l', (Builtin.append_ #[t, t] ty #[xv, yv]).run P w = .ok v' w' ∧ AppR w w' E sz l l' (n + m) v' (olds ++ news) := by
    intro b n0 c0 os h1 h2 h3 hol hos hlt ad c hyv hnl hnews
    subst h1 h2 h3 hyv
    have hrun := run_append_grow (P := P) w t ty E i zv hu hi hzero b n0 c0 os (by rw [hisz]; exact hol) hos ad m c news
      (by rw [hisz]; exact hnl) hnews hlt (by simp only [maxLen] at h63; omega) (growslice_fits (by omega) (by rw [hiby]; exact hbig))
    have hge := grownCap_ge w (n0 + m) c0 E
    have hgm := grownCap_le_maxLen w (n0 + m) c0 E h63
    generalize grownCap w (n0 + m) c0 E = cap' at hrun hge hgm
    generalize hcur : os.toArray ++ news.toArray ++ Builtin.zeroCells zv.cells (cap' - (n0 + m)) = cur at hrun
    obtain ⟨g1, g2, g3, g4⟩ := alloc_new w.drew (.cells cur E)
    refine ⟨_, _, { l with blk := w.heap.size, cap := cap', mat := true }, hrun, ⟨g1.os, g1.tape, g1.output⟩, g2, fun b hb _ => g3 b hb, rfl, rfl, .inr ⟨rfl, rfl, ⟨cur, g4, hge, hgm, ?_, ?_⟩, .inr ⟨Nat.le_refl _, (Array.getElem?_eq_some_iff.1 g4).1⟩⟩⟩
    · rw [← hcur]
      simp only [Array.size_append, List.size_toArray, size_zeroCells, hzs, hol, hnl, ← Nat.add_mul]
      congr 1
      omega
    · have : (n0 + m) * sz = (os ++ news).length := by rw [List.length_append, hol, hnl, Nat.add_mul]
      rw [this, ← hcur]
      simp only [Array.toList_append]
      exact List.take_left
  rcases hy.go with ⟨va, h1, h2, h3⟩ | ⟨ad, c, hyv, hnl, hnews, hn1⟩
  · exact nothing va 0 h1 h2 h3
  by_cases hm0 : m = 0
  · refine nothing (some ad) c (by rw [hyv, hm0]) hm0 ?_
    subst hm0
    exact List.eq_nil_of_length_eq_zero (by simpa using hnl)
  rcases hx.go with ⟨hm, hxv, C, hC, hle, hcm, hCs, hol0⟩ | ⟨hm, rfl, rfl, hxv⟩
  · have hcapn : n * sz ≤ C.size := by rw [hCs]; exact Nat.mul_le_mul_right _ hle
    have hol : olds.length = n * sz := by rw [hol0]; simp; omega
    by_cases hroom : n + m ≤ l.cap
    · subst hxv hyv
      have hnl' : news.length = m * i.size := by rw [hisz]; exact hnl
      have hfit : n * i.size + news.length ≤ C.size := by rw [hisz, hnl, hCs, ← Nat.add_mul]; exact Nat.mul_le_mul_right _ hroom
      have hrun := run_append_room (P := P) w t ty E i hu hi l.blk n l.cap C hC ad m c news hnl' hnews hn1 hroom hfit
      rw [hisz] at hrun
      refine ⟨_, _, l, hrun, setRow_sys _ _ _, by simp, fun b _ hb => setRow_other _ _ _ _ (fun e => hb hm rfl e.symm), rfl, rfl, .inr ⟨hm, rfl, ⟨_, setRow_heap _ _ _ _ _ _ hC, hroom, hcm, ?_, ?_⟩, .inl ⟨hm, rfl⟩⟩⟩
      · rw [hisz] at hfit
        have hCl : C.toList.length = C.size := by simp
        rw [List.size_toArray, List.length_append, List.length_append, ← hol0, hol, List.length_drop, hCl]
        omega
      · have : (n + m) * sz = (C.toList.take (n * sz) ++ news).length := by rw [List.length_append, ← hol0, hol, hnl, Nat.add_mul]
        rw [this, hol0]
        exact List.take_left
    · refine grown ⟨l.blk, 0, none⟩ n l.cap olds hxv rfl rfl hol (fun j u hu => ?_) (by omega) ad c hyv hnl hnews
      rw [Addr.add_lit, Nat.zero_add, cell_at hC]
      rw [hol0, List.getElem?_take] at hu
      split at hu
      · simpa using hu
      · cases hu
  · cases hva : l.va with
    | some b => exact grown b 0 0 [] (by rw [hxv, hva]) rfl rfl (by simp) (fun j u hu => by simp at hu) (by omega) ad c hyv hnl hnews
    | none =>
      subst hxv hyv
      rw [hva]
      obtain ⟨v', w', hrun, hown, hgrow, hiff⟩ := run_append_own (P := P) w w.heap.size t ty E i zv sz bz hu hi hzero hisz hiby hzs hsz (.slice none 0 0) 0 [] (World.ownsRow_nil w _ E sz)
        ad m c news hnl hnews hn1 (by simpa using h63) (by simpa using hbig) (Nat.le_refl _)
      have hsame : ∀ b, b < w.heap.size → w'.heap[b]? = w.heap[b]? := fun b hb => hgrow.block b hb (by simp [Value.ownBlock])
      rcases hown.2 with ⟨rfl, h0⟩ | ⟨g, cap', cur, rfl, hg, hcC, hnc, hcm', hcs', htake⟩
      · exact absurd (by omega) hm0
      · exact ⟨_, _, { l with blk := g, cap := cap', mat := true }, hrun, ⟨hgrow.os, hgrow.tape, hgrow.output⟩, hgrow.size, fun b hb _ => hsame b hb, rfl, rfl,
          .inr ⟨rfl, rfl, ⟨cur, hcC, hnc, hcm', hcs', by simpa using htake⟩, .inr ⟨hg, (Array.getElem?_eq_some_iff.1 hcC).1⟩⟩⟩

end Go.AM
