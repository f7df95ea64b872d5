import Derived.Test.YtkiapbiifhkaaaaRows
import Derived.Test.YtkiapbiifhkaaaaGc
import Derived.Shelf.RegionOpenPlain
import Derived.Shelf.Spec.SlicesInsert
import Derived.WalkKit
import Derived.Deep.LoopGhost
import Derived.Deep.RegionLaw
import Derived.Lib.Walk
import Derived.Lib.SliceRun
import Derived.Shelf.Spec.SlicesInsertGrow
import Derived.Laws.NewBlocks
import Derived.Test.YtkiapbiifhkaaaaGd
namespace Go.Mod
open Go Go.AM Go.Proofs Go.RowKit Go.Lib
set_option linter.unusedVariables false
set_option maxHeartbeats 4000000
set_option maxRecDepth 1000000
theorem mu67 : Try.prog.underlying 67 = some (.slice 81) := by kernel_rfl
theorem ms81 : (Try.prog.info? 81).map (·.size) = some 2 := by kernel_rfl
theorem mz81 : tyZero Try.prog 81 = some (.agg #[.int .i64 0, .slice none 0 0], 2, 32) := by kernel_rfl
def insCells (C : Array Value) (n i : Nat) (news : List Value) : List Value := C.toList.take (i * 2) ++ news ++ (C.toList.drop (i * 2)).take ((n - i) * 2)
theorem mz3 : Try.prog.underlying 3 = some (.int .i64) := by kernel_rfl
theorem ms81x (w : World) : (Go.sizeOf 81).run Try.prog w = .ok 2 w := by
  obtain ⟨q, hq, hq1, hq2, _⟩ := tyZero_inv mz81
  simp [Go.sizeOf, typeInfo, hq, hq2]
theorem insert_shift (b n c i vb voff m vc : Nat) (C : Array Value) (vs : List Value) (w : World) (hi : i < n) (hm : 0 < m) (hroom : n + m ≤ c) (hc63 : c ≤ 9223372036854775807) (hvb : vb ≠ b) (hg : w.heap[b]? = some (.cells C 81 (0, 0)))
    (hC : C.size = c * 2) (h1 : ∀ v ∈ C.toList.take (n * 2), v.oneCell' = true) (hvl : vs.length = m * 2)
    (hvs : ∀ j v, vs[j]? = some v → w.cell? ⟨vb, voff + j, none⟩ = some v) (h1v : ∀ v ∈ vs, v.oneCell' = true) :
    Calls Try.prog 105 #[.slice (some ⟨b, 0, none⟩) n c, .int .i64 i, .slice (some ⟨vb, voff, none⟩) m vc] w fun e w' =>
      e = .returned (.slice (some ⟨b, 0, none⟩) (n + m) c) ∧ ∃ C', w' = w.drew.setRow b C' ∧ C'.size = C.size ∧ C'.toList.take ((n + m) * 2) = insCells C n i vs := by
  have mixed : Try.prog.follows .mixedOrders = true := by kernel_rfl
  have hCl : C.toList.length = c * 2 := by simpa using hC
  have hz1 : ¬ ((m : Int) = 0) := by omega
  have hz2 : ¬ ((i : Int) = (n : Int)) := by omega
  have hov : ∀ lb cb, (callFunc 157 #[.slice (some ⟨vb, voff, none⟩) m vc, .slice (some ⟨b, (i + m) * 2, none⟩) lb cb]).run Try.prog w = .ok (.value (.bool false)) w := fun lb cb => by
    rw [run_callFunc_extern Try.func157 (by kernel_rfl) (by kernel_rfl) (by kernel_rfl) (e := Extern.SlicesOverlaps.overlaps #[67, 67] #[4]) (by kernel_rfl),
      run_overlaps_own w 67 4 81 mu67 2 ms81x vb b voff ((i + m) * 2) m vc lb cb hvb vs[0] (hvs 0 _ (List.getElem?_eq_getElem (by omega))) C 81 hg (by omega)]
    rfl
  have hw1 : IntKind.i64.wrap ((i : Int) + (m : Int)) = (i : Int) + (m : Int) := by rw [IntKind.wrap_i64]; omega
  have hb1 : (0 : Int) ≤ (i : Int) + (m : Int) := by omega
  have hin : i ≤ n := by omega
  have htn : ((i : Int) + (m : Int)).toNat = i + m := by omega
  have hb2 : ¬ (c = i + m) := by omega
  have hb3 : (i : Int) ≤ (n : Int) + (m : Int) := by omega
  have hb4 : ¬ (c = i) := by omega
  have hgd : w.drew.heap[b]? = some (.cells C 81 (0, 0)) := hg
  obtain ⟨cs, hcs⟩ : ∃ cs, cs = (C.toList.drop (i * 2)).take ((n - i) * 2) := ⟨_, rfl⟩
  have hcl : cs.length = (n - i) * 2 := by rw [hcs, List.length_take, List.length_drop, hCl]; omega
  have h1c : ∀ u ∈ cs, u.oneCell' = true := by
    intro u hu
    rw [hcs] at hu
    refine h1 u ?_
    have : (C.toList.drop (i * 2)).take ((n - i) * 2) = (C.toList.take (n * 2)).drop (i * 2) := by rw [List.drop_take]; congr 1; omega
    rw [this] at hu
    exact List.mem_of_mem_drop hu
  obtain ⟨C1, hC1⟩ : ∃ C1, C1 = (C.toList.take ((i + m) * 2) ++ cs ++ C.toList.drop ((i + m) * 2 + cs.length)).toArray := ⟨_, rfl⟩
  have hC1s : C1.size = c * 2 := by rw [hC1]; simp [hcl, hC]; omega
  have hcp1 : ∀ ty dc sc, (Builtin.copy_ #[67, 67] ty #[.slice (some ⟨b, (i + m) * 2, none⟩) (n + m - (i + m)) dc, .slice (some ⟨b, i * 2, none⟩) (n + m - i) sc]).run Try.prog w.drew = .ok (goInt ((n - i : Nat) : Int)) (w.drew.setRow b C1) := fun ty dc sc => by
    have hmin : Nat.min (n + m - i) (n + m - (i + m)) = n - i := by simp only [Nat.min_def]; split <;> omega
    have h := run_copy_rowN (P := Try.prog) w.drew 67 67 ty 81 b ((i + m) * 2) (n + m - (i + m)) dc ⟨b, i * 2, none⟩ (n + m - i) sc 2 C 81 cs mu67 ms81 hgd (by rw [hcl, hmin])
      (fun t u hu => by
        rw [hcs, List.getElem?_take] at hu
        split at hu
        · rw [List.getElem?_drop] at hu
          rw [Addr.add_lit]
          show w.cell? _ = _
          rw [cell_at hg]
          simpa using hu
        · cases hu) (by rw [hcl, hC]; omega) h1c
    rw [h, hmin, hC1]
  obtain ⟨C2, hC2⟩ : ∃ C2, C2 = (C1.toList.take (i * 2) ++ vs ++ C1.toList.drop (i * 2 + vs.length)).toArray := ⟨_, rfl⟩
  have hcp2 : ∀ (W : World), W = w.drew.setRow b C1 → ∀ ty dc, (Builtin.copy_ #[67, 67] ty #[.slice (some ⟨b, i * 2, none⟩) (n + m - i) dc, .slice (some ⟨vb, voff, none⟩) m vc]).run Try.prog W = .ok (goInt m) (w.drew.setRow b C2) := fun W hW ty dc => by
    have hmin : Nat.min m (n + m - i) = m := by simp only [Nat.min_def]; split <;> omega
    subst hW
    have h := run_copy_rowN (P := Try.prog) (w.drew.setRow b C1) 67 67 ty 81 b (i * 2) (n + m - i) dc ⟨vb, voff, none⟩ m vc 2 C1 81 vs mu67 ms81 (setRow_heap _ _ _ _ _ _ hgd) (by rw [hvl, hmin])
      (fun t u hu => by
        rw [Addr.add_lit, cell?_eq (setRow_other _ _ _ _ hvb)]
        exact hvs t u hu) (by rw [hvl, hC1s]; omega) h1v
    rw [h, hmin, setRow_setRow, hC2]
  have hfin : C2.size = C.size ∧ C2.toList.take ((n + m) * 2) = insCells C n i vs := by
    have hC1l : C1.toList.length = c * 2 := by simpa using hC1s
    constructor
    · rw [hC2]; simp [hvl, hC1s, hC]; omega
    · have ha : (C.toList.take ((i + m) * 2)).length = (i + m) * 2 := by rw [List.length_take, hCl]; omega
      have e1 : C1.toList.take (i * 2) = C.toList.take (i * 2) := by
        rw [hC1]
        show List.take _ (C.toList.take ((i + m) * 2) ++ cs ++ _) = _
        rw [List.append_assoc, List.take_append_of_le_length (by rw [ha]; omega), List.take_take]
        congr 1
        omega
      have e2 : ∃ r, C1.toList.drop (i * 2 + vs.length) = cs ++ r := by
        refine ⟨C.toList.drop ((i + m) * 2 + cs.length), ?_⟩
        rw [hC1]
        show List.drop _ (C.toList.take ((i + m) * 2) ++ cs ++ _) = _
        rw [List.append_assoc]
        exact List.drop_left' (by rw [ha, hvl]; omega)
      obtain ⟨r, e2⟩ := e2
      have e3 : C2.toList = (C.toList.take (i * 2) ++ vs ++ cs) ++ r := by
        rw [hC2]
        show C1.toList.take (i * 2) ++ vs ++ _ = _
        rw [e1, e2, List.append_assoc _ cs r]
      have e4 : (C.toList.take (i * 2) ++ vs ++ cs).length = (n + m) * 2 := by simp [hcl, hvl, hC]; omega
      rw [e3, ← e4, List.take_left, hcs]
      rfl
  clear hC2 hC1s hgd hvs h1v hCl hC1 hcs h1 h1c hcl
  go_enter Try.func105, Try.ntmps105
  go_wp2_with (simp only [hov])
  go_region_law_o (refine step_copy_runI rfl _ _ 67 67 rfl _ _ (by simp [Act.eval, Act.put]) (by simp [Act.eval, Act.put]) (hcp1 _ _ _) ?_)
  go_wp2_with (at_builtin; refine wpList_copy_runI _ rfl _ _ 67 67 rfl _ _ rfl rfl (hcp2 _ rfl _ _) ?_)
  go_ret
  exact ⟨rfl, C2, rfl, hfin⟩
end Go.Mod

namespace Go.Mod
open Go Go.AM Go.Proofs Go.RowKit Go.Lib
set_option linter.unusedVariables false
set_option maxHeartbeats 4000000
set_option maxRecDepth 1000000
def InsEnd (w w' : World) (l : Go.AM.Loc) (n : Nat) (v' : Value) (cs : List Value) : Prop := ∃ l', AppR w w' 81 2 l l' n v' cs
theorem insert_end (l : Go.AM.Loc) (n m vb voff vc : Nat) (xv : Value) (olds vs : List Value) (w : World) (hm : 0 < m) (hx : AppX w 81 2 l n xv olds) (hn63 : n ≤ 9223372036854775807) (hbig : (n + m) * 32 ≤ 140737488355328) (hvl : vs.length = m * 2)
    (hvs : ∀ j v, vs[j]? = some v → w.cell? ⟨vb, voff + j, none⟩ = some v) (h1v : ∀ v ∈ vs, v.oneCell' = true) :
    Calls Try.prog 105 #[xv, .int .i64 n, .slice (some ⟨vb, voff, none⟩) m vc] w fun e w' => ∃ v', e = .returned v' ∧ InsEnd w w' l (n + m) v' (olds ++ vs) := by
  have mixed : Try.prog.follows .mixedOrders = true := by kernel_rfl
  have hz1 : ¬ ((m : Int) = 0) := by omega
  obtain ⟨v', w', l', hrun, hres⟩ := append_core (P := Try.prog) (w := w) (t := 67) (ty := 67) (E := 81) (sz := 2) (bz := 32) (by kernel_rfl : tyElem Try.prog 67 = some (81, 2)) mz81 rfl (by omega) (by omega) (m := m) (yv := .slice (some ⟨vb, voff, none⟩) m vc) hx
    ⟨.inr ⟨_, _, rfl, hvl, fun j u hu => by rw [Addr.add_lit]; exact hvs j u hu, h1v⟩⟩ hbig
  obtain ⟨cs, hcs⟩ : ∃ cs, cs = olds ++ vs := ⟨_, rfl⟩
  have hres' : InsEnd w w' l (n + m) v' cs := by rw [hcs]; exact ⟨l', hres⟩
  rw [← hcs]
  clear hres hcs
  rcases hx.go with ⟨hmat, rfl, C, hC, hle, hcm, hCs, hol⟩ | ⟨hmat, rfl, hol, rfl⟩
  · have hcap : n ≤ l.cap := hle
    have hcap2 : l.cap ≤ 9223372036854775807 := hcm
    clear hx hC hCs hvs h1v hol
    go_enter Try.func105, Try.ntmps105
    go_wp2_with (at_builtin; refine Lib.wpList_append_run _ rfl _ _ _ _ rfl _ _ rfl rfl _ _ hrun ?_)
    all_goals (go_ret; first | exact ⟨v', rfl, hres'⟩ | (simp only [Int.natCast_zero, Nat.cast_zero, Nat.zero_add] at hres' ⊢; exact ⟨v', rfl, hres'⟩))
  · clear hx hvs h1v hol
    go_enter Try.func105, Try.ntmps105
    cases hva : l.va with
    | none =>
      rw [hva] at hrun
      go_wp2_with (at_builtin; refine Lib.wpList_append_run _ rfl _ _ _ _ rfl _ _ rfl rfl _ _ hrun ?_)
      all_goals (go_ret; first | exact ⟨v', rfl, hres'⟩ | (simp only [Int.natCast_zero, Nat.cast_zero, Nat.zero_add] at hres' ⊢; exact ⟨v', rfl, hres'⟩))
    | some a =>
      rw [hva] at hrun
      obtain ⟨ab, ao, asp⟩ := a
      go_wp2_with (at_builtin; refine Lib.wpList_append_run _ rfl _ _ _ _ rfl _ _ rfl rfl _ _ hrun ?_)
      all_goals (go_ret; first | exact ⟨v', rfl, hres'⟩ | (simp only [Int.natCast_zero, Nat.cast_zero, Nat.zero_add] at hres' ⊢; exact ⟨v', rfl, hres'⟩))
theorem insert_grow (b n c i vb voff m vc : Nat) (C : Array Value) (vs : List Value) (w : World) (hi : i < n) (hm : 0 < m) (hnc : n ≤ c) (hroom : c < n + m) (hbig : (n + m) * 32 ≤ 140737488355328) (hg : w.heap[b]? = some (.cells C 81 (0, 0)))
    (hC : C.size = c * 2) (h1 : ∀ v ∈ C.toList.take (n * 2), v.oneCell' = true) (hvl : vs.length = m * 2)
    (hvs : ∀ j v, vs[j]? = some v → w.cell? ⟨vb, voff + j, none⟩ = some v) (h1v : ∀ v ∈ vs, v.oneCell' = true) :
    Calls Try.prog 105 #[.slice (some ⟨b, 0, none⟩) n c, .int .i64 i, .slice (some ⟨vb, voff, none⟩) m vc] w fun e w' =>
      ∃ G C', e = .returned (.slice (some ⟨w.heap.size, 0, none⟩) (n + m) G) ∧ n + m ≤ G ∧ G ≤ maxLen ∧ SameSys w w' ∧ w.heap.size < w'.heap.size ∧ (∀ k, k < w.heap.size → w'.heap[k]? = w.heap[k]?) ∧
        w'.heap[w.heap.size]? = some (.cells C' 81 (0, 0)) ∧ C'.size = G * 2 ∧ C'.toList.take ((n + m) * 2) = insCells C n i vs := by
  have mixed : Try.prog.follows .mixedOrders = true := by kernel_rfl
  obtain ⟨q, hq, hq1, hq2, hq3⟩ := tyZero_inv mz81
  have hCl : C.toList.length = c * 2 := by simpa using hC
  have hz1 : ¬ ((m : Int) = 0) := by omega
  have hz2 : ¬ ((i : Int) = (n : Int)) := by omega
  have hz3 : (c : Int) < (n : Int) + (m : Int) := by omega
  have hbw : b < w.heap.size := (Array.getElem?_eq_some_iff.1 hg).1
  have hvw : vb < w.heap.size := block_lt_of_cell (hvs 0 _ (List.getElem?_eq_getElem (by omega)))
  have hkk : (n : Int) + (m : Int) - (i : Int) = ((n + m - i : Nat) : Int) := by omega
  have hik : i + (n + m - i) = n + m := by omega
  obtain ⟨hd, hhd⟩ : ∃ hd, hd = C.toList.take (i * 2) := ⟨_, rfl⟩
  have hhl : hd.length = i * 2 := by rw [hhd, List.length_take, hCl]; omega
  have hold : (Builtin.firstCells q.size i (.slice (some ⟨b, 0, none⟩) i c)).run Try.prog w.drew = .ok hd.toArray w.drew := by
    rw [hq2]
    refine run_firstCells_some w.drew 2 i ⟨b, 0, none⟩ i c hd hhl (fun j v hj => ?_)
    rw [hhd, List.getElem?_take] at hj
    split at hj
    · rw [Addr.add_lit]
      show w.cell? _ = _
      rw [cell_at hg]
      simpa using hj
    · cases hj
  obtain ⟨G, hG⟩ : ∃ G, G = grownCap w (n + m) c 81 := ⟨_, rfl⟩
  have hGn : n + m ≤ G := by rw [hG]; exact grownCap_ge w _ _ _
  have hGM : G ≤ maxLen := by rw [hG]; exact grownCap_le_maxLen w (n + m) c 81 (by unfold maxLen; omega)
  have hG63 : G ≤ 9223372036854775807 := by unfold maxLen at hGM; omega
  obtain ⟨ROW, hROW⟩ : ∃ ROW : Array Value, ROW = hd.toArray ++ Builtin.zeroCells #[.int .i64 0, .slice none 0 0] (n + m - i) ++ Builtin.zeroCells #[.int .i64 0, .slice none 0 0] (G - (n + m)) := ⟨_, rfl⟩
  have hRs : ROW.size = G * 2 := by
    rw [hROW]
    simp [size_zeroCells, hhl]
    omega
  have hRt : ROW.toList.take (i * 2) = hd := by
    rw [hROW]
    simp only [Array.toList_append, List.append_assoc]
    rw [← hhl]
    exact List.take_left
  have hrz : ∀ ty, (Builtin.append_ #[67, 3] ty #[.slice (some ⟨b, 0, none⟩) i c, .int .i64 ((n : Int) + (m : Int) - (i : Int))]).run Try.prog w =
      .ok (.slice (some ⟨w.heap.size, 0, none⟩) (n + m) G) (w.drew.alloc (.cells ROW 81)) := fun ty => by
    have h := Lib.run_append_grow_zeros w 67 3 ty 81 q _ .i64 .i64 mu67 mz3 hq hq1 (some ⟨b, 0, none⟩) i c hd hold (n + m - i) (by omega) (by omega) (by omega) (by omega) (by rw [hq3]; omega) (by rw [hq3, hik]; exact growslice_fits hroom hbig)
    rw [hik] at h
    rw [hkk, hROW, hG]
    exact h
  obtain ⟨g1, g2, g3, g4⟩ := alloc_new w.drew (.cells ROW 81)
  have hN : (w.alloc (.cells ROW 81)).drew.heap[w.heap.size]? = some (.cells ROW 81 (0, 0)) := g4
  have hO : ∀ k, k < w.heap.size → (w.alloc (.cells ROW 81)).drew.heap[k]? = w.heap[k]? := g3
  obtain ⟨C1, hC1⟩ : ∃ C1, C1 = (ROW.toList.take (i * 2) ++ vs ++ ROW.toList.drop (i * 2 + vs.length)).toArray := ⟨_, rfl⟩
  have hC1s : C1.size = G * 2 := by rw [hC1]; simp [hvl, hRs]; omega
  have hcpA : ∀ (W : World), W = (w.alloc (.cells ROW 81)).drew → ∀ ty dc, (Builtin.copy_ #[67, 67] ty #[.slice (some ⟨w.heap.size, i * 2, none⟩) (n + m - i) dc, .slice (some ⟨vb, voff, none⟩) m vc]).run Try.prog W = .ok (goInt m) ((w.alloc (.cells ROW 81)).drew.setRow w.heap.size C1) := fun W hW ty dc => by
    have hmin : Nat.min m (n + m - i) = m := by simp only [Nat.min_def]; split <;> omega
    subst hW
    have h := run_copy_rowN (P := Try.prog) (w.alloc (.cells ROW 81)).drew 67 67 ty 81 w.heap.size (i * 2) (n + m - i) dc ⟨vb, voff, none⟩ m vc 2 ROW 81 vs mu67 ms81 hN (by rw [hvl, hmin])
      (fun t u hu => by
        rw [Addr.add_lit, cell?_eq (hO vb hvw)]
        exact hvs t u hu) (by rw [hvl, hRs]; omega) h1v
    rw [h, hmin, hC1]
  obtain ⟨cs, hcs⟩ : ∃ cs, cs = (C.toList.drop (i * 2)).take ((n - i) * 2) := ⟨_, rfl⟩
  have hcl : cs.length = (n - i) * 2 := by rw [hcs, List.length_take, List.length_drop, hCl]; omega
  have h1c : ∀ u ∈ cs, u.oneCell' = true := by
    intro u hu
    rw [hcs] at hu
    refine h1 u ?_
    have : (C.toList.drop (i * 2)).take ((n - i) * 2) = (C.toList.take (n * 2)).drop (i * 2) := by rw [List.drop_take]; congr 1; omega
    rw [this] at hu
    exact List.mem_of_mem_drop hu
  obtain ⟨C2, hC2⟩ : ∃ C2, C2 = (C1.toList.take ((i + m) * 2) ++ cs ++ C1.toList.drop ((i + m) * 2 + cs.length)).toArray := ⟨_, rfl⟩
  have hcpB : ∀ (W : World), W = ((w.alloc (.cells ROW 81)).drew.setRow w.heap.size C1).drew → ∀ ty dc sc, (Builtin.copy_ #[67, 67] ty #[.slice (some ⟨w.heap.size, (i + m) * 2, none⟩) (n + m - (i + m)) dc, .slice (some ⟨b, i * 2, none⟩) (n - i) sc]).run Try.prog W =
      .ok (goInt ((n - i : Nat) : Int)) (((w.alloc (.cells ROW 81)).drew.setRow w.heap.size C1).drew.setRow w.heap.size C2) := fun W hW ty dc sc => by
    have hmin : Nat.min (n - i) (n + m - (i + m)) = n - i := by simp only [Nat.min_def]; split <;> omega
    subst hW
    have h := run_copy_rowN (P := Try.prog) ((w.alloc (.cells ROW 81)).drew.setRow w.heap.size C1).drew 67 67 ty 81 w.heap.size ((i + m) * 2) (n + m - (i + m)) dc ⟨b, i * 2, none⟩ (n - i) sc 2 C1 81 cs mu67 ms81 (setRow_heap _ _ _ _ _ _ hN) (by rw [hcl, hmin])
      (fun t u hu => by
        rw [hcs, List.getElem?_take] at hu
        split at hu
        · rw [List.getElem?_drop] at hu
          rw [Addr.add_lit]
          show ((w.alloc (.cells ROW 81)).drew.setRow w.heap.size C1).cell? _ = _
          rw [cell?_eq (setRow_other _ _ _ _ (Nat.ne_of_lt hbw)), cell?_eq (hO b hbw), cell_at hg]
          simpa using hu
        · cases hu) (by rw [hcl, hC1s]; omega) h1c
    rw [h, hmin, hC2]
  have hend : SameSys w (((w.alloc (.cells ROW 81)).drew.setRow w.heap.size C1).drew.setRow w.heap.size C2) ∧ w.heap.size < (((w.alloc (.cells ROW 81)).drew.setRow w.heap.size C1).drew.setRow w.heap.size C2).heap.size ∧
      (∀ k, k < w.heap.size → (((w.alloc (.cells ROW 81)).drew.setRow w.heap.size C1).drew.setRow w.heap.size C2).heap[k]? = w.heap[k]?) ∧
      (((w.alloc (.cells ROW 81)).drew.setRow w.heap.size C1).drew.setRow w.heap.size C2).heap[w.heap.size]? = some (.cells C2 81 (0, 0)) ∧ C2.size = G * 2 ∧ C2.toList.take ((n + m) * 2) = insCells C n i vs := by
    have hC1l : C1.toList.length = G * 2 := by simpa using hC1s
    have hfs := setRow_heap ((w.alloc (.cells ROW 81)).drew.setRow w.heap.size C1).drew w.heap.size C1 C2 81 (0, 0) (setRow_heap _ _ _ _ _ _ hN)
    refine ⟨⟨g1.os, g1.tape, g1.output⟩, (Array.getElem?_eq_some_iff.1 hfs).1, fun k hk => ?_, hfs, ?_, ?_⟩
    · rw [setRow_other _ _ _ _ (Nat.ne_of_lt hk)]
      show ((w.alloc (.cells ROW 81)).drew.setRow w.heap.size C1).heap[k]? = _
      rw [setRow_other _ _ _ _ (Nat.ne_of_lt hk)]
      exact hO k hk
    · rw [hC2]; simp [hcl, hC1s]; omega
    · have e1 : C1.toList = (hd ++ vs) ++ ROW.toList.drop (i * 2 + vs.length) := by rw [hC1, ← hRt]
      have e2 : C1.toList.take ((i + m) * 2) = hd ++ vs := by
        rw [e1, show (i + m) * 2 = (hd ++ vs).length by rw [List.length_append, hhl, hvl]; omega]
        exact List.take_left
      have e3 : C2.toList = (hd ++ vs ++ cs) ++ C1.toList.drop ((i + m) * 2 + cs.length) := by rw [hC2, ← e2]
      have e4 : (hd ++ vs ++ cs).length = (n + m) * 2 := by rw [List.length_append, List.length_append, hhl, hvl, hcl]; omega
      rw [e3, ← e4, List.take_left, hhd, hcs]
      rfl
  have hw1 : IntKind.i64.wrap ((i : Int) + (m : Int)) = (i : Int) + (m : Int) := by rw [IntKind.wrap_i64]; omega
  have hb1 : (0 : Int) ≤ (i : Int) + (m : Int) := by omega
  have hin : i ≤ n := by omega
  have htn : ((i : Int) + (m : Int)).toNat = i + m := by omega
  have hb3 : (i : Int) ≤ (n : Int) := by omega
  have hGi : ¬ (G = i) := by omega
  have hGim : ¬ (G = i + m) := by omega
  have hci : ¬ (c = i) := by omega
  clear hkk hik hold hROW hG hRs hRt hN hO g1 g2 g3 g4 hC1s hC1 hcl hcs h1c hC2 h1 hvs h1v hCl hhl hhd hq hq1 hq2 hq3
  go_enter Try.func105, Try.ntmps105
  go_wp2_with (first
    | (at_builtin; refine Lib.wpList_append_run _ rfl _ _ _ _ rfl _ _ rfl rfl _ _ (hrz _) ?_)
    | (at_builtin; refine wpList_copy_runI _ rfl _ _ 67 67 rfl _ _ rfl rfl (hcpA _ rfl _ _) ?_))

  go_region_law_o (refine step_copy_runI rfl _ _ 67 67 rfl (.slice (some ⟨w.heap.size, (i + m) * 2, none⟩) (n + m - (i + m)) (G - (i + m))) (.slice (some ⟨b, i * 2, none⟩) (n - i) (c - i)) (by simp [Act.eval, Act.put]) (by simp [Act.eval, Act.put]) (hcpB _ rfl 3 (G - (i + m)) (c - i)) ?_)
  go_wp2
  go_ret
  exact ⟨G, C2, rfl, hGn, hGM, hend⟩
end Go.Mod

namespace Go.Mod
open Go Go.AM Go.Proofs Go.RowKit Go.Lib
set_option maxHeartbeats 4000000
set_option maxRecDepth 100000
theorem flat_takeN {sz : Nat} : ∀ {es : List AV} (i : Nat), (∀ e ∈ es, e.cells.length = sz) → flat (es.take i) = (flat es).take (i * sz)
  | [], i, _ => by simp [flat]
  | e :: es, 0, _ => by simp [flat]
  | e :: es, i + 1, h => by
    have h0 : e.cells.length = sz := h e (by simp)
    have ih := flat_takeN (es := es) i (fun e he => h e (by simp [he]))
    show flat (e :: es.take i) = _
    have e1 : ∀ l : List AV, flat (e :: l) = e.cells ++ flat l := fun l => by simp [flat]
    rw [e1, e1, ih, show (i + 1) * sz = e.cells.length + i * sz by rw [h0, Nat.add_mul]; omega, List.take_append, List.take_of_length_le (l := e.cells) (Nat.le_add_right _ _), Nat.add_sub_cancel_left]
theorem flat_dropN {sz : Nat} {es : List AV} (i : Nat) (hi : i ≤ es.length) (h : ∀ e ∈ es, e.cells.length = sz) : flat (es.drop i) = (flat es).drop (i * sz) := by
  have e1 : flat es = flat (es.take i) ++ flat (es.drop i) := by rw [← flat_app, List.take_append_drop]
  have e2 : (flat (es.take i)).length = i * sz := by
    rw [Xa (fun e he => h e (List.mem_of_mem_take he)), List.length_take]; congr 1; omega
  rw [e1, ← e2]
  exact List.drop_left.symm
theorem setRow_appR {w : World} {l : Go.AM.Loc} {n : Nat} {C C' : Array Value} {E : TypeId} {cs : List Value} (hm : l.mat = true) (hC : w.heap[l.blk]? = some (.cells C E (0, 0))) (hn : n ≤ l.cap) (hc : l.cap ≤ maxLen) (hs : C'.size = l.cap * 2)
    (ht : C'.toList.take (n * 2) = cs) : AppR w (w.drew.setRow l.blk C') E 2 l l n (.slice (some ⟨l.blk, 0, none⟩) n l.cap) cs :=
  { sys := ⟨rfl, rfl, rfl⟩, grow := (by rw [setRow_size]; exact Nat.le_refl _), fp := rfl, sv := rfl
    same := fun b hb h => by rw [setRow_other _ _ _ _ (fun e => h hm rfl e.symm)]; rfl
    go := .inr ⟨hm, rfl, ⟨C', setRow_heap _ _ _ _ _ _ (show w.drew.heap[l.blk]? = _ from hC), hn, hc, hs, ht⟩, .inl ⟨hm, rfl⟩⟩ }
theorem ones_app {xs ys : List AV} (hx : ∀ (j : Nat) x, xs[j]? = some x → one x = true) (hy : ∀ (j : Nat) x, ys[j]? = some x → one x = true) : ∀ (j : Nat) x, (xs ++ ys)[j]? = some x → one x = true := by
  intro j x h
  by_cases hj : j < xs.length
  · rw [List.getElem?_append_left hj] at h; exact hx j x h
  · rw [List.getElem?_append_right (by omega)] at h; exact hy _ x h
theorem ones_take {xs : List AV} (hx : ∀ (j : Nat) x, xs[j]? = some x → one x = true) (n : Nat) : ∀ (j : Nat) x, (xs.take n)[j]? = some x → one x = true := by
  intro j x h
  rw [List.getElem?_take] at h
  split at h
  · exact hx j x h
  · cases h
theorem ones_drop {xs : List AV} (hx : ∀ (j : Nat) x, xs[j]? = some x → one x = true) (n : Nat) : ∀ (j : Nat) x, (xs.drop n)[j]? = some x → one x = true := by
  intro j x h
  rw [List.getElem?_drop] at h
  exact hx _ x h
theorem insert_any (l : Go.AM.Loc) (n a m vb voff vc : Nat) (xv : Value) (olds news : List Value) (w : World) (hx : AppX w 81 2 l n xv olds) (ha : a ≤ n) (hm : 0 < m) (hvb : l.mat = true → vb ≠ l.blk) (hbig : (n + m) * 32 ≤ 140737488355328)
    (h1 : ∀ v ∈ olds, v.oneCell' = true) (hvl : news.length = m * 2) (hvs : ∀ j v, news[j]? = some v → w.cell? ⟨vb, voff + j, none⟩ = some v) (h1v : ∀ v ∈ news, v.oneCell' = true) :
    Calls Try.prog 105 #[xv, .int .i64 a, .slice (some ⟨vb, voff, none⟩) m vc] w fun e w' => ∃ v' l', e = .returned v' ∧ AppR w w' 81 2 l l' (n + m) v' (olds.take (a * 2) ++ news ++ olds.drop (a * 2)) := by
  have hol : olds.length = n * 2 := by
    rcases hx.go with ⟨_, _, C, _, hle, _, hCs, rfl⟩ | ⟨_, rfl, rfl, _⟩
    · rw [List.length_take, Array.length_toList, hCs]; omega
    · rfl
  by_cases hend : a = n
  · subst hend
    refine (insert_end l a m vb voff vc xv olds news w hm hx (by omega) hbig hvl hvs h1v).mono (fun e w' ⟨v', he, l', hres⟩ => ⟨v', l', he, ?_⟩)
    rw [List.take_of_length_le (by omega), List.drop_eq_nil_of_le (by omega), List.append_nil]
    exact hres
  · rcases hx.go with ⟨hmat, rfl, C, hC, hle, hcm, hCs, hold⟩ | ⟨_, rfl, _, _⟩
    · have e1 : insCells C n a news = olds.take (a * 2) ++ news ++ olds.drop (a * 2) := by
        unfold insCells
        rw [hold, List.take_take, List.drop_take]
        congr 2
        · congr 1; omega
        · omega
      rw [← e1]
      rw [hold] at h1
      by_cases hroom : n + m ≤ l.cap
      · refine (insert_shift l.blk n l.cap a vb voff m vc C news w (by omega) hm hroom hcm (hvb hmat) hC hCs h1 hvl hvs h1v).mono (fun e w' ⟨he, C', hw, hs, ht⟩ => ?_)
        subst hw
        exact ⟨_, l, he, setRow_appR hmat hC hroom hcm (by rw [hs, hCs]) ht⟩
      · refine (insert_grow l.blk n l.cap a vb voff m vc C news w (by omega) hm hle (by omega) hbig hC hCs h1 hvl hvs h1v).mono (fun e w' ⟨G, C', he, hGn, hGM, hsys, hsz, hold, hnew, hs, ht⟩ => ?_)
        exact ⟨_, { l with blk := w.heap.size, cap := G, mat := true }, he,
          { sys := hsys, grow := Nat.le_of_lt hsz, fp := rfl, sv := rfl, same := fun b hb _ => hold b hb, go := .inr ⟨rfl, rfl, ⟨C', hnew, hGn, hGM, hs, ht⟩, .inr ⟨Nat.le_refl _, hsz⟩⟩ }⟩
    · omega
section
variable {α : Type} {F : Fr} {N : Nat} {ops : Array Oper} {rest : List Oper} {K : St → Prop} {tys : Array TypeId} {ty : TypeId} {pos : String} {after : Array Edge} {d id id2 : Nat} {s s1 s' : Xb} {h h1 h' : Heap} {x y z : Operand}
theorem deep_appX {es : List AV} {E : TypeId} {S : Nat → Prop} {w : World} {φ : Nat → Go.AM.Loc} {L : Heap} {u : Value} (hH : HeapOK S w φ L) (hl : lk L id = some (.arr ⟨false, true⟩ 2 E es)) (hu : RepV S w φ L (.ow id) u) :
    (∀ e ∈ es, e.cells.length = 2) ∧ (∀ (j : Nat) x, (flat es)[j]? = some x → one x = true) ∧ ∃ olds fps, AppX w E 2 (φ id) es.length u olds ∧ DW w (flat es) olds fps ∧ (∀ v ∈ olds, v.oneCell' = true) ∧ fps.flatten.Nodup ∧
      ((φ id).mat = true → (φ id).blk ∉ fps.flatten) ∧ ∀ b ∈ fps.flatten, b ∈ (φ id).fp := by
  obtain ⟨h1, h2, h3⟩ := deep_cells hH hl hu
  refine ⟨h1, h2, ?_⟩
  rcases h3 with ⟨hm, hv, C, fps, hC, hle, hcm, hCs, hD, ho, hn, hf⟩ | ⟨hm, rfl, hv⟩
  · exact ⟨_, fps, ⟨.inl ⟨hm, hv, C, hC, hle, hcm, hCs, rfl⟩⟩, hD, ho, (List.nodup_cons.1 hn).2, fun _ => (List.nodup_cons.1 hn).1, hf⟩
  · exact ⟨[], [], ⟨.inr ⟨hm, rfl, rfl, hv⟩⟩, ⟨by simp [flat], by simp [flat], fun i x v fp hx => by simp [flat] at hx⟩, by simp, by simp, by simp, by simp⟩
theorem TL_insertD {f : α → AV} {l vs out : List α} {i : Int} {E2 : TypeId} (hm : m_slices_Insert l i vs = some out) (hcall : ∀ args w, (callFunc 105 args).run Try.prog w = .ok (.enter 105 args) w)
    (hx : aev s x = some (.ow id)) (hy : aev s y = some (.int .i64 i)) (hz : aev s z = some (.ow id2)) (hl : lk h id = some (.arr ⟨false, true⟩ 2 81 (List.map f l))) (hl2 : lk h id2 = some (.arr ⟨false, true⟩ 2 E2 (List.map f vs)))
    (hne : Nat.beq id id2 = false) (hF2 : lk F.η id2 = none)
    (hks : killSL [id, id2] s = some s1) (hkh : killHL [id, id2] h = some h1) (hh : sput (dropH [id2] h1) id (.arr ⟨false, true⟩ 2 81 (List.map f out)) = some h') (hN : Nat.blt d N = true) (hs : sput s1 d (.ow id) = some s')
    (k : TL Try.prog F N ops rest K ⟨s', h'⟩) : TL Try.prog F N ops (⟨some d, .call ⟨.value (.func 105), #[x, y, z], tys⟩, ty, pos, after, none⟩ :: rest) K ⟨s, h⟩ := by
  have hd : 0 ≤ i ∧ i ≤ l.length ∧ 1 ≤ vs.length ∧ (l.length + vs.length) * 32 ≤ 140737488355328 ∧ out = l.take i.toNat ++ vs ++ l.drop i.toNat := by
    unfold m_slices_Insert at hm
    cases h1 : decide (0 ≤ i) <;> cases h2 : decide (i ≤ l.length) <;> cases h3 : decide (1 ≤ vs.length) <;> cases h4 : decide ((l.length + vs.length) * 32 ≤ 140737488355328) <;> simp only [h1, h2, h3, h4, Bool.and_true, Bool.and_false, cond_true, cond_false] at hm <;> first | (cases hm; done) | skip
    exact ⟨of_decide_eq_true h1, of_decide_eq_true h2, of_decide_eq_true h3, of_decide_eq_true h4, (Option.some.inj hm).symm⟩
  clear hm
  obtain ⟨h0, hil, h2, hbig, rfl⟩ := hd
  obtain ⟨a, rfl⟩ : ∃ a : Nat, i = a := ⟨i.toNat, by omega⟩
  simp only [Int.toNat_natCast] at hh
  have hal : a ≤ (List.map f l).length := by rw [List.length_map]; omega
  have hne' : id ≠ id2 := fun e => by rw [(beq_iff id id2).2 e] at hne; cases hne
  refine TL_enter (vs := fun a => #[x, y, z].map a.eval) rfl (fun φ a w hr => exec_call rfl rfl hcall) (fun φ act w hr => ?_) k
  have r1 := (aev_rep hr hy).int_inv
  obtain ⟨hlens, hones, olds, fps, hX, hD, ho, hnd, hnb, hfp⟩ := deep_appX hr.heap hl (aev_rep hr hx)
  obtain ⟨hlens2, hones2, h3⟩ := deep_cells hr.heap hl2 (aev_rep hr hz)
  rcases h3 with ⟨hm2, hv2, C2, fps2, hC2, hle2, hcm2, hCs2, hD2, ho2, hn2, hf2⟩ | ⟨_, he, _⟩
  rotate_left
  · rw [List.map_eq_nil_iff.1 he] at h2; simp at h2
  have eo : List.map f (l.take a ++ vs ++ l.drop a) = (List.map f l).take a ++ List.map f vs ++ (List.map f l).drop a := by simp [List.map_take, List.map_drop]
  have hf : flat (List.map f (l.take a ++ vs ++ l.drop a)) = (flat (List.map f l)).take (a * 2) ++ flat (List.map f vs) ++ (flat (List.map f l)).drop (a * 2) := by
    rw [eo, flat_app, flat_app, flat_takeN a hlens, flat_dropN a hal hlens]
  have hn : (List.map f (l.take a ++ vs ++ l.drop a)).length = (List.map f l).length + (List.map f vs).length := by simp at hal ⊢; omega
  have hvl : ((C2.toList.take ((List.map f vs).length * 2))).length = (List.map f vs).length * 2 := by
    have hl2 : C2.toList.length = (φ id2).cap * 2 := by rw [Array.length_toList]; exact hCs2
    rw [List.length_take, hl2]; omega
  have hc := insert_any (φ id) (List.map f l).length a (List.map f vs).length (φ id2).blk 0 (φ id2).cap (act.eval x) olds (C2.toList.take ((List.map f vs).length * 2)) w hX hal (by rw [List.length_map]; omega)
    (fun h1 e => hne' (hr.heap.inj id id2 _ _ hl hl2 h1 hm2 e.symm)) (by rw [List.length_map, List.length_map]; exact hbig) ho hvl (fun j v hj => by
      rw [List.getElem?_take] at hj
      split at hj
      · rw [Nat.zero_add, cell_at hC2]; simpa using hj
      · cases hj) ho2
  have hv : (#[x, y, z].map act.eval : Array Value) = #[act.eval x, .int .i64 a, .slice (some ⟨(φ id2).blk, 0, none⟩) (List.map f vs).length (φ id2).cap] := by simp [r1, hv2]
  show Calls Try.prog 105 (#[x, y, z].map act.eval) w _
  rw [hv]
  refine hc.mono (fun e w' ⟨v', l', he, hres⟩ => ?_)
  rw [← hn] at hres
  have hperm : (fps.take (a * 2) ++ fps2 ++ fps.drop (a * 2)).flatten.Perm (fps.flatten ++ fps2.flatten) := by
    have e1 : fps.flatten = (fps.take (a * 2)).flatten ++ (fps.drop (a * 2)).flatten := by rw [← List.flatten_append, List.take_append_drop]
    rw [List.flatten_append, List.flatten_append, e1, List.append_assoc, List.append_assoc]
    exact List.Perm.append_left _ List.perm_append_comm
  have hdis : ∀ b ∈ fps.flatten, b ∉ fps2.flatten := fun b hb hb2 => hne' (hr.heap.injO id id2 _ _ b hl hl2 (.inr (hfp b hb)) (.inr (hf2 b hb2)))
  obtain ⟨φ', hr', hv'⟩ := hr.relaid [id2] hl (by simpa using hne') (fun j hj => by rw [List.mem_singleton.1 hj]; exact hF2) hks hkh hh hres
    (fun e he => by
      rw [eo] at he
      rcases List.mem_append.1 he with he | he
      · rcases List.mem_append.1 he with he | he
        · exact hlens e (List.mem_of_mem_take he)
        · exact hlens2 e he
      · exact hlens e (List.mem_of_mem_drop he))
    (by rw [hf]; exact ones_app (ones_app (ones_take hones _) hones2) (ones_drop hones _)) (by rw [hf]; exact ((hD.take _).app hD2).app (hD.drop _))
    (hperm.nodup_iff.2 (List.nodup_append.2 ⟨hnd, (List.nodup_cons.1 hn2).2, fun x hx y hy e => hdis x hx (e ▸ hy)⟩))
    (fun h1 hb => by
      rcases List.mem_append.1 (hperm.mem_iff.1 hb) with hb | hb
      · exact hnb h1 hb
      · exact hne' (hr.heap.injO id id2 _ _ _ hl hl2 (.inl ⟨h1, rfl⟩) (.inr (hf2 _ hb))))
    (fun b hb => by
      rcases List.mem_append.1 (hperm.mem_iff.1 hb) with hb | hb
      · exact .inl (hfp b hb)
      · exact .inr ⟨id2, _, by simp, hl2, .inr (hf2 b hb)⟩)
  exact ⟨v', he, ⟨φ', hr'.put (Nat.le_of_ble_eq_true hN) hs hv'⟩, fun h => nomatch h⟩
end
end Go.Mod

namespace Go.Mod
open Go Go.AM Go.Proofs
set_option linter.unusedVariables false
set_option linter.unusedSimpArgs false
set_option maxRecDepth 100000
set_option maxHeartbeats 8000000
def a_i64 (x : Int) : AV := .int .i64 x
def Qa (x : Term) : AV := .agg [.int .i64 x.Const, .sl 1 (List.map a_i64 x.Coeffs)]
def Qd (x : Instr) : AV := .agg [.int .i64 x.Op, .int .i64 x.Arg]
def Qc (x : Point) : AV := .agg [.int .i64 x.At, .sl 2 (List.map Qa x.Facts)]
def a_Annotated (x : Annotated) : AV := .agg [.sl 2 (List.map Qa x.Pre), .sl 2 (List.map Qa x.Post), .sl 2 (List.map Qd x.Code), .sl 2 (List.map Qc x.Points)]
def aLa_Term (x : List Term) : AV := .sl 2 (List.map Qa x)
def aLa_i64 (x : List Int) : AV := .sl 1 (List.map a_i64 x)
def aLa_Instr (x : List Instr) : AV := .sl 2 (List.map Qd x)
def aLa_Point (x : List Point) : AV := .sl 2 (List.map Qc x)
theorem ag121 : tyAgg Try.prog 121 = some true := by kernel_rfl
theorem ag179 : tyAgg Try.prog 179 = some true := by kernel_rfl
theorem ag184 : tyAgg Try.prog 184 = some true := by kernel_rfl
theorem ag2 : tyAgg Try.prog 2 = some false := by kernel_rfl
theorem ag24 : tyAgg Try.prog 24 = some false := by kernel_rfl
theorem ag26 : tyAgg Try.prog 26 = some false := by kernel_rfl
theorem ag40 : tyAgg Try.prog 40 = some true := by kernel_rfl
theorem ag43 : tyAgg Try.prog 43 = some false := by kernel_rfl
theorem ag61 : tyAgg Try.prog 61 = some false := by kernel_rfl
theorem ag62 : tyAgg Try.prog 62 = some false := by kernel_rfl
theorem ag64 : tyAgg Try.prog 64 = some true := by kernel_rfl
theorem ag66 : tyAgg Try.prog 66 = some false := by kernel_rfl
theorem ag67 : tyAgg Try.prog 67 = some false := by kernel_rfl
theorem ag69 : tyAgg Try.prog 69 = some true := by kernel_rfl
theorem ag77 : tyAgg Try.prog 77 = some true := by kernel_rfl
theorem ag81 : tyAgg Try.prog 81 = some true := by kernel_rfl
theorem el24 : tyElem Try.prog 24 = some (40, 2) := by kernel_rfl
theorem el26 : tyElem Try.prog 26 = some (2, 1) := by kernel_rfl
theorem el43 : tyElem Try.prog 43 = some (121, 2) := by kernel_rfl
theorem el61 : tyElem Try.prog 61 = some (179, 2) := by kernel_rfl
theorem el62 : tyElem Try.prog 62 = some (77, 2) := by kernel_rfl
theorem el66 : tyElem Try.prog 66 = some (184, 2) := by kernel_rfl
theorem el67 : tyElem Try.prog 67 = some (81, 2) := by kernel_rfl
theorem fa121_0 : tyField Try.prog 121 0 = some 0 := by kernel_rfl
theorem fa121_1 : tyField Try.prog 121 1 = some 1 := by kernel_rfl
theorem fa179_0 : tyField Try.prog 179 0 = some 0 := by kernel_rfl
theorem fa179_1 : tyField Try.prog 179 1 = some 1 := by kernel_rfl
theorem fa184_0 : tyField Try.prog 184 0 = some 0 := by kernel_rfl
theorem fa184_1 : tyField Try.prog 184 1 = some 1 := by kernel_rfl
theorem fa40_0 : tyField Try.prog 40 0 = some 0 := by kernel_rfl
theorem fa40_1 : tyField Try.prog 40 1 = some 1 := by kernel_rfl
theorem fa64_0 : tyField Try.prog 64 0 = some 0 := by kernel_rfl
theorem fa64_1 : tyField Try.prog 64 1 = some 1 := by kernel_rfl
theorem fa64_2 : tyField Try.prog 64 2 = some 2 := by kernel_rfl
theorem fa64_3 : tyField Try.prog 64 3 = some 3 := by kernel_rfl
theorem fa69_0 : tyField Try.prog 69 0 = some 0 := by kernel_rfl
theorem fa69_1 : tyField Try.prog 69 1 = some 1 := by kernel_rfl
theorem fa69_2 : tyField Try.prog 69 2 = some 2 := by kernel_rfl
theorem fa69_3 : tyField Try.prog 69 3 = some 3 := by kernel_rfl
theorem fa77_0 : tyField Try.prog 77 0 = some 0 := by kernel_rfl
theorem fa77_1 : tyField Try.prog 77 1 = some 1 := by kernel_rfl
theorem fa81_0 : tyField Try.prog 81 0 = some 0 := by kernel_rfl
theorem fa81_1 : tyField Try.prog 81 1 = some 1 := by kernel_rfl
theorem mix : Try.prog.follows .mixedOrders = true := by kernel_rfl
theorem pl184 : tyPlaces Try.prog 184 = some [(0, 1), (1, 1)] := by kernel_rfl
theorem pl69 : tyPlaces Try.prog 69 = some [(0, 1), (1, 1), (2, 1), (3, 1)] := by kernel_rfl
theorem pl81 : tyPlaces Try.prog 81 = some [(0, 1), (1, 1)] := by kernel_rfl
theorem sz121 : tySize Try.prog 121 = some 2 := by kernel_rfl
theorem sz179 : tySize Try.prog 179 = some 2 := by kernel_rfl
theorem sz184 : tySize Try.prog 184 = some 2 := by kernel_rfl
theorem sz2 : tySize Try.prog 2 = some 1 := by kernel_rfl
theorem sz24 : tySize Try.prog 24 = some 1 := by kernel_rfl
theorem sz26 : tySize Try.prog 26 = some 1 := by kernel_rfl
theorem sz40 : tySize Try.prog 40 = some 2 := by kernel_rfl
theorem sz64 : tySize Try.prog 64 = some 4 := by kernel_rfl
theorem sz66 : tySize Try.prog 66 = some 1 := by kernel_rfl
theorem sz67 : tySize Try.prog 67 = some 1 := by kernel_rfl
theorem sz69 : tySize Try.prog 69 = some 4 := by kernel_rfl
theorem sz77 : tySize Try.prog 77 = some 2 := by kernel_rfl
theorem sz81 : tySize Try.prog 81 = some 2 := by kernel_rfl
theorem z184 : tyZero Try.prog 184 = some (.agg #[.int .i64 0, .slice none 0 0], 2, 32) := by kernel_rfl
theorem z2 : tyZero Try.prog 2 = some (.int .i64 0, 1, 8) := by kernel_rfl
theorem z40 : tyZero Try.prog 40 = some (.agg #[.int .i64 0, .int .i64 0], 2, 16) := by kernel_rfl
theorem z69 : tyZero Try.prog 69 = some (.agg #[.slice none 0 0, .slice none 0 0, .slice none 0 0, .slice none 0 0], 4, 96) := by kernel_rfl
theorem z81 : tyZero Try.prog 81 = some (.agg #[.int .i64 0, .slice none 0 0], 2, 32) := by kernel_rfl
theorem c_laws_szInt64S (p0 : List Int) (p1 : Int) (out : Int) (hm : m_laws_szInt64S p0 p1 = some out) : ACall Try.prog 73 [.sl 1 (List.map a_i64 p0), .int .i64 p1] [] (.int .i64 out) [] := by
 refine ACall.intro Try.func73 rfl Try.ntmps73 rfl (fun F hF => ?_)
 unfold m_laws_szInt64S at hm
 refine Qk ?_
 refine Qf ?_
 refine Qb rfl rfl rfl rfl (Qh rfl) ?_
 refine Qe ?_
 refine Qk ?_
 refine Qf ?_
 refine Qb rfl rfl rfl rfl (Qi rfl) ?_
 refine Qb rfl rfl rfl rfl (Qi rfl) ?_
 refine Qb rfl rfl rfl rfl (Q8 Try.underlying26 rfl (List.length_map _)) ?_
 refine Xg (fun _ _ _ hr => RelP.slLen (i := 6) rfl hr) (fun hlen7 => ?_)
 rw [List.length_map] at hlen7
 refine Qb rfl rfl rfl rfl (op_subW rfl rfl) ?_
 refine Qb rfl rfl rfl rfl (Qh rfl) ?_
 refine Qe ?_
 refine Qk ?_
 refine Qk ?_
 refine Qf ?_
 refine Qb rfl rfl rfl rfl (Qi rfl) ?_
 refine Qb rfl rfl rfl rfl (Xd rfl rfl) ?_
 refine Qe ?_
 refine QF rfl (fun hq => ?_) (fun hq => ?_)
 ·replace hm := QT hq hm
  refine Qk ?_
  refine Qf ?_
  refine Qb rfl rfl rfl rfl (Qh rfl) ?_
  refine Qe ?_
  refine Qm [4] [] rfl rfl rfl rfl (by rw [hF]; rfl) ?_
  refine QH ?_
  obtain rfl := Qr hm
  refine ⟨[_], [], ⟨rfl, trivial⟩, ?_, rfl, rfl, rfl, rfl⟩
  rfl
 ·replace hm := QS hq hm
  refine QG ?_
  refine Qk ?_
  refine Qf ?_
  refine Qb rfl rfl rfl rfl (Qi rfl) ?_
  refine Qb rfl rfl rfl rfl (Qh rfl) ?_
  refine Qe ?_
  refine Qm [4] [] rfl rfl rfl rfl (by rw [hF]; rfl) ?_
  refine QH ?_
  obtain rfl := Qr hm
  refine ⟨[_], [], ⟨rfl, trivial⟩, ?_, rfl, rfl, rfl, rfl⟩
  rfl
theorem c_laws_szTerm (p0 : Term) (p1 : Int) (out : Int) (hm : m_laws_szTerm p0 p1 = some out) : ACall Try.prog 143 [.agg [.int .i64 p0.Const, .sl 1 (List.map a_i64 p0.Coeffs)], .int .i64 p1] [] (.int .i64 out) [] := by
 refine ACall.intro Try.func143 rfl Try.ntmps143 rfl (fun F hF => ?_)
 unfold m_laws_szTerm at hm
 refine Qk ?_
 refine Qf ?_
 refine TL_box 11 rfl rfl rfl rfl rfl rfl rfl ?_
 refine Qb rfl rfl rfl rfl (Qh rfl) ?_
 refine Qe ?_
 refine Qk ?_
 refine Qf ?_
 refine Qb rfl rfl rfl rfl (Qj fa179_1 rfl rfl) ?_
 refine Qb rfl rfl rfl rfl (Qg ag26 rfl rfl) ?_
 refine Qb rfl rfl rfl rfl (Qi rfl) ?_
 obtain ⟨r8, hr8, hm⟩ := Qw hm
 refine QA (ACall.F (F := F) (c_laws_szInt64S p0.Coeffs p1 r8 hr8)) Try.call73 rfl rfl rfl rfl rfl ?_
 refine Qb rfl rfl rfl rfl (Qh rfl) ?_
 refine Qe ?_
 refine Qk ?_
 refine Qk ?_
 refine Qf ?_
 refine Qb rfl rfl rfl rfl (Qi rfl) ?_
 refine Qb rfl rfl rfl rfl (Xd rfl rfl) ?_
 refine Qe ?_
 refine QF rfl (fun hq => ?_) (fun hq => ?_)
 ·replace hm := QT hq hm
  refine Qk ?_
  refine Qf ?_
  refine Qb rfl rfl rfl rfl (Qh rfl) ?_
  refine Qe ?_
  refine Qm [4] [] rfl rfl rfl rfl (by rw [hF]; rfl) ?_
  refine QH ?_
  obtain rfl := Qr hm
  refine ⟨[_], [], ⟨rfl, trivial⟩, ?_, rfl, rfl, rfl, rfl⟩
  rfl
 ·replace hm := QS hq hm
  refine QG ?_
  refine Qk ?_
  refine Qf ?_
  refine Qb rfl rfl rfl rfl (Qi rfl) ?_
  refine Qb rfl rfl rfl rfl (Qh rfl) ?_
  refine Qe ?_
  refine Qm [4] [] rfl rfl rfl rfl (by rw [hF]; rfl) ?_
  refine QH ?_
  obtain rfl := Qr hm
  refine ⟨[_], [], ⟨rfl, trivial⟩, ?_, rfl, rfl, rfl, rfl⟩
  rfl
theorem c_laws_szTermS (p0 : List Term) (p1 : Int) (out : Int) (hm : m_laws_szTermS p0 p1 = some out) : ACall Try.prog 83 [.sl 2 (List.map Qa p0), .int .i64 p1] [] (.int .i64 out) [] := by
 refine ACall.intro Try.func83 rfl Try.ntmps83 rfl (fun F hF => ?_)
 unfold m_laws_szTermS at hm
 refine Qk ?_
 refine Qf ?_
 refine Qb rfl rfl rfl rfl (Qh rfl) ?_
 refine Qe ?_
 refine Qk ?_
 refine Qf ?_
 refine Qb rfl rfl rfl rfl (Qi rfl) ?_
 refine Qb rfl rfl rfl rfl (Qi rfl) ?_
 refine Qb rfl rfl rfl rfl (Q8 Try.underlying61 rfl (List.length_map _)) ?_
 refine Xg (fun _ _ _ hr => RelP.slLen (i := 7) rfl hr) (fun hlen8 => ?_)
 rw [List.length_map] at hlen8
 refine Qb rfl rfl rfl rfl (op_subW rfl rfl) ?_
 refine Qb rfl rfl rfl rfl (Qh rfl) ?_
 refine Qe ?_
 refine Qk ?_
 refine Qk ?_
 refine Qf ?_
 refine Qb rfl rfl rfl rfl (Qi rfl) ?_
 refine Qb rfl rfl rfl rfl (Xd rfl rfl) ?_
 refine Qe ?_
 refine QF rfl (fun hq => ?_) (fun hq => ?_)
 ·replace hm := QT hq hm
  refine Qk ?_
  refine Qf ?_
  refine Qb rfl rfl rfl rfl (Qh rfl) ?_
  refine Qe ?_
  refine Qm [4] [] rfl rfl rfl rfl (by rw [hF]; rfl) ?_
  refine QH ?_
  obtain rfl := Qr hm
  refine ⟨[_], [], ⟨rfl, trivial⟩, ?_, rfl, rfl, rfl, rfl⟩
  rfl
 ·replace hm := QS hq hm
  refine QG ?_
  refine Qk ?_
  refine Qk ?_
  refine Qf ?_
  refine Qb rfl rfl rfl rfl (Qh rfl) ?_
  refine Qe ?_
  refine QV ?_
  refine Qm [0, 1, 5] [] rfl rfl rfl rfl (by rw [hF]; rfl) ?_
  refine T_loop ?_
  obtain ⟨u0, hl0, hm⟩ := Qw hm
  refine TR_iter2 (m_laws_szTermS_L0 p0) (fun (s0 : Int × Int) => ⟨[(0, .sl 2 (List.map Qa p0)), (1, .int .i64 s0.1), (5, .int .i64 s0.2)], []⟩) (fun u0 => match u0 with | .inl u0 => .exit 0 | .inr u0 => .ret) (fun u0 => match u0 with | .inl u0 => ⟨[(1, .int .i64 u0)], []⟩ | .inr u0 => ⟨[(4, .int .i64 u0)], []⟩) (fun u0 => m_laws_szTermS_A0 u0 = some out) hl0 hm (fun u0 hm => ?_) (fun hx0 s0 c0 hm hc0 => ?_)
  ·rcases u0 with u0 | u0
   ·unfold m_laws_szTermS_A0 at hm
    refine Qk ?_
    refine Qf ?_
    refine Qb rfl rfl rfl rfl (Qi rfl) ?_
    refine Qb rfl rfl rfl rfl (Qh rfl) ?_
    refine Qe ?_
    refine Qm [4] [] rfl rfl rfl rfl (by rw [hF]; rfl) ?_
    refine QH ?_
    obtain rfl := Qr hm
    refine ⟨[_], [], ⟨rfl, trivial⟩, ?_, rfl, rfl, rfl, rfl⟩
    rfl
   ·unfold m_laws_szTermS_A0 at hm
    obtain rfl := Qr hm
    refine ⟨[_], [], ⟨rfl, trivial⟩, ?_, rfl, rfl, rfl, rfl⟩
    rfl
  ·unfold m_laws_szTermS_L0 at hm
   refine Qk ?_
   refine Qk ?_
   refine Qf ?_
   refine Qb rfl rfl rfl rfl (Qi rfl) ?_
   refine Qb rfl rfl rfl rfl (Qi rfl) ?_
   refine Qb rfl rfl rfl rfl (Q8 Try.underlying61 rfl (List.length_map _)) ?_
   refine Qb rfl rfl rfl rfl (Xd rfl rfl) ?_
   refine Qe ?_
   refine QF rfl (fun hq => ?_) (fun hq => ?_)
   ·replace hm := QT hq hm
    refine QG ?_
    refine Qk ?_
    refine QV ?_
    refine Qk ?_
    refine Qf ?_
    refine Qb rfl rfl rfl rfl (Qi rfl) ?_
    refine Qb rfl rfl rfl rfl (Qi rfl) ?_
    obtain ⟨x20, hx20, hm⟩ := Qw hm
    refine Qb rfl rfl rfl rfl (QU el61 rfl rfl hx20 rfl) ?_
    refine Qb rfl rfl rfl rfl (Qv ag179 sz179 rfl rfl rfl) ?_
    refine Qb rfl rfl rfl rfl (Qi rfl) ?_
    obtain ⟨r23, hr23, hm⟩ := Qw hm
    refine QA (ACall.F (F := F) (c_laws_szTerm x20 s0.1 r23 hr23)) Try.call143 rfl rfl rfl rfl rfl ?_
    refine Qb rfl rfl rfl rfl (Qh rfl) ?_
    refine Qe ?_
    refine Qk ?_
    refine Qf ?_
    refine Qb rfl rfl rfl rfl (Qi rfl) ?_
    refine Qb rfl rfl rfl rfl (Xd rfl rfl) ?_
    refine Qe ?_
    refine QF rfl (fun hq => ?_) (fun hq => ?_)
    ·replace hm := QT hq hm
     refine Qk ?_
     refine Qf ?_
     refine Qb rfl rfl rfl rfl (Qh rfl) ?_
     refine Qe ?_
     refine Qm [4] [] rfl rfl rfl rfl (by rw [hF]; rfl) ?_
     refine QH ?_
     obtain rfl := Qr hm
     have hn := QI hc0
     exact hx0 (.inr (-1 : Int)) hn
    ·replace hm := QS hq hm
     refine QG ?_
     refine Qf ?_
     refine Qb rfl rfl rfl rfl (Qi rfl) ?_
     refine Qb rfl rfl rfl rfl (Xh rfl rfl) ?_
     refine Qb rfl rfl rfl rfl (Qh rfl) ?_
     refine Qe ?_
     refine Q5 [0, 1, 5] [] rfl rfl rfl rfl (by rw [hF]; rfl) ?_
     obtain rfl := Qr hm
     have hn := QM hc0
     exact hn _ rfl
   ·replace hm := QS hq hm
    refine Qm [1] [] rfl rfl rfl rfl (by rw [hF]; rfl) ?_
    refine T_exit ?_
    obtain rfl := Qr hm
    have hn := QI hc0
    exact hx0 (.inl s0.1) hn
theorem c_laws_szInstrS (p0 : List Instr) (p1 : Int) (out : Int) (hm : m_laws_szInstrS p0 p1 = some out) : ACall Try.prog 21 [.sl 2 (List.map Qd p0), .int .i64 p1] [] (.int .i64 out) [] := by
 refine ACall.intro Try.func21 rfl Try.ntmps21 rfl (fun F hF => ?_)
 unfold m_laws_szInstrS at hm
 refine Qk ?_
 refine Qf ?_
 refine Qb rfl rfl rfl rfl (Qh rfl) ?_
 refine Qe ?_
 refine Qk ?_
 refine Qf ?_
 refine Qb rfl rfl rfl rfl (Qi rfl) ?_
 refine Qb rfl rfl rfl rfl (Qi rfl) ?_
 refine Qb rfl rfl rfl rfl (Q8 Try.underlying43 rfl (List.length_map _)) ?_
 refine Xg (fun _ _ _ hr => RelP.slLen (i := 6) rfl hr) (fun hlen7 => ?_)
 rw [List.length_map] at hlen7
 refine Qb rfl rfl rfl rfl (op_subW rfl rfl) ?_
 refine Qb rfl rfl rfl rfl (Qh rfl) ?_
 refine Qe ?_
 refine Qk ?_
 refine Qk ?_
 refine Qf ?_
 refine Qb rfl rfl rfl rfl (Qi rfl) ?_
 refine Qb rfl rfl rfl rfl (Xd rfl rfl) ?_
 refine Qe ?_
 refine QF rfl (fun hq => ?_) (fun hq => ?_)
 ·replace hm := QT hq hm
  refine Qk ?_
  refine Qf ?_
  refine Qb rfl rfl rfl rfl (Qh rfl) ?_
  refine Qe ?_
  refine Qm [4] [] rfl rfl rfl rfl (by rw [hF]; rfl) ?_
  refine QH ?_
  obtain rfl := Qr hm
  refine ⟨[_], [], ⟨rfl, trivial⟩, ?_, rfl, rfl, rfl, rfl⟩
  rfl
 ·replace hm := QS hq hm
  refine QG ?_
  refine Qk ?_
  refine Qf ?_
  refine Qb rfl rfl rfl rfl (Qi rfl) ?_
  refine Qb rfl rfl rfl rfl (Qh rfl) ?_
  refine Qe ?_
  refine Qm [4] [] rfl rfl rfl rfl (by rw [hF]; rfl) ?_
  refine QH ?_
  obtain rfl := Qr hm
  refine ⟨[_], [], ⟨rfl, trivial⟩, ?_, rfl, rfl, rfl, rfl⟩
  rfl
theorem c_laws_szPoint (p0 : Point) (p1 : Int) (out : Int) (hm : m_laws_szPoint p0 p1 = some out) : ACall Try.prog 50 [.agg [.int .i64 p0.At, .sl 2 (List.map Qa p0.Facts)], .int .i64 p1] [] (.int .i64 out) [] := by
 refine ACall.intro Try.func50 rfl Try.ntmps50 rfl (fun F hF => ?_)
 unfold m_laws_szPoint at hm
 refine Qk ?_
 refine Qf ?_
 refine TL_box 11 rfl rfl rfl rfl rfl rfl rfl ?_
 refine Qb rfl rfl rfl rfl (Qh rfl) ?_
 refine Qe ?_
 refine Qk ?_
 refine Qf ?_
 refine Qb rfl rfl rfl rfl (Qj fa77_1 rfl rfl) ?_
 refine Qb rfl rfl rfl rfl (Qg ag61 rfl rfl) ?_
 refine Qb rfl rfl rfl rfl (Qi rfl) ?_
 obtain ⟨r8, hr8, hm⟩ := Qw hm
 refine QA (ACall.F (F := F) (c_laws_szTermS p0.Facts p1 r8 hr8)) Try.call83 rfl rfl rfl rfl rfl ?_
 refine Qb rfl rfl rfl rfl (Qh rfl) ?_
 refine Qe ?_
 refine Qk ?_
 refine Qk ?_
 refine Qf ?_
 refine Qb rfl rfl rfl rfl (Qi rfl) ?_
 refine Qb rfl rfl rfl rfl (Xd rfl rfl) ?_
 refine Qe ?_
 refine QF rfl (fun hq => ?_) (fun hq => ?_)
 ·replace hm := QT hq hm
  refine Qk ?_
  refine Qf ?_
  refine Qb rfl rfl rfl rfl (Qh rfl) ?_
  refine Qe ?_
  refine Qm [4] [] rfl rfl rfl rfl (by rw [hF]; rfl) ?_
  refine QH ?_
  obtain rfl := Qr hm
  refine ⟨[_], [], ⟨rfl, trivial⟩, ?_, rfl, rfl, rfl, rfl⟩
  rfl
 ·replace hm := QS hq hm
  refine QG ?_
  refine Qk ?_
  refine Qf ?_
  refine Qb rfl rfl rfl rfl (Qi rfl) ?_
  refine Qb rfl rfl rfl rfl (Qh rfl) ?_
  refine Qe ?_
  refine Qm [4] [] rfl rfl rfl rfl (by rw [hF]; rfl) ?_
  refine QH ?_
  obtain rfl := Qr hm
  refine ⟨[_], [], ⟨rfl, trivial⟩, ?_, rfl, rfl, rfl, rfl⟩
  rfl
theorem c_laws_szPointS (p0 : List Point) (p1 : Int) (out : Int) (hm : m_laws_szPointS p0 p1 = some out) : ACall Try.prog 84 [.sl 2 (List.map Qc p0), .int .i64 p1] [] (.int .i64 out) [] := by
 refine ACall.intro Try.func84 rfl Try.ntmps84 rfl (fun F hF => ?_)
 unfold m_laws_szPointS at hm
 refine Qk ?_
 refine Qf ?_
 refine Qb rfl rfl rfl rfl (Qh rfl) ?_
 refine Qe ?_
 refine Qk ?_
 refine Qf ?_
 refine Qb rfl rfl rfl rfl (Qi rfl) ?_
 refine Qb rfl rfl rfl rfl (Qi rfl) ?_
 refine Qb rfl rfl rfl rfl (Q8 Try.underlying62 rfl (List.length_map _)) ?_
 refine Xg (fun _ _ _ hr => RelP.slLen (i := 7) rfl hr) (fun hlen8 => ?_)
 rw [List.length_map] at hlen8
 refine Qb rfl rfl rfl rfl (op_subW rfl rfl) ?_
 refine Qb rfl rfl rfl rfl (Qh rfl) ?_
 refine Qe ?_
 refine Qk ?_
 refine Qk ?_
 refine Qf ?_
 refine Qb rfl rfl rfl rfl (Qi rfl) ?_
 refine Qb rfl rfl rfl rfl (Xd rfl rfl) ?_
 refine Qe ?_
 refine QF rfl (fun hq => ?_) (fun hq => ?_)
 ·replace hm := QT hq hm
  refine Qk ?_
  refine Qf ?_
  refine Qb rfl rfl rfl rfl (Qh rfl) ?_
  refine Qe ?_
  refine Qm [4] [] rfl rfl rfl rfl (by rw [hF]; rfl) ?_
  refine QH ?_
  obtain rfl := Qr hm
  refine ⟨[_], [], ⟨rfl, trivial⟩, ?_, rfl, rfl, rfl, rfl⟩
  rfl
 ·replace hm := QS hq hm
  refine QG ?_
  refine Qk ?_
  refine Qk ?_
  refine Qf ?_
  refine Qb rfl rfl rfl rfl (Qh rfl) ?_
  refine Qe ?_
  refine QV ?_
  refine Qm [0, 1, 5] [] rfl rfl rfl rfl (by rw [hF]; rfl) ?_
  refine T_loop ?_
  obtain ⟨u0, hl0, hm⟩ := Qw hm
  refine TR_iter2 (m_laws_szPointS_L0 p0) (fun (s0 : Int × Int) => ⟨[(0, .sl 2 (List.map Qc p0)), (1, .int .i64 s0.1), (5, .int .i64 s0.2)], []⟩) (fun u0 => match u0 with | .inl u0 => .exit 0 | .inr u0 => .ret) (fun u0 => match u0 with | .inl u0 => ⟨[(1, .int .i64 u0)], []⟩ | .inr u0 => ⟨[(4, .int .i64 u0)], []⟩) (fun u0 => m_laws_szPointS_A0 u0 = some out) hl0 hm (fun u0 hm => ?_) (fun hx0 s0 c0 hm hc0 => ?_)
  ·rcases u0 with u0 | u0
   ·unfold m_laws_szPointS_A0 at hm
    refine Qk ?_
    refine Qf ?_
    refine Qb rfl rfl rfl rfl (Qi rfl) ?_
    refine Qb rfl rfl rfl rfl (Qh rfl) ?_
    refine Qe ?_
    refine Qm [4] [] rfl rfl rfl rfl (by rw [hF]; rfl) ?_
    refine QH ?_
    obtain rfl := Qr hm
    refine ⟨[_], [], ⟨rfl, trivial⟩, ?_, rfl, rfl, rfl, rfl⟩
    rfl
   ·unfold m_laws_szPointS_A0 at hm
    obtain rfl := Qr hm
    refine ⟨[_], [], ⟨rfl, trivial⟩, ?_, rfl, rfl, rfl, rfl⟩
    rfl
  ·unfold m_laws_szPointS_L0 at hm
   refine Qk ?_
   refine Qk ?_
   refine Qf ?_
   refine Qb rfl rfl rfl rfl (Qi rfl) ?_
   refine Qb rfl rfl rfl rfl (Qi rfl) ?_
   refine Qb rfl rfl rfl rfl (Q8 Try.underlying62 rfl (List.length_map _)) ?_
   refine Qb rfl rfl rfl rfl (Xd rfl rfl) ?_
   refine Qe ?_
   refine QF rfl (fun hq => ?_) (fun hq => ?_)
   ·replace hm := QT hq hm
    refine QG ?_
    refine Qk ?_
    refine QV ?_
    refine Qk ?_
    refine Qf ?_
    refine Qb rfl rfl rfl rfl (Qi rfl) ?_
    refine Qb rfl rfl rfl rfl (Qi rfl) ?_
    obtain ⟨x20, hx20, hm⟩ := Qw hm
    refine Qb rfl rfl rfl rfl (QU el62 rfl rfl hx20 rfl) ?_
    refine Qb rfl rfl rfl rfl (Qv ag77 sz77 rfl rfl rfl) ?_
    refine Qb rfl rfl rfl rfl (Qi rfl) ?_
    obtain ⟨r23, hr23, hm⟩ := Qw hm
    refine QA (ACall.F (F := F) (c_laws_szPoint x20 s0.1 r23 hr23)) Try.call50 rfl rfl rfl rfl rfl ?_
    refine Qb rfl rfl rfl rfl (Qh rfl) ?_
    refine Qe ?_
    refine Qk ?_
    refine Qf ?_
    refine Qb rfl rfl rfl rfl (Qi rfl) ?_
    refine Qb rfl rfl rfl rfl (Xd rfl rfl) ?_
    refine Qe ?_
    refine QF rfl (fun hq => ?_) (fun hq => ?_)
    ·replace hm := QT hq hm
     refine Qk ?_
     refine Qf ?_
     refine Qb rfl rfl rfl rfl (Qh rfl) ?_
     refine Qe ?_
     refine Qm [4] [] rfl rfl rfl rfl (by rw [hF]; rfl) ?_
     refine QH ?_
     obtain rfl := Qr hm
     have hn := QI hc0
     exact hx0 (.inr (-1 : Int)) hn
    ·replace hm := QS hq hm
     refine QG ?_
     refine Qf ?_
     refine Qb rfl rfl rfl rfl (Qi rfl) ?_
     refine Qb rfl rfl rfl rfl (Xh rfl rfl) ?_
     refine Qb rfl rfl rfl rfl (Qh rfl) ?_
     refine Qe ?_
     refine Q5 [0, 1, 5] [] rfl rfl rfl rfl (by rw [hF]; rfl) ?_
     obtain rfl := Qr hm
     have hn := QM hc0
     exact hn _ rfl
   ·replace hm := QS hq hm
    refine Qm [1] [] rfl rfl rfl rfl (by rw [hF]; rfl) ?_
    refine T_exit ?_
    obtain rfl := Qr hm
    have hn := QI hc0
    exact hx0 (.inl s0.1) hn
theorem c_laws_szAnnotated (p0 : Annotated) (p1 : Int) (out : Int) (hm : m_laws_szAnnotated p0 p1 = some out) : ACall Try.prog 41 [.agg [.sl 2 (List.map Qa p0.Pre), .sl 2 (List.map Qa p0.Post), .sl 2 (List.map Qd p0.Code), .sl 2 (List.map Qc p0.Points)], .int .i64 p1] [] (.int .i64 out) [] := by
 refine ACall.intro Try.func41 rfl Try.ntmps41 rfl (fun F hF => ?_)
 unfold m_laws_szAnnotated at hm
 refine Qk ?_
 refine Qf ?_
 refine TL_box 11 rfl rfl rfl rfl rfl rfl rfl ?_
 refine Qb rfl rfl rfl rfl (Qh rfl) ?_
 refine Qe ?_
 refine Qk ?_
 refine Qf ?_
 refine Qb rfl rfl rfl rfl (Qj fa64_0 rfl rfl) ?_
 refine Qb rfl rfl rfl rfl (Qg ag61 rfl rfl) ?_
 refine Qb rfl rfl rfl rfl (Qi rfl) ?_
 obtain ⟨r8, hr8, hm⟩ := Qw hm
 refine QA (ACall.F (F := F) (c_laws_szTermS p0.Pre p1 r8 hr8)) Try.call83 rfl rfl rfl rfl rfl ?_
 refine Qb rfl rfl rfl rfl (Qh rfl) ?_
 refine Qe ?_
 refine Qk ?_
 refine Qk ?_
 refine Qf ?_
 refine Qb rfl rfl rfl rfl (Qi rfl) ?_
 refine Qb rfl rfl rfl rfl (Xd rfl rfl) ?_
 refine Qe ?_
 refine QF rfl (fun hq => ?_) (fun hq => ?_)
 ·replace hm := QT hq hm
  refine Qk ?_
  refine Qf ?_
  refine Qb rfl rfl rfl rfl (Qh rfl) ?_
  refine Qe ?_
  refine Qm [4] [] rfl rfl rfl rfl (by rw [hF]; rfl) ?_
  refine QH ?_
  obtain rfl := Qr hm
  refine ⟨[_], [], ⟨rfl, trivial⟩, ?_, rfl, rfl, rfl, rfl⟩
  rfl
 ·replace hm := QS hq hm
  refine QG ?_
  refine Qk ?_
  refine Qf ?_
  refine Qb rfl rfl rfl rfl (Qj fa64_1 rfl rfl) ?_
  refine Qb rfl rfl rfl rfl (Qg ag61 rfl rfl) ?_
  refine Qb rfl rfl rfl rfl (Qi rfl) ?_
  obtain ⟨r14, hr14, hm⟩ := Qw hm
  refine QA (ACall.F (F := F) (c_laws_szTermS p0.Post r8 r14 hr14)) Try.call83 rfl rfl rfl rfl rfl ?_
  refine Qb rfl rfl rfl rfl (Qh rfl) ?_
  refine Qe ?_
  refine Qk ?_
  refine Qk ?_
  refine Qf ?_
  refine Qb rfl rfl rfl rfl (Qi rfl) ?_
  refine Qb rfl rfl rfl rfl (Xd rfl rfl) ?_
  refine Qe ?_
  refine QF rfl (fun hq => ?_) (fun hq => ?_)
  ·replace hm := QT hq hm
   refine Qk ?_
   refine Qf ?_
   refine Qb rfl rfl rfl rfl (Qh rfl) ?_
   refine Qe ?_
   refine Qm [4] [] rfl rfl rfl rfl (by rw [hF]; rfl) ?_
   refine QH ?_
   obtain rfl := Qr hm
   refine ⟨[_], [], ⟨rfl, trivial⟩, ?_, rfl, rfl, rfl, rfl⟩
   rfl
  ·replace hm := QS hq hm
   refine QG ?_
   refine Qk ?_
   refine Qf ?_
   refine Qb rfl rfl rfl rfl (Qj fa64_2 rfl rfl) ?_
   refine Qb rfl rfl rfl rfl (Qg ag43 rfl rfl) ?_
   refine Qb rfl rfl rfl rfl (Qi rfl) ?_
   obtain ⟨r20, hr20, hm⟩ := Qw hm
   refine QA (ACall.F (F := F) (c_laws_szInstrS p0.Code r14 r20 hr20)) Try.call21 rfl rfl rfl rfl rfl ?_
   refine Qb rfl rfl rfl rfl (Qh rfl) ?_
   refine Qe ?_
   refine Qk ?_
   refine Qk ?_
   refine Qf ?_
   refine Qb rfl rfl rfl rfl (Qi rfl) ?_
   refine Qb rfl rfl rfl rfl (Xd rfl rfl) ?_
   refine Qe ?_
   refine QF rfl (fun hq => ?_) (fun hq => ?_)
   ·replace hm := QT hq hm
    refine Qk ?_
    refine Qf ?_
    refine Qb rfl rfl rfl rfl (Qh rfl) ?_
    refine Qe ?_
    refine Qm [4] [] rfl rfl rfl rfl (by rw [hF]; rfl) ?_
    refine QH ?_
    obtain rfl := Qr hm
    refine ⟨[_], [], ⟨rfl, trivial⟩, ?_, rfl, rfl, rfl, rfl⟩
    rfl
   ·replace hm := QS hq hm
    refine QG ?_
    refine Qk ?_
    refine Qf ?_
    refine Qb rfl rfl rfl rfl (Qj fa64_3 rfl rfl) ?_
    refine Qb rfl rfl rfl rfl (Qg ag62 rfl rfl) ?_
    refine Qb rfl rfl rfl rfl (Qi rfl) ?_
    obtain ⟨r26, hr26, hm⟩ := Qw hm
    refine QA (ACall.F (F := F) (c_laws_szPointS p0.Points r20 r26 hr26)) Try.call84 rfl rfl rfl rfl rfl ?_
    refine Qb rfl rfl rfl rfl (Qh rfl) ?_
    refine Qe ?_
    refine Qk ?_
    refine Qk ?_
    refine Qf ?_
    refine Qb rfl rfl rfl rfl (Qi rfl) ?_
    refine Qb rfl rfl rfl rfl (Xd rfl rfl) ?_
    refine Qe ?_
    refine QF rfl (fun hq => ?_) (fun hq => ?_)
    ·replace hm := QT hq hm
     refine Qk ?_
     refine Qf ?_
     refine Qb rfl rfl rfl rfl (Qh rfl) ?_
     refine Qe ?_
     refine Qm [4] [] rfl rfl rfl rfl (by rw [hF]; rfl) ?_
     refine QH ?_
     obtain rfl := Qr hm
     refine ⟨[_], [], ⟨rfl, trivial⟩, ?_, rfl, rfl, rfl, rfl⟩
     rfl
    ·replace hm := QS hq hm
     refine QG ?_
     refine Qk ?_
     refine Qf ?_
     refine Qb rfl rfl rfl rfl (Qi rfl) ?_
     refine Qb rfl rfl rfl rfl (Qh rfl) ?_
     refine Qe ?_
     refine Qm [4] [] rfl rfl rfl rfl (by rw [hF]; rfl) ?_
     refine QH ?_
     obtain rfl := Qr hm
     refine ⟨[_], [], ⟨rfl, trivial⟩, ?_, rfl, rfl, rfl, rfl⟩
     rfl
theorem c_laws_toInt64S (p0 : List Int) (out : List Int) (hm : m_laws_toInt64S p0 = some out) : ACall Try.prog 79 [.sl 1 (List.map a_i64 p0)] [] (.ow 1000) [(1000, .arr ⟨false, true⟩ 1 2 (List.map a_i64 out))] := by
 refine ACall.intro Try.func79 rfl Try.ntmps79 rfl (fun F hF => ?_)
 unfold m_laws_toInt64S at hm
 refine Qk ?_
 refine Qf ?_
 refine Qb rfl rfl rfl rfl (Qh rfl) ?_
 refine Qe ?_
 refine Qk ?_
 refine Qf ?_
 refine Qb rfl rfl rfl rfl (Qi rfl) ?_
 refine Qb rfl rfl rfl rfl (Q8 Try.underlying26 rfl (List.length_map _)) ?_
 refine Xg (fun _ _ _ hr => RelP.slLen (i := 5) rfl hr) (fun hlen6 => ?_)
 rw [List.length_map] at hlen6
 obtain ⟨k7, hk7, hm⟩ := Qw hm
 refine TL_make 11 (n := k7) el26 z2 rfl rfl rfl rfl rfl rfl (makeI_spec hk7).1 (makeI_spec hk7).1 (makeI_spec hk7).2 rfl rfl rfl rfl ?_
 refine TL_nils 11 (List.map a_i64 (List.replicate k7 (0 : Int))) (by rw [hF]; rfl) rfl (ElR.rep (z := .int .i64 (0 : Int)) (g := a_i64) (x := (0 : Int)) ⟨⟨rfl, rfl⟩, trivial⟩ k7) rfl ?_
 refine Qb rfl rfl rfl rfl (Qh rfl) ?_
 refine Qe ?_
 refine Qk ?_
 refine Qk ?_
 refine Qf ?_
 refine Qb rfl rfl rfl rfl (Qh rfl) ?_
 refine Qe ?_
 refine QV ?_
 refine Qm [0, 3, 4] [11] rfl rfl rfl rfl (by rw [hF]; rfl) ?_
 refine T_loop ?_
 obtain ⟨u0, hl0, hm⟩ := Qw hm
 refine TR_iter2 (m_laws_toInt64S_L0 p0) (fun (s0 : (List Int) × Int) => ⟨[(0, .sl 1 (List.map a_i64 p0)), (3, .ow 11), (4, .int .i64 s0.2)], [(11, .arr ⟨false, false⟩ 1 2 (List.map a_i64 s0.1))]⟩) (fun u0 => .exit 0) (fun u0 => ⟨[(3, .ow 11)], [(11, .arr ⟨false, false⟩ 1 2 (List.map a_i64 u0))]⟩) (fun u0 => m_laws_toInt64S_A0 u0 = some out) hl0 hm (fun u0 hm => ?_) (fun hx0 s0 c0 hm hc0 => ?_)
 ·unfold m_laws_toInt64S_A0 at hm
  refine Qk ?_
  refine Qf ?_
  refine Qb rfl rfl rfl rfl (Qi rfl) ?_
  refine Qb rfl rfl rfl rfl (Qh rfl) ?_
  refine Qe ?_
  refine Qm [2] [11] rfl rfl rfl rfl (by rw [hF]; rfl) ?_
  refine T_deepen 11 (p' := false) (List.map a_i64 u0) (by rw [hF]; rfl) rfl (ElR.map (f := a_i64) (g := a_i64) (fun _ => ⟨⟨rfl, rfl⟩, trivial⟩) u0) rfl rfl rfl ?_
  refine T_ren [(11, 1000)] rfl rfl rfl (by rw [hF]; rfl) ?_
  refine QH ?_
  obtain rfl := Qr hm
  refine ⟨[_], [1000], ⟨rfl, trivial⟩, ?_, rfl, rfl, rfl, rfl⟩
  rfl
 ·unfold m_laws_toInt64S_L0 at hm
  refine Qk ?_
  refine Qk ?_
  refine Qf ?_
  refine Qb rfl rfl rfl rfl (Qi rfl) ?_
  refine Qb rfl rfl rfl rfl (Qi rfl) ?_
  refine Qb rfl rfl rfl rfl (Q8 Try.underlying26 rfl (List.length_map _)) ?_
  refine Qb rfl rfl rfl rfl (Xd rfl rfl) ?_
  refine Qe ?_
  refine QF rfl (fun hq => ?_) (fun hq => ?_)
  ·replace hm := QT hq hm
   refine QG ?_
   refine Qk ?_
   refine QV ?_
   refine Qf ?_
   refine Qb rfl rfl rfl rfl (Qi rfl) ?_
   refine Qb rfl rfl rfl rfl (Qi rfl) ?_
   refine Qb rfl rfl rfl rfl (Qi rfl) ?_
   refine Qb rfl rfl rfl rfl (Qi rfl) ?_
   obtain ⟨x18, hx18, hm⟩ := Qw hm
   refine Qb rfl rfl rfl rfl (QU el26 rfl rfl hx18 rfl) ?_
   refine Qb rfl rfl rfl rfl (Qg ag2 rfl rfl) ?_
   obtain ⟨x20, hx20, hm⟩ := Qw hm
   refine Qb rfl rfl rfl rfl (op_indexO el26 rfl rfl rfl hx20) ?_
   refine TL_storeT sz2 rfl rfl ((getI_spec hx20).2) (v' := x18) rfl rfl rfl rfl rfl rfl rfl rfl rfl rfl ?_
   refine Qe ?_
   refine Qf ?_
   refine Qb rfl rfl rfl rfl (Qi rfl) ?_
   refine Qb rfl rfl rfl rfl (Xh rfl rfl) ?_
   refine Qb rfl rfl rfl rfl (Qh rfl) ?_
   refine Qe ?_
   refine Q5 [0, 3, 4] [11] rfl rfl rfl rfl (by rw [hF]; rfl) ?_
   obtain rfl := Qr hm
   have hn := QM hc0
   exact hn _ rfl
  ·replace hm := QS hq hm
   refine Qm [3] [11] rfl rfl rfl rfl (by rw [hF]; rfl) ?_
   refine T_exit ?_
   obtain rfl := Qr hm
   have hn := QI hc0
   exact hx0 s0.1 hn
theorem c_laws_toTerm (p0 : Term) (out : Term) (hm : m_laws_toTerm p0 = some out) : ACall Try.prog 148 [.agg [.int .i64 p0.Const, .sl 1 (List.map a_i64 p0.Coeffs)]] [] (.agg [.int .i64 out.Const, .ow 1000]) [(1000, .arr ⟨false, true⟩ 1 2 (List.map a_i64 out.Coeffs))] := by
 refine ACall.intro Try.func148 rfl Try.ntmps148 rfl (fun F hF => ?_)
 unfold m_laws_toTerm at hm
 refine Qk ?_
 refine Qf ?_
 refine TL_box 11 rfl rfl rfl rfl rfl rfl rfl ?_
 refine QJ 12 z184 rfl rfl rfl rfl rfl rfl rfl ?_
 refine Qe ?_
 refine Qk ?_
 refine Qf ?_
 refine QJ 13 z184 rfl rfl rfl rfl rfl rfl rfl ?_
 refine Qe ?_
 refine Qk ?_
 refine Qf ?_
 refine Qb rfl rfl rfl rfl (Qj fa179_0 rfl rfl) ?_
 refine Qb rfl rfl rfl rfl (Qg ag2 rfl rfl) ?_
 refine Qb rfl rfl rfl rfl (Qj fa184_0 rfl rfl) ?_
 refine Qo sz2 rfl rfl rfl rfl rfl rfl rfl rfl rfl ?_
 refine Qe ?_
 refine Qk ?_
 refine Qf ?_
 refine Qb rfl rfl rfl rfl (Qj fa179_1 rfl rfl) ?_
 refine Qb rfl rfl rfl rfl (Qg ag26 rfl rfl) ?_
 obtain ⟨r9, hr9, hm⟩ := Qw hm
 refine Qt [(1000, 14)] (ACall.F (F := F) (c_laws_toInt64S p0.Coeffs r9 hr9)) Try.call79 rfl rfl rfl rfl rfl rfl rfl rfl rfl rfl rfl rfl rfl ?_
 refine Qb rfl rfl rfl rfl (Qj fa184_1 rfl rfl) ?_
 refine Qo sz26 rfl rfl rfl rfl rfl rfl rfl rfl rfl ?_
 refine Qe ?_
 refine Qk ?_
 refine Qf ?_
 refine Qb rfl rfl rfl rfl (Qv ag184 sz184 rfl rfl rfl) ?_
 refine Qo sz184 rfl rfl rfl rfl rfl rfl rfl rfl rfl ?_
 refine Qe ?_
 refine Qm [2] [12, 14] rfl rfl rfl rfl (by rw [hF]; rfl) ?_
 refine T_ren [(12, 12), (14, 1000)] rfl rfl rfl (by rw [hF]; rfl) ?_
 refine QH ?_
 obtain rfl := Qr hm
 refine ⟨[_], [1000], ⟨⟨_, _, rfl, rfl, .inr ⟨ag184, _, _, sz184, rfl, rfl⟩⟩, trivial⟩, ?_, rfl, rfl, rfl, rfl⟩
 rfl
theorem c_laws_toTermS (p0 : List Term) (out : List Term) (hm : m_laws_toTermS p0 = some out) : ACall Try.prog 87 [.sl 2 (List.map Qa p0)] [] (.ow 1000) [(1000, .arr ⟨false, true⟩ 2 184 (List.map Qa out))] := by
 refine ACall.intro Try.func87 rfl Try.ntmps87 rfl (fun F hF => ?_)
 unfold m_laws_toTermS at hm
 refine Qk ?_
 refine Qf ?_
 refine Qb rfl rfl rfl rfl (Qh rfl) ?_
 refine Qe ?_
 refine Qk ?_
 refine Qf ?_
 refine Qb rfl rfl rfl rfl (Qi rfl) ?_
 refine Qb rfl rfl rfl rfl (Q8 Try.underlying61 rfl (List.length_map _)) ?_
 refine Xg (fun _ _ _ hr => RelP.slLen (i := 5) rfl hr) (fun hlen6 => ?_)
 rw [List.length_map] at hlen6
 obtain ⟨k7, hk7, hm⟩ := Qw hm
 refine TL_make 11 (n := k7) el66 z184 rfl rfl rfl rfl rfl rfl (makeI_spec hk7).1 (makeI_spec hk7).1 (makeI_spec hk7).2 rfl rfl rfl rfl ?_
 refine TL_deepen 11 (p' := false) (List.map Qa (List.replicate k7 (Term.mk (0 : Int) ([] : List Int)))) (by rw [hF]; rfl) rfl (ElR.rep (z := .agg [.int .i64 (0 : Int), .snil]) (g := Qa) (x := (Term.mk (0 : Int) ([] : List Int))) ⟨⟨rfl, rfl⟩, ⟨rfl, trivial⟩⟩ k7) rfl rfl rfl ?_
 refine Qb rfl rfl rfl rfl (Qh rfl) ?_
 refine Qe ?_
 refine Qk ?_
 refine Qk ?_
 refine Qf ?_
 refine Qb rfl rfl rfl rfl (Qh rfl) ?_
 refine Qe ?_
 refine QV ?_
 refine Qm [0, 3, 4] [11] rfl rfl rfl rfl (by rw [hF]; rfl) ?_
 refine T_loop ?_
 obtain ⟨u0, hl0, hm⟩ := Qw hm
 refine TR_iter2 (m_laws_toTermS_L0 p0) (fun (s0 : (List Term) × Int) => ⟨[(0, .sl 2 (List.map Qa p0)), (3, .ow 11), (4, .int .i64 s0.2)], [(11, .arr ⟨false, true⟩ 2 184 (List.map Qa s0.1))]⟩) (fun u0 => .exit 0) (fun u0 => ⟨[(3, .ow 11)], [(11, .arr ⟨false, true⟩ 2 184 (List.map Qa u0))]⟩) (fun u0 => m_laws_toTermS_A0 u0 = some out) hl0 hm (fun u0 hm => ?_) (fun hx0 s0 c0 hm hc0 => ?_)
 ·unfold m_laws_toTermS_A0 at hm
  refine Qk ?_
  refine Qf ?_
  refine Qb rfl rfl rfl rfl (Qi rfl) ?_
  refine Qb rfl rfl rfl rfl (Qh rfl) ?_
  refine Qe ?_
  refine Qm [2] [11] rfl rfl rfl rfl (by rw [hF]; rfl) ?_
  refine T_ren [(11, 1000)] rfl rfl rfl (by rw [hF]; rfl) ?_
  refine QH ?_
  obtain rfl := Qr hm
  refine ⟨[_], [1000], ⟨rfl, trivial⟩, ?_, rfl, rfl, rfl, rfl⟩
  rfl
 ·unfold m_laws_toTermS_L0 at hm
  refine Qk ?_
  refine Qk ?_
  refine Qf ?_
  refine Qb rfl rfl rfl rfl (Qi rfl) ?_
  refine Qb rfl rfl rfl rfl (Qi rfl) ?_
  refine Qb rfl rfl rfl rfl (Q8 Try.underlying61 rfl (List.length_map _)) ?_
  refine Qb rfl rfl rfl rfl (Xd rfl rfl) ?_
  refine Qe ?_
  refine QF rfl (fun hq => ?_) (fun hq => ?_)
  ·replace hm := QT hq hm
   refine QG ?_
   refine Qk ?_
   refine QV ?_
   refine Qf ?_
   refine Qb rfl rfl rfl rfl (Qi rfl) ?_
   refine Qb rfl rfl rfl rfl (Qi rfl) ?_
   refine Qb rfl rfl rfl rfl (Qi rfl) ?_
   refine Qb rfl rfl rfl rfl (Qi rfl) ?_
   obtain ⟨x18, hx18, hm⟩ := Qw hm
   refine Qb rfl rfl rfl rfl (QU el61 rfl rfl hx18 rfl) ?_
   refine Qb rfl rfl rfl rfl (Qv ag179 sz179 rfl rfl rfl) ?_
   obtain ⟨r20, hr20, hm⟩ := Qw hm
   refine Qt [(1000, 14)] (ACall.F (F := F) (c_laws_toTerm x18 r20 hr20)) Try.call148 rfl rfl rfl rfl rfl rfl rfl rfl rfl rfl rfl rfl rfl ?_
   obtain ⟨x21, hx21, hm⟩ := Qw hm
   refine Qb rfl rfl rfl rfl (op_indexO el66 rfl rfl rfl hx21) ?_
   refine TL_storeXT (ids := [14]) sz184 rfl rfl ((getI_spec hx21).2) (v' := r20) rfl rfl rfl rfl rfl rfl rfl (by rw [hF]; intro j hj; simp only [List.mem_cons, List.not_mem_nil, or_false] at hj; rcases hj with rfl <;> rfl) rfl rfl rfl rfl rfl rfl rfl ?_
   refine Qe ?_
   refine Qf ?_
   refine Qb rfl rfl rfl rfl (Qi rfl) ?_
   refine Qb rfl rfl rfl rfl (Xh rfl rfl) ?_
   refine Qb rfl rfl rfl rfl (Qh rfl) ?_
   refine Qe ?_
   refine Q5 [0, 3, 4] [11] rfl rfl rfl rfl (by rw [hF]; rfl) ?_
   obtain rfl := Qr hm
   have hn := QM hc0
   exact hn _ rfl
  ·replace hm := QS hq hm
   refine Qm [3] [11] rfl rfl rfl rfl (by rw [hF]; rfl) ?_
   refine T_exit ?_
   obtain rfl := Qr hm
   have hn := QI hc0
   exact hx0 s0.1 hn
theorem c_laws_toInstr (p0 : Instr) (out : Instr) (hm : m_laws_toInstr p0 = some out) : ACall Try.prog 78 [.agg [.int .i64 p0.Op, .int .i64 p0.Arg]] [] (.agg [.int .i64 out.Op, .int .i64 out.Arg]) [] := by
 refine ACall.intro Try.func78 rfl Try.ntmps78 rfl (fun F hF => ?_)
 unfold m_laws_toInstr at hm
 refine Qk ?_
 refine Qf ?_
 refine TL_box 11 rfl rfl rfl rfl rfl rfl rfl ?_
 refine QJ 12 z40 rfl rfl rfl rfl rfl rfl rfl ?_
 refine Qe ?_
 refine Qk ?_
 refine Qf ?_
 refine QJ 13 z40 rfl rfl rfl rfl rfl rfl rfl ?_
 refine Qe ?_
 refine Qk ?_
 refine Qf ?_
 refine Qb rfl rfl rfl rfl (Qj fa121_0 rfl rfl) ?_
 refine Qb rfl rfl rfl rfl (Qg ag2 rfl rfl) ?_
 refine Qb rfl rfl rfl rfl (Qj fa40_0 rfl rfl) ?_
 refine Qo sz2 rfl rfl rfl rfl rfl rfl rfl rfl rfl ?_
 refine Qe ?_
 refine Qk ?_
 refine Qf ?_
 refine Qb rfl rfl rfl rfl (Qj fa121_1 rfl rfl) ?_
 refine Qb rfl rfl rfl rfl (Qg ag2 rfl rfl) ?_
 refine Qb rfl rfl rfl rfl (Qj fa40_1 rfl rfl) ?_
 refine Qo sz2 rfl rfl rfl rfl rfl rfl rfl rfl rfl ?_
 refine Qe ?_
 refine Qk ?_
 refine Qf ?_
 refine Qb rfl rfl rfl rfl (Qv ag40 sz40 rfl rfl rfl) ?_
 refine Qo sz40 rfl rfl rfl rfl rfl rfl rfl rfl rfl ?_
 refine Qe ?_
 refine Qm [2] [12] rfl rfl rfl rfl (by rw [hF]; rfl) ?_
 refine QH ?_
 obtain rfl := Qr hm
 refine ⟨[_], [], ⟨⟨_, _, rfl, rfl, .inr ⟨ag40, _, _, sz40, rfl, rfl⟩⟩, trivial⟩, ?_, rfl, rfl, rfl, rfl⟩
 rfl
theorem c_laws_toInstrS (p0 : List Instr) (out : List Instr) (hm : m_laws_toInstrS p0 = some out) : ACall Try.prog 24 [.sl 2 (List.map Qd p0)] [] (.ow 1000) [(1000, .arr ⟨false, true⟩ 2 40 (List.map Qd out))] := by
 refine ACall.intro Try.func24 rfl Try.ntmps24 rfl (fun F hF => ?_)
 unfold m_laws_toInstrS at hm
 refine Qk ?_
 refine Qf ?_
 refine Qb rfl rfl rfl rfl (Qh rfl) ?_
 refine Qe ?_
 refine Qk ?_
 refine Qf ?_
 refine Qb rfl rfl rfl rfl (Qi rfl) ?_
 refine Qb rfl rfl rfl rfl (Q8 Try.underlying43 rfl (List.length_map _)) ?_
 refine Xg (fun _ _ _ hr => RelP.slLen (i := 5) rfl hr) (fun hlen6 => ?_)
 rw [List.length_map] at hlen6
 obtain ⟨k7, hk7, hm⟩ := Qw hm
 refine TL_make 11 (n := k7) el24 z40 rfl rfl rfl rfl rfl rfl (makeI_spec hk7).1 (makeI_spec hk7).1 (makeI_spec hk7).2 rfl rfl rfl rfl ?_
 refine TL_nils 11 (List.map Qd (List.replicate k7 (Instr.mk (0 : Int) (0 : Int)))) (by rw [hF]; rfl) rfl (ElR.rep (z := .agg [.int .i64 (0 : Int), .int .i64 (0 : Int)]) (g := Qd) (x := (Instr.mk (0 : Int) (0 : Int))) ⟨⟨rfl, rfl⟩, ⟨⟨rfl, rfl⟩, trivial⟩⟩ k7) rfl ?_
 refine Qb rfl rfl rfl rfl (Qh rfl) ?_
 refine Qe ?_
 refine Qk ?_
 refine Qk ?_
 refine Qf ?_
 refine Qb rfl rfl rfl rfl (Qh rfl) ?_
 refine Qe ?_
 refine QV ?_
 refine Qm [0, 3, 4] [11] rfl rfl rfl rfl (by rw [hF]; rfl) ?_
 refine T_loop ?_
 obtain ⟨u0, hl0, hm⟩ := Qw hm
 refine TR_iter2 (m_laws_toInstrS_L0 p0) (fun (s0 : (List Instr) × Int) => ⟨[(0, .sl 2 (List.map Qd p0)), (3, .ow 11), (4, .int .i64 s0.2)], [(11, .arr ⟨false, false⟩ 2 40 (List.map Qd s0.1))]⟩) (fun u0 => .exit 0) (fun u0 => ⟨[(3, .ow 11)], [(11, .arr ⟨false, false⟩ 2 40 (List.map Qd u0))]⟩) (fun u0 => m_laws_toInstrS_A0 u0 = some out) hl0 hm (fun u0 hm => ?_) (fun hx0 s0 c0 hm hc0 => ?_)
 ·unfold m_laws_toInstrS_A0 at hm
  refine Qk ?_
  refine Qf ?_
  refine Qb rfl rfl rfl rfl (Qi rfl) ?_
  refine Qb rfl rfl rfl rfl (Qh rfl) ?_
  refine Qe ?_
  refine Qm [2] [11] rfl rfl rfl rfl (by rw [hF]; rfl) ?_
  refine T_deepen 11 (p' := false) (List.map Qd u0) (by rw [hF]; rfl) rfl (ElR.map (f := Qd) (g := Qd) (fun _ => ⟨⟨rfl, rfl⟩, ⟨⟨rfl, rfl⟩, trivial⟩⟩) u0) rfl rfl rfl ?_
  refine T_ren [(11, 1000)] rfl rfl rfl (by rw [hF]; rfl) ?_
  refine QH ?_
  obtain rfl := Qr hm
  refine ⟨[_], [1000], ⟨rfl, trivial⟩, ?_, rfl, rfl, rfl, rfl⟩
  rfl
 ·unfold m_laws_toInstrS_L0 at hm
  refine Qk ?_
  refine Qk ?_
  refine Qf ?_
  refine Qb rfl rfl rfl rfl (Qi rfl) ?_
  refine Qb rfl rfl rfl rfl (Qi rfl) ?_
  refine Qb rfl rfl rfl rfl (Q8 Try.underlying43 rfl (List.length_map _)) ?_
  refine Qb rfl rfl rfl rfl (Xd rfl rfl) ?_
  refine Qe ?_
  refine QF rfl (fun hq => ?_) (fun hq => ?_)
  ·replace hm := QT hq hm
   refine QG ?_
   refine Qk ?_
   refine QV ?_
   refine Qf ?_
   refine Qb rfl rfl rfl rfl (Qi rfl) ?_
   refine Qb rfl rfl rfl rfl (Qi rfl) ?_
   refine Qb rfl rfl rfl rfl (Qi rfl) ?_
   refine Qb rfl rfl rfl rfl (Qi rfl) ?_
   obtain ⟨x18, hx18, hm⟩ := Qw hm
   refine Qb rfl rfl rfl rfl (QU el43 rfl rfl hx18 rfl) ?_
   refine Qb rfl rfl rfl rfl (Qv ag121 sz121 rfl rfl rfl) ?_
   obtain ⟨r20, hr20, hm⟩ := Qw hm
   refine TL_callT (ACall.F (F := F) (c_laws_toInstr x18 r20 hr20)) Try.call78 rfl rfl rfl rfl rfl ?_
   obtain ⟨x21, hx21, hm⟩ := Qw hm
   refine Qb rfl rfl rfl rfl (op_indexO el24 rfl rfl rfl hx21) ?_
   refine TL_storeT sz40 rfl rfl ((getI_spec hx21).2) (v' := r20) rfl rfl rfl rfl rfl rfl rfl rfl rfl rfl ?_
   refine Qe ?_
   refine Qf ?_
   refine Qb rfl rfl rfl rfl (Qi rfl) ?_
   refine Qb rfl rfl rfl rfl (Xh rfl rfl) ?_
   refine Qb rfl rfl rfl rfl (Qh rfl) ?_
   refine Qe ?_
   refine Q5 [0, 3, 4] [11] rfl rfl rfl rfl (by rw [hF]; rfl) ?_
   obtain rfl := Qr hm
   have hn := QM hc0
   exact hn _ rfl
  ·replace hm := QS hq hm
   refine Qm [3] [11] rfl rfl rfl rfl (by rw [hF]; rfl) ?_
   refine T_exit ?_
   obtain rfl := Qr hm
   have hn := QI hc0
   exact hx0 s0.1 hn
theorem c_laws_toPoint (p0 : Point) (out : Point) (hm : m_laws_toPoint p0 = some out) : ACall Try.prog 52 [.agg [.int .i64 p0.At, .sl 2 (List.map Qa p0.Facts)]] [] (.agg [.int .i64 out.At, .ow 1000]) [(1000, .arr ⟨false, true⟩ 2 184 (List.map Qa out.Facts))] := by
 refine ACall.intro Try.func52 rfl Try.ntmps52 rfl (fun F hF => ?_)
 unfold m_laws_toPoint at hm
 refine Qk ?_
 refine Qf ?_
 refine TL_box 11 rfl rfl rfl rfl rfl rfl rfl ?_
 refine QJ 12 z81 rfl rfl rfl rfl rfl rfl rfl ?_
 refine Qe ?_
 refine Qk ?_
 refine Qf ?_
 refine QJ 13 z81 rfl rfl rfl rfl rfl rfl rfl ?_
 refine Qe ?_
 refine Qk ?_
 refine Qf ?_
 refine Qb rfl rfl rfl rfl (Qj fa77_0 rfl rfl) ?_
 refine Qb rfl rfl rfl rfl (Qg ag2 rfl rfl) ?_
 refine Qb rfl rfl rfl rfl (Qj fa81_0 rfl rfl) ?_
 refine Qo sz2 rfl rfl rfl rfl rfl rfl rfl rfl rfl ?_
 refine Qe ?_
 refine Qk ?_
 refine Qf ?_
 refine Qb rfl rfl rfl rfl (Qj fa77_1 rfl rfl) ?_
 refine Qb rfl rfl rfl rfl (Qg ag61 rfl rfl) ?_
 obtain ⟨r9, hr9, hm⟩ := Qw hm
 refine Qt [(1000, 14)] (ACall.F (F := F) (c_laws_toTermS p0.Facts r9 hr9)) Try.call87 rfl rfl rfl rfl rfl rfl rfl rfl rfl rfl rfl rfl rfl ?_
 refine Qb rfl rfl rfl rfl (Qj fa81_1 rfl rfl) ?_
 refine Qo sz66 rfl rfl rfl rfl rfl rfl rfl rfl rfl ?_
 refine Qe ?_
 refine Qk ?_
 refine Qf ?_
 refine Qb rfl rfl rfl rfl (Qv ag81 sz81 rfl rfl rfl) ?_
 refine Qo sz81 rfl rfl rfl rfl rfl rfl rfl rfl rfl ?_
 refine Qe ?_
 refine Qm [2] [12, 14] rfl rfl rfl rfl (by rw [hF]; rfl) ?_
 refine T_ren [(12, 12), (14, 1000)] rfl rfl rfl (by rw [hF]; rfl) ?_
 refine QH ?_
 obtain rfl := Qr hm
 refine ⟨[_], [1000], ⟨⟨_, _, rfl, rfl, .inr ⟨ag81, _, _, sz81, rfl, rfl⟩⟩, trivial⟩, ?_, rfl, rfl, rfl, rfl⟩
 rfl
theorem c_laws_toPointS (p0 : List Point) (out : List Point) (hm : m_laws_toPointS p0 = some out) : ACall Try.prog 88 [.sl 2 (List.map Qc p0)] [] (.ow 1000) [(1000, .arr ⟨false, true⟩ 2 81 (List.map Qc out))] := by
 refine ACall.intro Try.func88 rfl Try.ntmps88 rfl (fun F hF => ?_)
 unfold m_laws_toPointS at hm
 refine Qk ?_
 refine Qf ?_
 refine Qb rfl rfl rfl rfl (Qh rfl) ?_
 refine Qe ?_
 refine Qk ?_
 refine Qf ?_
 refine Qb rfl rfl rfl rfl (Qi rfl) ?_
 refine Qb rfl rfl rfl rfl (Q8 Try.underlying62 rfl (List.length_map _)) ?_
 refine Xg (fun _ _ _ hr => RelP.slLen (i := 5) rfl hr) (fun hlen6 => ?_)
 rw [List.length_map] at hlen6
 obtain ⟨k7, hk7, hm⟩ := Qw hm
 refine TL_make 11 (n := k7) el67 z81 rfl rfl rfl rfl rfl rfl (makeI_spec hk7).1 (makeI_spec hk7).1 (makeI_spec hk7).2 rfl rfl rfl rfl ?_
 refine TL_deepen 11 (p' := false) (List.map Qc (List.replicate k7 (Point.mk (0 : Int) ([] : List Term)))) (by rw [hF]; rfl) rfl (ElR.rep (z := .agg [.int .i64 (0 : Int), .snil]) (g := Qc) (x := (Point.mk (0 : Int) ([] : List Term))) ⟨⟨rfl, rfl⟩, ⟨rfl, trivial⟩⟩ k7) rfl rfl rfl ?_
 refine Qb rfl rfl rfl rfl (Qh rfl) ?_
 refine Qe ?_
 refine Qk ?_
 refine Qk ?_
 refine Qf ?_
 refine Qb rfl rfl rfl rfl (Qh rfl) ?_
 refine Qe ?_
 refine QV ?_
 refine Qm [0, 3, 4] [11] rfl rfl rfl rfl (by rw [hF]; rfl) ?_
 refine T_loop ?_
 obtain ⟨u0, hl0, hm⟩ := Qw hm
 refine TR_iter2 (m_laws_toPointS_L0 p0) (fun (s0 : (List Point) × Int) => ⟨[(0, .sl 2 (List.map Qc p0)), (3, .ow 11), (4, .int .i64 s0.2)], [(11, .arr ⟨false, true⟩ 2 81 (List.map Qc s0.1))]⟩) (fun u0 => .exit 0) (fun u0 => ⟨[(3, .ow 11)], [(11, .arr ⟨false, true⟩ 2 81 (List.map Qc u0))]⟩) (fun u0 => m_laws_toPointS_A0 u0 = some out) hl0 hm (fun u0 hm => ?_) (fun hx0 s0 c0 hm hc0 => ?_)
 ·unfold m_laws_toPointS_A0 at hm
  refine Qk ?_
  refine Qf ?_
  refine Qb rfl rfl rfl rfl (Qi rfl) ?_
  refine Qb rfl rfl rfl rfl (Qh rfl) ?_
  refine Qe ?_
  refine Qm [2] [11] rfl rfl rfl rfl (by rw [hF]; rfl) ?_
  refine T_ren [(11, 1000)] rfl rfl rfl (by rw [hF]; rfl) ?_
  refine QH ?_
  obtain rfl := Qr hm
  refine ⟨[_], [1000], ⟨rfl, trivial⟩, ?_, rfl, rfl, rfl, rfl⟩
  rfl
 ·unfold m_laws_toPointS_L0 at hm
  refine Qk ?_
  refine Qk ?_
  refine Qf ?_
  refine Qb rfl rfl rfl rfl (Qi rfl) ?_
  refine Qb rfl rfl rfl rfl (Qi rfl) ?_
  refine Qb rfl rfl rfl rfl (Q8 Try.underlying62 rfl (List.length_map _)) ?_
  refine Qb rfl rfl rfl rfl (Xd rfl rfl) ?_
  refine Qe ?_
  refine QF rfl (fun hq => ?_) (fun hq => ?_)
  ·replace hm := QT hq hm
   refine QG ?_
   refine Qk ?_
   refine QV ?_
   refine Qf ?_
   refine Qb rfl rfl rfl rfl (Qi rfl) ?_
   refine Qb rfl rfl rfl rfl (Qi rfl) ?_
   refine Qb rfl rfl rfl rfl (Qi rfl) ?_
   refine Qb rfl rfl rfl rfl (Qi rfl) ?_
   obtain ⟨x18, hx18, hm⟩ := Qw hm
   refine Qb rfl rfl rfl rfl (QU el62 rfl rfl hx18 rfl) ?_
   refine Qb rfl rfl rfl rfl (Qv ag77 sz77 rfl rfl rfl) ?_
   obtain ⟨r20, hr20, hm⟩ := Qw hm
   refine Qt [(1000, 14)] (ACall.F (F := F) (c_laws_toPoint x18 r20 hr20)) Try.call52 rfl rfl rfl rfl rfl rfl rfl rfl rfl rfl rfl rfl rfl ?_
   obtain ⟨x21, hx21, hm⟩ := Qw hm
   refine Qb rfl rfl rfl rfl (op_indexO el67 rfl rfl rfl hx21) ?_
   refine TL_storeXT (ids := [14]) sz81 rfl rfl ((getI_spec hx21).2) (v' := r20) rfl rfl rfl rfl rfl rfl rfl (by rw [hF]; intro j hj; simp only [List.mem_cons, List.not_mem_nil, or_false] at hj; rcases hj with rfl <;> rfl) rfl rfl rfl rfl rfl rfl rfl ?_
   refine Qe ?_
   refine Qf ?_
   refine Qb rfl rfl rfl rfl (Qi rfl) ?_
   refine Qb rfl rfl rfl rfl (Xh rfl rfl) ?_
   refine Qb rfl rfl rfl rfl (Qh rfl) ?_
   refine Qe ?_
   refine Q5 [0, 3, 4] [11] rfl rfl rfl rfl (by rw [hF]; rfl) ?_
   obtain rfl := Qr hm
   have hn := QM hc0
   exact hn _ rfl
  ·replace hm := QS hq hm
   refine Qm [3] [11] rfl rfl rfl rfl (by rw [hF]; rfl) ?_
   refine T_exit ?_
   obtain rfl := Qr hm
   have hn := QI hc0
   exact hx0 s0.1 hn
theorem c_laws_toAnnotated (p0 : Annotated) (out : Annotated) (hm : m_laws_toAnnotated p0 = some out) : ACall Try.prog 43 [.agg [.sl 2 (List.map Qa p0.Pre), .sl 2 (List.map Qa p0.Post), .sl 2 (List.map Qd p0.Code), .sl 2 (List.map Qc p0.Points)]] [] (.agg [.ow 1000, .ow 1001, .ow 1002, .ow 1003]) [(1000, .arr ⟨false, true⟩ 2 184 (List.map Qa out.Pre)), (1001, .arr ⟨false, true⟩ 2 184 (List.map Qa out.Post)), (1002, .arr ⟨false, true⟩ 2 40 (List.map Qd out.Code)), (1003, .arr ⟨false, true⟩ 2 81 (List.map Qc out.Points))] := by
 refine ACall.intro Try.func43 rfl Try.ntmps43 rfl (fun F hF => ?_)
 unfold m_laws_toAnnotated at hm
 refine Qk ?_
 refine Qf ?_
 refine TL_box 11 rfl rfl rfl rfl rfl rfl rfl ?_
 refine QJ 12 z69 rfl rfl rfl rfl rfl rfl rfl ?_
 refine Qe ?_
 refine Qk ?_
 refine Qf ?_
 refine QJ 13 z69 rfl rfl rfl rfl rfl rfl rfl ?_
 refine Qe ?_
 refine Qk ?_
 refine Qf ?_
 refine Qb rfl rfl rfl rfl (Qj fa64_0 rfl rfl) ?_
 refine Qb rfl rfl rfl rfl (Qg ag61 rfl rfl) ?_
 obtain ⟨r6, hr6, hm⟩ := Qw hm
 refine Qt [(1000, 14)] (ACall.F (F := F) (c_laws_toTermS p0.Pre r6 hr6)) Try.call87 rfl rfl rfl rfl rfl rfl rfl rfl rfl rfl rfl rfl rfl ?_
 refine Qb rfl rfl rfl rfl (Qj fa69_0 rfl rfl) ?_
 refine Qo sz66 rfl rfl rfl rfl rfl rfl rfl rfl rfl ?_
 refine Qe ?_
 refine Qk ?_
 refine Qf ?_
 refine Qb rfl rfl rfl rfl (Qj fa64_1 rfl rfl) ?_
 refine Qb rfl rfl rfl rfl (Qg ag61 rfl rfl) ?_
 obtain ⟨r10, hr10, hm⟩ := Qw hm
 refine Qt [(1000, 15)] (ACall.F (F := F) (c_laws_toTermS p0.Post r10 hr10)) Try.call87 rfl rfl rfl rfl rfl rfl rfl rfl rfl rfl rfl rfl rfl ?_
 refine Qb rfl rfl rfl rfl (Qj fa69_1 rfl rfl) ?_
 refine Qo sz66 rfl rfl rfl rfl rfl rfl rfl rfl rfl ?_
 refine Qe ?_
 refine Qk ?_
 refine Qf ?_
 refine Qb rfl rfl rfl rfl (Qj fa64_2 rfl rfl) ?_
 refine Qb rfl rfl rfl rfl (Qg ag43 rfl rfl) ?_
 obtain ⟨r14, hr14, hm⟩ := Qw hm
 refine Qt [(1000, 16)] (ACall.F (F := F) (c_laws_toInstrS p0.Code r14 hr14)) Try.call24 rfl rfl rfl rfl rfl rfl rfl rfl rfl rfl rfl rfl rfl ?_
 refine Qb rfl rfl rfl rfl (Qj fa69_2 rfl rfl) ?_
 refine Qo sz24 rfl rfl rfl rfl rfl rfl rfl rfl rfl ?_
 refine Qe ?_
 refine Qk ?_
 refine Qf ?_
 refine Qb rfl rfl rfl rfl (Qj fa64_3 rfl rfl) ?_
 refine Qb rfl rfl rfl rfl (Qg ag62 rfl rfl) ?_
 obtain ⟨r18, hr18, hm⟩ := Qw hm
 refine Qt [(1000, 17)] (ACall.F (F := F) (c_laws_toPointS p0.Points r18 hr18)) Try.call88 rfl rfl rfl rfl rfl rfl rfl rfl rfl rfl rfl rfl rfl ?_
 refine Qb rfl rfl rfl rfl (Qj fa69_3 rfl rfl) ?_
 refine Qo sz67 rfl rfl rfl rfl rfl rfl rfl rfl rfl ?_
 refine Qe ?_
 refine Qk ?_
 refine Qf ?_
 refine Qb rfl rfl rfl rfl (Qv ag69 sz69 rfl rfl rfl) ?_
 refine Qo sz69 rfl rfl rfl rfl rfl rfl rfl rfl rfl ?_
 refine Qe ?_
 refine Qm [2] [12, 14, 15, 16, 17] rfl rfl rfl rfl (by rw [hF]; rfl) ?_
 refine T_ren [(12, 12), (14, 1000), (15, 1001), (16, 1002), (17, 1003)] rfl rfl rfl (by rw [hF]; rfl) ?_
 refine QH ?_
 obtain rfl := Qr hm
 refine ⟨[_], [1000, 1001, 1002, 1003], ⟨⟨_, _, rfl, rfl, .inr ⟨ag69, _, _, sz69, rfl, rfl⟩⟩, trivial⟩, ?_, rfl, rfl, rfl, rfl⟩
 rfl
theorem c_spec_l00In (p0 : Int) (p1 : Int) (p2 : Int) (out : Bool) (hm : m_spec_l00In p0 p1 p2 = some out) : ACall Try.prog 108 [.int .i64 p0, .int .i64 p1, .int .i64 p2] [] (.bool out) [] := by
 refine ACall.intro Try.func108 rfl Try.ntmps108 rfl (fun F hF => ?_)
 unfold m_spec_l00In at hm
 refine Qk ?_
 refine Qf ?_
 refine Qb rfl rfl rfl rfl (Qh rfl) ?_
 refine Qe ?_
 refine Qk ?_
 refine Qf ?_
 refine Qb rfl rfl rfl rfl (Qi rfl) ?_
 refine Qb rfl rfl rfl rfl (Qi rfl) ?_
 refine Qb rfl rfl rfl rfl (op_geq rfl rfl) ?_
 refine Qb rfl rfl rfl rfl (Qi rfl) ?_
 refine TL_join 4 (fun _ : Unit => ⟨[(14, .bool ((decide (p1 ≤ p0)) && (decide (p0 ≤ p2))))], []⟩) (fun _ => True) (fun _ _ => ?_) (fun hjj => ?_)
 ·refine Qb rfl rfl rfl rfl (Qh rfl) ?_
  refine Qe ?_
  refine Qm [6] [] rfl rfl rfl rfl (by rw [hF]; rfl) ?_
  refine QH ?_
  obtain rfl := Qr hm
  refine ⟨[_], [], ⟨rfl, trivial⟩, ?_, rfl, rfl, rfl, rfl⟩
  rfl
 ·refine TL_split 10 rfl rfl rfl (fun hq => ?_) (fun hq => ?_)
  ·refine Qx rfl rfl ?_
   refine Qb rfl rfl rfl rfl (Qi rfl) ?_
   refine Qx rfl rfl ?_
   refine Qb rfl rfl rfl rfl (Qi rfl) ?_
   refine Qx rfl rfl ?_
   refine Qb rfl rfl rfl rfl (op_leq rfl rfl) ?_
   refine Qb rfl rfl rfl rfl (QC rfl rfl) ?_
   refine TL_keepH [14] [] rfl rfl rfl rfl (by rw [hF]; rfl) ?_
   exact TL_cast _ (by first | (rw [hq, Bool.true_and]; done) | (rw [hq]; rfl)) (hjj () trivial)
  ·refine Qq rfl rfl rfl rfl rfl rfl rfl ?_
   refine Qq rfl rfl rfl rfl rfl rfl rfl ?_
   refine Qq rfl rfl rfl rfl rfl rfl rfl ?_
   refine Qb rfl rfl rfl rfl (QB rfl rfl) ?_
   refine TL_keepH [14] [] rfl rfl rfl rfl (by rw [hF]; rfl) ?_
   exact TL_cast _ (by first | (rw [hq, Bool.false_and]; done) | (rw [hq]; rfl)) (hjj () trivial)
theorem c_spec_l02Number (p0 : Int) (out : Bool) (hm : m_spec_l02Number p0 = some out) : ACall Try.prog 175 [.int .i64 p0] [] (.bool out) [] := by
 refine ACall.intro Try.func175 rfl Try.ntmps175 rfl (fun F hF => ?_)
 unfold m_spec_l02Number at hm
 refine Qk ?_
 refine Qf ?_
 refine Qb rfl rfl rfl rfl (Qh rfl) ?_
 refine Qe ?_
 refine Qk ?_
 refine Qf ?_
 refine Qb rfl rfl rfl rfl (Qi rfl) ?_
 obtain ⟨r4, hr4, hm⟩ := Qw hm
 refine QA (ACall.F (F := F) (c_spec_l00In p0 (-1000000 : Int) (1000000 : Int) r4 hr4)) Try.call108 rfl rfl rfl rfl rfl ?_
 refine Qb rfl rfl rfl rfl (Qh rfl) ?_
 refine Qe ?_
 refine Qm [2] [] rfl rfl rfl rfl (by rw [hF]; rfl) ?_
 refine QH ?_
 obtain rfl := Qr hm
 refine ⟨[_], [], ⟨rfl, trivial⟩, ?_, rfl, rfl, rfl, rfl⟩
 rfl
theorem c_spec_l07Instr (p0 : Instr) (out : Bool) (hm : m_spec_l07Instr p0 = some out) : ACall Try.prog 133 [.agg [.int .i64 p0.Op, .int .i64 p0.Arg]] [] (.bool out) [] := by
 refine ACall.intro Try.func133 rfl Try.ntmps133 rfl (fun F hF => ?_)
 unfold m_spec_l07Instr at hm
 refine Qk ?_
 refine Qf ?_
 refine TL_box 11 rfl rfl rfl rfl rfl rfl rfl ?_
 refine Qb rfl rfl rfl rfl (Qh rfl) ?_
 refine Qe ?_
 refine Qk ?_
 refine Qk ?_
 refine Qf ?_
 refine Qb rfl rfl rfl rfl (Qj fa40_0 rfl rfl) ?_
 refine Qb rfl rfl rfl rfl (Qg ag2 rfl rfl) ?_
 refine Qe ?_
 refine QV ?_
 refine T_join (fun (j0 : Bool) => ⟨[(1, .ptr 11 0 0), (4, .int .i64 p0.Op), (5, .bool j0)], [(11, .box [.int .i64 p0.Op, .int .i64 p0.Arg])]⟩) (fun j0 => m_spec_l07Instr_J0 p0 j0 = some out) (fun j0 hm => ?_) (fun hj0 => ?_)
 ·unfold m_spec_l07Instr_J0 at hm
  refine QF rfl (fun hq => ?_) (fun hq => ?_)
  ·replace hm := QT hq hm
   refine Qk ?_
   refine Qf ?_
   refine Qb rfl rfl rfl rfl (Qj fa40_1 rfl rfl) ?_
   refine Qb rfl rfl rfl rfl (Qg ag2 rfl rfl) ?_
   obtain ⟨r10, hr10, hm⟩ := Qw hm
   refine QA (ACall.F (F := F) (c_spec_l02Number p0.Arg r10 hr10)) Try.call175 rfl rfl rfl rfl rfl ?_
   refine Qb rfl rfl rfl rfl (Qh rfl) ?_
   refine Qe ?_
   refine Qm [2] [] rfl rfl rfl rfl (by rw [hF]; rfl) ?_
   refine QH ?_
   obtain rfl := Qr hm
   refine ⟨[_], [], ⟨rfl, trivial⟩, ?_, rfl, rfl, rfl, rfl⟩
   rfl
  ·replace hm := QS hq hm
   refine T_join (fun (j1 : Bool) => ⟨[(1, .ptr 11 0 0), (4, .int .i64 p0.Op), (11, .bool j1)], [(11, .box [.int .i64 p0.Op, .int .i64 p0.Arg])]⟩) (fun j1 => m_spec_l07Instr_J1 p0 j1 = some out) (fun j1 hm => ?_) (fun hj1 => ?_)
   ·unfold m_spec_l07Instr_J1 at hm
    refine QF rfl (fun hq => ?_) (fun hq => ?_)
    ·replace hm := QT hq hm
     refine Qk ?_
     refine Qf ?_
     refine Qb rfl rfl rfl rfl (Qj fa40_1 rfl rfl) ?_
     refine Qb rfl rfl rfl rfl (Qg ag2 rfl rfl) ?_
     obtain ⟨r16, hr16, hm⟩ := Qw hm
     refine QA (ACall.F (F := F) (c_spec_l00In p0.Arg (0 : Int) (3 : Int) r16 hr16)) Try.call108 rfl rfl rfl rfl rfl ?_
     refine Qb rfl rfl rfl rfl (Qh rfl) ?_
     refine Qe ?_
     refine Qm [2] [] rfl rfl rfl rfl (by rw [hF]; rfl) ?_
     refine QH ?_
     obtain rfl := Qr hm
     refine ⟨[_], [], ⟨rfl, trivial⟩, ?_, rfl, rfl, rfl, rfl⟩
     rfl
    ·replace hm := QS hq hm
     refine T_join (fun (j2 : Bool) => ⟨[(1, .ptr 11 0 0), (4, .int .i64 p0.Op), (17, .bool j2)], [(11, .box [.int .i64 p0.Op, .int .i64 p0.Arg])]⟩) (fun j2 => m_spec_l07Instr_J2 p0 j2 = some out) (fun j2 hm => ?_) (fun hj2 => ?_)
     ·unfold m_spec_l07Instr_J2 at hm
      refine QF rfl (fun hq => ?_) (fun hq => ?_)
      ·replace hm := QT hq hm
       refine Qk ?_
       refine Qf ?_
       refine Qb rfl rfl rfl rfl (Qj fa40_1 rfl rfl) ?_
       refine Qb rfl rfl rfl rfl (Qg ag2 rfl rfl) ?_
       obtain ⟨r22, hr22, hm⟩ := Qw hm
       refine QA (ACall.F (F := F) (c_spec_l00In p0.Arg (0 : Int) (79 : Int) r22 hr22)) Try.call108 rfl rfl rfl rfl rfl ?_
       refine Qb rfl rfl rfl rfl (Qh rfl) ?_
       refine Qe ?_
       refine Qm [2] [] rfl rfl rfl rfl (by rw [hF]; rfl) ?_
       refine QH ?_
       obtain rfl := Qr hm
       refine ⟨[_], [], ⟨rfl, trivial⟩, ?_, rfl, rfl, rfl, rfl⟩
       rfl
      ·replace hm := QS hq hm
       refine Qk ?_
       refine Qf ?_
       refine Qb rfl rfl rfl rfl (op_eql rfl rfl) ?_
       refine Qb rfl rfl rfl rfl (Qh rfl) ?_
       refine Qe ?_
       refine QF rfl (fun hq => ?_) (fun hq => ?_)
       ·replace hm := QT hq hm
        refine Qk ?_
        refine Qf ?_
        refine Qb rfl rfl rfl rfl (Qj fa40_1 rfl rfl) ?_
        refine Qb rfl rfl rfl rfl (Qg ag2 rfl rfl) ?_
        obtain ⟨r27, hr27, hm⟩ := Qw hm
        refine QA (ACall.F (F := F) (c_spec_l00In p0.Arg (0 : Int) (3 : Int) r27 hr27)) Try.call108 rfl rfl rfl rfl rfl ?_
        refine Qb rfl rfl rfl rfl (Qh rfl) ?_
        refine Qe ?_
        refine Qm [2] [] rfl rfl rfl rfl (by rw [hF]; rfl) ?_
        refine QH ?_
        obtain rfl := Qr hm
        refine ⟨[_], [], ⟨rfl, trivial⟩, ?_, rfl, rfl, rfl, rfl⟩
        rfl
       ·replace hm := QS hq hm
        refine T_join (fun (j3 : Bool) => ⟨[(1, .ptr 11 0 0), (28, .bool j3)], [(11, .box [.int .i64 p0.Op, .int .i64 p0.Arg])]⟩) (fun j3 => m_spec_l07Instr_J3 p0 j3 = some out) (fun j3 hm => ?_) (fun hj3 => ?_)
        ·unfold m_spec_l07Instr_J3 at hm
         refine QF rfl (fun hq => ?_) (fun hq => ?_)
         ·replace hm := QT hq hm
          refine Qk ?_
          refine Qf ?_
          refine Qb rfl rfl rfl rfl (Qj fa40_1 rfl rfl) ?_
          refine Qb rfl rfl rfl rfl (Qg ag2 rfl rfl) ?_
          refine Qb rfl rfl rfl rfl (op_eql rfl rfl) ?_
          refine Qb rfl rfl rfl rfl (Qh rfl) ?_
          refine Qe ?_
          refine Qm [2] [] rfl rfl rfl rfl (by rw [hF]; rfl) ?_
          refine QH ?_
          obtain rfl := Qr hm
          refine ⟨[_], [], ⟨rfl, trivial⟩, ?_, rfl, rfl, rfl, rfl⟩
          rfl
         ·replace hm := QS hq hm
          refine QG ?_
          refine Qk ?_
          refine Qf ?_
          refine Qb rfl rfl rfl rfl (Qh rfl) ?_
          refine Qe ?_
          refine Qm [2] [] rfl rfl rfl rfl (by rw [hF]; rfl) ?_
          refine QH ?_
          obtain rfl := Qr hm
          refine ⟨[_], [], ⟨rfl, trivial⟩, ?_, rfl, rfl, rfl, rfl⟩
          rfl
        ·refine Qk ?_
         refine Qf ?_
         refine Qb rfl rfl rfl rfl (op_eql rfl rfl) ?_
         refine Qb rfl rfl rfl rfl (Qh rfl) ?_
         refine Qe ?_
         refine QF rfl (fun hq => ?_) (fun hq => ?_)
         ·replace hm := QT hq hm
          refine QG ?_
          refine Qm [1, 28] [11] rfl rfl rfl rfl (by rw [hF]; rfl) ?_
          exact hj3 (decide (p0.Op = (3 : Int))) hm
         ·replace hm := QS hq hm
          refine Qk ?_
          refine Qf ?_
          refine Qb rfl rfl rfl rfl (op_eql rfl rfl) ?_
          refine Qb rfl rfl rfl rfl (Qh rfl) ?_
          refine Qe ?_
          refine QF rfl (fun hq => ?_) (fun hq => ?_)
          ·replace hm := QT hq hm
           refine QG ?_
           refine Qm [1, 28] [11] rfl rfl rfl rfl (by rw [hF]; rfl) ?_
           exact hj3 (decide (p0.Op = (7 : Int))) hm
          ·replace hm := QS hq hm
           refine Qk ?_
           refine Qf ?_
           refine Qb rfl rfl rfl rfl (op_eql rfl rfl) ?_
           refine Qb rfl rfl rfl rfl (Qh rfl) ?_
           refine Qe ?_
           refine QF rfl (fun hq => ?_) (fun hq => ?_)
           ·replace hm := QT hq hm
            refine QG ?_
            refine Qm [1, 28] [11] rfl rfl rfl rfl (by rw [hF]; rfl) ?_
            exact hj3 (decide (p0.Op = (8 : Int))) hm
           ·replace hm := QS hq hm
            refine Qk ?_
            refine Qf ?_
            refine Qb rfl rfl rfl rfl (op_eql rfl rfl) ?_
            refine Qb rfl rfl rfl rfl (Qh rfl) ?_
            refine Qe ?_
            refine QF rfl (fun hq => ?_) (fun hq => ?_)
            ·replace hm := QT hq hm
             refine QG ?_
             refine Qm [1, 28] [11] rfl rfl rfl rfl (by rw [hF]; rfl) ?_
             exact hj3 (decide (p0.Op = (10 : Int))) hm
            ·replace hm := QS hq hm
             refine Qf ?_
             refine Qb rfl rfl rfl rfl (op_eql rfl rfl) ?_
             refine Qb rfl rfl rfl rfl (Qh rfl) ?_
             refine Qe ?_
             refine Qm [1, 28] [11] rfl rfl rfl rfl (by rw [hF]; rfl) ?_
             exact hj3 (decide (p0.Op = (11 : Int))) hm
     ·refine Qk ?_
      refine Qf ?_
      refine Qb rfl rfl rfl rfl (op_eql rfl rfl) ?_
      refine Qb rfl rfl rfl rfl (Qh rfl) ?_
      refine Qe ?_
      refine QF rfl (fun hq => ?_) (fun hq => ?_)
      ·replace hm := QT hq hm
       refine QG ?_
       refine Qm [1, 4, 17] [11] rfl rfl rfl rfl (by rw [hF]; rfl) ?_
       exact hj2 (decide (p0.Op = (5 : Int))) hm
      ·replace hm := QS hq hm
       refine Qf ?_
       refine Qb rfl rfl rfl rfl (op_eql rfl rfl) ?_
       refine Qb rfl rfl rfl rfl (Qh rfl) ?_
       refine Qe ?_
       refine Qm [1, 4, 17] [11] rfl rfl rfl rfl (by rw [hF]; rfl) ?_
       exact hj2 (decide (p0.Op = (6 : Int))) hm
   ·refine Qk ?_
    refine Qf ?_
    refine Qb rfl rfl rfl rfl (op_eql rfl rfl) ?_
    refine Qb rfl rfl rfl rfl (Qh rfl) ?_
    refine Qe ?_
    refine QF rfl (fun hq => ?_) (fun hq => ?_)
    ·replace hm := QT hq hm
     refine QG ?_
     refine Qm [1, 4, 11] [11] rfl rfl rfl rfl (by rw [hF]; rfl) ?_
     exact hj1 (decide (p0.Op = (1 : Int))) hm
    ·replace hm := QS hq hm
     refine Qf ?_
     refine Qb rfl rfl rfl rfl (op_eql rfl rfl) ?_
     refine Qb rfl rfl rfl rfl (Qh rfl) ?_
     refine Qe ?_
     refine Qm [1, 4, 11] [11] rfl rfl rfl rfl (by rw [hF]; rfl) ?_
     exact hj1 (decide (p0.Op = (2 : Int))) hm
 ·refine Qk ?_
  refine Qf ?_
  refine Qb rfl rfl rfl rfl (op_eql rfl rfl) ?_
  refine Qb rfl rfl rfl rfl (Qh rfl) ?_
  refine Qe ?_
  refine QF rfl (fun hq => ?_) (fun hq => ?_)
  ·replace hm := QT hq hm
   refine QG ?_
   refine Qm [1, 4, 5] [11] rfl rfl rfl rfl (by rw [hF]; rfl) ?_
   exact hj0 (decide (p0.Op = (0 : Int))) hm
  ·replace hm := QS hq hm
   refine Qf ?_
   refine Qb rfl rfl rfl rfl (op_eql rfl rfl) ?_
   refine Qb rfl rfl rfl rfl (Qh rfl) ?_
   refine Qe ?_
   refine Qm [1, 4, 5] [11] rfl rfl rfl rfl (by rw [hF]; rfl) ?_
   exact hj0 (decide (p0.Op = (4 : Int))) hm
theorem c_spec_l07Is (p0 : List Instr) (out : Bool) (hm : m_spec_l07Is p0 = some out) : ACall Try.prog 74 [.sl 2 (List.map Qd p0)] [] (.bool out) [] := by
 refine ACall.intro Try.func74 rfl Try.ntmps74 rfl (fun F hF => ?_)
 unfold m_spec_l07Is at hm
 refine Qk ?_
 refine Qf ?_
 refine Qb rfl rfl rfl rfl (Qh rfl) ?_
 refine Qe ?_
 refine Qk ?_
 refine Qk ?_
 refine Qf ?_
 refine Qb rfl rfl rfl rfl (Qh rfl) ?_
 refine Qe ?_
 refine QV ?_
 refine Qm [0, 3] [] rfl rfl rfl rfl (by rw [hF]; rfl) ?_
 refine T_loop ?_
 obtain ⟨u0, hl0, hm⟩ := Qw hm
 refine TR_iter2 (m_spec_l07Is_L0 p0) (fun (s0 : Int) => ⟨[(0, .sl 2 (List.map Qd p0)), (3, .int .i64 s0)], []⟩) (fun u0 => match u0 with | .inl u0 => .exit 0 | .inr u0 => .ret) (fun u0 => match u0 with | .inl u0 => ⟨[(0, .sl 2 (List.map Qd p0))], []⟩ | .inr u0 => ⟨[(2, .bool u0)], []⟩) (fun u0 => m_spec_l07Is_A0 p0 u0 = some out) hl0 hm (fun u0 hm => ?_) (fun hx0 s0 c0 hm hc0 => ?_)
 ·rcases u0 with u0 | u0
  ·unfold m_spec_l07Is_A0 at hm
   refine Qk ?_
   refine Qf ?_
   refine Qb rfl rfl rfl rfl (Qi rfl) ?_
   refine Qb rfl rfl rfl rfl (Q8 Try.underlying24 rfl (List.length_map _)) ?_
   refine Xg (fun _ _ _ hr => RelP.slLen (i := 16) rfl hr) (fun hlen17 => ?_)
   rw [List.length_map] at hlen17
   obtain ⟨r18, hr18, hm⟩ := Qw hm
   refine QA (ACall.F (F := F) (c_spec_l00In (p0.length : Int) (1 : Int) (80 : Int) r18 hr18)) Try.call108 rfl rfl rfl rfl rfl ?_
   refine Qb rfl rfl rfl rfl (Qh rfl) ?_
   refine Qe ?_
   refine Qm [2] [] rfl rfl rfl rfl (by rw [hF]; rfl) ?_
   refine QH ?_
   obtain rfl := Qr hm
   refine ⟨[_], [], ⟨rfl, trivial⟩, ?_, rfl, rfl, rfl, rfl⟩
   rfl
  ·unfold m_spec_l07Is_A0 at hm
   obtain rfl := Qr hm
   refine ⟨[_], [], ⟨rfl, trivial⟩, ?_, rfl, rfl, rfl, rfl⟩
   rfl
 ·unfold m_spec_l07Is_L0 at hm
  refine Qk ?_
  refine Qk ?_
  refine Qf ?_
  refine Qb rfl rfl rfl rfl (Qi rfl) ?_
  refine Qb rfl rfl rfl rfl (Qi rfl) ?_
  refine Qb rfl rfl rfl rfl (Q8 Try.underlying24 rfl (List.length_map _)) ?_
  refine Xg (fun _ _ _ hr => RelP.slLen (i := 5) rfl hr) (fun hlen6 => ?_)
  rw [List.length_map] at hlen6
  refine Qb rfl rfl rfl rfl (Xd rfl rfl) ?_
  refine Qe ?_
  refine QF rfl (fun hq => ?_) (fun hq => ?_)
  ·replace hm := QT hq hm
   refine QG ?_
   refine Qk ?_
   refine QV ?_
   refine Qk ?_
   refine Qf ?_
   refine Qb rfl rfl rfl rfl (Qi rfl) ?_
   refine Qb rfl rfl rfl rfl (Qi rfl) ?_
   obtain ⟨x12, hx12, hm⟩ := Qw hm
   refine Qb rfl rfl rfl rfl (QU el24 rfl rfl hx12 rfl) ?_
   refine Qb rfl rfl rfl rfl (Qv ag40 sz40 rfl rfl rfl) ?_
   obtain ⟨r14, hr14, hm⟩ := Qw hm
   refine QA (ACall.F (F := F) (c_spec_l07Instr x12 r14 hr14)) Try.call133 rfl rfl rfl rfl rfl ?_
   refine Qb rfl rfl rfl rfl (op_not rfl) ?_
   refine Qe ?_
   refine QF rfl (fun hq => ?_) (fun hq => ?_)
   ·replace hm := QT hq hm
    refine Qk ?_
    refine Qf ?_
    refine Qb rfl rfl rfl rfl (Qh rfl) ?_
    refine Qe ?_
    refine Qm [2] [] rfl rfl rfl rfl (by rw [hF]; rfl) ?_
    refine QH ?_
    obtain rfl := Qr hm
    have hn := QI hc0
    exact hx0 (.inr false) hn
   ·replace hm := QS hq hm
    refine QG ?_
    refine Qf ?_
    refine Qb rfl rfl rfl rfl (Qi rfl) ?_
    refine Qb rfl rfl rfl rfl (Xh rfl rfl) ?_
    refine Qb rfl rfl rfl rfl (Qh rfl) ?_
    refine Qe ?_
    refine Q5 [0, 3] [] rfl rfl rfl rfl (by rw [hF]; rfl) ?_
    obtain rfl := Qr hm
    have hn := QM hc0
    exact hn _ rfl
  ·replace hm := QS hq hm
   refine Qm [0] [] rfl rfl rfl rfl (by rw [hF]; rfl) ?_
   refine T_exit ?_
   obtain rfl := Qr hm
   have hn := QI hc0
   exact hx0 (.inl ()) hn
theorem c_spec_l02Is (p0 : Term) (out : Bool) (hm : m_spec_l02Is p0 = some out) : ACall Try.prog 177 [.cp [.int .i64 p0.Const, .sl 1 (List.map a_i64 p0.Coeffs)]] [] (.bool out) [] := by
 refine ACall.intro Try.func177 rfl Try.ntmps177 rfl (fun F hF => ?_)
 unfold m_spec_l02Is at hm
 refine Qk ?_
 refine Qf ?_
 refine Qb rfl rfl rfl rfl (Qh rfl) ?_
 refine Qe ?_
 refine Qk ?_
 refine Qf ?_
 refine Qb rfl rfl rfl rfl (Qi rfl) ?_
 refine Qb rfl rfl rfl rfl (Xe rfl rfl) ?_
 refine Qb rfl rfl rfl rfl (Qj fa184_1 rfl rfl) ?_
 refine Qb rfl rfl rfl rfl (Qg ag26 rfl rfl) ?_
 refine Qb rfl rfl rfl rfl (Q8 Try.underlying26 rfl (List.length_map _)) ?_
 refine Xg (fun _ _ _ hr => RelP.slLen (i := 8) rfl hr) (fun hlen9 => ?_)
 rw [List.length_map] at hlen9
 refine Qb rfl rfl rfl rfl (Qh rfl) ?_
 refine Qe ?_
 refine T_join (fun (j0 : Unit) => ⟨[(0, .cp [.int .i64 p0.Const, .sl 1 (List.map a_i64 p0.Coeffs)]), (3, .int .i64 (p0.Coeffs.length : Int))], []⟩) (fun j0 => m_spec_l02Is_J0 p0 j0 = some out) (fun j0 hm => ?_) (fun hj0 => ?_)
 ·unfold m_spec_l02Is_J0 at hm
  refine Qk ?_
  refine Qk ?_
  refine Qf ?_
  refine Qb rfl rfl rfl rfl (Qh rfl) ?_
  refine Qe ?_
  refine QV ?_
  refine Qm [0, 3, 4] [] rfl rfl rfl rfl (by rw [hF]; rfl) ?_
  refine T_loop ?_
  obtain ⟨u0, hl0, hm⟩ := Qw hm
  refine TR_iter2 (m_spec_l02Is_L0 p0) (fun (s0 : Int) => ⟨[(0, .cp [.int .i64 p0.Const, .sl 1 (List.map a_i64 p0.Coeffs)]), (3, .int .i64 (p0.Coeffs.length : Int)), (4, .int .i64 s0)], []⟩) (fun u0 => match u0 with | .inl u0 => .exit 0 | .inr u0 => .ret) (fun u0 => match u0 with | .inl u0 => ⟨[], []⟩ | .inr u0 => ⟨[(2, .bool u0)], []⟩) (fun u0 => m_spec_l02Is_A0 u0 = some out) hl0 hm (fun u0 hm => ?_) (fun hx0 s0 c0 hm hc0 => ?_)
  ·rcases u0 with u0 | u0
   ·unfold m_spec_l02Is_A0 at hm
    refine Qk ?_
    refine Qf ?_
    refine Qb rfl rfl rfl rfl (Qh rfl) ?_
    refine Qe ?_
    refine Qm [2] [] rfl rfl rfl rfl (by rw [hF]; rfl) ?_
    refine QH ?_
    obtain rfl := Qr hm
    refine ⟨[_], [], ⟨rfl, trivial⟩, ?_, rfl, rfl, rfl, rfl⟩
    rfl
   ·unfold m_spec_l02Is_A0 at hm
    obtain rfl := Qr hm
    refine ⟨[_], [], ⟨rfl, trivial⟩, ?_, rfl, rfl, rfl, rfl⟩
    rfl
  ·unfold m_spec_l02Is_L0 at hm
   refine Qk ?_
   refine Qk ?_
   refine Qf ?_
   refine Qb rfl rfl rfl rfl (Qi rfl) ?_
   refine Qb rfl rfl rfl rfl (Qi rfl) ?_
   refine Qb rfl rfl rfl rfl (Xd rfl rfl) ?_
   refine Qe ?_
   refine QF rfl (fun hq => ?_) (fun hq => ?_)
   ·replace hm := QT hq hm
    refine QG ?_
    refine Qk ?_
    refine QV ?_
    refine Qk ?_
    refine Qf ?_
    refine Qb rfl rfl rfl rfl (Qi rfl) ?_
    refine Qb rfl rfl rfl rfl (Xe rfl rfl) ?_
    refine Qb rfl rfl rfl rfl (Qj fa184_1 rfl rfl) ?_
    refine Qb rfl rfl rfl rfl (Qg ag26 rfl rfl) ?_
    refine Qb rfl rfl rfl rfl (Qi rfl) ?_
    obtain ⟨x45, hx45, hm⟩ := Qw hm
    refine Qb rfl rfl rfl rfl (QU el26 rfl rfl hx45 rfl) ?_
    refine Qb rfl rfl rfl rfl (Qg ag2 rfl rfl) ?_
    obtain ⟨r47, hr47, hm⟩ := Qw hm
    refine QA (ACall.F (F := F) (c_spec_l02Number x45 r47 hr47)) Try.call175 rfl rfl rfl rfl rfl ?_
    refine Qb rfl rfl rfl rfl (op_not rfl) ?_
    refine Qe ?_
    refine QF rfl (fun hq => ?_) (fun hq => ?_)
    ·replace hm := QT hq hm
     refine Qk ?_
     refine Qf ?_
     refine Qb rfl rfl rfl rfl (Qh rfl) ?_
     refine Qe ?_
     refine Qm [2] [] rfl rfl rfl rfl (by rw [hF]; rfl) ?_
     refine QH ?_
     obtain rfl := Qr hm
     have hn := QI hc0
     exact hx0 (.inr false) hn
    ·replace hm := QS hq hm
     refine QG ?_
     refine Qf ?_
     refine Qb rfl rfl rfl rfl (Qi rfl) ?_
     refine Qb rfl rfl rfl rfl (Xh rfl rfl) ?_
     refine Qb rfl rfl rfl rfl (Qh rfl) ?_
     refine Qe ?_
     refine Q5 [0, 3, 4] [] rfl rfl rfl rfl (by rw [hF]; rfl) ?_
     obtain rfl := Qr hm
     have hn := QM hc0
     exact hn _ rfl
   ·replace hm := QS hq hm
    refine Qm [] [] rfl rfl rfl rfl (by rw [hF]; rfl) ?_
    refine T_exit ?_
    obtain rfl := Qr hm
    have hn := QI hc0
    exact hx0 (.inl ()) hn
 ·refine Qk ?_
  refine Qf ?_
  refine Qb rfl rfl rfl rfl (Qi rfl) ?_
  refine Qb rfl rfl rfl rfl (Xe rfl rfl) ?_
  refine Qb rfl rfl rfl rfl (QY (n := 1) fa184_0 rfl rfl rfl) ?_
  refine Qb rfl rfl rfl rfl (Qg ag2 rfl rfl) ?_
  obtain ⟨r14, hr14, hm⟩ := Qw hm
  refine QA (ACall.F (F := F) (c_spec_l02Number p0.Const r14 hr14)) Try.call175 rfl rfl rfl rfl rfl ?_
  refine Qb rfl rfl rfl rfl (op_not rfl) ?_
  refine Qb rfl rfl rfl rfl (Qi rfl) ?_
  refine TL_join 3 (fun _ : Unit => ⟨[(0, .cp [.int .i64 p0.Const, .sl 1 (List.map a_i64 p0.Coeffs)]), (3, .int .i64 (p0.Coeffs.length : Int)), (19, .bool ((!r14) || (decide ((10 : Int) < (p0.Coeffs.length : Int)))))], []⟩) (fun _ => True) (fun _ _ => ?_) (fun hjj => ?_)
  ·refine Qb rfl rfl rfl rfl (Qi rfl) ?_
   refine TL_split 20 rfl rfl rfl (fun hq => ?_) (fun hq => ?_)
   ·replace hm := QT hq hm
    refine Qq rfl rfl rfl rfl rfl rfl rfl ?_
    refine Qq rfl rfl rfl rfl rfl rfl rfl ?_
    refine Qq rfl rfl rfl rfl rfl rfl rfl ?_
    refine Xm rfl rfl rfl rfl rfl rfl ?_
    refine Xm rfl rfl rfl rfl rfl rfl ?_
    refine Xm rfl rfl rfl rfl rfl rfl ?_
    refine Xm rfl rfl rfl rfl rfl rfl ?_
    refine Xm rfl rfl rfl rfl rfl rfl ?_
    refine Xm rfl rfl rfl rfl rfl rfl ?_
    refine Xm rfl rfl rfl rfl rfl rfl ?_
    refine Xm rfl rfl rfl rfl rfl rfl ?_
    refine Xm rfl rfl rfl rfl rfl rfl ?_
    refine Qq rfl rfl rfl rfl rfl rfl rfl ?_
    refine Qb rfl rfl rfl rfl (QC rfl rfl) ?_
    refine Qe ?_
    refine T_cond_true rfl ?_
    refine Qk ?_
    refine Qf ?_
    refine Qb rfl rfl rfl rfl (Qh rfl) ?_
    refine Qe ?_
    refine Qm [2] [] rfl rfl rfl rfl (by rw [hF]; rfl) ?_
    refine QH ?_
    obtain rfl := Qr hm
    refine ⟨[_], [], ⟨rfl, trivial⟩, ?_, rfl, rfl, rfl, rfl⟩
    rfl
   ·replace hm := QS hq hm
    refine Qx rfl rfl ?_
    refine Qb rfl rfl rfl rfl (Qi rfl) ?_
    refine Qx rfl rfl ?_
    refine Qb rfl rfl rfl rfl (op_gtr rfl rfl) ?_
    refine Qx rfl rfl ?_
    refine Qb rfl rfl rfl rfl (Qi rfl) ?_
    refine TL_split 23 rfl rfl rfl (fun hq => ?_) (fun hq => ?_)
    ·replace hm := QT hq hm
     refine Qx rfl rfl ?_
     refine Qb rfl rfl rfl rfl (Qi rfl) ?_
     refine Qx rfl rfl ?_
     refine Qb rfl rfl rfl rfl (Xe rfl rfl) ?_
     refine Qx rfl rfl ?_
     refine Qb rfl rfl rfl rfl (Qj fa184_1 rfl rfl) ?_
     refine Qx rfl rfl ?_
     refine Qb rfl rfl rfl rfl (Qg ag26 rfl rfl) ?_
     refine Qx rfl rfl ?_
     refine Qb rfl rfl rfl rfl (Qi rfl) ?_
     refine Qx rfl rfl ?_
     refine Qb rfl rfl rfl rfl (op_subW rfl rfl) ?_
     refine Qx rfl rfl ?_
     obtain ⟨x30, hx30, hm⟩ := Qw hm
     refine Qb rfl rfl rfl rfl (QU el26 rfl rfl hx30 rfl) ?_
     refine Qx rfl rfl ?_
     refine Qb rfl rfl rfl rfl (Qg ag2 rfl rfl) ?_
     refine Qx rfl rfl ?_
     refine Qb rfl rfl rfl rfl (op_eql rfl rfl) ?_
     refine Qx rfl rfl ?_
     refine Qb rfl rfl rfl rfl (QC rfl rfl) ?_
     refine Qb rfl rfl rfl rfl (QB rfl rfl) ?_
     refine Qe ?_
     refine QF rfl (fun hq => ?_) (fun hq => ?_)
     ·replace hm := QT hq hm
      refine Qk ?_
      refine Qf ?_
      refine Qb rfl rfl rfl rfl (Qh rfl) ?_
      refine Qe ?_
      refine Qm [2] [] rfl rfl rfl rfl (by rw [hF]; rfl) ?_
      refine QH ?_
      obtain rfl := Qr hm
      refine ⟨[_], [], ⟨rfl, trivial⟩, ?_, rfl, rfl, rfl, rfl⟩
      rfl
     ·replace hm := QS hq hm
      refine QG ?_
      refine Qm [0, 3] [] rfl rfl rfl rfl (by rw [hF]; rfl) ?_
      exact hj0 () hm
    ·replace hm := QS hq hm
     refine Qq rfl rfl rfl rfl rfl rfl rfl ?_
     refine Qq rfl rfl rfl rfl rfl rfl rfl ?_
     refine Qq rfl rfl rfl rfl rfl rfl rfl ?_
     refine Qq rfl rfl rfl rfl rfl rfl rfl ?_
     refine Qq rfl rfl rfl rfl rfl rfl rfl ?_
     refine Qq rfl rfl rfl rfl rfl rfl rfl ?_
     refine Qq rfl rfl rfl rfl rfl rfl rfl ?_
     refine Qq rfl rfl rfl rfl rfl rfl rfl ?_
     refine Qq rfl rfl rfl rfl rfl rfl rfl ?_
     refine Qx rfl rfl ?_
     refine Qb rfl rfl rfl rfl (QB rfl rfl) ?_
     refine Qb rfl rfl rfl rfl (QB rfl rfl) ?_
     refine Qe ?_
     refine T_cond_false rfl ?_
     refine QG ?_
     refine Qm [0, 3] [] rfl rfl rfl rfl (by rw [hF]; rfl) ?_
     exact hj0 () hm
  ·refine TL_split 16 rfl rfl rfl (fun hq => ?_) (fun hq => ?_)
   ·refine Qq rfl rfl rfl rfl rfl rfl rfl ?_
    refine Qq rfl rfl rfl rfl rfl rfl rfl ?_
    refine Qb rfl rfl rfl rfl (QC rfl rfl) ?_
    refine TL_keepH [0, 3, 19] [] rfl rfl rfl rfl (by rw [hF]; rfl) ?_
    exact TL_cast _ (by first | (rw [hq, Bool.true_or]; done) | (rw [hq]; rfl)) (hjj () trivial)
   ·refine Qx rfl rfl ?_
    refine Qb rfl rfl rfl rfl (Qi rfl) ?_
    refine Qx rfl rfl ?_
    refine Qb rfl rfl rfl rfl (op_gtr rfl rfl) ?_
    refine Qb rfl rfl rfl rfl (QB rfl rfl) ?_
    refine TL_keepH [0, 3, 19] [] rfl rfl rfl rfl (by rw [hF]; rfl) ?_
    exact TL_cast _ (by first | (rw [hq, Bool.false_or]; done) | (rw [hq]; rfl)) (hjj () trivial)
theorem c_spec_l08Facts (p0 : List Term) (out : Bool) (hm : m_spec_l08Facts p0 = some out) : ACall Try.prog 144 [.sl 2 (List.map Qa p0)] [] (.bool out) [] := by
 refine ACall.intro Try.func144 rfl Try.ntmps144 rfl (fun F hF => ?_)
 unfold m_spec_l08Facts at hm
 refine Qk ?_
 refine Qf ?_
 refine Qb rfl rfl rfl rfl (Qh rfl) ?_
 refine Qe ?_
 refine Qk ?_
 refine Qk ?_
 refine Qf ?_
 refine Qb rfl rfl rfl rfl (Qh rfl) ?_
 refine Qe ?_
 refine QV ?_
 refine Qm [0, 3] [] rfl rfl rfl rfl (by rw [hF]; rfl) ?_
 refine T_loop ?_
 obtain ⟨u0, hl0, hm⟩ := Qw hm
 refine TR_iter2 (m_spec_l08Facts_L0 p0) (fun (s0 : Int) => ⟨[(0, .sl 2 (List.map Qa p0)), (3, .int .i64 s0)], []⟩) (fun u0 => match u0 with | .inl u0 => .exit 0 | .inr u0 => .ret) (fun u0 => match u0 with | .inl u0 => ⟨[(0, .sl 2 (List.map Qa p0))], []⟩ | .inr u0 => ⟨[(2, .bool u0)], []⟩) (fun u0 => m_spec_l08Facts_A0 p0 u0 = some out) hl0 hm (fun u0 hm => ?_) (fun hx0 s0 c0 hm hc0 => ?_)
 ·rcases u0 with u0 | u0
  ·unfold m_spec_l08Facts_A0 at hm
   refine Qk ?_
   refine Qf ?_
   refine Qb rfl rfl rfl rfl (Qi rfl) ?_
   refine Qb rfl rfl rfl rfl (Q8 Try.underlying66 rfl (List.length_map _)) ?_
   refine Xg (fun _ _ _ hr => RelP.slLen (i := 24) rfl hr) (fun hlen25 => ?_)
   rw [List.length_map] at hlen25
   refine Qb rfl rfl rfl rfl (op_leq rfl rfl) ?_
   refine Qb rfl rfl rfl rfl (Qh rfl) ?_
   refine Qe ?_
   refine Qm [2] [] rfl rfl rfl rfl (by rw [hF]; rfl) ?_
   refine QH ?_
   obtain rfl := Qr hm
   refine ⟨[_], [], ⟨rfl, trivial⟩, ?_, rfl, rfl, rfl, rfl⟩
   rfl
  ·unfold m_spec_l08Facts_A0 at hm
   obtain rfl := Qr hm
   refine ⟨[_], [], ⟨rfl, trivial⟩, ?_, rfl, rfl, rfl, rfl⟩
   rfl
 ·unfold m_spec_l08Facts_L0 at hm
  refine Qk ?_
  refine Qk ?_
  refine Qf ?_
  refine Qb rfl rfl rfl rfl (Qi rfl) ?_
  refine Qb rfl rfl rfl rfl (Qi rfl) ?_
  refine Qb rfl rfl rfl rfl (Q8 Try.underlying66 rfl (List.length_map _)) ?_
  refine Xg (fun _ _ _ hr => RelP.slLen (i := 5) rfl hr) (fun hlen6 => ?_)
  rw [List.length_map] at hlen6
  refine Qb rfl rfl rfl rfl (Xd rfl rfl) ?_
  refine Qe ?_
  refine QF rfl (fun hq => ?_) (fun hq => ?_)
  ·replace hm := QT hq hm
   refine QG ?_
   refine Qk ?_
   refine QV ?_
   refine Qk ?_
   refine Qf ?_
   refine Qb rfl rfl rfl rfl (Qi rfl) ?_
   refine Qb rfl rfl rfl rfl (Qi rfl) ?_
   obtain ⟨x12, hx12, hm⟩ := Qw hm
   refine Qb rfl rfl rfl rfl (QU el66 rfl rfl hx12 rfl) ?_
   obtain ⟨r13, hr13, hm⟩ := Qw hm
   refine QA (ACall.F (F := F) (c_spec_l02Is x12 r13 hr13)) Try.call177 rfl rfl rfl rfl rfl ?_
   refine Qb rfl rfl rfl rfl (op_not rfl) ?_
   refine Qb rfl rfl rfl rfl (Qi rfl) ?_
   refine TL_split 15 rfl rfl rfl (fun hq => ?_) (fun hq => ?_)
   ·replace hm := QT hq hm
    refine Qq rfl rfl rfl rfl rfl rfl rfl ?_
    refine Qq rfl rfl rfl rfl rfl rfl rfl ?_
    refine Qq rfl rfl rfl rfl rfl rfl rfl ?_
    refine Qq rfl rfl rfl rfl rfl rfl rfl ?_
    refine Qq rfl rfl rfl rfl rfl rfl rfl ?_
    refine Qq rfl rfl rfl rfl rfl rfl rfl ?_
    refine Qq rfl rfl rfl rfl rfl rfl rfl ?_
    refine Qb rfl rfl rfl rfl (QC rfl rfl) ?_
    refine Qe ?_
    refine T_cond_true rfl ?_
    refine Qk ?_
    refine Qf ?_
    refine Qb rfl rfl rfl rfl (Qh rfl) ?_
    refine Qe ?_
    refine Qm [2] [] rfl rfl rfl rfl (by rw [hF]; rfl) ?_
    refine QH ?_
    obtain rfl := Qr hm
    have hn := QI hc0
    exact hx0 (.inr false) hn
   ·replace hm := QS hq hm
    refine Qx rfl rfl ?_
    refine Qb rfl rfl rfl rfl (Qi rfl) ?_
    refine Qx rfl rfl ?_
    refine Qb rfl rfl rfl rfl (Qi rfl) ?_
    refine Qx rfl rfl ?_
    refine Qb rfl rfl rfl rfl (QU el66 rfl rfl hx12 rfl) ?_
    refine Qx rfl rfl ?_
    refine Qb rfl rfl rfl rfl (Qj fa184_1 rfl rfl) ?_
    refine Qx rfl rfl ?_
    refine Qb rfl rfl rfl rfl (Qg ag26 rfl rfl) ?_
    refine Qx rfl rfl ?_
    refine Qb rfl rfl rfl rfl (Q8 Try.underlying26 rfl (List.length_map _)) ?_
    refine Xg (fun _ _ _ hr => RelP.slLen (i := 20) rfl hr) (fun hlen21 => ?_)
    rw [List.length_map] at hlen21
    refine Qx rfl rfl ?_
    refine Qb rfl rfl rfl rfl (op_gtr rfl rfl) ?_
    refine Qb rfl rfl rfl rfl (QB rfl rfl) ?_
    refine Qe ?_
    refine QF rfl (fun hq => ?_) (fun hq => ?_)
    ·replace hm := QT hq hm
     refine Qk ?_
     refine Qf ?_
     refine Qb rfl rfl rfl rfl (Qh rfl) ?_
     refine Qe ?_
     refine Qm [2] [] rfl rfl rfl rfl (by rw [hF]; rfl) ?_
     refine QH ?_
     obtain rfl := Qr hm
     have hn := QI hc0
     exact hx0 (.inr false) hn
    ·replace hm := QS hq hm
     refine QG ?_
     refine Qf ?_
     refine Qb rfl rfl rfl rfl (Qi rfl) ?_
     refine Qb rfl rfl rfl rfl (Xh rfl rfl) ?_
     refine Qb rfl rfl rfl rfl (Qh rfl) ?_
     refine Qe ?_
     refine Q5 [0, 3] [] rfl rfl rfl rfl (by rw [hF]; rfl) ?_
     obtain rfl := Qr hm
     have hn := QM hc0
     exact hn _ rfl
  ·replace hm := QS hq hm
   refine Qm [0] [] rfl rfl rfl rfl (by rw [hF]; rfl) ?_
   refine T_exit ?_
   obtain rfl := Qr hm
   have hn := QI hc0
   exact hx0 (.inl ()) hn
theorem c_spec_l08Is (p0 : Annotated) (out : Bool) (hm : m_spec_l08Is p0 = some out) : ACall Try.prog 85 [.cp [.sl 2 (List.map Qa p0.Pre), .sl 2 (List.map Qa p0.Post), .sl 2 (List.map Qd p0.Code), .sl 2 (List.map Qc p0.Points)]] [] (.bool out) [] := by
 refine ACall.intro Try.func85 rfl Try.ntmps85 rfl (fun F hF => ?_)
 unfold m_spec_l08Is at hm
 refine Qk ?_
 refine Qf ?_
 refine Qb rfl rfl rfl rfl (Qh rfl) ?_
 refine Qe ?_
 refine Qk ?_
 refine Qk ?_
 refine Qf ?_
 refine Qb rfl rfl rfl rfl (Qi rfl) ?_
 refine Qb rfl rfl rfl rfl (Xe rfl rfl) ?_
 refine Qb rfl rfl rfl rfl (QY (n := 1) fa69_2 rfl rfl rfl) ?_
 refine Qb rfl rfl rfl rfl (Qg ag24 rfl rfl) ?_
 obtain ⟨r9, hr9, hm⟩ := Qw hm
 refine QA (ACall.F (F := F) (c_spec_l07Is p0.Code r9 hr9)) Try.call74 rfl rfl rfl rfl rfl ?_
 refine Qb rfl rfl rfl rfl (op_not rfl) ?_
 refine Qb rfl rfl rfl rfl (Qi rfl) ?_
 refine TL_split 11 rfl rfl rfl (fun hq => ?_) (fun hq => ?_)
 ·replace hm := QT hq hm
  refine Qq rfl rfl rfl rfl rfl rfl rfl ?_
  refine Qq rfl rfl rfl rfl rfl rfl rfl ?_
  refine Qq rfl rfl rfl rfl rfl rfl rfl ?_
  refine Qq rfl rfl rfl rfl rfl rfl rfl ?_
  refine Qq rfl rfl rfl rfl rfl rfl rfl ?_
  refine Qq rfl rfl rfl rfl rfl rfl rfl ?_
  refine Qb rfl rfl rfl rfl (QC rfl rfl) ?_
  refine Qb rfl rfl rfl rfl (Qi rfl) ?_
  refine Qq rfl rfl rfl rfl rfl rfl rfl ?_
  refine Qq rfl rfl rfl rfl rfl rfl rfl ?_
  refine Qq rfl rfl rfl rfl rfl rfl rfl ?_
  refine Qq rfl rfl rfl rfl rfl rfl rfl ?_
  refine Qq rfl rfl rfl rfl rfl rfl rfl ?_
  refine Qq rfl rfl rfl rfl rfl rfl rfl ?_
  refine Qb rfl rfl rfl rfl (QC rfl rfl) ?_
  refine Qb rfl rfl rfl rfl (Qi rfl) ?_
  refine Qq rfl rfl rfl rfl rfl rfl rfl ?_
  refine Qq rfl rfl rfl rfl rfl rfl rfl ?_
  refine Qq rfl rfl rfl rfl rfl rfl rfl ?_
  refine Qq rfl rfl rfl rfl rfl rfl rfl ?_
  refine Qq rfl rfl rfl rfl rfl rfl rfl ?_
  refine Qq rfl rfl rfl rfl rfl rfl rfl ?_
  refine Qb rfl rfl rfl rfl (QC rfl rfl) ?_
  refine Qe ?_
  refine T_cond_true rfl ?_
  refine Qk ?_
  refine Qf ?_
  refine Qb rfl rfl rfl rfl (Qh rfl) ?_
  refine Qe ?_
  refine Qm [2] [] rfl rfl rfl rfl (by rw [hF]; rfl) ?_
  refine QH ?_
  obtain rfl := Qr hm
  refine ⟨[_], [], ⟨rfl, trivial⟩, ?_, rfl, rfl, rfl, rfl⟩
  rfl
 ·replace hm := QS hq hm
  refine Qx rfl rfl ?_
  refine Qb rfl rfl rfl rfl (Qi rfl) ?_
  refine Qx rfl rfl ?_
  refine Qb rfl rfl rfl rfl (Xe rfl rfl) ?_
  refine Qx rfl rfl ?_
  refine Qb rfl rfl rfl rfl (QY (n := 1) fa69_0 rfl rfl rfl) ?_
  refine Qx rfl rfl ?_
  refine Qb rfl rfl rfl rfl (Qg ag66 rfl rfl) ?_
  refine Qx rfl rfl ?_
  obtain ⟨r16, hr16, hm⟩ := Qw hm
  refine QA (ACall.F (F := F) (c_spec_l08Facts p0.Pre r16 hr16)) Try.call144 rfl rfl rfl rfl rfl ?_
  refine Qx rfl rfl ?_
  refine Qb rfl rfl rfl rfl (op_not rfl) ?_
  refine Qb rfl rfl rfl rfl (QB rfl rfl) ?_
  refine Qb rfl rfl rfl rfl (Qi rfl) ?_
  refine TL_split 19 rfl rfl rfl (fun hq => ?_) (fun hq => ?_)
  ·replace hm := QT hq hm
   refine Qq rfl rfl rfl rfl rfl rfl rfl ?_
   refine Qq rfl rfl rfl rfl rfl rfl rfl ?_
   refine Qq rfl rfl rfl rfl rfl rfl rfl ?_
   refine Qq rfl rfl rfl rfl rfl rfl rfl ?_
   refine Qq rfl rfl rfl rfl rfl rfl rfl ?_
   refine Qq rfl rfl rfl rfl rfl rfl rfl ?_
   refine Qb rfl rfl rfl rfl (QC rfl rfl) ?_
   refine Qb rfl rfl rfl rfl (Qi rfl) ?_
   refine Qq rfl rfl rfl rfl rfl rfl rfl ?_
   refine Qq rfl rfl rfl rfl rfl rfl rfl ?_
   refine Qq rfl rfl rfl rfl rfl rfl rfl ?_
   refine Qq rfl rfl rfl rfl rfl rfl rfl ?_
   refine Qq rfl rfl rfl rfl rfl rfl rfl ?_
   refine Qq rfl rfl rfl rfl rfl rfl rfl ?_
   refine Qb rfl rfl rfl rfl (QC rfl rfl) ?_
   refine Qe ?_
   refine T_cond_true rfl ?_
   refine Qk ?_
   refine Qf ?_
   refine Qb rfl rfl rfl rfl (Qh rfl) ?_
   refine Qe ?_
   refine Qm [2] [] rfl rfl rfl rfl (by rw [hF]; rfl) ?_
   refine QH ?_
   obtain rfl := Qr hm
   refine ⟨[_], [], ⟨rfl, trivial⟩, ?_, rfl, rfl, rfl, rfl⟩
   rfl
  ·replace hm := QS hq hm
   refine Qx rfl rfl ?_
   refine Qb rfl rfl rfl rfl (Qi rfl) ?_
   refine Qx rfl rfl ?_
   refine Qb rfl rfl rfl rfl (Xe rfl rfl) ?_
   refine Qx rfl rfl ?_
   refine Qb rfl rfl rfl rfl (QY (n := 1) fa69_1 rfl rfl rfl) ?_
   refine Qx rfl rfl ?_
   refine Qb rfl rfl rfl rfl (Qg ag66 rfl rfl) ?_
   refine Qx rfl rfl ?_
   obtain ⟨r24, hr24, hm⟩ := Qw hm
   refine QA (ACall.F (F := F) (c_spec_l08Facts p0.Post r24 hr24)) Try.call144 rfl rfl rfl rfl rfl ?_
   refine Qx rfl rfl ?_
   refine Qb rfl rfl rfl rfl (op_not rfl) ?_
   refine Qb rfl rfl rfl rfl (QB rfl rfl) ?_
   refine Qb rfl rfl rfl rfl (Qi rfl) ?_
   refine TL_join 7 (fun _ : Unit => ⟨[(0, .cp [.sl 2 (List.map Qa p0.Pre), .sl 2 (List.map Qa p0.Post), .sl 2 (List.map Qd p0.Code), .sl 2 (List.map Qc p0.Points)]), (34, .bool ((!r24) || (decide ((8 : Int) < (p0.Points.length : Int)))))], []⟩) (fun _ => True) (fun _ _ => ?_) (fun hjj => ?_)
   ·refine Qe ?_
    refine QF rfl (fun hq => ?_) (fun hq => ?_)
    ·replace hm := QT hq hm
     refine Qk ?_
     refine Qf ?_
     refine Qb rfl rfl rfl rfl (Qh rfl) ?_
     refine Qe ?_
     refine Qm [2] [] rfl rfl rfl rfl (by rw [hF]; rfl) ?_
     refine QH ?_
     obtain rfl := Qr hm
     refine ⟨[_], [], ⟨rfl, trivial⟩, ?_, rfl, rfl, rfl, rfl⟩
     rfl
    ·replace hm := QS hq hm
     refine QG ?_
     refine Qk ?_
     refine Qk ?_
     refine Qf ?_
     refine Qb rfl rfl rfl rfl (Qh rfl) ?_
     refine Qe ?_
     refine QV ?_
     refine Qm [0, 3] [] rfl rfl rfl rfl (by rw [hF]; rfl) ?_
     refine T_loop ?_
     obtain ⟨u0, hl0, hm⟩ := Qw hm
     refine TR_iter2 (m_spec_l08Is_L0 p0) (fun (s0 : Int) => ⟨[(0, .cp [.sl 2 (List.map Qa p0.Pre), .sl 2 (List.map Qa p0.Post), .sl 2 (List.map Qd p0.Code), .sl 2 (List.map Qc p0.Points)]), (3, .int .i64 s0)], []⟩) (fun u0 => match u0 with | .inl u0 => .exit 0 | .inr u0 => .ret) (fun u0 => match u0 with | .inl u0 => ⟨[], []⟩ | .inr u0 => ⟨[(2, .bool u0)], []⟩) (fun u0 => m_spec_l08Is_A0 u0 = some out) hl0 hm (fun u0 hm => ?_) (fun hx0 s0 c0 hm hc0 => ?_)
     ·rcases u0 with u0 | u0
      ·unfold m_spec_l08Is_A0 at hm
       refine Qk ?_
       refine Qf ?_
       refine Qb rfl rfl rfl rfl (Qh rfl) ?_
       refine Qe ?_
       refine Qm [2] [] rfl rfl rfl rfl (by rw [hF]; rfl) ?_
       refine QH ?_
       obtain rfl := Qr hm
       refine ⟨[_], [], ⟨rfl, trivial⟩, ?_, rfl, rfl, rfl, rfl⟩
       rfl
      ·unfold m_spec_l08Is_A0 at hm
       obtain rfl := Qr hm
       refine ⟨[_], [], ⟨rfl, trivial⟩, ?_, rfl, rfl, rfl, rfl⟩
       rfl
     ·unfold m_spec_l08Is_L0 at hm
      refine Qk ?_
      refine Qk ?_
      refine Qf ?_
      refine Qb rfl rfl rfl rfl (Qi rfl) ?_
      refine Qb rfl rfl rfl rfl (Qi rfl) ?_
      refine Qb rfl rfl rfl rfl (Xe rfl rfl) ?_
      refine Qb rfl rfl rfl rfl (Qj fa69_3 rfl rfl) ?_
      refine Qb rfl rfl rfl rfl (Qg ag67 rfl rfl) ?_
      refine Qb rfl rfl rfl rfl (Q8 Try.underlying67 rfl (List.length_map _)) ?_
      refine Xg (fun _ _ _ hr => RelP.slLen (i := 39) rfl hr) (fun hlen40 => ?_)
      rw [List.length_map] at hlen40
      refine Qb rfl rfl rfl rfl (Xd rfl rfl) ?_
      refine Qe ?_
      refine QF rfl (fun hq => ?_) (fun hq => ?_)
      ·replace hm := QT hq hm
       refine QG ?_
       refine Qk ?_
       refine QV ?_
       refine Qk ?_
       refine Qf ?_
       refine Qb rfl rfl rfl rfl (Qi rfl) ?_
       refine Qb rfl rfl rfl rfl (Xe rfl rfl) ?_
       refine Qb rfl rfl rfl rfl (Qj fa69_3 rfl rfl) ?_
       refine Qb rfl rfl rfl rfl (Qg ag67 rfl rfl) ?_
       refine Qb rfl rfl rfl rfl (Qi rfl) ?_
       obtain ⟨x49, hx49, hm⟩ := Qw hm
       refine Qb rfl rfl rfl rfl (QU el67 rfl rfl hx49 rfl) ?_
       refine Qb rfl rfl rfl rfl (Qh rfl) ?_
       refine Qe ?_
       refine Qk ?_
       refine T_drawZ [] mix (by kernel_rfl) rfl ?_
       obtain ⟨r60, hr60, hm⟩ := Qw hm
       refine Qn 0 (by kernel_rfl) rfl rfl rfl rfl rfl (Qi rfl) ?_
       refine Qn 1 (by kernel_rfl) rfl rfl rfl rfl rfl (Xe rfl rfl) ?_
       refine Qn 2 (by kernel_rfl) rfl rfl rfl rfl rfl (QY (n := 1) fa81_0 rfl rfl rfl) ?_
       refine Qn 3 (by kernel_rfl) rfl rfl rfl rfl rfl (Qg ag2 rfl rfl) ?_
       refine Qn 4 (by kernel_rfl) rfl rfl rfl rfl rfl (Qi rfl) ?_
       refine Qn 5 (by kernel_rfl) rfl rfl rfl rfl rfl (Xe rfl rfl) ?_
       refine Qn 6 (by kernel_rfl) rfl rfl rfl rfl rfl (QY (n := 1) fa69_2 rfl rfl rfl) ?_
       refine Qn 7 (by kernel_rfl) rfl rfl rfl rfl rfl (Qg ag24 rfl rfl) ?_
       refine Qn 8 (by kernel_rfl) rfl rfl rfl rfl rfl (Q8 Try.underlying24 rfl (List.length_map _)) ?_
       refine TZ_fact (fun _ _ _ hr => RelP.slLen (i := 57) rfl hr) (fun hlen58 => ?_)
       rw [List.length_map] at hlen58
       refine Qn 9 (by kernel_rfl) rfl rfl rfl rfl rfl (op_subW rfl rfl) ?_
       refine Qs 10 (by kernel_rfl) rfl ?_
       refine QA (ACall.F (F := F) (c_spec_l00In x49.At (0 : Int) (w64 ((p0.Code.length : Int) - (1 : Int))) r60 hr60)) Try.call108 rfl rfl rfl rfl rfl ?_
       refine Qe ?_
       refine Qn 11 (by kernel_rfl) rfl rfl rfl rfl rfl (op_not rfl) ?_
       refine Qn 12 (by kernel_rfl) rfl rfl rfl rfl rfl (Qi rfl) ?_
       refine TZ_split 62 rfl rfl rfl (fun hq => ?_) (fun hq => ?_)
       ·replace hm := QT hq hm
        refine QR 13 (by kernel_rfl) rfl rfl rfl rfl rfl rfl rfl rfl ?_
        refine QR 14 (by kernel_rfl) rfl rfl rfl rfl rfl rfl rfl rfl ?_
        refine QR 15 (by kernel_rfl) rfl rfl rfl rfl rfl rfl rfl rfl ?_
        refine QR 16 (by kernel_rfl) rfl rfl rfl rfl rfl rfl rfl rfl ?_
        refine Qs 17 (by kernel_rfl) rfl ?_
        refine Qq rfl rfl rfl rfl rfl rfl rfl ?_
        refine Qe ?_
        refine QR 18 (by kernel_rfl) rfl rfl rfl rfl rfl rfl rfl rfl ?_
        refine Qn 19 (by kernel_rfl) rfl rfl rfl rfl rfl (QC rfl rfl) ?_
        refine Qn 20 (by kernel_rfl) rfl rfl rfl rfl rfl (Qi rfl) ?_
        refine QR 21 (by kernel_rfl) rfl rfl rfl rfl rfl rfl rfl rfl ?_
        refine QR 22 (by kernel_rfl) rfl rfl rfl rfl rfl rfl rfl rfl ?_
        refine QR 23 (by kernel_rfl) rfl rfl rfl rfl rfl rfl rfl rfl ?_
        refine Q1 24 (by kernel_rfl) rfl rfl rfl rfl rfl rfl rfl ?_
        refine Q1 25 (by kernel_rfl) rfl rfl rfl rfl rfl rfl rfl ?_
        refine Q1 26 (by kernel_rfl) rfl rfl rfl rfl rfl rfl rfl ?_
        refine Q1 27 (by kernel_rfl) rfl rfl rfl rfl rfl rfl rfl ?_
        refine Q1 28 (by kernel_rfl) rfl rfl rfl rfl rfl rfl rfl ?_
        refine Q1 29 (by kernel_rfl) rfl rfl rfl rfl rfl rfl rfl ?_
        refine Q1 30 (by kernel_rfl) rfl rfl rfl rfl rfl rfl rfl ?_
        refine Q1 31 (by kernel_rfl) rfl rfl rfl rfl rfl rfl rfl ?_
        refine Q1 32 (by kernel_rfl) rfl rfl rfl rfl rfl rfl rfl ?_
        refine Q1 33 (by kernel_rfl) rfl rfl rfl rfl rfl rfl rfl ?_
        refine Q1 34 (by kernel_rfl) rfl rfl rfl rfl rfl rfl rfl ?_
        refine Q1 35 (by kernel_rfl) rfl rfl rfl rfl rfl rfl rfl ?_
        refine Q1 36 (by kernel_rfl) rfl rfl rfl rfl rfl rfl rfl ?_
        refine Q1 37 (by kernel_rfl) rfl rfl rfl rfl rfl rfl rfl ?_
        refine QR 38 (by kernel_rfl) rfl rfl rfl rfl rfl rfl rfl rfl ?_
        refine Qn 39 (by kernel_rfl) rfl rfl rfl rfl rfl (QC rfl rfl) ?_
        refine QX (by kernel_rfl) ?_
        refine T_cond_true rfl ?_
        refine Qk ?_
        refine Qf ?_
        refine Qb rfl rfl rfl rfl (Qh rfl) ?_
        refine Qe ?_
        refine Qm [2] [] rfl rfl rfl rfl (by rw [hF]; rfl) ?_
        refine QH ?_
        obtain rfl := Qr hm
        have hn := QI hc0
        exact hx0 (.inr false) hn
       ·replace hm := QS hq hm
        obtain ⟨r67, hr67, hm⟩ := Qw hm
        refine QK 13 (by kernel_rfl) rfl rfl rfl rfl rfl rfl rfl (Qi rfl) ?_
        refine QK 14 (by kernel_rfl) rfl rfl rfl rfl rfl rfl rfl (Xe rfl rfl) ?_
        refine QK 15 (by kernel_rfl) rfl rfl rfl rfl rfl rfl rfl (Qj fa81_1 rfl rfl) ?_
        refine QK 16 (by kernel_rfl) rfl rfl rfl rfl rfl rfl rfl (Qg ag66 rfl rfl) ?_
        refine Qs 17 (by kernel_rfl) rfl ?_
        refine Qx rfl rfl ?_
        refine QA (ACall.F (F := F) (c_spec_l08Facts x49.Facts r67 hr67)) Try.call144 rfl rfl rfl rfl rfl ?_
        refine Qe ?_
        refine QK 18 (by kernel_rfl) rfl rfl rfl rfl rfl rfl rfl (op_not rfl) ?_
        refine Qn 19 (by kernel_rfl) rfl rfl rfl rfl rfl (QB rfl rfl) ?_
        refine Qn 20 (by kernel_rfl) rfl rfl rfl rfl rfl (Qi rfl) ?_
        refine TZ_split 70 rfl rfl rfl (fun hq => ?_) (fun hq => ?_)
        ·replace hm := QT hq hm
         refine QR 21 (by kernel_rfl) rfl rfl rfl rfl rfl rfl rfl rfl ?_
         refine QR 22 (by kernel_rfl) rfl rfl rfl rfl rfl rfl rfl rfl ?_
         refine QR 23 (by kernel_rfl) rfl rfl rfl rfl rfl rfl rfl rfl ?_
         refine Q1 24 (by kernel_rfl) rfl rfl rfl rfl rfl rfl rfl ?_
         refine Q1 25 (by kernel_rfl) rfl rfl rfl rfl rfl rfl rfl ?_
         refine Q1 26 (by kernel_rfl) rfl rfl rfl rfl rfl rfl rfl ?_
         refine Q1 27 (by kernel_rfl) rfl rfl rfl rfl rfl rfl rfl ?_
         refine Q1 28 (by kernel_rfl) rfl rfl rfl rfl rfl rfl rfl ?_
         refine Q1 29 (by kernel_rfl) rfl rfl rfl rfl rfl rfl rfl ?_
         refine Q1 30 (by kernel_rfl) rfl rfl rfl rfl rfl rfl rfl ?_
         refine Q1 31 (by kernel_rfl) rfl rfl rfl rfl rfl rfl rfl ?_
         refine Q1 32 (by kernel_rfl) rfl rfl rfl rfl rfl rfl rfl ?_
         refine Q1 33 (by kernel_rfl) rfl rfl rfl rfl rfl rfl rfl ?_
         refine Q1 34 (by kernel_rfl) rfl rfl rfl rfl rfl rfl rfl ?_
         refine Q1 35 (by kernel_rfl) rfl rfl rfl rfl rfl rfl rfl ?_
         refine Q1 36 (by kernel_rfl) rfl rfl rfl rfl rfl rfl rfl ?_
         refine Q1 37 (by kernel_rfl) rfl rfl rfl rfl rfl rfl rfl ?_
         refine QR 38 (by kernel_rfl) rfl rfl rfl rfl rfl rfl rfl rfl ?_
         refine Qn 39 (by kernel_rfl) rfl rfl rfl rfl rfl (QC rfl rfl) ?_
         refine QX (by kernel_rfl) ?_
         refine T_cond_true rfl ?_
         refine Qk ?_
         refine Qf ?_
         refine Qb rfl rfl rfl rfl (Qh rfl) ?_
         refine Qe ?_
         refine Qm [2] [] rfl rfl rfl rfl (by rw [hF]; rfl) ?_
         refine QH ?_
         obtain rfl := Qr hm
         have hn := QI hc0
         exact hx0 (.inr false) hn
        ·replace hm := QS hq hm
         refine QK 21 (by kernel_rfl) rfl rfl rfl rfl rfl rfl rfl (Qi rfl) ?_
         refine QK 22 (by kernel_rfl) rfl rfl rfl rfl rfl rfl rfl (op_gtr rfl rfl) ?_
         refine QK 23 (by kernel_rfl) rfl rfl rfl rfl rfl rfl rfl (Qi rfl) ?_
         refine TZ_split 73 rfl rfl rfl (fun hq => ?_) (fun hq => ?_)
         ·replace hm := QT hq hm
          obtain ⟨x80, hx80, hm⟩ := Qw hm
          refine QK 24 (by kernel_rfl) rfl rfl rfl rfl rfl rfl rfl (Qi rfl) ?_
          refine QK 25 (by kernel_rfl) rfl rfl rfl rfl rfl rfl rfl (Xe rfl rfl) ?_
          refine QK 26 (by kernel_rfl) rfl rfl rfl rfl rfl rfl rfl (Qj fa69_3 rfl rfl) ?_
          refine QK 27 (by kernel_rfl) rfl rfl rfl rfl rfl rfl rfl (Qg ag67 rfl rfl) ?_
          refine QK 28 (by kernel_rfl) rfl rfl rfl rfl rfl rfl rfl (Qi rfl) ?_
          refine QK 29 (by kernel_rfl) rfl rfl rfl rfl rfl rfl rfl (op_subW rfl rfl) ?_
          refine QK 30 (by kernel_rfl) rfl rfl rfl rfl rfl rfl rfl (QU el67 rfl rfl hx80 rfl) ?_
          refine QK 31 (by kernel_rfl) rfl rfl rfl rfl rfl rfl rfl (QY (n := 1) fa81_0 rfl rfl rfl) ?_
          refine QK 32 (by kernel_rfl) rfl rfl rfl rfl rfl rfl rfl (Qg ag2 rfl rfl) ?_
          refine QK 33 (by kernel_rfl) rfl rfl rfl rfl rfl rfl rfl (Qi rfl) ?_
          refine QK 34 (by kernel_rfl) rfl rfl rfl rfl rfl rfl rfl (Xe rfl rfl) ?_
          refine QK 35 (by kernel_rfl) rfl rfl rfl rfl rfl rfl rfl (QY (n := 1) fa81_0 rfl rfl rfl) ?_
          refine QK 36 (by kernel_rfl) rfl rfl rfl rfl rfl rfl rfl (Qg ag2 rfl rfl) ?_
          refine QK 37 (by kernel_rfl) rfl rfl rfl rfl rfl rfl rfl (op_geq rfl rfl) ?_
          refine QK 38 (by kernel_rfl) rfl rfl rfl rfl rfl rfl rfl (QC rfl rfl) ?_
          refine Qn 39 (by kernel_rfl) rfl rfl rfl rfl rfl (QB rfl rfl) ?_
          refine QX (by kernel_rfl) ?_
          refine QF rfl (fun hq => ?_) (fun hq => ?_)
          ·replace hm := QT hq hm
           refine Qk ?_
           refine Qf ?_
           refine Qb rfl rfl rfl rfl (Qh rfl) ?_
           refine Qe ?_
           refine Qm [2] [] rfl rfl rfl rfl (by rw [hF]; rfl) ?_
           refine QH ?_
           obtain rfl := Qr hm
           have hn := QI hc0
           exact hx0 (.inr false) hn
          ·replace hm := QS hq hm
           refine QG ?_
           refine Qf ?_
           refine Qb rfl rfl rfl rfl (Qi rfl) ?_
           refine Qb rfl rfl rfl rfl (Xh rfl rfl) ?_
           refine Qb rfl rfl rfl rfl (Qh rfl) ?_
           refine Qe ?_
           refine Q5 [0, 3] [] rfl rfl rfl rfl (by rw [hF]; rfl) ?_
           obtain rfl := Qr hm
           have hn := QM hc0
           exact hn _ rfl
         ·replace hm := QS hq hm
          refine QR 24 (by kernel_rfl) rfl rfl rfl rfl rfl rfl rfl rfl ?_
          refine QR 25 (by kernel_rfl) rfl rfl rfl rfl rfl rfl rfl rfl ?_
          refine QR 26 (by kernel_rfl) rfl rfl rfl rfl rfl rfl rfl rfl ?_
          refine QR 27 (by kernel_rfl) rfl rfl rfl rfl rfl rfl rfl rfl ?_
          refine QR 28 (by kernel_rfl) rfl rfl rfl rfl rfl rfl rfl rfl ?_
          refine QR 29 (by kernel_rfl) rfl rfl rfl rfl rfl rfl rfl rfl ?_
          refine QR 30 (by kernel_rfl) rfl rfl rfl rfl rfl rfl rfl rfl ?_
          refine QR 31 (by kernel_rfl) rfl rfl rfl rfl rfl rfl rfl rfl ?_
          refine QR 32 (by kernel_rfl) rfl rfl rfl rfl rfl rfl rfl rfl ?_
          refine QR 33 (by kernel_rfl) rfl rfl rfl rfl rfl rfl rfl rfl ?_
          refine QR 34 (by kernel_rfl) rfl rfl rfl rfl rfl rfl rfl rfl ?_
          refine QR 35 (by kernel_rfl) rfl rfl rfl rfl rfl rfl rfl rfl ?_
          refine QR 36 (by kernel_rfl) rfl rfl rfl rfl rfl rfl rfl rfl ?_
          refine QR 37 (by kernel_rfl) rfl rfl rfl rfl rfl rfl rfl rfl ?_
          refine QK 38 (by kernel_rfl) rfl rfl rfl rfl rfl rfl rfl (QB rfl rfl) ?_
          refine Qn 39 (by kernel_rfl) rfl rfl rfl rfl rfl (QB rfl rfl) ?_
          refine QX (by kernel_rfl) ?_
          refine T_cond_false rfl ?_
          refine QG ?_
          refine Qf ?_
          refine Qb rfl rfl rfl rfl (Qi rfl) ?_
          refine Qb rfl rfl rfl rfl (Xh rfl rfl) ?_
          refine Qb rfl rfl rfl rfl (Qh rfl) ?_
          refine Qe ?_
          refine Q5 [0, 3] [] rfl rfl rfl rfl (by rw [hF]; rfl) ?_
          obtain rfl := Qr hm
          have hn := QM hc0
          exact hn _ rfl
      ·replace hm := QS hq hm
       refine Qm [] [] rfl rfl rfl rfl (by rw [hF]; rfl) ?_
       refine T_exit ?_
       obtain rfl := Qr hm
       have hn := QI hc0
       exact hx0 (.inl ()) hn
   ·refine TL_split 27 rfl rfl rfl (fun hq => ?_) (fun hq => ?_)
    ·refine Qq rfl rfl rfl rfl rfl rfl rfl ?_
     refine Qq rfl rfl rfl rfl rfl rfl rfl ?_
     refine Qq rfl rfl rfl rfl rfl rfl rfl ?_
     refine Qq rfl rfl rfl rfl rfl rfl rfl ?_
     refine Qq rfl rfl rfl rfl rfl rfl rfl ?_
     refine Qq rfl rfl rfl rfl rfl rfl rfl ?_
     refine Qb rfl rfl rfl rfl (QC rfl rfl) ?_
     refine TL_keepH [0, 34] [] rfl rfl rfl rfl (by rw [hF]; rfl) ?_
     exact TL_cast _ (by first | (rw [hq, Bool.true_or]; done) | (rw [hq]; rfl)) (hjj () trivial)
    ·refine Qx rfl rfl ?_
     refine Qb rfl rfl rfl rfl (Qi rfl) ?_
     refine Qx rfl rfl ?_
     refine Qb rfl rfl rfl rfl (Xe rfl rfl) ?_
     refine Qx rfl rfl ?_
     refine Qb rfl rfl rfl rfl (Qj fa69_3 rfl rfl) ?_
     refine Qx rfl rfl ?_
     refine Qb rfl rfl rfl rfl (Qg ag67 rfl rfl) ?_
     refine Qx rfl rfl ?_
     refine Qb rfl rfl rfl rfl (Q8 Try.underlying67 rfl (List.length_map _)) ?_
     refine Xg (fun _ _ _ hr => RelP.slLen (i := 31) rfl hr) (fun hlen32 => ?_)
     rw [List.length_map] at hlen32
     refine Qx rfl rfl ?_
     refine Qb rfl rfl rfl rfl (op_gtr rfl rfl) ?_
     refine Qb rfl rfl rfl rfl (QB rfl rfl) ?_
     refine TL_keepH [0, 34] [] rfl rfl rfl rfl (by rw [hF]; rfl) ?_
     exact TL_cast _ (by first | (rw [hq, Bool.false_or]; done) | (rw [hq]; rfl)) (hjj () trivial)
theorem c_spec_l00Own (p0 : List Int) (out : List Int) (hm : m_spec_l00Own p0 = some out) : ACall Try.prog 137 [.sl 1 (List.map a_i64 p0)] [] (.ow 1000) [(1000, .arr ⟨false, true⟩ 1 2 (List.map a_i64 out))] := by
 refine ACall.intro Try.func137 rfl Try.ntmps137 rfl (fun F hF => ?_)
 unfold m_spec_l00Own at hm
 refine Qk ?_
 refine Qf ?_
 refine Qb rfl rfl rfl rfl (Qh rfl) ?_
 refine Qe ?_
 refine Qk ?_
 refine Qf ?_
 refine QE 11 (es := List.map a_i64 ([] : List Int)) el26 z2 rfl rfl rfl rfl rfl rfl rfl rfl rfl ?_
 refine Qb rfl rfl rfl rfl (Qi rfl) ?_
 obtain ⟨q5, hq5, hm⟩ := Qw hm
 refine Xn (f := a_i64) (a := ([] : List Int)) (b := p0) el26 z2 rfl rfl rfl rfl rfl rfl rfl (Q9 hq5) rfl rfl rfl rfl rfl ?_
 refine Qb rfl rfl rfl rfl (Qh rfl) ?_
 refine Qe ?_
 refine Qm [2] [11] rfl rfl rfl rfl (by rw [hF]; rfl) ?_
 refine T_deepen 11 (p' := false) (List.map a_i64 (([] : List Int) ++ p0)) (by rw [hF]; rfl) rfl (ElR.map (f := a_i64) (g := a_i64) (fun _ => ⟨⟨rfl, rfl⟩, trivial⟩) (([] : List Int) ++ p0)) rfl rfl rfl ?_
 refine T_ren [(11, 1000)] rfl rfl rfl (by rw [hF]; rfl) ?_
 refine QH ?_
 obtain rfl := Qr hm
 refine ⟨[_], [1000], ⟨rfl, trivial⟩, ?_, rfl, rfl, rfl, rfl⟩
 rfl
theorem c_spec_l02Own (p0 : Term) (out : Term) (hm : m_spec_l02Own p0 = some out) : ACall Try.prog 156 [.cp [.int .i64 p0.Const, .sl 1 (List.map a_i64 p0.Coeffs)]] [] (.agg [.int .i64 out.Const, .ow 1000]) [(1000, .arr ⟨false, true⟩ 1 2 (List.map a_i64 out.Coeffs))] := by
 refine ACall.intro Try.func156 rfl Try.ntmps156 rfl (fun F hF => ?_)
 unfold m_spec_l02Own at hm
 refine Qk ?_
 refine Qf ?_
 refine QJ 11 z184 rfl rfl rfl rfl rfl rfl rfl ?_
 refine Qe ?_
 refine Qk ?_
 refine T_drawZ [10] mix (by kernel_rfl) rfl ?_
 obtain ⟨r11, hr11, hm⟩ := Qw hm
 refine Qn 0 (by kernel_rfl) rfl rfl rfl rfl rfl (Qi rfl) ?_
 refine Qn 1 (by kernel_rfl) rfl rfl rfl rfl rfl (Xe rfl rfl) ?_
 refine Qn 2 (by kernel_rfl) rfl rfl rfl rfl rfl (QY (n := 1) fa184_0 rfl rfl rfl) ?_
 refine Qn 3 (by kernel_rfl) rfl rfl rfl rfl rfl (Qg ag2 rfl rfl) ?_
 refine Qn 4 (by kernel_rfl) rfl rfl rfl rfl rfl (Qi rfl) ?_
 refine Qn 5 (by kernel_rfl) rfl rfl rfl rfl rfl (Xe rfl rfl) ?_
 refine Qn 6 (by kernel_rfl) rfl rfl rfl rfl rfl (Qj fa184_1 rfl rfl) ?_
 refine Qn 7 (by kernel_rfl) rfl rfl rfl rfl rfl (Qg ag26 rfl rfl) ?_
 refine Qs 8 (by kernel_rfl) rfl ?_
 refine Qt [(1000, 13)] (ACall.F (F := F) (c_spec_l00Own p0.Coeffs r11 hr11)) Try.call137 rfl rfl rfl rfl rfl rfl rfl rfl rfl rfl rfl rfl rfl ?_
 refine Qe ?_
 refine Qn 9 (by kernel_rfl) rfl rfl rfl rfl rfl (Q3 pl184 z184 rfl rfl rfl rfl rfl) ?_
 refine Qs 10 (by kernel_rfl) rfl ?_
 refine Qo sz184 rfl rfl rfl rfl rfl rfl rfl rfl rfl ?_
 refine Qe ?_
 refine QX (by kernel_rfl) ?_
 refine Qm [2] [11, 13] rfl rfl rfl rfl (by rw [hF]; rfl) ?_
 refine T_ren [(11, 11), (13, 1000)] rfl rfl rfl (by rw [hF]; rfl) ?_
 refine QH ?_
 obtain rfl := Qr hm
 refine ⟨[_], [1000], ⟨⟨_, _, rfl, rfl, .inr ⟨ag184, _, _, sz184, rfl, rfl⟩⟩, trivial⟩, ?_, rfl, rfl, rfl, rfl⟩
 rfl
theorem Qp (p0 : List Term) (out : List Term) (hm : m_spec_l02OwnAll p0 = some out) : ACall Try.prog 104 [.sl 2 (List.map Qa p0)] [] (.ow 1000) [(1000, .arr ⟨false, true⟩ 2 184 (List.map Qa out))] := by
 refine ACall.intro Try.func104 rfl Try.ntmps104 rfl (fun F hF => ?_)
 unfold m_spec_l02OwnAll at hm
 refine Qk ?_
 refine Qf ?_
 refine Qb rfl rfl rfl rfl (Qh rfl) ?_
 refine Qe ?_
 refine Qk ?_
 refine Qf ?_
 refine QE 11 (es := List.map Qa ([] : List Term)) el66 z184 rfl rfl rfl rfl rfl rfl rfl rfl rfl ?_
 refine Qb rfl rfl rfl rfl (Qh rfl) ?_
 refine Qe ?_
 refine Qk ?_
 refine Qk ?_
 refine Qf ?_
 refine Qb rfl rfl rfl rfl (Qh rfl) ?_
 refine Qe ?_
 refine QV ?_
 refine Qm [0, 3, 4] [11] rfl rfl rfl rfl (by rw [hF]; rfl) ?_
 refine T_deepen 11 (p' := false) (List.map Qa ([] : List Term)) (by rw [hF]; rfl) rfl (ElR.nil) rfl rfl rfl ?_
 refine T_loop ?_
 obtain ⟨u0, hl0, hm⟩ := Qw hm
 refine TR_iter2 (m_spec_l02OwnAll_L0 p0) (fun (s0 : (List Term) × Int) => ⟨[(0, .sl 2 (List.map Qa p0)), (3, .ow 11), (4, .int .i64 s0.2)], [(11, .arr ⟨false, true⟩ 2 184 (List.map Qa s0.1))]⟩) (fun u0 => .exit 0) (fun u0 => ⟨[(3, .ow 11)], [(11, .arr ⟨false, true⟩ 2 184 (List.map Qa u0))]⟩) (fun u0 => m_spec_l02OwnAll_A0 u0 = some out) hl0 hm (fun u0 hm => ?_) (fun hx0 s0 c0 hm hc0 => ?_)
 ·unfold m_spec_l02OwnAll_A0 at hm
  refine Qk ?_
  refine Qf ?_
  refine Qb rfl rfl rfl rfl (Qi rfl) ?_
  refine Qb rfl rfl rfl rfl (Qh rfl) ?_
  refine Qe ?_
  refine Qm [2] [11] rfl rfl rfl rfl (by rw [hF]; rfl) ?_
  refine T_ren [(11, 1000)] rfl rfl rfl (by rw [hF]; rfl) ?_
  refine QH ?_
  obtain rfl := Qr hm
  refine ⟨[_], [1000], ⟨rfl, trivial⟩, ?_, rfl, rfl, rfl, rfl⟩
  rfl
 ·unfold m_spec_l02OwnAll_L0 at hm
  refine Qk ?_
  refine Qk ?_
  refine Qf ?_
  refine Qb rfl rfl rfl rfl (Qi rfl) ?_
  refine Qb rfl rfl rfl rfl (Qi rfl) ?_
  refine Qb rfl rfl rfl rfl (Q8 Try.underlying66 rfl (List.length_map _)) ?_
  refine Xg (fun _ _ _ hr => RelP.slLen (i := 7) rfl hr) (fun hlen8 => ?_)
  rw [List.length_map] at hlen8
  refine Qb rfl rfl rfl rfl (Xd rfl rfl) ?_
  refine Qe ?_
  refine QF rfl (fun hq => ?_) (fun hq => ?_)
  ·replace hm := QT hq hm
   refine QG ?_
   refine Qk ?_
   refine QV ?_
   refine Qf ?_
   refine Qb rfl rfl rfl rfl (Qi rfl) ?_
   refine Qb rfl rfl rfl rfl (Qi rfl) ?_
   refine Qb rfl rfl rfl rfl (Qi rfl) ?_
   obtain ⟨x15, hx15, hm⟩ := Qw hm
   refine Qb rfl rfl rfl rfl (QU el66 rfl rfl hx15 rfl) ?_
   obtain ⟨r16, hr16, hm⟩ := Qw hm
   refine Qt [(1000, 16)] (ACall.F (F := F) (c_spec_l02Own x15 r16 hr16)) Try.call156 rfl rfl rfl rfl rfl rfl rfl rfl rfl rfl rfl rfl rfl ?_
   refine Q6 (ids := [16]) (es := List.map Qa [r16]) 17 el66 z184 rfl rfl rfl rfl rfl rfl (by rw [hF]; intro j hj; simp only [List.mem_cons, List.not_mem_nil, or_false] at hj; rcases hj with rfl <;> rfl) rfl rfl rfl rfl rfl rfl ?_
   obtain ⟨q18, hq18, hm⟩ := Qw hm
   refine TL_appendDT (f := Qa) (a := s0.1) (b := [r16]) el66 z184 rfl rfl rfl rfl rfl rfl rfl rfl (by rw [hF]; rfl) (Q9 hq18) rfl rfl rfl rfl rfl ?_
   refine Qb rfl rfl rfl rfl (Qh rfl) ?_
   refine Qe ?_
   refine Qf ?_
   refine Qb rfl rfl rfl rfl (Qi rfl) ?_
   refine Qb rfl rfl rfl rfl (Xh rfl rfl) ?_
   refine Qb rfl rfl rfl rfl (Qh rfl) ?_
   refine Qe ?_
   refine Q5 [0, 3, 4] [11] rfl rfl rfl rfl (by rw [hF]; rfl) ?_
   obtain rfl := Qr hm
   have hn := QM hc0
   exact hn _ rfl
  ·replace hm := QS hq hm
   refine Qm [3] [11] rfl rfl rfl rfl (by rw [hF]; rfl) ?_
   refine T_exit ?_
   obtain rfl := Qr hm
   have hn := QI hc0
   exact hx0 s0.1 hn
end Go.Mod
