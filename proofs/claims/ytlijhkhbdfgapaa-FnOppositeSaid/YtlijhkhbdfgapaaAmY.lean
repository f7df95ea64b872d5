/- Owned arrays: what is put into them is taken over. -/
import Derived.Test.YtlijhkhbdfgapaaAmX
namespace Go.AM
open Go

def isSnil : AV → Bool
  | .snil => true
  | _ => false

/-- A cell, with the objects that it names taken over. -/
def absC (h : Heap) : AV → Option (AV × List Nat)
  | .ow i => match lk h i with
    | some (.arr ⟨_, true⟩ sz _ es) => some (.sl sz es, [i])
    | _ => none
  | x => bif flat1 x || isSnil x then some (x, []) else none
def absL (h : Heap) : List AV → Option (List AV × List Nat)
  | [] => some ([], [])
  | x :: r => match absC h x with
    | some (y, i) => match absL h r with
      | some (ys, is) => some (y :: ys, i ++ is)
      | none => none
    | none => none

section
variable {S : Nat → Prop} {w : World} {φ : Nat → Loc} {h : Heap}

theorem absC_one {x y : AV} {ids : List Nat} (ha : absC h x = some (y, ids)) : one y = true := by
  unfold absC at ha
  split at ha
  · split at ha
    · cases ha; rfl
    · cases ha
  · cases hb : flat1 x || isSnil x with
    | false => rw [hb] at ha; cases ha
    | true =>
      rw [hb] at ha
      cases ha
      cases x <;> first | rfl | (simp [flat1, isSnil] at hb)

theorem absC_rep (hh : HeapOK S w φ h) {x y : AV} {v : Value} {ids : List Nat} (hv : RepV S w φ h x v) (ha : absC h x = some (y, ids)) :
    ∃ fp, LinT w y v fp ∧ fp.Nodup ∧ ∀ b ∈ fp, ∃ i ∈ ids, ∃ o, lk h i = some o ∧ (φ i).owns b := by
  unfold absC at ha
  split at ha
  · rename_i i
    split at ha
    · rename_i p sz E es hl
      cases ha
      obtain ⟨hsz, hlens, hones, hob⟩ := hh.obj _ _ hl
      rcases hv.ow_inv hl with ⟨hm, rfl⟩ | ⟨hm, rfl, rfl⟩
      · rcases hob with ⟨hf, _⟩ | ⟨_, C, hC, hle, hcm, hCs, hrep⟩
        · rw [hm] at hf; cases hf
        · obtain ⟨fps, f1, f2, f3, f4, _⟩ := (show CellsOK ⟨p, true⟩ S w (φ i) (flat es) C from hrep)
          refine ⟨_, .sl sz es _ _ C E fps hC hCs hle hcm hsz hlens hones f1 f2, f3, fun b hb => ⟨i, by simp, _, hl, ?_⟩⟩
          rcases List.mem_cons.1 hb with rfl | hb
          · exact .inl ⟨hm, rfl⟩
          · exact .inr (f4 b hb)
      · exact ⟨[], .sl0 _ _, by simp, fun b hb => by simp at hb⟩
    · cases ha
  · cases hb : flat1 x || isSnil x with
    | false => rw [hb] at ha; cases ha
    | true =>
      rw [hb] at ha
      cases ha
      have hno : noIds x = true := by cases x <;> first | rfl | (simp [flat1, isSnil] at hb)
      have ht := hv.tree hno
      refine ⟨[], ?_, by simp, fun b hb => by simp at hb⟩
      cases x with
      | snil => cases ht; exact .snil
      | int _ _ => exact ht.lin rfl
      | bool _ => exact ht.lin rfl
      | str _ => exact ht.lin rfl
      | _ => simp [flat1, isSnil] at hb

theorem absL_rep (hh : HeapOK S w φ h) : ∀ {xs ys : List AV} {vs : List Value} {ids : List Nat}, PW S w φ h xs vs → absL h xs = some (ys, ids) → ids.Nodup →
    ys.length = xs.length ∧ (∀ y ∈ ys, one y = true) ∧ ∃ fps : List (List Nat), fps.length = ys.length ∧ (∀ (j : Nat) y v fp, ys[j]? = some y → vs[j]? = some v → fps[j]? = some fp → LinT w y v fp) ∧
      fps.flatten.Nodup ∧ ∀ b ∈ fps.flatten, ∃ i ∈ ids, ∃ o, lk h i = some o ∧ (φ i).owns b := by
  intro xs
  induction xs with
  | nil => intro ys vs ids hp ha _; cases ha; exact ⟨rfl, fun y hy => by simp at hy, [], rfl, fun j y v fp hy => by simp at hy, by simp, fun b hb => by simp at hb⟩
  | cons x r ih =>
    intro ys vs ids hp ha hnd
    unfold absL at ha
    cases hx : absC h x with
    | none => simp [hx] at ha
    | some p =>
      obtain ⟨y, i⟩ := p
      simp only [hx] at ha
      cases hr : absL h r with
      | none => simp [hr] at ha
      | some q =>
        obtain ⟨ys', is⟩ := q
        simp only [hr, Option.some.injEq, Prod.mk.injEq] at ha
        obtain ⟨rfl, rfl⟩ := ha
        cases vs with
        | nil => have := hp.1; simp at this
        | cons v vs =>
          obtain ⟨n1, n2, n3⟩ := List.nodup_append.1 hnd
          obtain ⟨fp, a1, a2, a3⟩ := absC_rep hh (hp.2 0 x v (by simp) (by simp)) hx
          obtain ⟨b1, b2, fps, b3, b4, b5, b6⟩ := ih (vs := vs) ⟨by have := hp.1; simpa using this, fun i x v hx hv => hp.2 (i + 1) x v (by simpa using hx) (by simpa using hv)⟩ hr n2
          refine ⟨by simp [b1], fun z hz => ?_, fp :: fps, by simp [b3], fun j z u fp' hz hu hf => ?_, ?_, fun b hb => ?_⟩
          · rcases List.mem_cons.1 hz with rfl | hz
            · exact absC_one hx
            · exact b2 z hz
          · cases j with
            | zero => simp at hz hu hf; subst hz hu hf; exact a1
            | succ j => simp at hz hu hf; exact b4 j z u fp' hz hu hf
          · rw [List.flatten_cons]
            refine List.nodup_append.2 ⟨a2, b5, fun b hb1 c hc e => ?_⟩
            subst e
            obtain ⟨i1, m1, o1, l1, w1⟩ := a3 b hb1
            obtain ⟨i2, m2, o2, l2, w2⟩ := b6 b hc
            have := hh.injO i1 i2 o1 o2 b l1 l2 w1 w2
            subst this
            exact n3 i1 m1 i1 m2 rfl
          · rw [List.flatten_cons] at hb
            rcases List.mem_append.1 hb with hb | hb
            · obtain ⟨i1, m1, r1⟩ := a3 b hb; exact ⟨i1, List.mem_append.2 (.inl m1), r1⟩
            · obtain ⟨i1, m1, r1⟩ := b6 b hb; exact ⟨i1, List.mem_append.2 (.inr m1), r1⟩
end

/-- The blocks that an object owns, as a list. -/
def Loc.all (l : Loc) : List Nat := (if l.mat then [l.blk] else []) ++ l.fp
theorem Loc.mem_all {l : Loc} {b : Nat} : b ∈ l.all ↔ l.owns b := by
  unfold Loc.all Loc.owns
  cases l.mat <;> simp [eq_comm]

def comps : Value → Option Addr × Nat × Nat
  | .slice a n c => (a, n, c)
  | _ => (none, 0, 0)
theorem LinT.comps {w : World} {x : AV} {v : Value} {fp : List Nat} (h : LinT w x v fp) (hs : isSl x = true) : v = .slice (AM.comps v).1 (AM.comps v).2.1 (AM.comps v).2.2 := by
  cases h <;> first | rfl | (simp [isSl] at hs)

theorem getElem?_mid {α : Type} (l m : List α) (b n j : Nat) (hb : b + n ≤ l.length) (hm : m.length = n) :
    (l.take b ++ m ++ l.drop (b + n))[j]? = if j < b then l[j]? else if j < b + n then m[j - b]? else l[j]? := by
  have h1 : (l.take b).length = b := by simp; omega
  by_cases hj : j < b
  · rw [if_pos hj, List.append_assoc, List.getElem?_append_left (by omega), List.getElem?_take, if_pos hj]
  · rw [if_neg hj]
    by_cases hj2 : j < b + n
    · rw [if_pos hj2, List.getElem?_append_left (by simp; omega), List.getElem?_append_right (by omega), h1]
    · rw [if_neg hj2, List.getElem?_append_right (by simp; omega), List.getElem?_drop]
      congr 1
      simp; omega

/-- Some cells of an owned array are written. -/
theorem CellsOK.put {k : Kd} {S : Nat → Prop} {w : World} {l l' : Loc} {sz k0 off : Nat} {es : List AV} {e e' : AV} {zy : List AV} {vs : List Value} {C : Array Value} {nf : List (List Nat)} (hk : k.d = true)
    (hc : CellsOK k S w l (flat es) C) (hsz : 0 < sz) (hl : ∀ e ∈ es, e.cells.length = sz) (he : es[k0]? = some e)
    (he' : e'.cells = e.cells.take off ++ zy ++ e.cells.drop (off + zy.length)) (hoff : off + zy.length ≤ sz) (hCs : es.length * sz ≤ C.size) (hvl : vs.length = zy.length)
    (hnl : nf.length = zy.length) (hlin : ∀ (j : Nat) y v fp, zy[j]? = some y → vs[j]? = some v → nf[j]? = some fp → LinT w y v fp) (hnd : nf.flatten.Nodup)
    (hdis : ∀ b ∈ nf.flatten, b ≠ l.blk ∧ b ∉ l.fp) (hblk : l'.blk = l.blk) (hfp : ∀ b, b ∈ l.fp → b ∈ l'.fp) (hfp2 : ∀ b ∈ nf.flatten, b ∈ l'.fp)
    (hsv1 : ∀ j, (j < k0 * sz + off ∨ k0 * sz + off + zy.length ≤ j) → l'.sv j = l.sv j)
    (hsv2 : ∀ (i : Nat) x v, zy[i]? = some x → vs[i]? = some v → isSl x = true → l'.sv (k0 * sz + off + i) = comps v) :
    CellsOK k S w l' (flat (es.set k0 e')) (C.toList.take (k0 * sz + off) ++ vs ++ C.toList.drop (k0 * sz + off + vs.length)).toArray := by
  obtain ⟨fps, f1, f2, f3, f4, f5⟩ : ∃ fps : List (List Nat), fps.length = (flat es).length ∧ (∀ (j : Nat) x v fp, (flat es)[j]? = some x → C[j]? = some v → fps[j]? = some fp → LinT w x v fp) ∧
      (l.blk :: fps.flatten).Nodup ∧ (∀ b ∈ fps.flatten, b ∈ l.fp) ∧ (∀ (j : Nat) x v, (flat es)[j]? = some x → C[j]? = some v → isSl x = true → v = .slice (l.sv j).1 (l.sv j).2.1 (l.sv j).2.2) := by
    unfold CellsOK at hc
    rw [hk] at hc
    exact hc
  have hfe := flat_length hl
  have hk0 := (List.getElem?_eq_some_iff.1 he).1
  have hin : k0 * sz + sz ≤ es.length * sz := by rw [← Nat.succ_mul]; exact Nat.mul_le_mul_right _ hk0
  have hb1 : k0 * sz + off + zy.length ≤ fps.length := by rw [f1, hfe]; omega
  have hek : e.cells.length = sz := hl e (List.mem_of_getElem? he)
  have he'k : e'.cells.length = sz := by rw [he']; simp; omega
  have hl' : ∀ u ∈ es.set k0 e', u.cells.length = sz := by
    intro u hu
    rcases List.mem_or_eq_of_mem_set hu with hu | rfl
    · exact hl u hu
    · exact he'k
  have hcl : ∀ (j : Nat) v, (C.toList.take (k0 * sz + off) ++ vs ++ C.toList.drop (k0 * sz + off + vs.length)).toArray[j]? = some v →
      (j < k0 * sz + off ∨ k0 * sz + off + zy.length ≤ j) ∧ C[j]? = some v ∨ (k0 * sz + off ≤ j ∧ j < k0 * sz + off + zy.length) ∧ vs[j - (k0 * sz + off)]? = some v := by
    intro j v hv
    rw [List.getElem?_toArray, getElem?_mid C.toList vs _ _ j (by simp; omega) rfl] at hv
    split at hv
    · exact .inl ⟨.inl ‹_›, by simpa using hv⟩
    · split at hv
      · exact .inr ⟨⟨by omega, by omega⟩, hv⟩
      · exact .inl ⟨.inr (by omega), by simpa using hv⟩
  unfold CellsOK
  rw [hk]
  have hsplit : fps = fps.take (k0 * sz + off) ++ ((fps.drop (k0 * sz + off)).take zy.length ++ fps.drop (k0 * sz + off + zy.length)) := by
    generalize k0 * sz + off = q
    rw [← List.drop_drop, List.take_append_drop, List.take_append_drop]
  have hmem : ∀ b, b ∈ (fps.take (k0 * sz + off) ++ nf ++ fps.drop (k0 * sz + off + zy.length)).flatten → b ∈ nf.flatten ∨ b ∈ fps.flatten := by
    intro b hb
    rw [List.flatten_append, List.flatten_append] at hb
    rcases List.mem_append.1 hb with hb | hb
    · rcases List.mem_append.1 hb with hb | hb
      · obtain ⟨l, h1, h2⟩ := List.mem_flatten.1 hb
        exact .inr (List.mem_flatten.2 ⟨l, List.mem_of_mem_take h1, h2⟩)
      · exact .inl hb
    · obtain ⟨l, h1, h2⟩ := List.mem_flatten.1 hb
      exact .inr (List.mem_flatten.2 ⟨l, List.mem_of_mem_drop h1, h2⟩)
  refine ⟨fps.take (k0 * sz + off) ++ nf ++ fps.drop (k0 * sz + off + zy.length), ?_, fun j c v fp hc hv hp => ?_, ?_, fun b hb => ?_, fun j c v hc hv hs => ?_⟩
  · rw [flat_length hl', List.length_set, List.length_append, List.length_append, List.length_take, List.length_drop, f1, hfe, hnl]
    rw [f1, hfe] at hb1
    omega
  · rw [getElem?_mid fps nf _ _ j hb1 hnl] at hp
    rcases flat_set hsz hl he he' hoff hc with ⟨i, rfl, hi⟩ | ⟨hi, hj⟩
    · have hil := (List.getElem?_eq_some_iff.1 hi).1
      rw [if_neg (by omega), if_pos (by omega)] at hp
      rcases hcl _ v hv with ⟨h1, _⟩ | ⟨_, h2⟩
      · omega
      · rw [Nat.add_sub_cancel_left] at hp h2
        exact hlin i c v fp hi h2 hp
    · rcases hcl _ v hv with ⟨_, h2⟩ | ⟨h1, _⟩
      · rcases hj with hj | hj
        · rw [if_pos hj] at hp; exact f2 j c v fp hi h2 hp
        · rw [if_neg (by omega), if_neg (by omega)] at hp; exact f2 j c v fp hi h2 hp
      · omega
  · rw [hblk, List.nodup_cons]
    obtain ⟨n1, n2⟩ := List.nodup_cons.1 f3
    refine ⟨fun hb => ?_, ?_⟩
    · rcases hmem _ hb with hb | hb
      · exact (hdis _ hb).1 rfl
      · exact n1 hb
    · rw [hsplit, List.flatten_append, List.flatten_append] at n2
      obtain ⟨a1, a2, a3⟩ := List.nodup_append.1 n2
      obtain ⟨b1, b2, b3⟩ := List.nodup_append.1 a2
      have inL : ∀ b, b ∈ (fps.take (k0 * sz + off)).flatten → b ∈ fps.flatten := fun b hb => by
        obtain ⟨l, h1, h2⟩ := List.mem_flatten.1 hb
        exact List.mem_flatten.2 ⟨l, List.mem_of_mem_take h1, h2⟩
      have inR : ∀ b, b ∈ (fps.drop (k0 * sz + off + zy.length)).flatten → b ∈ fps.flatten := fun b hb => by
        obtain ⟨l, h1, h2⟩ := List.mem_flatten.1 hb
        exact List.mem_flatten.2 ⟨l, List.mem_of_mem_drop h1, h2⟩
      rw [List.flatten_append, List.flatten_append]
      refine List.nodup_append.2 ⟨List.nodup_append.2 ⟨a1, hnd, fun b hb1 c hc e => ?_⟩, b2, fun b hb1 c hc e => ?_⟩
      · subst e; exact (hdis b hc).2 (f4 b (inL b hb1))
      · subst e
        rcases List.mem_append.1 hb1 with hb1 | hb1
        · exact a3 b hb1 b (List.mem_append.2 (.inr hc)) rfl
        · exact (hdis b hb1).2 (f4 b (inR b hc))
  · rcases hmem b hb with hb | hb
    · exact hfp2 b hb
    · exact hfp b (f4 b hb)
  · rcases flat_set hsz hl he he' hoff hc with ⟨i, rfl, hi⟩ | ⟨hi, hj⟩
    · have hil := (List.getElem?_eq_some_iff.1 hi).1
      rcases hcl _ v hv with ⟨h1, _⟩ | ⟨_, h2⟩
      · omega
      · rw [Nat.add_sub_cancel_left] at h2
        rw [hsv2 i c v hi h2 hs]
        obtain ⟨fp, hfp'⟩ : ∃ fp, nf[i]? = some fp := ⟨nf[i]'(by omega), by simp⟩
        exact (hlin i c v fp hi h2 hfp').comps hs
    · rcases hcl _ v hv with ⟨_, h2⟩ | ⟨h1, _⟩
      · rw [hsv1 j hj]; exact f5 j c v hi h2 hs
      · omega
end Go.AM
