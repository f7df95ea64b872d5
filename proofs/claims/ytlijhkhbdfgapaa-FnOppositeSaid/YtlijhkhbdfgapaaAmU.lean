/- Dropping objects. -/
import Derived.Test.YtlijhkhbdfgapaaAmT
namespace Go.AM
open Go

section
variable {P : Program} {F : Fr} {N : Nat} {Q : Exit → St → Prop} {c : Code} {K : St → Prop} {ops : Array Oper} {l rest : List Oper} {ex : Bool} {s s' : Slots} {h h' : Heap}

theorem all_some {η h' : Heap} (hall : η.all (fun p => (lk h' p.1).isSome) = true) (id : Nat) (o : AO) (ho : lk η id = some o) : ∃ o', lk h' id = some o' :=
  Option.isSome_iff_exists.1 ((List.all_eq_true.1 hall) _ (lk_mem ho))

theorem RelP.keepH {φ : Nat → Loc} {a : Act} {w : World} {ids hids : List Nat} (hr : RelP F N ⟨s, h⟩ φ a w) (hk : keepO ids s = some s') (hk2 : keepO hids h = some h')
    (hc : s'.all (fun p => closed h' p.2) = true) (hcH : closedH h' h' = true) (hall : F.η.all (fun p => (lk h' p.1).isSome) = true) : RelP F N ⟨s', h'⟩ φ a w := by
  have hlk := keepO_lk hk2
  have hS : ∀ b, Stab F w φ h b → Stab F w φ h' b := fun b hb => ⟨hb.1, hb.2.1, fun i o ho hm => hb.2.2 i o (hlk i o ho) hm⟩
  have hρ : ∀ i j, (i = j ∧ (lk h' i).isSome = true) → (∀ o, lk h i = some o → φ j = φ i) ∧ objAlike h h' i j := by
    rintro i j ⟨rfl, hi⟩
    refine ⟨fun _ _ => rfl, fun k sz E es ho => ⟨k, es, rfl, ?_⟩, fun cs ho => ⟨cs, ?_⟩⟩
    · obtain ⟨o, hl⟩ := Option.isSome_iff_exists.1 hi
      have := hlk i o hl
      rw [ho] at this; cases this; exact hl
    · obtain ⟨o, hl⟩ := Option.isSome_iff_exists.1 hi
      have := hlk i o hl
      rw [ho] at this; cases this; exact hl
  have hR : ∀ {x v}, Ren (fun i j => i = j ∧ (lk h' i).isSome = true) x x → RepV (Stab F w φ h) w φ h x v → RepV (Stab F w φ h') w φ h' x v :=
    fun hx h => h.ren hS (fun _ _ => rfl) hρ hx
  refine hr.sub hS (fun i y hy => ⟨y, keepO_lk hk i y hy, fun v hv => hR (closed_ren y ((List.all_eq_true.1 hc) _ (lk_mem hy))) hv⟩) (fun i k sz E es ho => hlk i _ ho)
    (fun i cs' ho => ⟨cs', hlk i _ ho, rfl, fun n y hy => ⟨y, hy, fun v hv => hR (closedL_ren cs' (closedH_lk hcH i cs' ho) n y hy) hv⟩⟩) (fun i o ho => all_some hall i o ho)

theorem T_keepH (ids hids : List Nat) (hk : keepO ids s = some s') (hk2 : keepO hids h = some h') (hc : s'.all (fun p => closed h' p.2) = true) (hcH : closedH h' h' = true)
    (hall : F.η.all (fun p => (lk h' p.1).isSome) = true) (k : T P F N c Q ⟨s', h'⟩) : T P F N c Q ⟨s, h⟩ := T_sub (fun φ _ _ hr => ⟨φ, hr.keepH hk hk2 hc hcH hall⟩) k
theorem TR_keepH (ids hids : List Nat) (hk : keepO ids s = some s') (hk2 : keepO hids h = some h') (hc : s'.all (fun p => closed h' p.2) = true) (hcH : closedH h' h' = true)
    (hall : F.η.all (fun p => (lk h' p.1).isSome) = true) (k : TR P F N c Q ⟨s', h'⟩) : TR P F N c Q ⟨s, h⟩ := TR_sub (fun φ _ _ hr => ⟨φ, hr.keepH hk hk2 hc hcH hall⟩) k
theorem TL_keepH (ids hids : List Nat) (hk : keepO ids s = some s') (hk2 : keepO hids h = some h') (hc : s'.all (fun p => closed h' p.2) = true) (hcH : closedH h' h' = true)
    (hall : F.η.all (fun p => (lk h' p.1).isSome) = true) (k : TLE ex P F N ops l K ⟨s', h'⟩) : TLE ex P F N ops l K ⟨s, h⟩ := TL_sub (fun φ _ _ hr => ⟨φ, hr.keepH hk hk2 hc hcH hall⟩) k

end
end Go.AM
