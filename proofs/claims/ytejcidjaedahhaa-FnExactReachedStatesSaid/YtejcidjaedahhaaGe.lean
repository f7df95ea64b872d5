import Derived.Test.YtejcidjaedahhaaGc
import Derived.Test.YtejcidjaedahhaaGd
/- Printed by a program. -/
namespace Go.Mod
open Go.AM
set_option linter.unusedVariables false
structure Policy where
  Next : List (List Int)
  deriving DecidableEq, Inhabited
theorem Policy.eta (t : Policy) : Policy.mk t.Next = t := rfl
structure l10Pair where
  a : Int
  b : Int
  word : List Int
  deriving DecidableEq, Inhabited
theorem l10Pair.eta (t : l10Pair) : l10Pair.mk t.a t.b t.word = t := rfl
def k_i64 (x : Int) : Prop := -9223372036854775808 ≤ x ∧ x ≤ 9223372036854775807
def kLa_i64 (x : List Int) : Prop := x.length ≤ 9223372036854775807 ∧ ∀ y ∈ x, k_i64 y
def kLaLa_i64 (x : List (List Int)) : Prop := x.length ≤ 9223372036854775807 ∧ ∀ y ∈ x, kLa_i64 y
def k_Policy (x : Policy) : Prop := kLaLa_i64 x.Next

noncomputable def m_laws_szInt64S (p0 : List Int) (p1 : Int) : Option Int :=
  bif (decide ((w64 (p1 - (p0.length : Int))) < (0 : Int))) then
    some (-1 : Int)
  else
    some (w64 (p1 - (p0.length : Int)))

noncomputable def m_laws_szInt64SS_L0 (p0 : List (List Int)) (s0 : Int × Int) : Option (Ctl (Int × Int) (Int ⊕ Int)) :=
  bif (decide (s0.2 < (p0.length : Int))) then
    (getI p0 s0.2).bind fun (x20 : List Int) =>
    (m_laws_szInt64S x20 s0.1).bind fun (r23 : Int) =>
    bif (decide (r23 < (0 : Int))) then
      some (.out (.inr (-1 : Int)))
    else
      some (.next (r23, (w64 (s0.2 + (1 : Int)))))
  else
    some (.out (.inl s0.1))

noncomputable def m_laws_szInt64SS_A0 (u0 : Int ⊕ Int) : Option Int :=
  match u0 with
  | .inl u0 =>
    some u0
  | .inr u0 =>
    some u0

noncomputable def m_laws_szInt64SS (p0 : List (List Int)) (p1 : Int) : Option Int :=
  bif (decide ((w64 (p1 - (p0.length : Int))) < (0 : Int))) then
    some (-1 : Int)
  else
    (iter (m_laws_szInt64SS_L0 p0) ((w64 (p1 - (p0.length : Int))), (0 : Int))).bind fun (u0 : Int ⊕ Int) =>
    m_laws_szInt64SS_A0 u0

noncomputable def m_laws_szPolicy (p0 : Policy) (p1 : Int) : Option Int :=
  (m_laws_szInt64SS p0.Next p1).bind fun (r8 : Int) =>
  bif (decide (r8 < (0 : Int))) then
    some (-1 : Int)
  else
    some r8

noncomputable def m_laws_toInt64S_L0 (p0 : List Int) (s0 : (List Int) × Int) : Option (Ctl ((List Int) × Int) ((List Int))) :=
  bif (decide (s0.2 < (p0.length : Int))) then
    (getI p0 s0.2).bind fun (x18 : Int) =>
    (getI s0.1 s0.2).bind fun (x20 : Int) =>
    some (.next ((s0.1.set ((s0.2).toNat) x18), (w64 (s0.2 + (1 : Int)))))
  else
    some (.out s0.1)

noncomputable def m_laws_toInt64S_A0 (u0 : (List Int)) : Option (List Int) :=
  some u0

noncomputable def m_laws_toInt64S (p0 : List Int) : Option (List Int) :=
  (makeI (p0.length : Int) 8).bind fun (k7 : Nat) =>
  (iter (m_laws_toInt64S_L0 p0) ((List.replicate k7 (0 : Int)), (0 : Int))).bind fun (u0 : (List Int)) =>
  m_laws_toInt64S_A0 u0

noncomputable def m_laws_toInt64SS_L0 (p0 : List (List Int)) (s0 : (List (List Int)) × Int) : Option (Ctl ((List (List Int)) × Int) ((List (List Int)))) :=
  bif (decide (s0.2 < (p0.length : Int))) then
    (getI p0 s0.2).bind fun (x18 : List Int) =>
    (m_laws_toInt64S x18).bind fun (r20 : List Int) =>
    (getI s0.1 s0.2).bind fun (x21 : List Int) =>
    some (.next ((s0.1.set ((s0.2).toNat) r20), (w64 (s0.2 + (1 : Int)))))
  else
    some (.out s0.1)

noncomputable def m_laws_toInt64SS_A0 (u0 : (List (List Int))) : Option (List (List Int)) :=
  some u0

noncomputable def m_laws_toInt64SS (p0 : List (List Int)) : Option (List (List Int)) :=
  (makeI (p0.length : Int) 24).bind fun (k7 : Nat) =>
  (iter (m_laws_toInt64SS_L0 p0) ((List.replicate k7 ([] : List Int)), (0 : Int))).bind fun (u0 : (List (List Int))) =>
  m_laws_toInt64SS_A0 u0

noncomputable def m_laws_toPolicy (p0 : Policy) : Option Policy :=
  (m_laws_toInt64SS p0.Next).bind fun (r6 : List (List Int)) =>
  some (Policy.mk r6)

noncomputable def m_spec_l00In (p0 : Int) (p1 : Int) (p2 : Int) : Option Bool :=
  some ((decide (p1 ≤ p0)) && (decide (p0 ≤ p2)))

noncomputable def m_spec_l10Is_L1 (p0 : Policy) (x24 : List Int) (s1 : Int) : Option (Ctl Int (Unit ⊕ Bool)) :=
  bif (decide (s1 < (4 : Int))) then
    (getI x24 s1).bind fun (x40 : Int) =>
    (m_spec_l00In x40 (-1 : Int) (w64 ((p0.Next.length : Int) - (1 : Int)))).bind fun (r44 : Bool) =>
    bif (!r44) then
      some (.out (.inr false))
    else
      some (.next (w64 (s1 + (1 : Int))))
  else
    some (.out (.inl ()))

noncomputable def m_spec_l10Is_A1 (s0 : Int) (u1 : Unit ⊕ Bool) : Option (Ctl Int (Unit ⊕ Bool)) :=
  match u1 with
  | .inl u1 =>
    some (.next (w64 (s0 + (1 : Int))))
  | .inr u1 =>
    some (.out (.inr u1))

noncomputable def m_spec_l10Is_L0 (p0 : Policy) (s0 : Int) : Option (Ctl Int (Unit ⊕ Bool)) :=
  bif (decide (s0 < (p0.Next.length : Int))) then
    (getI p0.Next s0).bind fun (x24 : List Int) =>
    bif (!decide ((x24.length : Int) = (4 : Int))) then
      some (.out (.inr false))
    else
      (iter (m_spec_l10Is_L1 p0 x24) (0 : Int)).bind fun (u1 : Unit ⊕ Bool) =>
      m_spec_l10Is_A1 s0 u1
  else
    some (.out (.inl ()))

noncomputable def m_spec_l10Is_A0 (u0 : Unit ⊕ Bool) : Option Bool :=
  match u0 with
  | .inl u0 =>
    some true
  | .inr u0 =>
    some u0

noncomputable def m_spec_l10Is (p0 : Policy) : Option Bool :=
  (m_spec_l00In (p0.Next.length : Int) (1 : Int) (12 : Int)).bind fun (r12 : Bool) =>
  bif (!r12) then
    some false
  else
    (iter (m_spec_l10Is_L0 p0) (0 : Int)).bind fun (u0 : Unit ⊕ Bool) =>
    m_spec_l10Is_A0 u0

noncomputable def m_spec_ValidPolicy (p0 : Policy) : Option Bool :=
  (m_spec_l10Is p0).bind fun (r3 : Bool) =>
  some r3

noncomputable def m_impl_size (p0 : Int) : Option Int :=
  some p0

noncomputable def m_impl_within (p0 : Int) (p1 : Int) (p2 : Int) : Option Bool :=
  some ((decide (p1 ≤ p0)) && (decide (p0 ≤ p2)))

noncomputable def m_impl_allWithin_L0 (p1 : Int) (p2 : Int) (n0 : Nat) (x0 : Int) (s0 : Unit) : Option (Ctl Unit (Unit ⊕ Bool)) :=
  (m_impl_within x0 p1 p2).bind fun (r18 : Bool) =>
  bif (!r18) then
    some (.out (.inr false))
  else
    some (.next ())

noncomputable def m_impl_allWithin_A0 (u0 : Unit ⊕ Bool) : Option Bool :=
  match u0 with
  | .inl u0 =>
    some true
  | .inr u0 =>
    some u0

noncomputable def m_impl_allWithin (p0 : List Int) (p1 : Int) (p2 : Int) : Option Bool :=
  (forL (m_impl_allWithin_L0 p1 p2) (fun s0 => (.inl ())) 0 p0 ()).bind fun (u0 : Unit ⊕ Bool) =>
  m_impl_allWithin_A0 u0

noncomputable def m_impl_ValidPolicy_L0 (r9 : Int) (n0 : Nat) (x0 : List Int) (s0 : Unit) : Option (Ctl Unit (Unit ⊕ Bool)) :=
  bif (!decide ((x0.length : Int) = (4 : Int))) then
    some (.out (.inr false))
  else
    (m_impl_allWithin x0 (-1 : Int) (w64 (r9 - (1 : Int)))).bind fun (r27 : Bool) =>
    bif (!r27) then
      some (.out (.inr false))
    else
      some (.next ())

noncomputable def m_impl_ValidPolicy_A0 (u0 : Unit ⊕ Bool) : Option Bool :=
  match u0 with
  | .inl u0 =>
    some true
  | .inr u0 =>
    some u0

noncomputable def m_impl_ValidPolicy (p0 : Policy) : Option Bool :=
  (m_impl_size (p0.Next.length : Int)).bind fun (r9 : Int) =>
  (m_impl_within r9 (1 : Int) (12 : Int)).bind fun (r11 : Bool) =>
  bif (!r11) then
    some false
  else
    (forL (m_impl_ValidPolicy_L0 r9) (fun s0 => (.inl ())) 0 p0.Next ()).bind fun (u0 : Unit ⊕ Bool) =>
    m_impl_ValidPolicy_A0 u0

noncomputable def m_laws_eqInt64S_L0 (p0 : List Int) (p1 : List Int) (s0 : Int) : Option (Ctl Int (Unit ⊕ Bool)) :=
  bif (decide (s0 < (p0.length : Int))) then
    (getI p0 s0).bind fun (x19 : Int) =>
    (getI p1 s0).bind fun (x23 : Int) =>
    bif (!decide (x19 = x23)) then
      some (.out (.inr false))
    else
      some (.next (w64 (s0 + (1 : Int))))
  else
    some (.out (.inl ()))

noncomputable def m_laws_eqInt64S_A0 (u0 : Unit ⊕ Bool) : Option Bool :=
  match u0 with
  | .inl u0 =>
    some true
  | .inr u0 =>
    some u0

noncomputable def m_laws_eqInt64S (p0 : List Int) (p1 : List Int) : Option Bool :=
  bif (!decide ((p0.length : Int) = (p1.length : Int))) then
    some false
  else
    (iter (m_laws_eqInt64S_L0 p0 p1) (0 : Int)).bind fun (u0 : Unit ⊕ Bool) =>
    m_laws_eqInt64S_A0 u0

noncomputable def m_laws_eqInt64SS_L0 (p0 : List (List Int)) (p1 : List (List Int)) (s0 : Int) : Option (Ctl Int (Unit ⊕ Bool)) :=
  bif (decide (s0 < (p0.length : Int))) then
    (getI p0 s0).bind fun (x19 : List Int) =>
    (getI p1 s0).bind fun (x23 : List Int) =>
    (m_laws_eqInt64S x19 x23).bind fun (r25 : Bool) =>
    bif (!r25) then
      some (.out (.inr false))
    else
      some (.next (w64 (s0 + (1 : Int))))
  else
    some (.out (.inl ()))

noncomputable def m_laws_eqInt64SS_A0 (u0 : Unit ⊕ Bool) : Option Bool :=
  match u0 with
  | .inl u0 =>
    some true
  | .inr u0 =>
    some u0

noncomputable def m_laws_eqInt64SS (p0 : List (List Int)) (p1 : List (List Int)) : Option Bool :=
  bif (!decide ((p0.length : Int) = (p1.length : Int))) then
    some false
  else
    (iter (m_laws_eqInt64SS_L0 p0 p1) (0 : Int)).bind fun (u0 : Unit ⊕ Bool) =>
    m_laws_eqInt64SS_A0 u0

noncomputable def m_laws_eqPolicy (p0 : Policy) (p1 : Policy) : Option Bool :=
  (m_laws_eqInt64SS p0.Next p1.Next).bind fun (r9 : Bool) =>
  bif (!r9) then
    some false
  else
    some true

noncomputable def m_laws_FnExactValidPolicy (p0 : Policy) : Option Bool :=
  (m_laws_szPolicy p0 (1048576 : Int)).bind fun (r9 : Int) =>
  bif (decide (r9 < (0 : Int))) then
    some true
  else
    (m_laws_toPolicy p0).bind fun (r13 : Policy) =>
    (m_spec_ValidPolicy r13).bind fun (r14 : Bool) =>
    (m_laws_toPolicy p0).bind fun (r16 : Policy) =>
    (m_impl_ValidPolicy r16).bind fun (r18 : Bool) =>
    bif (!(r18 == r14)) then
      some false
    else
      (m_laws_toPolicy p0).bind fun (r24 : Policy) =>
      (m_laws_eqPolicy r16 r24).bind fun (r25 : Bool) =>
      bif (!r25) then
        some false
      else
        some true

noncomputable def m_spec_l10Event (p0 : Int) : Option Bool :=
  (m_spec_l00In p0 (0 : Int) (3 : Int)).bind fun (r4 : Bool) =>
  some r4

noncomputable def m_spec_StepPolicy (p0 : Policy) (p1 : Int) (p2 : Int) : Option (Int × Bool) :=
  (m_spec_l10Is p0).bind fun (r8 : Bool) =>
  bif (!r8) then
    some ((0 : Int), false)
  else
    (m_spec_l00In p1 (0 : Int) (w64 ((p0.Next.length : Int) - (1 : Int)))).bind fun (r16 : Bool) =>
    bif (!r16) then
      some ((0 : Int), false)
    else
      (m_spec_l10Event p2).bind fun (r21 : Bool) =>
      bif (!r21) then
        some ((0 : Int), false)
      else
        (getI p0.Next p1).bind fun (x28 : List Int) =>
        (getI x28 p2).bind fun (x31 : Int) =>
        bif (decide (x31 < (0 : Int))) then
          some ((0 : Int), false)
        else
          some (x31, true)

noncomputable def m_impl_isIndex (p0 : Int) (p1 : Int) : Option Bool :=
  (m_impl_size p1).bind fun (r7 : Int) =>
  (m_impl_within p0 (0 : Int) (w64 (r7 - (1 : Int)))).bind fun (r9 : Bool) =>
  some r9

noncomputable def m_impl_isEvent (p0 : Int) : Option Bool :=
  (m_impl_within p0 (0 : Int) (3 : Int)).bind fun (r4 : Bool) =>
  some r4

noncomputable def m_impl_StepPolicy (p0 : Policy) (p1 : Int) (p2 : Int) : Option (Int × Bool) :=
  (m_impl_ValidPolicy p0).bind fun (r9 : Bool) =>
  bif (!r9) then
    some ((0 : Int), false)
  else
    (m_impl_isIndex p1 (p0.Next.length : Int)).bind fun (r16 : Bool) =>
    bif (!r16) then
      some ((0 : Int), false)
    else
      (m_impl_isEvent p2).bind fun (r21 : Bool) =>
      bif (!r21) then
        some ((0 : Int), false)
      else
        (getI p0.Next p1).bind fun (x28 : List Int) =>
        (getI x28 p2).bind fun (x31 : Int) =>
        bif (decide (x31 < (0 : Int))) then
          some ((0 : Int), false)
        else
          some (x31, true)

noncomputable def m_laws_FnExactStepPolicy (p0 : Policy) (p1 : Int) (p2 : Int) : Option Bool :=
  (m_laws_szPolicy p0 (1048576 : Int)).bind fun (r15 : Int) =>
  bif (decide (r15 < (0 : Int))) then
    some true
  else
    (m_laws_toPolicy p0).bind fun (r20 : Policy) =>
    (m_spec_StepPolicy r20 p1 p2).bind fun (r23 : Int × Bool) =>
    (m_laws_toPolicy p0).bind fun (r27 : Policy) =>
    (m_impl_StepPolicy r27 p1 p2).bind fun (r32 : Int × Bool) =>
    bif ((!decide (r32.1 = r23.1)) || (!(r32.2 == r23.2))) then
      some false
    else
      (m_laws_toPolicy p0).bind fun (r45 : Policy) =>
      (m_laws_eqPolicy r27 r45).bind fun (r46 : Bool) =>
      bif (!r46) then
        some false
      else
        some true

noncomputable def m_spec_l10Word_L0 (p0 : List Int) (s0 : Int) : Option (Ctl Int (Unit ⊕ Bool)) :=
  bif (decide (s0 < (p0.length : Int))) then
    (getI p0 s0).bind fun (x12 : Int) =>
    (m_spec_l10Event x12).bind fun (r14 : Bool) =>
    bif (!r14) then
      some (.out (.inr false))
    else
      some (.next (w64 (s0 + (1 : Int))))
  else
    some (.out (.inl ()))

noncomputable def m_spec_l10Word_A0 (p0 : List Int) (u0 : Unit ⊕ Bool) : Option Bool :=
  match u0 with
  | .inl u0 =>
    some (decide ((p0.length : Int) ≤ (40 : Int)))
  | .inr u0 =>
    some u0

noncomputable def m_spec_l10Word (p0 : List Int) : Option Bool :=
  (iter (m_spec_l10Word_L0 p0) (0 : Int)).bind fun (u0 : Unit ⊕ Bool) =>
  m_spec_l10Word_A0 p0 u0

noncomputable def m_spec_l10Run_L0 (p0 : Policy) (p2 : List Int) (s0 : Int × Int) : Option (Ctl (Int × Int) (Int ⊕ (Int × Int))) :=
  bif (decide (s0.2 < (p2.length : Int))) then
    (getI p0.Next s0.1).bind fun (x21 : List Int) =>
    (getI p2 s0.2).bind fun (x25 : Int) =>
    (getI x21 x25).bind fun (x27 : Int) =>
    bif (decide (x27 < (0 : Int))) then
      some (.out (.inr (s0.2, s0.1)))
    else
      some (.next (x27, (w64 (s0.2 + (1 : Int)))))
  else
    some (.out (.inl s0.1))

noncomputable def m_spec_l10Run_A0 (p2 : List Int) (u0 : Int ⊕ (Int × Int)) : Option (Int × Int) :=
  match u0 with
  | .inl u0 =>
    some ((p2.length : Int), u0)
  | .inr u0 =>
    some (u0.1, u0.2)

noncomputable def m_spec_l10Run (p0 : Policy) (p1 : Int) (p2 : List Int) : Option (Int × Int) :=
  (iter (m_spec_l10Run_L0 p0 p2) (p1, (0 : Int))).bind fun (u0 : Int ⊕ (Int × Int)) =>
  m_spec_l10Run_A0 p2 u0

noncomputable def m_spec_RunPolicy (p0 : Policy) (p1 : List Int) : Option (Int × Int × Bool) :=
  (m_spec_l10Is p0).bind fun (r9 : Bool) =>
  bif (!r9) then
    some ((0 : Int), (0 : Int), false)
  else
    (m_spec_l10Word p1).bind fun (r13 : Bool) =>
    bif (!r13) then
      some ((0 : Int), (0 : Int), false)
    else
      (m_spec_l10Run p0 (0 : Int) p1).bind fun (r18 : Int × Int) =>
      some (r18.1, r18.2, true)

noncomputable def m_impl_Policy_run_L0 (p0 : Policy) (n0 : Nat) (x0 : Int) (s0 : Int) : Option (Ctl Int (Int ⊕ (Int × Int))) :=
  (getI p0.Next s0).bind fun (x21 : List Int) =>
  (getI x21 x0).bind fun (x24 : Int) =>
  bif (decide (x24 < (0 : Int))) then
    some (.out (.inr ((n0 : Int), s0)))
  else
    some (.next x24)

noncomputable def m_impl_Policy_run_A0 (p2 : List Int) (u0 : Int ⊕ (Int × Int)) : Option (Int × Int) :=
  match u0 with
  | .inl u0 =>
    (m_impl_size (p2.length : Int)).bind fun (r34 : Int) =>
    some (r34, u0)
  | .inr u0 =>
    some (u0.1, u0.2)

noncomputable def m_impl_Policy_run (p0 : Policy) (p1 : Int) (p2 : List Int) : Option (Int × Int) :=
  (forL (m_impl_Policy_run_L0 p0) (fun s0 => (.inl s0)) 0 p2 p1).bind fun (u0 : Int ⊕ (Int × Int)) =>
  m_impl_Policy_run_A0 p2 u0

noncomputable def m_impl_RunPolicy (p0 : Policy) (p1 : List Int) : Option (Int × Int × Bool) :=
  (m_impl_ValidPolicy p0).bind fun (r10 : Bool) =>
  bif ((!r10) || (decide ((40 : Int) < (p1.length : Int)))) then
    some ((0 : Int), (0 : Int), false)
  else
    (m_impl_allWithin p1 (0 : Int) (3 : Int)).bind fun (r19 : Bool) =>
    bif (!r19) then
      some ((0 : Int), (0 : Int), false)
    else
      (m_impl_Policy_run p0 (0 : Int) p1).bind fun (r25 : Int × Int) =>
      some (r25.1, r25.2, true)

noncomputable def m_laws_FnExactRunPolicy (p0 : Policy) (p1 : List Int) : Option Bool :=
  bif (decide ((1048576 : Int) < (p1.length : Int))) then
    some true
  else
    (m_laws_szPolicy p0 (1048576 : Int)).bind fun (r19 : Int) =>
    bif (decide (r19 < (0 : Int))) then
      some true
    else
      (m_laws_toPolicy p0).bind fun (r24 : Policy) =>
      (m_laws_toInt64S p1).bind fun (r26 : List Int) =>
      (m_spec_RunPolicy r24 r26).bind fun (r27 : Int × Int × Bool) =>
      (m_laws_toPolicy p0).bind fun (r32 : Policy) =>
      (m_laws_toInt64S p1).bind fun (r34 : List Int) =>
      (m_impl_RunPolicy r32 r34).bind fun (r38 : Int × Int × Bool) =>
      bif (((!decide (r38.1 = r27.1)) || (!decide (r38.2.1 = r27.2.1))) || (!(r38.2.2 == r27.2.2))) then
        some false
      else
        (m_laws_toPolicy p0).bind fun (r57 : Policy) =>
        (m_laws_eqPolicy r32 r57).bind fun (r58 : Bool) =>
        bif (!r58) then
          some false
        else
          (m_laws_toInt64S p1).bind fun (r62 : List Int) =>
          (m_laws_eqInt64S r34 r62).bind fun (r63 : Bool) =>
          bif (!r63) then
            some false
          else
            some true

noncomputable def m_spec_l00Own (p0 : List Int) : Option (List Int) :=
  (capI (([] : List Int).length + p0.length) 8).bind fun (q5 : Unit) =>
  some (([] : List Int) ++ p0)

noncomputable def m_spec_l10Find_J1 (p1 : Policy) (s1 : (List Bool) × (List l10Pair) × Int) (x58 : Int) (x69 : Int) (r73 : List Int) (j1 : Bool) : Option (Ctl ((List Bool) × (List l10Pair) × Int) (((List Bool) × (List l10Pair)) ⊕ ((List Int) × Bool))) :=
  bif j1 then
    (getI s1.1 (w64 ((w64 (x58 * (p1.Next.length : Int))) + x69))).bind fun (x118 : Bool) =>
    (capI (s1.2.1.length + ([(l10Pair.mk x58 x69 (r73 ++ [s1.2.2]))]).length) 40).bind fun (q125 : Unit) =>
    some (.next ((s1.1.set (((w64 ((w64 (x58 * (p1.Next.length : Int))) + x69))).toNat) true), (s1.2.1 ++ [(l10Pair.mk x58 x69 (r73 ++ [s1.2.2]))]), (w64 (s1.2.2 + (1 : Int)))))
  else
    some (.next (s1.1, s1.2.1, (w64 (s1.2.2 + (1 : Int)))))

noncomputable def m_spec_l10Find_J0 (p1 : Policy) (s1 : (List Bool) × (List l10Pair) × Int) (x58 : Int) (x69 : Int) (r73 : List Int) (j0 : Bool × Bool × Bool × Bool) : Option (Ctl ((List Bool) × (List l10Pair) × Int) (((List Bool) × (List l10Pair)) ⊕ ((List Int) × Bool))) :=
  bif ((decide ((0 : Int) ≤ x58)) && (decide ((0 : Int) ≤ x69))) then
    (getI s1.1 (w64 ((w64 (x58 * (p1.Next.length : Int))) + x69))).bind fun (x108 : Bool) =>
    m_spec_l10Find_J1 p1 s1 x58 x69 r73 (!x108)
  else
    m_spec_l10Find_J1 p1 s1 x58 x69 r73 false

noncomputable def m_spec_l10Find_L1 (p0 : Policy) (p1 : Policy) (p2 : Bool) (x43 : l10Pair) (s1 : (List Bool) × (List l10Pair) × Int) : Option (Ctl ((List Bool) × (List l10Pair) × Int) (((List Bool) × (List l10Pair)) ⊕ ((List Int) × Bool))) :=
  bif (decide (s1.2.2 < (4 : Int))) then
    (getI p0.Next x43.a).bind fun (x55 : List Int) =>
    (getI x55 s1.2.2).bind fun (x58 : Int) =>
    (getI p1.Next x43.b).bind fun (x66 : List Int) =>
    (getI x66 s1.2.2).bind fun (x69 : Int) =>
    (m_spec_l00Own x43.word).bind fun (r73 : List Int) =>
    (capI (r73.length + [s1.2.2].length) 8).bind fun (q76 : Unit) =>
    bif ((decide ((0 : Int) ≤ x58)) && (decide (x69 < (0 : Int)))) then
      some (.out (.inr ((r73 ++ [s1.2.2]), true)))
    else
      bif p2 then
        bif (decide (x58 < (0 : Int))) then
          bif (decide ((0 : Int) ≤ x69)) then
            some (.out (.inr ((r73 ++ [s1.2.2]), true)))
          else
            m_spec_l10Find_J0 p1 s1 x58 x69 r73 (true, (decide (x58 < (0 : Int))), true, (decide ((0 : Int) ≤ x69)))
        else
          m_spec_l10Find_J0 p1 s1 x58 x69 r73 (true, (decide (x58 < (0 : Int))), false, false)
      else
        m_spec_l10Find_J0 p1 s1 x58 x69 r73 (false, false, false, false)
  else
    some (.out (.inl (s1.1, s1.2.1)))

noncomputable def m_spec_l10Find_A1 (s0 : (List Bool) × (List l10Pair) × Int) (u1 : ((List Bool) × (List l10Pair)) ⊕ ((List Int) × Bool)) : Option (Ctl ((List Bool) × (List l10Pair) × Int) (Unit ⊕ ((List Int) × Bool))) :=
  match u1 with
  | .inl u1 =>
    some (.next (u1.1, u1.2, (w64 (s0.2.2 + (1 : Int)))))
  | .inr u1 =>
    some (.out (.inr (u1.1, u1.2)))

noncomputable def m_spec_l10Find_L0 (p0 : Policy) (p1 : Policy) (p2 : Bool) (s0 : (List Bool) × (List l10Pair) × Int) : Option (Ctl ((List Bool) × (List l10Pair) × Int) (Unit ⊕ ((List Int) × Bool))) :=
  bif (decide (s0.2.2 < (s0.2.1.length : Int))) then
    (getI s0.2.1 s0.2.2).bind fun (x43 : l10Pair) =>
    (iter (m_spec_l10Find_L1 p0 p1 p2 x43) (s0.1, s0.2.1, (0 : Int))).bind fun (u1 : ((List Bool) × (List l10Pair)) ⊕ ((List Int) × Bool)) =>
    m_spec_l10Find_A1 s0 u1
  else
    some (.out (.inl ()))

noncomputable def m_spec_l10Find_A0 (u0 : Unit ⊕ ((List Int) × Bool)) : Option ((List Int) × Bool) :=
  match u0 with
  | .inl u0 =>
    some (([] : List Int), false)
  | .inr u0 =>
    some (u0.1, u0.2)

noncomputable def m_spec_l10Find (p0 : Policy) (p1 : Policy) (p2 : Bool) : Option ((List Int) × Bool) :=
  (makeI (w64 ((p0.Next.length : Int) * (p1.Next.length : Int))) 1).bind fun (k29 : Nat) =>
  (getI (List.replicate k29 false) (0 : Int)).bind fun (x34 : Bool) =>
  (iter (m_spec_l10Find_L0 p0 p1 p2) (((List.replicate k29 false).set (((0 : Int)).toNat) true), [(l10Pair.mk (0 : Int) (0 : Int) ([] : List Int))], (0 : Int))).bind fun (u0 : Unit ⊕ ((List Int) × Bool)) =>
  m_spec_l10Find_A0 u0

noncomputable def m_spec_IsStricter (p0 : Policy) (p1 : Policy) : Option Bool :=
  (m_spec_l10Is p0).bind fun (r7 : Bool) =>
  bif (!r7) then
    some false
  else
    (m_spec_l10Is p1).bind fun (r10 : Bool) =>
    bif (!r10) then
      some false
    else
      (m_spec_l10Find p0 p1 false).bind fun (r14 : (List Int) × Bool) =>
      some (!r14.2)

noncomputable def m_spec_DifferenceOf (p0 : Policy) (p1 : Policy) : Option ((List Int) × Bool) :=
  (m_spec_l10Is p0).bind fun (r8 : Bool) =>
  bif (!r8) then
    some (([] : List Int), false)
  else
    (m_spec_l10Is p1).bind fun (r11 : Bool) =>
    bif (!r11) then
      some (([] : List Int), false)
    else
      (m_spec_l10Find p0 p1 true).bind fun (r15 : (List Int) × Bool) =>
      bif ((!r15.2) || (decide ((40 : Int) < (r15.1.length : Int)))) then
        some (([] : List Int), false)
      else
        some (r15.1, true)

noncomputable def m_spec_l00Has_L0 (p0 : List Int) (p1 : Int) (s0 : Int) : Option (Ctl Int (Unit ⊕ Bool)) :=
  bif (decide (s0 < (p0.length : Int))) then
    (getI p0 s0).bind fun (x14 : Int) =>
    bif (decide (x14 = p1)) then
      some (.out (.inr true))
    else
      some (.next (w64 (s0 + (1 : Int))))
  else
    some (.out (.inl ()))

noncomputable def m_spec_l00Has_A0 (u0 : Unit ⊕ Bool) : Option Bool :=
  match u0 with
  | .inl u0 =>
    some false
  | .inr u0 =>
    some u0

noncomputable def m_spec_l00Has (p0 : List Int) (p1 : Int) : Option Bool :=
  (iter (m_spec_l00Has_L0 p0 p1) (0 : Int)).bind fun (u0 : Unit ⊕ Bool) =>
  m_spec_l00Has_A0 u0

noncomputable def m_spec_l10Order_J0 (s1 : (List Int) × Int) (x29 : Int) (j0 : Bool) : Option (Ctl ((List Int) × Int) ((List Int))) :=
  bif j0 then
    (capI (s1.1.length + [x29].length) 8).bind fun (q42 : Unit) =>
    some (.next ((s1.1 ++ [x29]), (w64 (s1.2 + (1 : Int)))))
  else
    some (.next (s1.1, (w64 (s1.2 + (1 : Int)))))

noncomputable def m_spec_l10Order_L1 (p0 : Policy) (s0 : (List Int) × Int) (s1 : (List Int) × Int) : Option (Ctl ((List Int) × Int) ((List Int))) :=
  bif (decide (s1.2 < (4 : Int))) then
    (getI s1.1 s0.2).bind fun (x24 : Int) =>
    (getI p0.Next x24).bind fun (x26 : List Int) =>
    (getI x26 s1.2).bind fun (x29 : Int) =>
    bif (decide ((0 : Int) ≤ x29)) then
      (m_spec_l00Has s1.1 x29).bind fun (r36 : Bool) =>
      m_spec_l10Order_J0 s1 x29 (!r36)
    else
      m_spec_l10Order_J0 s1 x29 false
  else
    some (.out s1.1)

noncomputable def m_spec_l10Order_A1 (s0 : (List Int) × Int) (u1 : (List Int)) : Option (Ctl ((List Int) × Int) ((List Int))) :=
  some (.next (u1, (w64 (s0.2 + (1 : Int)))))

noncomputable def m_spec_l10Order_L0 (p0 : Policy) (s0 : (List Int) × Int) : Option (Ctl ((List Int) × Int) ((List Int))) :=
  bif (decide (s0.2 < (s0.1.length : Int))) then
    (iter (m_spec_l10Order_L1 p0 s0) (s0.1, (0 : Int))).bind fun (u1 : (List Int)) =>
    m_spec_l10Order_A1 s0 u1
  else
    some (.out s0.1)

noncomputable def m_spec_l10Order_A0 (u0 : (List Int)) : Option (List Int) :=
  some u0

noncomputable def m_spec_l10Order (p0 : Policy) : Option (List Int) :=
  (iter (m_spec_l10Order_L0 p0) ([(0 : Int)], (0 : Int))).bind fun (u0 : (List Int)) =>
  m_spec_l10Order_A0 u0

noncomputable def m_spec_l00Put_J0 (p0 : List Int) (s0 : (List Int) × Bool × Int) (j0 : (List Int) × Bool) : Option (Ctl ((List Int) × Bool × Int) (((List Int) × Bool))) :=
  (getI p0 s0.2.2).bind fun (x38 : Int) =>
  (capI (j0.1.length + [x38].length) 8).bind fun (q41 : Unit) =>
  some (.next ((j0.1 ++ [x38]), j0.2, (w64 (s0.2.2 + (1 : Int)))))

noncomputable def m_spec_l00Put_J1 (p0 : List Int) (p1 : Int) (s0 : (List Int) × Bool × Int) (j1 : Bool) : Option (Ctl ((List Int) × Bool × Int) (((List Int) × Bool))) :=
  bif j1 then
    (getI p0 s0.2.2).bind fun (x27 : Int) =>
    bif (decide (p1 < x27)) then
      (capI (s0.1.length + [p1].length) 8).bind fun (q34 : Unit) =>
      m_spec_l00Put_J0 p0 s0 ((s0.1 ++ [p1]), true)
    else
      m_spec_l00Put_J0 p0 s0 (s0.1, true)
  else
    m_spec_l00Put_J0 p0 s0 (s0.1, s0.2.1)

noncomputable def m_spec_l00Put_L0 (p0 : List Int) (p1 : Int) (s0 : (List Int) × Bool × Int) : Option (Ctl ((List Int) × Bool × Int) (((List Int) × Bool))) :=
  bif (decide (s0.2.2 < (p0.length : Int))) then
    bif (!s0.2.1) then
      (getI p0 s0.2.2).bind fun (x20 : Int) =>
      m_spec_l00Put_J1 p0 p1 s0 (decide (p1 ≤ x20))
    else
      m_spec_l00Put_J1 p0 p1 s0 false
  else
    some (.out (s0.1, s0.2.1))

noncomputable def m_spec_l00Put_A0 (p1 : Int) (u0 : ((List Int) × Bool)) : Option (List Int) :=
  bif (!u0.2) then
    (capI (u0.1.length + [p1].length) 8).bind fun (q47 : Unit) =>
    some (u0.1 ++ [p1])
  else
    some u0.1

noncomputable def m_spec_l00Put (p0 : List Int) (p1 : Int) : Option (List Int) :=
  (iter (m_spec_l00Put_L0 p0 p1) (([] : List Int), false, (0 : Int))).bind fun (u0 : ((List Int) × Bool)) =>
  m_spec_l00Put_A0 p1 u0

noncomputable def m_spec_ReachedStates_L0 (r10 : List Int) (s0 : (List Int) × Int) : Option (Ctl ((List Int) × Int) ((List Int))) :=
  bif (decide (s0.2 < (r10.length : Int))) then
    (getI r10 s0.2).bind fun (x20 : Int) =>
    (m_spec_l00Put s0.1 x20).bind fun (r22 : List Int) =>
    some (.next (r22, (w64 (s0.2 + (1 : Int)))))
  else
    some (.out s0.1)

noncomputable def m_spec_ReachedStates_A0 (u0 : (List Int)) : Option ((List Int) × Bool) :=
  some (u0, true)

noncomputable def m_spec_ReachedStates (p0 : Policy) : Option ((List Int) × Bool) :=
  (m_spec_l10Is p0).bind fun (r7 : Bool) =>
  bif (!r7) then
    some (([] : List Int), false)
  else
    (m_spec_l10Order p0).bind fun (r10 : List Int) =>
    (iter (m_spec_ReachedStates_L0 r10) (([] : List Int), (0 : Int))).bind fun (u0 : (List Int)) =>
    m_spec_ReachedStates_A0 u0

noncomputable def m_impl_indices_L0 (n0 : Nat) (x0 : Bool) (s0 : List Int) : Option (Ctl (List Int) ((List Int))) :=
  bif x0 then
    (capI (s0.length + [(n0 : Int)].length) 8).bind fun (q17 : Unit) =>
    some (.next (s0 ++ [(n0 : Int)]))
  else
    some (.next s0)

noncomputable def m_impl_indices_A0 (u0 : (List Int)) : Option (List Int) :=
  some u0

noncomputable def m_impl_indices (p0 : List Bool) : Option (List Int) :=
  (forL (m_impl_indices_L0) (fun s0 => s0) 0 p0 ([] : List Int)).bind fun (u0 : (List Int)) =>
  m_impl_indices_A0 u0

noncomputable def m_impl_ReachedStates_L2 (n1 : Nat) (n2 : Nat) (x2 : Int) (s2 : List Bool) : Option (Ctl (List Bool) ((List Bool))) :=
  (getI s2 (n1 : Int)).bind fun (x39 : Bool) =>
  bif (x39 && (decide ((0 : Int) ≤ x2))) then
    (getI s2 x2).bind fun (x47 : Bool) =>
    some (.next (s2.set ((x2).toNat) true))
  else
    some (.next s2)

noncomputable def m_impl_ReachedStates_A2 (u2 : (List Bool)) : Option (Ctl (List Bool) ((List Bool))) :=
  some (.next u2)

noncomputable def m_impl_ReachedStates_L1 (n1 : Nat) (x1 : List Int) (s1 : List Bool) : Option (Ctl (List Bool) ((List Bool))) :=
  (forL (m_impl_ReachedStates_L2 n1) (fun s2 => s2) 0 x1 s1).bind fun (u2 : (List Bool)) =>
  m_impl_ReachedStates_A2 u2

noncomputable def m_impl_ReachedStates_A1 (u1 : (List Bool)) : Option (Ctl (List Bool) ((List Bool))) :=
  some (.next u1)

noncomputable def m_impl_ReachedStates_L0 (p0 : Policy) (n0 : Nat) (x0 : List Int) (s0 : List Bool) : Option (Ctl (List Bool) ((List Bool))) :=
  (forL (m_impl_ReachedStates_L1) (fun s1 => s1) 0 p0.Next s0).bind fun (u1 : (List Bool)) =>
  m_impl_ReachedStates_A1 u1

noncomputable def m_impl_ReachedStates_A0 (u0 : (List Bool)) : Option ((List Int) × Bool) :=
  (m_impl_indices u0).bind fun (r52 : List Int) =>
  some (r52, true)

noncomputable def m_impl_ReachedStates (p0 : Policy) : Option ((List Int) × Bool) :=
  (m_impl_ValidPolicy p0).bind fun (r10 : Bool) =>
  bif (!r10) then
    some (([] : List Int), false)
  else
    (makeI (p0.Next.length : Int) 1).bind fun (k15 : Nat) =>
    (getI (List.replicate k15 false) (0 : Int)).bind fun (x17 : Bool) =>
    (forL (m_impl_ReachedStates_L0 p0) (fun s0 => s0) 0 p0.Next ((List.replicate k15 false).set (((0 : Int)).toNat) true)).bind fun (u0 : (List Bool)) =>
    m_impl_ReachedStates_A0 u0

noncomputable def m_laws_markInt64S_L0 (s0 : (List Int) × Int × Int) : Option (Ctl ((List Int) × Int × Int) ((Int × (List Int)))) :=
  bif (decide (s0.2.2 < (s0.1.length : Int))) then
    (getI s0.1 s0.2.2).bind fun (x15 : Int) =>
    some (.next ((s0.1.set ((s0.2.2).toNat) s0.2.1), (w64 (s0.2.1 + (1 : Int))), (w64 (s0.2.2 + (1 : Int)))))
  else
    some (.out (s0.2.1, s0.1))

noncomputable def m_laws_markInt64S_A0 (u0 : (Int × (List Int))) : Option (Int × (List Int)) :=
  some (u0.1, u0.2)

noncomputable def m_laws_markInt64S (p0 : List Int) (p1 : Int) : Option (Int × (List Int)) :=
  (iter (m_laws_markInt64S_L0) (p0, p1, (0 : Int))).bind fun (u0 : (Int × (List Int))) =>
  m_laws_markInt64S_A0 u0

noncomputable def m_laws_markInt64SS_L0 (s0 : (List (List Int)) × Int × Int) : Option (Ctl ((List (List Int)) × Int × Int) ((Int × (List (List Int))))) :=
  bif (decide (s0.2.2 < (s0.1.length : Int))) then
    (getI s0.1 s0.2.2).bind fun (x14 : List Int) =>
    (m_laws_markInt64S x14 s0.2.1).bind fun (r17 : Int × (List Int)) =>
    some (.next ((s0.1.set ((s0.2.2).toNat) r17.2), r17.1, (w64 (s0.2.2 + (1 : Int)))))
  else
    some (.out (s0.2.1, s0.1))

noncomputable def m_laws_markInt64SS_A0 (u0 : (Int × (List (List Int)))) : Option (Int × (List (List Int))) :=
  some (u0.1, u0.2)

noncomputable def m_laws_markInt64SS (p0 : List (List Int)) (p1 : Int) : Option (Int × (List (List Int))) :=
  (iter (m_laws_markInt64SS_L0) (p0, p1, (0 : Int))).bind fun (u0 : (Int × (List (List Int)))) =>
  m_laws_markInt64SS_A0 u0

noncomputable def m_laws_markPolicy (p0 : Policy) (p1 : Int) : Option (Int × (List (List Int))) :=
  (m_laws_markInt64SS p0.Next p1).bind fun (r8 : Int × (List (List Int))) =>
  some (r8.1, r8.2)

noncomputable def m_laws_heldInt64S_L0 (p0 : List Int) (s0 : Int × Int) : Option (Ctl (Int × Int) (Int ⊕ Int)) :=
  bif (decide (s0.2 < (p0.length : Int))) then
    (getI p0 s0.2).bind fun (x14 : Int) =>
    bif (!decide (x14 = s0.1)) then
      some (.out (.inr (-1 : Int)))
    else
      some (.next ((w64 (s0.1 + (1 : Int))), (w64 (s0.2 + (1 : Int)))))
  else
    some (.out (.inl s0.1))

noncomputable def m_laws_heldInt64S_A0 (u0 : Int ⊕ Int) : Option Int :=
  match u0 with
  | .inl u0 =>
    some u0
  | .inr u0 =>
    some u0

noncomputable def m_laws_heldInt64S (p0 : List Int) (p1 : Int) : Option Int :=
  (iter (m_laws_heldInt64S_L0 p0) (p1, (0 : Int))).bind fun (u0 : Int ⊕ Int) =>
  m_laws_heldInt64S_A0 u0

noncomputable def m_laws_FnExactReachedStates (p0 : Policy) : Option Bool :=
  (m_laws_szPolicy p0 (1048576 : Int)).bind fun (r16 : Int) =>
  bif (decide (r16 < (0 : Int))) then
    some true
  else
    (m_laws_toPolicy p0).bind fun (r21 : Policy) =>
    (m_spec_ReachedStates r21).bind fun (r22 : (List Int) × Bool) =>
    (m_laws_toPolicy p0).bind fun (r26 : Policy) =>
    (m_impl_ReachedStates r26).bind fun (r29 : (List Int) × Bool) =>
    (m_laws_eqInt64S r29.1 r22.1).bind fun (r34 : Bool) =>
    bif ((!r34) || (!(r29.2 == r22.2))) then
      some false
    else
      (m_laws_toPolicy p0).bind fun (r43 : Policy) =>
      (m_laws_eqPolicy r26 r43).bind fun (r44 : Bool) =>
      bif (!r44) then
        some false
      else
        (m_laws_markPolicy r26 (1 : Int)).bind fun (r48 : Int × (List (List Int))) =>
        bif (decide (r48.1 < (0 : Int))) then
          some false
        else
          (m_laws_eqInt64S r29.1 r22.1).bind fun (r54 : Bool) =>
          bif ((!r54) || (!(r29.2 == r22.2))) then
            some false
          else
            (m_laws_markInt64S r29.1 (1 : Int)).bind fun (r64 : Int × (List Int)) =>
            (m_laws_heldInt64S r64.2 (1 : Int)).bind fun (r67 : Int) =>
            bif (decide (r67 < (0 : Int))) then
              some false
            else
              bif (!decide (r67 = r64.1)) then
                some false
              else
                (m_laws_toPolicy p0).bind fun (r75 : Policy) =>
                (m_impl_ReachedStates r75).bind fun (r76 : (List Int) × Bool) =>
                (m_laws_eqInt64S r76.1 r22.1).bind fun (r81 : Bool) =>
                bif ((!r81) || (!(r76.2 == r22.2))) then
                  some false
                else
                  (m_laws_heldInt64S r64.2 (1 : Int)).bind fun (r90 : Int) =>
                  bif (decide (r90 < (0 : Int))) then
                    some false
                  else
                    bif (!decide (r90 = r64.1)) then
                      some false
                    else
                      some true
end Go.Mod

/- Lists of numbers: sizes, copies, comparisons, marks. Plain Lean. -/
namespace Go.Mod
open Go.AM
set_option linter.unusedVariables false

/-! ### Lists of numbers -/
theorem sz_ints {xs : List Int} (hl : xs.length ≤ 9223372036854775807) : SzP m_laws_szInt64S List.length xs := fun _ hb => sz_flat hl hb
theorem to_ints {xs : List Int} (hl : xs.length ≤ 1048576) : m_laws_toInt64S xs = some xs := by
  unfold m_laws_toInt64S
  rw [makeI_some (by omega), Option.bind_some, iter_to (xs := xs) (z := 0) (cp := some)
    (fun n x ys hx => by unfold m_laws_toInt64S_L0; rw [dec_lt (get_lt hx), cond_true, getI_some hx]; rfl)
    (fun ys => by unfold m_laws_toInt64S_L0; rw [dec_self]; rfl) hl (fun _ _ => rfl)]
  rfl
theorem eq_ints {xs ys : List Int} (hl : xs.length ≤ 9223372036854775807) : m_laws_eqInt64S xs ys = some (decide (xs = ys)) := by
  unfold m_laws_eqInt64S
  by_cases h : xs.length = ys.length
  · rw [decide_eq_true (by omega), Bool.not_true, cond_false, iter_eq (xs := xs) (ys := ys) (eq := fun x y => some (decide (x = y)))
      (fun n x y hx hy => by unfold m_laws_eqInt64S_L0; rw [dec_lt (get_lt hx), cond_true, getI_some hx, getI_some hy]; rfl)
      (by unfold m_laws_eqInt64S_L0; rw [dec_self]; rfl) hl h (fun _ _ _ => rfl)]
    by_cases e : xs = ys
    · rw [if_pos e, decide_eq_true e]; rfl
    · rw [if_neg e, decide_eq_false e]; rfl
  · rw [decide_eq_false (by omega), decide_eq_false (fun e => h (by rw [e]))]; rfl
theorem sum_one {α : Type} (xs : List α) : (xs.map fun _ => 1).sum = xs.length := by
  induction xs with
  | nil => rfl
  | cons x r ih => simp only [List.map_cons, List.sum_cons, List.length_cons, ih]; omega
def heldI (x k : Int) : Option Int := some (bif !decide (x = k) then -1 else w64 (k + 1))
def markI (_x k : Int) : Option (Int × Int) := some (w64 (k + 1), k)
theorem mk_I (x : Int) : MkP markI heldI (fun _ => 1) x := fun k hk => by
  have h : w64 ((k : Int) + 1) = ((k + 1 : Nat) : Int) := w64_succ (by omega)
  refine ⟨k, ?_, ?_⟩
  · unfold markI; rw [h]
  · unfold heldI; rw [decide_eq_true (rfl : (k : Int) = k), Bool.not_true, cond_false, h]
theorem mk_ints' {xs : List Int} {k : Nat} (hk : k + xs.length ≤ 4611686018427387904) :
    ∃ xs', m_laws_markInt64S xs k = some (((k + xs.length : Nat) : Int), xs') ∧ m_laws_heldInt64S xs' k = some ((k + xs.length : Nat) : Int) := by
  obtain ⟨xs', h1, h2, h3⟩ := iter_mark (xs := xs) (m := fun _ => 1) (mk := markI) (held := heldI)
    (step := m_laws_markInt64S_L0) (hstep := m_laws_heldInt64S_L0)
    (fun n ys x k hk hx => by unfold m_laws_markInt64S_L0; rw [dec_lt (get_lt hx), cond_true, getI_some hx]; rfl)
    (fun ys k => by unfold m_laws_markInt64S_L0; rw [dec_self]; rfl)
    (fun n ys x k hk hx => by
      unfold m_laws_heldInt64S_L0 heldI; rw [dec_lt (get_lt hx), cond_true, getI_some hx, Option.bind_some, Option.bind_some]
      have h2 : w64 ((k : Int) + 1) = ((k + 1 : Nat) : Int) := w64_succ (by omega)
      by_cases h : x = k
      · rw [decide_eq_true h, Bool.not_true, cond_false, cond_false, h2, decide_eq_false (by omega), cond_false]
      · rw [decide_eq_false h, Bool.not_false, cond_true, cond_true, decide_eq_true (by decide), cond_true])
    (fun ys k => by unfold m_laws_heldInt64S_L0; rw [dec_self]; rfl)
    (by omega) (fun x _ => mk_I x) (k := k) (by rw [sum_one]; omega)
  rw [sum_one] at h1 h3
  exact ⟨xs', by unfold m_laws_markInt64S; rw [h1]; rfl, by unfold m_laws_heldInt64S; rw [h3]; rfl⟩
/-- Marks that nobody looks for again. -/
theorem iter_mark0 {α : Type} {xs : List α} {m : α → Nat} {mk : α → Int → Option (Int × α)} {step : List α × Int × Int → Option (Ctl (List α × Int × Int) (Int × List α))}
    (hs : ∀ (n : Nat) ys x (k : Nat), k ≤ 4611686018427387904 → ys[n]? = some x → step (ys, (k : Int), (n : Int)) = (mk x k).bind fun r => some (.next (ys.set n r.2, r.1, w64 ((n : Int) + 1))))
    (he : ∀ ys k, step (ys, k, (ys.length : Int)) = some (.out (k, ys))) (hl : xs.length ≤ 9223372036854775807)
    (hm : ∀ x ∈ xs, ∀ k : Nat, k + m x ≤ 4611686018427387904 → ∃ x', mk x k = some (((k + m x : Nat) : Int), x')) {k : Nat} (hk : k + (xs.map m).sum ≤ 4611686018427387904) :
    ∃ xs', iter step (xs, (k : Int), 0) = some (((k + (xs.map m).sum : Nat) : Int), xs') := by
  have key : ∀ (q n : Nat) (ys : List α) (k : Nat), n + q = xs.length → ys.length = xs.length → ys.drop n = xs.drop n → k + ((xs.drop n).map m).sum ≤ 4611686018427387904 →
      ∃ xs', iter step (ys, (k : Int), (n : Int)) = some (((k + ((xs.drop n).map m).sum : Nat) : Int), xs') := by
    intro q
    induction q with
    | zero =>
      intro n ys k hn hy _ hk
      obtain rfl : n = xs.length := by omega
      have h1 := he ys k
      rw [hy] at h1
      exact ⟨ys, by rw [iter_out h1]; simp⟩
    | succ q ih =>
      intro n ys k hn hy hd hk
      have hlt : n < xs.length := by omega
      have hyn : ys[n]? = some xs[n] := by
        have := congrArg (fun l => l[0]?) hd
        simpa [List.getElem?_drop, hlt] using this
      rw [List.drop_eq_getElem_cons hlt] at hk ⊢
      simp only [List.map_cons, List.sum_cons] at hk ⊢
      obtain ⟨x', m1⟩ := hm _ (List.getElem_mem hlt) k (by omega)
      have h := hs n ys _ k (by omega) hyn
      rw [m1, Option.bind_some, w64_succ (by omega)] at h
      obtain ⟨xs', e1⟩ := ih (n + 1) (ys.set n x') (k + m xs[n]) (by omega) (by simpa using hy)
        (by
          have := congrArg (fun l => l.drop 1) hd
          simp only [List.drop_drop] at this
          rw [List.drop_set_of_lt (by omega)]; exact this) (by omega)
      exact ⟨xs', by rw [iter_next h, e1]; congr 2; omega⟩
  obtain ⟨xs', e1⟩ := key xs.length 0 xs k (by omega) rfl rfl (by simpa using hk)
  exact ⟨xs', by simpa using e1⟩
theorem mem_sum {α : Type} {c : α → Nat} {xs : List α} {x : α} (h : x ∈ xs) : c x ≤ (xs.map c).sum := by
  induction xs with
  | nil => cases h
  | cons y r ih =>
    simp only [List.map_cons, List.sum_cons]
    rcases List.mem_cons.1 h with rfl | h
    · omega
    · have := ih h; omega
end Go.Mod

/- Policies: sizes, copies, comparisons, marks, validity. Plain Lean. -/
namespace Go.Mod
open Go.AM
set_option linter.unusedVariables false
set_option linter.unusedSimpArgs false

def cLL (xs : List (List Int)) : Nat := xs.length + (xs.map List.length).sum
theorem cLL_mem {xs : List (List Int)} {x : List Int} (h : x ∈ xs) : x.length ≤ cLL xs := by have := mem_sum (c := List.length) h; unfold cLL; omega
theorem sz_LL {xs : List (List Int)} (k : kLaLa_i64 xs) : SzP m_laws_szInt64SS cLL xs := fun b hb => by
  unfold m_laws_szInt64SS cLL
  rw [szW k.1 hb]
  by_cases h : xs.length ≤ b
  · rw [decide_eq_false (by omega), cond_false, show (b : Int) - (xs.length : Int) = ((b - xs.length : Nat) : Int) by omega,
      iter_sz (xs := xs) (c := List.length) (sz := m_laws_szInt64S)
        (fun n x b hx => by unfold m_laws_szInt64SS_L0; rw [dec_lt (get_lt hx), cond_true, getI_some hx]; rfl)
        (fun b => by unfold m_laws_szInt64SS_L0; rw [dec_self]; rfl) k.1 (fun x hx => sz_ints (k.2 x hx).1) (by omega), Option.bind_some]
    by_cases h2 : (xs.map List.length).sum ≤ b - xs.length
    · rw [if_pos h2, szOut_ok (by omega)]
      unfold m_laws_szInt64SS_A0; simp only; congr 2; omega
    · rw [if_neg h2, szOut_no (by omega)]; rfl
  · rw [decide_eq_true (by omega), szOut_no (by omega)]; rfl
theorem to_LL {xs : List (List Int)} (hl : cLL xs ≤ 1048576) : m_laws_toInt64SS xs = some xs := by
  have hlen : xs.length ≤ 1048576 := by unfold cLL at hl; omega
  unfold m_laws_toInt64SS
  rw [makeI_some (by omega), Option.bind_some, iter_to (xs := xs) (z := []) (cp := m_laws_toInt64S)
    (fun n x ys hx => by unfold m_laws_toInt64SS_L0; rw [dec_lt (get_lt hx), cond_true, getI_some hx]; rfl)
    (fun ys => by unfold m_laws_toInt64SS_L0; rw [dec_self]; rfl) hlen (fun x hx => to_ints (by have := cLL_mem hx; omega))]
  rfl
theorem eq_LL {xs ys : List (List Int)} (hl : cLL xs ≤ 1048576) : m_laws_eqInt64SS xs ys = some (decide (xs = ys)) := by
  have hlen : xs.length ≤ 1048576 := by unfold cLL at hl; omega
  unfold m_laws_eqInt64SS
  by_cases h : xs.length = ys.length
  · rw [decide_eq_true (by omega), Bool.not_true, cond_false, iter_eq (xs := xs) (ys := ys) (eq := m_laws_eqInt64S)
      (fun n x y hx hy => by unfold m_laws_eqInt64SS_L0; rw [dec_lt (get_lt hx), cond_true, getI_some hx, getI_some hy]; rfl)
      (by unfold m_laws_eqInt64SS_L0; rw [dec_self]; rfl) (by omega) h (fun x hx y => eq_ints (by have := cLL_mem hx; omega))]
    by_cases e : xs = ys
    · rw [if_pos e, decide_eq_true e]; rfl
    · rw [if_neg e, decide_eq_false e]; rfl
  · rw [decide_eq_false (by omega), decide_eq_false (fun e => h (by rw [e]))]; rfl
theorem mk_LL {xs : List (List Int)} {k : Nat} (hk : k + (xs.map List.length).sum ≤ 4611686018427387904) (hl : xs.length ≤ 1048576) :
    ∃ xs', m_laws_markInt64SS xs k = some (((k + (xs.map List.length).sum : Nat) : Int), xs') := by
  obtain ⟨xs', h⟩ := iter_mark0 (xs := xs) (m := List.length) (mk := m_laws_markInt64S) (step := m_laws_markInt64SS_L0)
    (fun n ys x k hk hx => by unfold m_laws_markInt64SS_L0; simp only; rw [dec_lt (get_lt hx), cond_true, getI_some hx]; rfl)
    (fun ys k => by unfold m_laws_markInt64SS_L0; simp only; rw [dec_self]; rfl) (by omega)
    (fun x hx k hk => by obtain ⟨x', h1, _⟩ := mk_ints' hk; exact ⟨x', h1⟩) hk
  exact ⟨xs', by unfold m_laws_markInt64SS; rw [h]; rfl⟩
def cPol (p : Policy) : Nat := cLL p.Next
theorem sz_Pol {p : Policy} (k : k_Policy p) : SzP m_laws_szPolicy cPol p := fun b hb => by
  unfold m_laws_szPolicy
  rw [sz_LL k b hb, Option.bind_some]
  by_cases h : cLL p.Next ≤ b
  · rw [show szOut (cPol p) b = _ from szOut_ok h, szOut_ok h, dec_neg]; rfl
  · rw [show szOut (cPol p) b = _ from szOut_no h, szOut_no h]; rfl
theorem to_Pol {p : Policy} (hl : cPol p ≤ 1048576) : m_laws_toPolicy p = some p := by
  unfold m_laws_toPolicy; rw [to_LL hl]; rfl
theorem eq_Pol {x y : Policy} (hl : cPol x ≤ 1048576) : m_laws_eqPolicy x y = some (decide (x = y)) := by
  unfold m_laws_eqPolicy
  unfold cPol at hl
  rw [eq_LL hl]
  obtain ⟨a⟩ := x
  obtain ⟨b⟩ := y
  by_cases h1 : a = b <;> simp [h1]
theorem mk_Pol {p : Policy} {k : Nat} (hk : k ≤ 1000000) (hl : cPol p ≤ 1048576) : ∃ r, m_laws_markPolicy p k = some (((k + (p.Next.map List.length).sum : Nat) : Int), r) := by
  unfold cPol cLL at hl
  obtain ⟨r, h⟩ := mk_LL (xs := p.Next) (k := k) (by omega) (by omega)
  exact ⟨r, by unfold m_laws_markPolicy; rw [h]; rfl⟩

/-! ### Validity -/
def rowOK (n : Nat) (x : List Int) : Bool := decide (x.length = 4) && x.all fun v => decide (-1 ≤ v) && decide (v ≤ (n : Int) - 1)
def vP (p : Policy) : Bool := (decide (1 ≤ p.Next.length) && decide (p.Next.length ≤ 12)) && p.Next.all (rowOK p.Next.length)
theorem vP_len {p : Policy} (h : vP p = true) : 1 ≤ p.Next.length ∧ p.Next.length ≤ 12 := by simp [vP] at h; omega
theorem vP_row {p : Policy} (h : vP p = true) {x : List Int} (hx : x ∈ p.Next) : x.length = 4 ∧ ∀ v ∈ x, -1 ≤ v ∧ v ≤ (p.Next.length : Int) - 1 := by
  simp only [vP, Bool.and_eq_true, List.all_eq_true] at h
  have := h.2 x hx
  simp only [rowOK, Bool.and_eq_true, decide_eq_true_eq, List.all_eq_true] at this
  exact this
theorem dec_leI {a : Nat} : decide ((1 : Int) ≤ (a : Int)) = decide (1 ≤ a) := by by_cases h : 1 ≤ a <;> simp [h] <;> omega
theorem dec_le12 {a : Nat} : decide ((a : Int) ≤ 12) = decide (a ≤ 12) := by by_cases h : a ≤ 12 <;> simp [h] <;> omega
theorem spec_row {p : Policy} {x : List Int} (hx : x.length = 4) (hn : p.Next.length ≤ 12) (h1 : 1 ≤ p.Next.length) : iter (m_spec_l10Is_L1 p x) 0 = some (bif x.all fun v => decide (-1 ≤ v) && decide (v ≤ (p.Next.length : Int) - 1) then .inl () else .inr false) := by
  have h := iter_for (step := m_spec_l10Is_L1 p x) x (fun n (_ : Unit) => (n : Int)) (fun _ v _ => bif (decide (-1 ≤ v) && decide (v ≤ (p.Next.length : Int) - 1)) then some (.next ()) else some (.out (.inr false))) (fun _ => .inl ())
    (fun n v r hv => by
      have hlt := get_lt hv
      unfold m_spec_l10Is_L1
      rw [decide_eq_true (by omega), cond_true, getI_some hv, Option.bind_some, w64_eq (n := (p.Next.length : Int) - 1) (by omega)]
      unfold m_spec_l00In
      rw [Option.bind_some, w64_succ (by omega)]
      cases (decide (-1 ≤ v) && decide (v ≤ (p.Next.length : Int) - 1)) <;> rfl)
    (fun r => by unfold m_spec_l10Is_L1; rw [hx]; rfl) ()
  rw [forL_all (fun v => decide (-1 ≤ v) && decide (v ≤ (p.Next.length : Int) - 1)) _ _ (fun n x _ => rfl)] at h
  exact h
theorem spec_vP {p : Policy} (hl : cPol p ≤ 1048576) : m_spec_l10Is p = some (vP p) := by
  unfold m_spec_l10Is m_spec_l00In vP
  rw [Option.bind_some, dec_leI, dec_le12]
  cases h0 : decide (1 ≤ p.Next.length) && decide (p.Next.length ≤ 12) with
  | false => rfl
  | true =>
    simp only [Bool.and_eq_true, decide_eq_true_eq] at h0
    have h := iter_for (step := m_spec_l10Is_L0 p) p.Next (fun n (_ : Unit) => (n : Int)) (fun _ x _ => bif rowOK p.Next.length x then some (.next ()) else some (.out (.inr false))) (fun _ => .inl ())
      (fun n x r hx => by
        have hlt := get_lt hx
        unfold m_spec_l10Is_L0 rowOK
        rw [dec_lt hlt, cond_true, getI_some hx, Option.bind_some]
        by_cases h4 : x.length = 4
        · rw [decide_eq_true h4, decide_eq_true (show (x.length : Int) = 4 by omega), Bool.not_true, cond_false, spec_row h4 h0.2 h0.1, Bool.true_and, Option.bind_some]
          cases x.all fun v => decide (-1 ≤ v) && decide (v ≤ (p.Next.length : Int) - 1)
          · rfl
          · unfold m_spec_l10Is_A1
            simp only [cond_true]
            rw [w64_succ (by omega)]; rfl
        · rw [decide_eq_false h4, decide_eq_false (show ¬ (x.length : Int) = 4 by omega)]; rfl)
      (fun r => by unfold m_spec_l10Is_L0; rw [dec_self]; rfl) ()
    rw [forL_all (rowOK p.Next.length) _ _ (fun n x _ => rfl)] at h
    rw [Bool.not_true, cond_false, show (0 : Int) = ((0 : Nat) : Int) from rfl, h, Option.bind_some, Bool.true_and]
    cases p.Next.all (rowOK p.Next.length) <;> rfl
theorem impl_all {xs : List Int} {a b : Int} : m_impl_allWithin xs a b = some (xs.all fun x => decide (a ≤ x) && decide (x ≤ b)) := by
  unfold m_impl_allWithin
  rw [forL_all (fun x => decide (a ≤ x) && decide (x ≤ b)) (f := .inr false) xs 0 (fun n x _ => by
    unfold m_impl_allWithin_L0 m_impl_within
    rw [Option.bind_some]
    cases (decide (a ≤ x) && decide (x ≤ b)) <;> rfl), Option.bind_some]
  cases xs.all fun x => decide (a ≤ x) && decide (x ≤ b) <;> rfl
theorem impl_vP {p : Policy} : m_impl_ValidPolicy p = some (vP p) := by
  unfold m_impl_ValidPolicy m_impl_size m_impl_within vP
  rw [Option.bind_some, Option.bind_some, dec_leI, dec_le12]
  cases h0 : decide (1 ≤ p.Next.length) && decide (p.Next.length ≤ 12) with
  | false => rfl
  | true =>
    simp only [Bool.and_eq_true, decide_eq_true_eq] at h0
    rw [Bool.not_true, cond_false, forL_all (rowOK p.Next.length) (f := .inr false) p.Next 0 (fun n x _ => by
      unfold m_impl_ValidPolicy_L0 rowOK
      by_cases h4 : x.length = 4
      · rw [decide_eq_true h4, decide_eq_true (show (x.length : Int) = 4 by omega), Bool.not_true, cond_false, impl_all, Option.bind_some, w64_eq (n := (p.Next.length : Int) - 1) (by omega), Bool.true_and]
        cases x.all fun v => decide (-1 ≤ v) && decide (v ≤ (p.Next.length : Int) - 1) <;> rfl
      · rw [decide_eq_false h4, decide_eq_false (show ¬ (x.length : Int) = 4 by omega)]; rfl), Option.bind_some, Bool.true_and]
    cases p.Next.all (rowOK p.Next.length) <;> rfl
end Go.Mod

/- States that are reached. Plain Lean. -/
namespace Go.Mod
open Go.AM
set_option linter.unusedVariables false
set_option linter.unusedSimpArgs false

def Edge (p : Policy) (a b : Int) : Prop := ∃ row, 0 ≤ a ∧ p.Next[a.toNat]? = some row ∧ b ∈ row ∧ 0 ≤ b
inductive Reach (p : Policy) : Int → Prop where
  | zero : Reach p 0
  | step {a b : Int} : Reach p a → Edge p a b → Reach p b
theorem Edge.rng {p : Policy} (hv : vP p = true) {a b : Int} (h : Edge p a b) : 0 ≤ b ∧ b < p.Next.length := by
  obtain ⟨row, _, h1, h2, h3⟩ := h
  have := (vP_row hv (List.mem_of_getElem? h1)).2 b h2
  omega
theorem Reach.rng {p : Policy} (hv : vP p = true) {a : Int} (h : Reach p a) : 0 ≤ a ∧ a < p.Next.length := by
  cases h with
  | zero => have := vP_len hv; omega
  | step _ e => exact e.rng hv
theorem reach_in {p : Policy} {P : Int → Prop} (h0 : P 0) (hc : ∀ a b, P a → Edge p a b → P b) : ∀ {a : Int}, Reach p a → P a := by
  intro a h
  induction h with
  | zero => exact h0
  | step _ e ih => exact hc _ _ ih e

theorem nodup_len : ∀ (n : Nat) (xs : List Int), xs.Nodup → (∀ x ∈ xs, 0 ≤ x ∧ x < n) → xs.length ≤ n := by
  intro n
  induction n with
  | zero =>
    intro xs _ h
    cases xs with
    | nil => exact Nat.le_refl 0
    | cons x r => have := h x (by simp); omega
  | succ n ih =>
    intro xs hn h
    have h1 := ih (xs.erase (n : Int)) (hn.erase _) (fun x hx => by
      rw [hn.mem_erase_iff] at hx
      have := h x hx.2
      have h2 := hx.1
      omega)
    rw [List.length_erase] at h1
    split at h1 <;> omega

/-! ### The specification: an order -/
theorem has_ok {xs : List Int} {v : Int} (hl : xs.length ≤ 1048576) : m_spec_l00Has xs v = some (decide (v ∈ xs)) := by
  have h := iter_for (step := m_spec_l00Has_L0 xs v) xs (fun n (_ : Unit) => (n : Int)) (fun _ x _ => bif !decide (x = v) then some (.next ()) else some (.out (.inr true))) (fun _ => .inl ())
    (fun n x r hx => by
      unfold m_spec_l00Has_L0
      rw [dec_lt (get_lt hx), cond_true, getI_some hx, Option.bind_some]
      have hw : w64 ((n : Int) + 1) = ((n + 1 : Nat) : Int) := w64_succ (by have := get_lt hx; omega)
      cases decide (x = v)
      · rw [hw]; rfl
      · rfl)
    (fun r => by unfold m_spec_l00Has_L0; rw [dec_self]; rfl) ()
  rw [forL_all (fun x => !decide (x = v)) _ _ (fun n x _ => rfl)] at h
  unfold m_spec_l00Has
  rw [show (0 : Int) = ((0 : Nat) : Int) from rfl, h, Option.bind_some]
  by_cases hm : v ∈ xs
  · rw [decide_eq_true hm]
    have : (xs.all fun x => !decide (x = v)) = false := by
      rw [List.all_eq_false]
      exact ⟨v, hm, by simp⟩
    rw [this]; rfl
  · rw [decide_eq_false hm]
    have : (xs.all fun x => !decide (x = v)) = true := by
      rw [List.all_eq_true]
      intro x hx
      have : x ≠ v := fun e => hm (e ▸ hx)
      simp [this]
    rw [this]; rfl
structure Ord (p : Policy) (L : List Int) (i : Nat) : Prop where
  nd : L.Nodup
  rc : ∀ v ∈ L, Reach p v
  z : 0 ∈ L
  cl : ∀ (j : Nat) a b, j < i → L[j]? = some a → Edge p a b → b ∈ L
theorem Ord.len {p : Policy} (hv : vP p = true) {L : List Int} {i : Nat} (h : Ord p L i) : L.length ≤ p.Next.length := nodup_len _ _ h.nd (fun x hx => (h.rc x hx).rng hv)
theorem order_inner {p : Policy} (hv : vP p = true) {L : List Int} {i : Nat} (h : Ord p L i) (hi : i < L.length) :
    ∃ L', iter (m_spec_l10Order_L1 p (L, (i : Int))) (L, 0) = some L' ∧ Ord p L' (i + 1) ∧ i < L'.length := by
  have hx : L[i]? = some L[i] := by simp
  have hr := h.rc _ (List.getElem_mem hi)
  have hrr := hr.rng hv
  have hrow : p.Next[(L[i]).toNat]? = some (p.Next[(L[i]).toNat]'(by omega)) := by simp
  obtain ⟨L', e, h2⟩ := iter_inv (step := m_spec_l10Order_L1 p (L, (i : Int)))
    (fun s => ∃ q : Nat, s.2 = (q : Int) ∧ q ≤ 4 ∧ Ord p s.1 i ∧ s.1[i]? = some L[i] ∧ (∀ (q' : Nat) b, q' < q → (p.Next[(L[i]).toNat]'(by omega))[q']? = some b → 0 ≤ b → b ∈ s.1))
    (fun s => 4 - s.2.toNat) (fun L' => Ord p L' (i + 1) ∧ i < L'.length)
    (fun ⟨M, e⟩ ⟨q, h1, h2, h3, h4, h5⟩ => by
      simp only at h1 h3 h4 h5
      subst h1
      have hM := h3.len hv
      have hn := vP_len hv
      generalize hrw : p.Next[(L[i]).toNat]'(by omega) = row at hrow h5
      have hro := vP_row hv (List.mem_of_getElem? hrow)
      have hgi : getI p.Next L[i] = some row := by rw [show L[i] = ((L[i]).toNat : Int) by omega]; exact getI_some hrow
      unfold m_spec_l10Order_L1
      simp only
      by_cases hq : q < 4
      · left
        have hqx : row[q]? = some (row[q]'(by omega)) := by simp
        have hmem : row[q]'(by omega) ∈ row := List.getElem_mem _
        rw [decide_eq_true (by omega), cond_true, getI_some h4, Option.bind_some, hgi, Option.bind_some, getI_some hqx, Option.bind_some]
        have hnext : ∀ M' : List Int, Ord p M' i → M'[i]? = some L[i] → (∀ v ∈ M, v ∈ M') → (0 ≤ row[q]'(by omega) → row[q]'(by omega) ∈ M') →
            (∃ q1 : Nat, ((q + 1 : Nat) : Int) = (q1 : Int) ∧ q1 ≤ 4 ∧ Ord p M' i ∧ M'[i]? = some L[i] ∧ (∀ (q' : Nat) b, q' < q1 → row[q']? = some b → 0 ≤ b → b ∈ M')) ∧ 4 - ((q + 1 : Nat) : Int).toNat < 4 - ((q : Nat) : Int).toNat := by
          intro M' g1 g2 g3 g4
          refine ⟨⟨q + 1, rfl, by omega, g1, g2, fun q' b hq' hb hb0 => ?_⟩, by omega⟩
          by_cases e : q' = q
          · subst e; rw [hqx] at hb; cases hb; exact g4 hb0
          · exact g3 _ (h5 q' b (by omega) hb hb0)
        by_cases h0 : 0 ≤ row[q]'(by omega)
        · rw [decide_eq_true h0, cond_true, has_ok (by omega), Option.bind_some]
          unfold m_spec_l10Order_J0
          by_cases hin : row[q]'(by omega) ∈ M
          · rw [decide_eq_true hin, Bool.not_true, cond_false]
            simp only
            rw [w64_succ (by omega)]
            obtain ⟨k1, k2⟩ := hnext M h3 h4 (fun v hv => hv) (fun _ => hin)
            exact ⟨_, rfl, k1, k2⟩
          · rw [decide_eq_false hin, Bool.not_false, cond_true]
            simp only
            rw [capI_some (by simp; omega), Option.bind_some, w64_succ (by omega)]
            have hE : Edge p L[i] (row[q]'(by omega)) := ⟨row, hrr.1, hrow, hmem, h0⟩
            obtain ⟨k1, k2⟩ := hnext (M ++ [row[q]'(by omega)])
              ⟨by rw [List.nodup_append]; exact ⟨h3.nd, by simp, fun x hx y hy => by rw [List.mem_singleton.1 hy]; exact fun e => hin (e ▸ hx)⟩,
                fun v hv => by
                  rcases List.mem_append.1 hv with hv | hv
                  · exact h3.rc v hv
                  · rw [List.mem_singleton.1 hv]; exact hr.step hE,
                List.mem_append_left _ h3.z,
                fun j a b hj ha hb => by
                  have hjl : j < M.length := by have := get_lt h4; omega
                  rw [List.getElem?_append_left hjl] at ha
                  exact List.mem_append_left _ (h3.cl j a b hj ha hb)⟩
              (by rw [List.getElem?_append_left (get_lt h4)]; exact h4) (fun v hv => List.mem_append_left _ hv) (fun _ => by simp)
            exact ⟨_, rfl, k1, k2⟩
        · rw [decide_eq_false h0, cond_false]
          unfold m_spec_l10Order_J0
          rw [cond_false]
          simp only
          rw [w64_succ (by omega)]
          obtain ⟨k1, k2⟩ := hnext M h3 h4 (fun v hv => hv) (fun h => absurd h h0)
          exact ⟨_, rfl, k1, k2⟩
      · right
        have hq4 : q = 4 := by omega
        rw [decide_eq_false (by omega), cond_false]
        refine ⟨_, rfl, ⟨h3.nd, h3.rc, h3.z, fun j a b hj ha hb => ?_⟩, get_lt h4⟩
        by_cases e : j = i
        · subst e
          rw [h4] at ha; cases ha
          obtain ⟨row', _, r1, r2, r3⟩ := hb
          rw [hrow] at r1; cases r1
          obtain ⟨q', hq'⟩ := List.getElem?_of_mem r2
          exact h5 q' b (by have := get_lt hq'; omega) hq' r3
        · exact h3.cl j a b (by omega) ha hb)
    (s := (L, 0)) ⟨0, rfl, by omega, h, hx, fun q' b hq' => by omega⟩
  exact ⟨L', e, h2⟩
theorem order_ok {p : Policy} (hv : vP p = true) : ∃ L, m_spec_l10Order p = some L ∧ Ord p L L.length := by
  obtain ⟨L, e, h⟩ := iter_inv (step := m_spec_l10Order_L0 p) (fun s => ∃ i : Nat, s.2 = (i : Int) ∧ i ≤ s.1.length ∧ Ord p s.1 i) (fun s => p.Next.length + 1 - s.2.toNat) (fun L => Ord p L L.length)
    (fun ⟨L, e⟩ ⟨i, h1, h2, h3⟩ => by
      simp only at h1 h2 h3
      subst h1
      have hM := h3.len hv
      have hn := vP_len hv
      unfold m_spec_l10Order_L0
      simp only
      by_cases hi : i < L.length
      · left
        obtain ⟨L', e1, e2, e3⟩ := order_inner hv h3 hi
        have hM' := e2.len hv
        rw [dec_lt hi, cond_true, e1, Option.bind_some]
        unfold m_spec_l10Order_A1
        simp only
        rw [w64_succ (by omega)]
        refine ⟨_, rfl, ⟨i + 1, rfl, ?_, e2⟩, by simp only; omega⟩
        simp only
        omega
      · right
        rw [dec_not_lt hi, cond_false]
        exact ⟨_, rfl, by rw [show L.length = i by omega]; exact h3⟩)
    (s := ([0], 0)) ⟨0, rfl, by simp, by simp, fun v hv => by rw [List.mem_singleton.1 hv]; exact .zero, by simp, fun j a b hj => by omega⟩
  exact ⟨L, by unfold m_spec_l10Order; rw [e]; rfl, h⟩
end Go.Mod

/- States that are reached, in order; the implementation's rounds. Plain Lean. -/
namespace Go.Mod
open Go.AM
set_option linter.unusedVariables false
set_option linter.unusedSimpArgs false

/-! ### Sorted lists -/
def ins (v : Int) : List Int → List Int
  | [] => [v]
  | x :: r => if v ≤ x then (if v < x then v :: x :: r else x :: r) else x :: ins v r
theorem ins_mem {v : Int} : ∀ {xs : List Int} {y : Int}, y ∈ ins v xs ↔ y = v ∨ y ∈ xs := by
  intro xs
  induction xs with
  | nil => intro y; simp [ins]
  | cons x r ih =>
    intro y
    unfold ins
    by_cases h1 : v ≤ x
    · rw [if_pos h1]
      by_cases h2 : v < x
      · rw [if_pos h2]; simp
      · rw [if_neg h2]
        have : v = x := by omega
        subst this; simp
    · rw [if_neg h1]
      simp only [List.mem_cons, ih]
      constructor
      · rintro (h | h | h)
        · exact .inr (.inl h)
        · exact .inl h
        · exact .inr (.inr h)
      · rintro (h | h | h)
        · exact .inr (.inl h)
        · exact .inl h
        · exact .inr (.inr h)
theorem ins_sorted {v : Int} : ∀ {xs : List Int}, xs.Pairwise (· < ·) → (ins v xs).Pairwise (· < ·) := by
  intro xs
  induction xs with
  | nil => intro _; simp [ins]
  | cons x r ih =>
    intro h
    have h' := List.pairwise_cons.1 h
    unfold ins
    by_cases h1 : v ≤ x
    · rw [if_pos h1]
      by_cases h2 : v < x
      · rw [if_pos h2]
        refine List.pairwise_cons.2 ⟨fun y hy => ?_, h⟩
        rcases List.mem_cons.1 hy with rfl | hy
        · exact h2
        · have := h'.1 y hy; omega
      · rw [if_neg h2]; exact h
    · rw [if_neg h1]
      refine List.pairwise_cons.2 ⟨fun y hy => ?_, ih h'.2⟩
      rcases ins_mem.1 hy with rfl | hy
      · omega
      · exact h'.1 y hy
theorem ins_len {v : Int} : ∀ (xs : List Int), (ins v xs).length ≤ xs.length + 1 := by
  intro xs
  induction xs with
  | nil => simp [ins]
  | cons x r ih =>
    unfold ins
    split
    · split <;> simp
    · simp only [List.length_cons]; omega
theorem sorted_ext : ∀ {xs ys : List Int}, xs.Pairwise (· < ·) → ys.Pairwise (· < ·) → (∀ v, v ∈ xs ↔ v ∈ ys) → xs = ys := by
  intro xs
  induction xs with
  | nil =>
    intro ys _ _ h
    cases ys with
    | nil => rfl
    | cons y r => have := (h y).2 (by simp); cases this
  | cons x r ih =>
    intro ys hx hy h
    cases ys with
    | nil => have := (h x).1 (by simp); cases this
    | cons y q =>
      have hx' := List.pairwise_cons.1 hx
      have hy' := List.pairwise_cons.1 hy
      have hxy : x = y := by
        have h1 := (h x).1 (by simp)
        have h2 := (h y).2 (by simp)
        rcases List.mem_cons.1 h1 with e | h1
        · exact e
        · rcases List.mem_cons.1 h2 with e | h2
          · exact e.symm
          · have := hy'.1 x h1; have := hx'.1 y h2; omega
      subst hxy
      congr 1
      refine ih hx'.2 hy'.2 (fun v => ?_)
      constructor
      · intro hv
        have h1 := (h v).1 (by simp [hv])
        rcases List.mem_cons.1 h1 with e | h1
        · have := hx'.1 v hv; omega
        · exact h1
      · intro hv
        have h1 := (h v).2 (by simp [hv])
        rcases List.mem_cons.1 h1 with e | h1
        · have := hy'.1 v hv; omega
        · exact h1
theorem forL_next {α σ τ : Type} {step : Nat → α → σ → Option (Ctl σ τ)} {fin : σ → τ} {k : Nat} {x : α} {r : List α} {s s' : σ} (h : step k x s = some (.next s')) :
    forL step fin k (x :: r) s = forL step fin (k + 1) r s' := by simp [forL, h]
def putB (v : Int) (_ : Nat) (x : Int) (s : List Int × Bool) : Option (Ctl (List Int × Bool) (List Int × Bool)) :=
  bif (!s.2 && decide (v ≤ x)) then (bif decide (v < x) then (capI (s.1.length + 1) 8).bind fun _ => (capI (s.1.length + 1 + 1) 8).bind fun _ => some (.next (s.1 ++ [v] ++ [x], true)) else (capI (s.1.length + 1) 8).bind fun _ => some (.next (s.1 ++ [x], true)))
  else (capI (s.1.length + 1) 8).bind fun _ => some (.next (s.1 ++ [x], s.2))
theorem putB_t {v x : Int} {k : Nat} {out : List Int} (h : out.length ≤ 1000001) : putB v k x (out, true) = some (.next (out ++ [x], true)) := by
  unfold putB; simp only [Bool.not_true, Bool.false_and, cond_false]; rw [capI_some (by omega)]; rfl
theorem putB_no {v x : Int} {k : Nat} {out : List Int} (h : out.length ≤ 1000001) (h1 : ¬ v ≤ x) : putB v k x (out, false) = some (.next (out ++ [x], false)) := by
  unfold putB; rw [decide_eq_false h1]; simp only [Bool.and_false, cond_false]; rw [capI_some (by omega)]; rfl
theorem putB_eq {v x : Int} {k : Nat} {out : List Int} (h : out.length ≤ 1000001) (h1 : v ≤ x) (h2 : ¬ v < x) : putB v k x (out, false) = some (.next (out ++ [x], true)) := by
  unfold putB; rw [decide_eq_true h1, decide_eq_false h2]; simp only [Bool.not_false, Bool.true_and, cond_true, cond_false]; rw [capI_some (by omega)]; rfl
theorem putB_lt {v x : Int} {k : Nat} {out : List Int} (h : out.length ≤ 1000001) (h2 : v < x) : putB v k x (out, false) = some (.next (out ++ [v] ++ [x], true)) := by
  unfold putB; rw [decide_eq_true (show v ≤ x by omega), decide_eq_true h2]; simp only [Bool.not_false, Bool.true_and, cond_true]; rw [capI_some (by omega), Option.bind_some, capI_some (by omega)]; rfl
theorem put_true {v : Int} : ∀ (as : List Int) (k : Nat) (out : List Int), out.length + as.length ≤ 1000001 → forL (putB v) (fun s => (s.1, s.2)) k as (out, true) = some (out ++ as, true) := by
  intro as
  induction as with
  | nil => intro k out _; simp [forL]
  | cons y q ih =>
    intro k out h
    simp only [List.length_cons] at h
    rw [forL_next (putB_t (by omega)), ih (k + 1) (out ++ [y]) (by simp; omega)]; simp
theorem put_false {v : Int} : ∀ (as : List Int) (k : Nat) (out : List Int), out.length + as.length ≤ 1000000 →
    ∃ r b', forL (putB v) (fun s => (s.1, s.2)) k as (out, false) = some (r, b') ∧ (bif b' then r else r ++ [v]) = out ++ ins v as ∧ r.length ≤ out.length + as.length + 1 := by
  intro as
  induction as with
  | nil => intro k out _; exact ⟨out, false, rfl, by simp [ins], by simp⟩
  | cons x r ih =>
    intro k out hl
    simp only [List.length_cons] at hl
    by_cases h1 : v ≤ x
    · by_cases h2 : v < x
      · rw [forL_next (putB_lt (by omega) h2), put_true r (k + 1) _ (by simp; omega)]
        refine ⟨_, _, rfl, ?_, by simp; omega⟩
        unfold ins
        rw [if_pos h1, if_pos h2]; simp
      · rw [forL_next (putB_eq (by omega) h1 h2), put_true r (k + 1) _ (by simp; omega)]
        refine ⟨_, _, rfl, ?_, by simp <;> omega⟩
        unfold ins
        rw [if_pos h1, if_neg h2]; simp
    · rw [forL_next (putB_no (by omega) h1)]
      obtain ⟨r', b', e1, e2, e3⟩ := ih (k + 1) (out ++ [x]) (by simp; omega)
      refine ⟨r', b', e1, ?_, by simp at e3 ⊢; omega⟩
      rw [e2, show ins v (x :: r) = x :: ins v r by rw [ins, if_neg h1]]; simp
theorem put_ok {xs : List Int} {v : Int} (hl : xs.length ≤ 1000000) : m_spec_l00Put xs v = some (ins v xs) := by
  have h := iter_for (step := m_spec_l00Put_L0 xs v) xs (fun n (s : List Int × Bool) => (s.1, s.2, (n : Int))) (putB v) (fun s => (s.1, s.2))
    (fun n x r hx => by
      obtain ⟨out, b⟩ := r
      have hJ : ∀ (o : List Int) (b' : Bool), m_spec_l00Put_J0 xs (out, b, (n : Int)) (o, b') = (capI (o.length + 1) 8).bind fun _ => some (.next (o ++ [x], b', ((n + 1 : Nat) : Int))) := by
        intro o b'
        unfold m_spec_l00Put_J0
        simp only
        rw [getI_some hx, Option.bind_some, w64_succ (by have := get_lt hx; omega)]
        simp only [List.length_cons, List.length_nil, Nat.zero_add]
      unfold m_spec_l00Put_L0 putB
      simp only
      rw [dec_lt (get_lt hx), cond_true]
      have hJ1 : ∀ j, m_spec_l00Put_J1 xs v (out, b, (n : Int)) j = (bif j then (bif decide (v < x) then (capI (out.length + 1) 8).bind fun _ => m_spec_l00Put_J0 xs (out, b, (n : Int)) (out ++ [v], true) else m_spec_l00Put_J0 xs (out, b, (n : Int)) (out, true)) else m_spec_l00Put_J0 xs (out, b, (n : Int)) (out, b)) := by
        intro j
        unfold m_spec_l00Put_J1
        cases j
        · rfl
        · simp only [cond_true]
          rw [getI_some hx, Option.bind_some]
          rfl
      cases b with
      | true =>
        simp only [Bool.not_true, cond_false, Bool.false_and]
        rw [hJ1, cond_false, hJ]
        cases capI (out.length + 1) 8 <;> rfl
      | false =>
        simp only [Bool.not_false, cond_true, Bool.true_and]
        rw [getI_some hx, Option.bind_some, hJ1, hJ, hJ, hJ]
        simp only [List.length_append, List.length_cons, List.length_nil, Nat.zero_add]
        cases decide (v ≤ x) <;> cases decide (v < x) <;> cases capI (out.length + 1) 8 <;> cases capI (out.length + 1 + 1) 8 <;> rfl)
    (fun r => by unfold m_spec_l00Put_L0; simp only; rw [dec_self]; rfl) ([], false)
  obtain ⟨r, b', e1, e2, e3⟩ := put_false (v := v) xs 0 [] (by simp; omega)
  rw [e1] at h
  unfold m_spec_l00Put
  rw [show (([] : List Int), false, (0 : Int)) = ((([] : List Int), false).1, (([] : List Int), false).2, ((0 : Nat) : Int)) from rfl, h, Option.bind_some]
  unfold m_spec_l00Put_A0
  simp only [List.nil_append] at e2
  cases b' with
  | true => simp only [Bool.not_true, cond_false]; rw [← e2]; rfl
  | false =>
    simp only [Bool.not_false, cond_true]
    rw [capI_some (by simp at e3 ⊢; omega), Option.bind_some, ← e2]; rfl
theorem spec_reached {p : Policy} (hl : cPol p ≤ 1048576) : ∃ r, m_spec_ReachedStates p = some r ∧
    (vP p = false → r = ([], false)) ∧ (vP p = true → r.2 = true ∧ r.1.Pairwise (· < ·) ∧ ∀ v, v ∈ r.1 ↔ Reach p v) := by
  unfold m_spec_ReachedStates
  rw [spec_vP hl, Option.bind_some]
  cases hv : vP p with
  | false => exact ⟨_, rfl, fun _ => rfl, fun h => by cases h⟩
  | true =>
    obtain ⟨L, e, hO⟩ := order_ok hv
    have hLl := hO.len hv
    have hn := vP_len hv
    rw [Bool.not_true, cond_false, e, Option.bind_some]
    obtain ⟨r, e1, e2⟩ := iter_inv (step := m_spec_ReachedStates_L0 L)
      (fun s => ∃ n : Nat, s.2 = (n : Int) ∧ n ≤ L.length ∧ s.1.Pairwise (· < ·) ∧ s.1.length ≤ n ∧ ∀ v, v ∈ s.1 ↔ ∃ j : Nat, j < n ∧ L[j]? = some v)
      (fun s => L.length - s.2.toNat) (fun r => r.Pairwise (· < ·) ∧ ∀ v, v ∈ r ↔ v ∈ L)
      (fun ⟨xs, i⟩ ⟨n, h1, h2, h3, h4, h5⟩ => by
        simp only at h1 h3 h4 h5
        subst h1
        unfold m_spec_ReachedStates_L0
        simp only
        by_cases hlt : n < L.length
        · left
          have hx : L[n]? = some L[n] := by simp
          rw [dec_lt hlt, cond_true, getI_some hx, Option.bind_some, put_ok (by omega), Option.bind_some, w64_succ (by omega)]
          refine ⟨_, rfl, ⟨n + 1, rfl, by omega, ins_sorted h3, by have := ins_len (v := L[n]) xs; simp only; omega, fun v => ?_⟩, by simp only; omega⟩
          simp only
          rw [ins_mem, h5]
          constructor
          · rintro (rfl | ⟨j, hj, hjv⟩)
            · exact ⟨n, by omega, hx⟩
            · exact ⟨j, by omega, hjv⟩
          · rintro ⟨j, hj, hjv⟩
            by_cases e : j = n
            · subst e; rw [hx] at hjv; cases hjv; exact .inl rfl
            · exact .inr ⟨j, by omega, hjv⟩
        · right
          rw [dec_not_lt hlt, cond_false]
          refine ⟨_, rfl, h3, fun v => ?_⟩
          rw [h5]
          constructor
          · rintro ⟨j, _, hj⟩; exact List.mem_of_getElem? hj
          · intro hm
            obtain ⟨j, hj⟩ := List.getElem?_of_mem hm
            exact ⟨j, by have := get_lt hj; omega, hj⟩)
      (s := ([], 0)) ⟨0, rfl, by omega, by simp, by simp, fun v => by simp⟩
    rw [e1, Option.bind_some]
    unfold m_spec_ReachedStates_A0
    refine ⟨(r, true), rfl, fun h => (by cases h), fun _ => ⟨rfl, e2.1, fun v => ?_⟩⟩
    simp only
    rw [e2.2]
    constructor
    · exact hO.rc v
    · exact reach_in (P := fun v => v ∈ L) hO.z (fun a b ha hb => by
        obtain ⟨j, hj⟩ := List.getElem?_of_mem ha
        exact hO.cl j a b (get_lt hj) hj hb)
end Go.Mod

/- The implementation's rounds; the law. Plain Lean. -/
namespace Go.Mod
open Go.AM
set_option linter.unusedVariables false
set_option linter.unusedSimpArgs false

theorem getI_of {α : Type} {xs : List α} {x : Int} {v : α} (h0 : 0 ≤ x) (h : xs[x.toNat]? = some v) : getI xs x = some v := by
  unfold getI; rw [decide_eq_true h0]; exact h
def On (s : List Bool) (a : Int) : Prop := 0 ≤ a ∧ s[a.toNat]? = some true
structure Seen (p : Policy) (s : List Bool) : Prop where
  len : s.length = p.Next.length
  rc : ∀ a, On s a → Reach p a
def Closed (p : Policy) (s : List Bool) : Prop := ∀ a b, On s a → Edge p a b → On s b
theorem On.set {s : List Bool} {b : Int} (h0 : 0 ≤ b) (hb : b < s.length) {a : Int} : On (s.set b.toNat true) a ↔ On s a ∨ a = b := by
  unfold On
  rw [List.getElem?_set]
  by_cases e : b.toNat = a.toNat
  · rw [if_pos e, if_pos (by omega)]
    constructor
    · rintro ⟨h1, _⟩; exact .inr (by omega)
    · rintro (⟨h1, _⟩ | rfl)
      · exact ⟨h1, rfl⟩
      · exact ⟨h0, rfl⟩
  · rw [if_neg e]
    constructor
    · exact fun h => .inl h
    · rintro (h | rfl)
      · exact h
      · exact absurd rfl e
theorem set_on {s : List Bool} {b : Int} (h : On s b) : s.set b.toNat true = s := by
  apply List.ext_getElem?
  intro i
  rw [List.getElem?_set]
  by_cases e : b.toNat = i
  · subst e
    rw [if_pos rfl, if_pos (get_lt h.2)]; exact h.2.symm
  · rw [if_neg e]

/-! ### One row -/
theorem row_ok {p : Policy} (hv : vP p = true) {n : Nat} {row : List Int} (hrow : p.Next[n]? = some row) {s : List Bool} (hs : Seen p s) :
    ∃ s', forL (m_impl_ReachedStates_L2 n) (fun s2 => s2) 0 row s = some s' ∧ Seen p s' ∧ (∀ a, On s a → On s' a) ∧ (∀ b, On s n → b ∈ row → 0 ≤ b → On s' b) ∧ (Closed p s → s' = s) := by
  have hro := vP_row hv (List.mem_of_getElem? hrow)
  have hn := get_lt hrow
  obtain ⟨s', e1, e2⟩ := forL_inv (step := m_impl_ReachedStates_L2 n) (fin := fun s2 => s2) (xs := row)
    (fun q t => Seen p t ∧ (∀ a, On s a → On t a) ∧ (∀ (q' : Nat) b, q' < q → On s n → row[q']? = some b → 0 ≤ b → On t b) ∧ (Closed p s → t = s))
    (fun t => Seen p t ∧ (∀ a, On s a → On t a) ∧ (∀ b, On s n → b ∈ row → 0 ≤ b → On t b) ∧ (Closed p s → t = s))
    (fun q x t hx ⟨h1, h2, h3, h4⟩ => by
      have hlt : n < t.length := by rw [h1.len]; exact hn
      have hmem := List.mem_of_getElem? hx
      have hxr := hro.2 x hmem
      obtain ⟨b, hb⟩ : ∃ b, t[n]? = some b := ⟨t[n], by simp [hlt]⟩
      unfold m_impl_ReachedStates_L2
      rw [getI_some hb, Option.bind_some]
      by_cases hc : (b && decide (0 ≤ x)) = true
      · simp only [Bool.and_eq_true, decide_eq_true_eq] at hc
        obtain ⟨rfl, h0⟩ := hc
        rw [decide_eq_true h0, Bool.and_true, cond_true]
        have hxl : x.toNat < t.length := by rw [h1.len]; omega
        rw [getI_of h0 (show t[x.toNat]? = some t[x.toNat] by simp [hxl]), Option.bind_some]
        have hon : On t n := ⟨by omega, by simpa using hb⟩
        have hE : Edge p n x := ⟨row, by omega, by simpa using hrow, hmem, h0⟩
        refine .inl ⟨_, rfl, ⟨by simpa using h1.len, fun a ha => ?_⟩, fun a ha => ?_, fun q' b hq' hs' hb' hb0 => ?_, fun hcl => ?_⟩
        · rcases (On.set h0 (by rw [h1.len]; omega)).1 ha with ha | rfl
          · exact h1.rc a ha
          · exact (h1.rc _ hon).step hE
        · exact (On.set h0 (by rw [h1.len]; omega)).2 (.inl (h2 a ha))
        · by_cases e : q' = q
          · subst e; rw [hx] at hb'; cases hb'
            exact (On.set h0 (by rw [h1.len]; omega)).2 (.inr rfl)
          · exact (On.set h0 (by rw [h1.len]; omega)).2 (.inl (h3 q' b (by omega) hs' hb' hb0))
        · have ht := h4 hcl
          rw [ht] at hon ⊢
          exact set_on (hcl _ _ hon hE)
      · rw [Bool.eq_false_iff.2 hc, cond_false]
        refine .inl ⟨_, rfl, h1, h2, fun q' b' hq' hs' hb' hb0 => ?_, h4⟩
        by_cases e : q' = q
        · subst e; rw [hx] at hb'; cases hb'
          have := h2 _ hs'
          have hbt : b = true := by
            have h5 := this.2
            simp only [Int.toNat_natCast] at h5
            rw [hb] at h5; exact Option.some.inj h5
          exact absurd (by rw [hbt, decide_eq_true hb0]; rfl) hc
        · exact h3 q' b' (by omega) hs' hb' hb0)
    (fun t ⟨h1, h2, h3, h4⟩ => ⟨h1, h2, fun b hs' hb hb0 => by
      obtain ⟨q, hq⟩ := List.getElem?_of_mem hb
      exact h3 q b (get_lt hq) hs' hq hb0, h4⟩)
    (s := s) ⟨hs, fun a h => h, fun q' b hq' => by omega, fun _ => rfl⟩
  exact ⟨s', e1, e2⟩

/-! ### One round -/
theorem round_ok {p : Policy} (hv : vP p = true) {s : List Bool} (hs : Seen p s) :
    ∃ s', forL m_impl_ReachedStates_L1 (fun s1 => s1) 0 p.Next s = some s' ∧ Seen p s' ∧ (∀ a, On s a → On s' a) ∧ (∀ a b, On s a → Edge p a b → On s' b) ∧ (Closed p s → s' = s) := by
  obtain ⟨s', e1, e2⟩ := forL_inv (step := m_impl_ReachedStates_L1) (fin := fun s1 => s1) (xs := p.Next)
    (fun q t => Seen p t ∧ (∀ a, On s a → On t a) ∧ (∀ a b, a.toNat < q → On s a → Edge p a b → On t b) ∧ (Closed p s → t = s))
    (fun t => Seen p t ∧ (∀ a, On s a → On t a) ∧ (∀ a b, On s a → Edge p a b → On t b) ∧ (Closed p s → t = s))
    (fun q row t hx ⟨h1, h2, h3, h4⟩ => by
      obtain ⟨t', f1, f2, f3, f4, f5⟩ := row_ok hv hx h1
      unfold m_impl_ReachedStates_L1
      rw [f1, Option.bind_some]
      refine .inl ⟨_, rfl, f2, fun a ha => f3 a (h2 a ha), fun a b hq ha hb => ?_, fun hcl => ?_⟩
      · by_cases e : a.toNat = q
        · obtain ⟨row', g1, g2, g3, g4⟩ := hb
          rw [e, hx] at g2; cases g2
          refine f4 b ?_ g3 g4
          have := h2 a ha
          rwa [show a = (q : Int) by omega] at this
        · exact f3 b (h3 a b (by omega) ha hb)
      · have := h4 hcl
        rw [this] at f5
        rw [f5 hcl])
    (fun t ⟨h1, h2, h3, h4⟩ => ⟨h1, h2, fun a b ha hb => h3 a b (by have := get_lt ha.2; rw [hs.len] at this; exact this) ha hb, h4⟩)
    (s := s) ⟨hs, fun a h => h, fun a b hq => by omega, fun _ => rfl⟩
  exact ⟨s', e1, e2⟩
def cnt (s : List Bool) : Nat := (s.filter id).length
theorem cnt_le (s : List Bool) : cnt s ≤ s.length := List.length_filter_le _ _
theorem cnt_lt : ∀ {s t : List Bool}, s.length = t.length → (∀ i : Nat, s[i]? = some true → t[i]? = some true) → (cnt s ≤ cnt t ∧ ((∃ i : Nat, t[i]? = some true ∧ s[i]? ≠ some true) → cnt s < cnt t)) := by
  intro s
  induction s with
  | nil =>
    intro t hl _
    have : t = [] := List.length_eq_zero_iff.1 hl.symm
    subst this
    exact ⟨Nat.le_refl _, fun ⟨i, h, _⟩ => by simp at h⟩
  | cons x r ih =>
    intro t hl h
    cases t with
    | nil => cases hl
    | cons y q =>
      obtain ⟨h1, h2⟩ := ih (t := q) (by simpa using hl) (fun i hi => by have := h (i + 1) (by simpa using hi); simpa using this)
      have h0 := h 0
      simp only [List.getElem?_cons_zero, Option.some.injEq] at h0
      have hc : ∀ (z : Bool) (l : List Bool), cnt (z :: l) = (if z = true then 1 else 0) + cnt l := by
        intro z l; unfold cnt; cases z <;> simp <;> omega
      rw [hc, hc]
      refine ⟨?_, ?_⟩
      · cases x
        · simp; omega
        · rw [h0 rfl]; simp; omega
      · rintro ⟨i, hi1, hi2⟩
        cases i with
        | zero =>
          simp only [List.getElem?_cons_zero, Option.some.injEq, ne_eq] at hi1 hi2
          have hx : x = false := by cases x <;> simp_all
          rw [hi1, hx]; simp; omega
        | succ i =>
          have := h2 ⟨i, by simpa using hi1, by simpa using hi2⟩
          cases x
          · simp; omega
          · rw [h0 rfl]; simp; omega
theorem rounds_ok {p : Policy} (hv : vP p = true) {s : List Bool} (hs : Seen p s) (h0 : On s 0) :
    ∃ s', forL (m_impl_ReachedStates_L0 p) (fun s0 => s0) 0 p.Next s = some s' ∧ Seen p s' ∧ On s' 0 ∧ Closed p s' := by
  have hone : 1 ≤ cnt s := by
    have := (cnt_lt (s := List.replicate s.length false) (t := s) (by simp) (fun i hi => by simp [List.getElem?_replicate] at hi)).2 ⟨0, by simpa using h0.2, by simp [List.getElem?_replicate]⟩
    omega
  obtain ⟨s', e1, e2⟩ := forL_inv (step := m_impl_ReachedStates_L0 p) (fin := fun s0 => s0) (xs := p.Next)
    (fun k t => Seen p t ∧ On t 0 ∧ (Closed p t ∨ k + 1 ≤ cnt t)) (fun t => Seen p t ∧ On t 0 ∧ Closed p t)
    (fun k row t hx ⟨h1, h2, h3⟩ => by
      obtain ⟨t', f1, f2, f3, f4, f5⟩ := round_ok hv h1
      unfold m_impl_ReachedStates_L0
      rw [f1, Option.bind_some]
      refine .inl ⟨_, rfl, f2, f3 _ h2, ?_⟩
      by_cases hcl : Closed p t
      · left; rw [f5 hcl]; exact hcl
      · right
        have hk : k + 1 ≤ cnt t := h3.resolve_left hcl
        have : ∃ a b, On t a ∧ Edge p a b ∧ ¬ On t b := by
          apply Classical.byContradiction
          intro hno
          exact hcl (fun a b ha hb => Classical.byContradiction (fun hn => hno ⟨a, b, ha, hb, hn⟩))
        obtain ⟨a, b, ha, hb, hnb⟩ := this
        have hb' := f4 a b ha hb
        have := (cnt_lt (s := t) (t := t') (by rw [h1.len, f2.len]) (fun i hi => by
          have := (f3 (i : Int) ⟨by omega, by simpa using hi⟩).2
          simpa using this)).2 ⟨b.toNat, hb'.2, fun e => hnb ⟨hb'.1, e⟩⟩
        omega)
    (fun t ⟨h1, h2, h3⟩ => ⟨h1, h2, h3.resolve_right (fun h => by have := cnt_le t; rw [h1.len] at this; omega)⟩)
    (s := s) ⟨hs, h0, .inr (by omega)⟩
  exact ⟨s', e1, e2⟩
theorem indices_ok {s : List Bool} (hl : s.length ≤ 1000000) : ∃ r, m_impl_indices s = some r ∧ r.Pairwise (· < ·) ∧ r.length ≤ s.length ∧ ∀ v, v ∈ r ↔ On s v := by
  obtain ⟨r, e1, e2⟩ := forL_inv (step := m_impl_indices_L0) (fin := fun s0 => s0) (xs := s)
    (fun k r => r.Pairwise (· < ·) ∧ r.length ≤ k ∧ ∀ v, v ∈ r ↔ v < k ∧ On s v) (fun r => r.Pairwise (· < ·) ∧ r.length ≤ s.length ∧ ∀ v, v ∈ r ↔ On s v)
    (fun k x r hx ⟨h1, h2, h3⟩ => by
      have hlt := get_lt hx
      unfold m_impl_indices_L0
      cases x with
      | true =>
        rw [cond_true, capI_some (by simp; omega), Option.bind_some]
        refine .inl ⟨_, rfl, ?_, by simp; omega, fun v => ?_⟩
        · rw [List.pairwise_append]
          refine ⟨h1, by simp, fun a ha b hb => ?_⟩
          rw [List.mem_singleton.1 hb]
          exact ((h3 a).1 ha).1
        · rw [List.mem_append, List.mem_singleton, h3]
          constructor
          · rintro (⟨h, ho⟩ | rfl)
            · exact ⟨by omega, ho⟩
            · exact ⟨by omega, by omega, by simpa using hx⟩
          · rintro ⟨h, ho⟩
            by_cases e : v = k
            · exact .inr e
            · exact .inl ⟨by omega, ho⟩
      | false =>
        rw [cond_false]
        refine .inl ⟨_, rfl, h1, by omega, fun v => ?_⟩
        rw [h3]
        constructor
        · rintro ⟨h, ho⟩; exact ⟨by omega, ho⟩
        · rintro ⟨h, ho⟩
          refine ⟨?_, ho⟩
          by_cases e : v = k
          · subst e
            have := ho.2
            simp only [Int.toNat_natCast] at this
            rw [hx] at this; cases this
          · omega)
    (fun r ⟨h1, h2, h3⟩ => ⟨h1, h2, fun v => by
      rw [h3]
      exact ⟨fun h => h.2, fun h => ⟨by have := get_lt h.2; have := h.1; omega, h⟩⟩⟩)
    (s := []) ⟨by simp, by simp, fun v => by
      constructor
      · intro h; cases h
      · rintro ⟨h, ho⟩; have := ho.1; omega⟩
  exact ⟨r, by unfold m_impl_indices; rw [e1]; rfl, e2⟩
theorem impl_reached {p : Policy} : ∃ r, m_impl_ReachedStates p = some r ∧ r.1.length ≤ 12 ∧
    (vP p = false → r = ([], false)) ∧ (vP p = true → r.2 = true ∧ r.1.Pairwise (· < ·) ∧ ∀ v, v ∈ r.1 ↔ Reach p v) := by
  unfold m_impl_ReachedStates
  rw [impl_vP, Option.bind_some]
  cases hv : vP p with
  | false => exact ⟨_, rfl, by simp, fun _ => rfl, fun h => by cases h⟩
  | true =>
    have hn := vP_len hv
    rw [Bool.not_true, cond_false, makeI_some (by omega), Option.bind_some, show getI (List.replicate p.Next.length false) 0 = some false from getI_some (n := 0) (by rw [List.getElem?_replicate, if_pos (by omega)]), Option.bind_some]
    have hOn : ∀ a, On ((List.replicate p.Next.length false).set (Int.toNat 0) true) a ↔ a = 0 := by
      intro a
      rw [show ((0 : Int).toNat) = (0 : Int).toNat from rfl, On.set (by omega) (by simp; omega)]
      constructor
      · rintro (⟨_, h⟩ | h)
        · simp [List.getElem?_replicate] at h
        · exact h
      · exact fun h => .inr h
    obtain ⟨s', e1, e2, e3, e4⟩ := rounds_ok hv (s := (List.replicate p.Next.length false).set (Int.toNat 0) true) ⟨by simp, fun a ha => by rw [(hOn a).1 ha]; exact .zero⟩ ((hOn 0).2 rfl)
    rw [e1, Option.bind_some]
    unfold m_impl_ReachedStates_A0
    obtain ⟨r, f1, f2, f3, f4⟩ := indices_ok (s := s') (by rw [e2.len]; omega)
    rw [f1, Option.bind_some]
    refine ⟨_, rfl, by have := e2.len; simp only; omega, fun h => (by cases h), fun _ => ⟨rfl, f2, fun v => ?_⟩⟩
    simp only
    rw [f4]
    exact ⟨e2.rc v, reach_in (P := On s') e3 e4⟩
theorem law_ReachedStates {p : Policy} (kp : k_Policy p) : m_laws_FnExactReachedStates p = some true := by
  unfold m_laws_FnExactReachedStates
  rw [show (1048576 : Int) = ((1048576 : Nat) : Int) from rfl, sz_Pol kp _ (Nat.le_refl _), Option.bind_some]
  by_cases h1 : cPol p ≤ 1048576
  · obtain ⟨r, e1, a1, a2⟩ := spec_reached h1
    obtain ⟨q, e2, b0, b1, b2⟩ := impl_reached (p := p)
    have hrq : q = r := by
      cases hv : vP p with
      | false => rw [a1 hv, b1 hv]
      | true =>
        obtain ⟨c1, c2, c3⟩ := a2 hv
        obtain ⟨d1, d2, d3⟩ := b2 hv
        have : q.1 = r.1 := sorted_ext d2 c2 (fun v => by rw [d3, c3])
        exact Prod.ext this (by rw [c1, d1])
    subst hrq
    obtain ⟨r1, m1⟩ := mk_Pol (k := 1) (by omega) h1
    obtain ⟨r3, m3, g3⟩ := mk_ints' (xs := q.1) (k := 1) (by omega)
    replace m1 : m_laws_markPolicy p 1 = _ := m1
    replace m3 : m_laws_markInt64S q.1 1 = _ := m3
    replace g3 : m_laws_heldInt64S r3 1 = _ := g3
    simp only [szOut_ok h1, dec_neg, cond_false, Option.bind_some, to_Pol h1, e1, e2, eq_ints (show q.1.length ≤ 9223372036854775807 by omega), eq_Pol h1, decide_true, bool_beq, Bool.not_true, Bool.or_false, m1, m3, g3]
  · rw [szOut_no h1]; rfl
end Go.Mod
