import Derived.Test.YtmbbpabjdalfaaaGc
import Derived.Test.YtmbbpabjdalfaaaGd
/- Printed by a program. -/
namespace Go.Mod
open Go.AM
set_option linter.unusedVariables false
structure Term where
  Const : Int
  Coeffs : List Int
  deriving DecidableEq, Inhabited
theorem Term.eta (t : Term) : Term.mk t.Const t.Coeffs = t := rfl
structure Node where
  Kind : Int
  Fact : Int
  Term : Term
  Multipliers : List Int
  deriving DecidableEq, Inhabited
theorem Node.eta (t : Node) : Node.mk t.Kind t.Fact t.Term t.Multipliers = t := rfl
structure Sequent where
  Facts : List Term
  Goal : Term
  deriving DecidableEq, Inhabited
theorem Sequent.eta (t : Sequent) : Sequent.mk t.Facts t.Goal = t := rfl
structure l00Src where
  code : List Int
  at_ : Int
  seed : Int
  deriving DecidableEq, Inhabited
theorem l00Src.eta (t : l00Src) : l00Src.mk t.code t.at_ t.seed = t := rfl
def k_i64 (x : Int) : Prop := -9223372036854775808 ≤ x ∧ x ≤ 9223372036854775807
def kLa_i64 (x : List Int) : Prop := x.length ≤ 9223372036854775807 ∧ ∀ y ∈ x, k_i64 y
def k_Term (x : Term) : Prop := k_i64 x.Const ∧ kLa_i64 x.Coeffs
def kLa_Term (x : List Term) : Prop := x.length ≤ 9223372036854775807 ∧ ∀ y ∈ x, k_Term y
def k_Sequent (x : Sequent) : Prop := kLa_Term x.Facts ∧ k_Term x.Goal

noncomputable def m_laws_szInt64S (p0 : List Int) (p1 : Int) : Option Int :=
  bif (decide ((w64 (p1 - (p0.length : Int))) < (0 : Int))) then
    some (-1 : Int)
  else
    some (w64 (p1 - (p0.length : Int)))

noncomputable def m_laws_szTerm (p0 : Term) (p1 : Int) : Option Int :=
  (m_laws_szInt64S p0.Coeffs p1).bind fun (r8 : Int) =>
  bif (decide (r8 < (0 : Int))) then
    some (-1 : Int)
  else
    some r8

noncomputable def m_laws_szNode (p0 : Node) (p1 : Int) : Option Int :=
  (m_laws_szTerm p0.Term p1).bind fun (r8 : Int) =>
  bif (decide (r8 < (0 : Int))) then
    some (-1 : Int)
  else
    (m_laws_szInt64S p0.Multipliers r8).bind fun (r14 : Int) =>
    bif (decide (r14 < (0 : Int))) then
      some (-1 : Int)
    else
      some r14

noncomputable def m_laws_szNodeS_L0 (p0 : List Node) (s0 : Int × Int) : Option (Ctl (Int × Int) (Int ⊕ Int)) :=
  bif (decide (s0.2 < (p0.length : Int))) then
    (getI p0 s0.2).bind fun (x20 : Node) =>
    (m_laws_szNode x20 s0.1).bind fun (r23 : Int) =>
    bif (decide (r23 < (0 : Int))) then
      some (.out (.inr (-1 : Int)))
    else
      some (.next (r23, (w64 (s0.2 + (1 : Int)))))
  else
    some (.out (.inl s0.1))

noncomputable def m_laws_szNodeS_A0 (u0 : Int ⊕ Int) : Option Int :=
  match u0 with
  | .inl u0 =>
    some u0
  | .inr u0 =>
    some u0

noncomputable def m_laws_szNodeS (p0 : List Node) (p1 : Int) : Option Int :=
  bif (decide ((w64 (p1 - (p0.length : Int))) < (0 : Int))) then
    some (-1 : Int)
  else
    (iter (m_laws_szNodeS_L0 p0) ((w64 (p1 - (p0.length : Int))), (0 : Int))).bind fun (u0 : Int ⊕ Int) =>
    m_laws_szNodeS_A0 u0

noncomputable def m_laws_toInt64S_L0 (p0 : List Int) (s0 : (List Int) × Int) : Option (Ctl ((List Int) × Int) ((List Int))) :=
  bif (decide (s0.2 < (p0.length : Int))) then
    (getI p0 s0.2).bind fun (x18 : Int) =>
    (getI s0.1 s0.2).bind fun (x20 : Int) =>
    some (.next ((s0.1.set ((s0.2).toNat) x18), (w64 (s0.2 + (1 : Int)))))
  else
    some (.out s0.1)

noncomputable def m_laws_toInt64S_A0 (u0 : (List Int)) : Option (List Int) :=
  some u0

noncomputable def m_laws_toInt64S (p0 : List Int) : Option (List Int) :=
  (makeI (p0.length : Int) 8).bind fun (k7 : Nat) =>
  (iter (m_laws_toInt64S_L0 p0) ((List.replicate k7 (0 : Int)), (0 : Int))).bind fun (u0 : (List Int)) =>
  m_laws_toInt64S_A0 u0

noncomputable def m_laws_toTerm (p0 : Term) : Option Term :=
  (m_laws_toInt64S p0.Coeffs).bind fun (r9 : List Int) =>
  some (Term.mk p0.Const r9)

noncomputable def m_laws_toNode (p0 : Node) : Option Node :=
  (m_laws_toTerm p0.Term).bind fun (r12 : Term) =>
  (m_laws_toInt64S p0.Multipliers).bind fun (r16 : List Int) =>
  some (Node.mk p0.Kind p0.Fact r12 r16)

noncomputable def m_laws_toNodeS_L0 (p0 : List Node) (s0 : (List Node) × Int) : Option (Ctl ((List Node) × Int) ((List Node))) :=
  bif (decide (s0.2 < (p0.length : Int))) then
    (getI p0 s0.2).bind fun (x18 : Node) =>
    (m_laws_toNode x18).bind fun (r20 : Node) =>
    (getI s0.1 s0.2).bind fun (x21 : Node) =>
    some (.next ((s0.1.set ((s0.2).toNat) r20), (w64 (s0.2 + (1 : Int)))))
  else
    some (.out s0.1)

noncomputable def m_laws_toNodeS_A0 (u0 : (List Node)) : Option (List Node) :=
  some u0

noncomputable def m_laws_toNodeS (p0 : List Node) : Option (List Node) :=
  (makeI (p0.length : Int) 72).bind fun (k7 : Nat) =>
  (iter (m_laws_toNodeS_L0 p0) ((List.replicate k7 (Node.mk (0 : Int) (0 : Int) (Term.mk (0 : Int) ([] : List Int)) ([] : List Int))), (0 : Int))).bind fun (u0 : (List Node)) =>
  m_laws_toNodeS_A0 u0

noncomputable def m_spec_l00In (p0 : Int) (p1 : Int) (p2 : Int) : Option Bool :=
  some ((decide (p1 ≤ p0)) && (decide (p0 ≤ p2)))

noncomputable def m_spec_l05Zero (p0 : Term) : Option Bool :=
  some ((decide (p0.Const = (0 : Int))) && (decide ((p0.Coeffs.length : Int) = (0 : Int))))

noncomputable def m_spec_l05Multipliers_L0 (p0 : List Int) (s0 : Int) : Option (Ctl Int (Unit ⊕ Bool)) :=
  bif (decide (s0 < (p0.length : Int))) then
    (getI p0 s0).bind fun (x12 : Int) =>
    (m_spec_l00In x12 (0 : Int) (1000000 : Int)).bind fun (r14 : Bool) =>
    bif (!r14) then
      some (.out (.inr false))
    else
      some (.next (w64 (s0 + (1 : Int))))
  else
    some (.out (.inl ()))

noncomputable def m_spec_l05Multipliers_A0 (p0 : List Int) (u0 : Unit ⊕ Bool) : Option Bool :=
  match u0 with
  | .inl u0 =>
    some (decide ((p0.length : Int) ≤ (20 : Int)))
  | .inr u0 =>
    some u0

noncomputable def m_spec_l05Multipliers (p0 : List Int) : Option Bool :=
  (iter (m_spec_l05Multipliers_L0 p0) (0 : Int)).bind fun (u0 : Unit ⊕ Bool) =>
  m_spec_l05Multipliers_A0 p0 u0

noncomputable def m_spec_l02Number (p0 : Int) : Option Bool :=
  (m_spec_l00In p0 (-1000000 : Int) (1000000 : Int)).bind fun (r4 : Bool) =>
  some r4

noncomputable def m_spec_l02Is_L0 (p0 : Term) (s0 : Int) : Option (Ctl Int (Unit ⊕ Bool)) :=
  bif (decide (s0 < (p0.Coeffs.length : Int))) then
    (getI p0.Coeffs s0).bind fun (x45 : Int) =>
    (m_spec_l02Number x45).bind fun (r47 : Bool) =>
    bif (!r47) then
      some (.out (.inr false))
    else
      some (.next (w64 (s0 + (1 : Int))))
  else
    some (.out (.inl ()))

noncomputable def m_spec_l02Is_A0 (u0 : Unit ⊕ Bool) : Option Bool :=
  match u0 with
  | .inl u0 =>
    some true
  | .inr u0 =>
    some u0

noncomputable def m_spec_l02Is_J0 (p0 : Term) (j0 : Unit) : Option Bool :=
  (iter (m_spec_l02Is_L0 p0) (0 : Int)).bind fun (u0 : Unit ⊕ Bool) =>
  m_spec_l02Is_A0 u0

noncomputable def m_spec_l02Is (p0 : Term) : Option Bool :=
  (m_spec_l02Number p0.Const).bind fun (r14 : Bool) =>
  bif ((!r14) || (decide ((10 : Int) < (p0.Coeffs.length : Int)))) then
    some false
  else
    bif (decide ((0 : Int) < (p0.Coeffs.length : Int))) then
      (getI p0.Coeffs (w64 ((p0.Coeffs.length : Int) - (1 : Int)))).bind fun (x30 : Int) =>
      bif (decide (x30 = (0 : Int))) then
        some false
      else
        m_spec_l02Is_J0 p0 ()
    else
      m_spec_l02Is_J0 p0 ()

noncomputable def m_spec_l05Node (p0 : Node) : Option Bool :=
  bif (decide (p0.Kind = (1 : Int))) then
    bif (decide (p0.Fact = (0 : Int))) then
      (m_spec_l05Zero p0.Term).bind fun (r18 : Bool) =>
      bif r18 then
        (m_spec_l05Multipliers p0.Multipliers).bind fun (r25 : Bool) =>
        some r25
      else
        some false
    else
      some false
  else
    bif (decide (p0.Kind = (2 : Int))) then
      bif (decide (p0.Fact = (0 : Int))) then
        (m_spec_l02Is p0.Term).bind fun (r38 : Bool) =>
        some (r38 && (decide ((p0.Multipliers.length : Int) = (0 : Int))))
      else
        some false
    else
      bif (decide (p0.Kind = (3 : Int))) then
        (m_spec_l00In p0.Fact (0 : Int) (19 : Int)).bind fun (r54 : Bool) =>
        bif r54 then
          (m_spec_l05Zero p0.Term).bind fun (r59 : Bool) =>
          some (r59 && (decide ((p0.Multipliers.length : Int) = (0 : Int))))
        else
          some false
      else
        some false

noncomputable def m_spec_l05End_L0 (p0 : List Node) (s0 : Int × Int) : Option (Ctl (Int × Int) (Int ⊕ Int)) :=
  bif (decide ((0 : Int) < s0.2)) then
    bif (decide (s0.1 = (p0.length : Int))) then
      some (.out (.inr (-1 : Int)))
    else
      (getI p0 s0.1).bind fun (x14 : Node) =>
      bif (decide (x14.Kind = (1 : Int))) then
        some (.next ((w64 (s0.1 + (1 : Int))), (w64 (s0.2 - (1 : Int)))))
      else
        bif (decide (x14.Kind = (2 : Int))) then
          some (.next ((w64 (s0.1 + (1 : Int))), (w64 (s0.2 + (1 : Int)))))
        else
          some (.next ((w64 (s0.1 + (1 : Int))), s0.2))
  else
    some (.out (.inl s0.1))

noncomputable def m_spec_l05End_A0 (u0 : Int ⊕ Int) : Option Int :=
  match u0 with
  | .inl u0 =>
    some u0
  | .inr u0 =>
    some u0

noncomputable def m_spec_l05End (p0 : List Node) (p1 : Int) : Option Int :=
  (iter (m_spec_l05End_L0 p0) (p1, (1 : Int))).bind fun (u0 : Int ⊕ Int) =>
  m_spec_l05End_A0 u0

noncomputable def m_spec_l05Is_L0 (p0 : List Node) (s0 : Int) : Option (Ctl Int (Unit ⊕ Bool)) :=
  bif (decide (s0 < (p0.length : Int))) then
    (getI p0 s0).bind fun (x16 : Node) =>
    (m_spec_l05Node x16).bind fun (r17 : Bool) =>
    bif (!r17) then
      some (.out (.inr false))
    else
      some (.next (w64 (s0 + (1 : Int))))
  else
    some (.out (.inl ()))

noncomputable def m_spec_l05Is_A0 (p0 : List Node) (u0 : Unit ⊕ Bool) : Option Bool :=
  match u0 with
  | .inl u0 =>
    (m_spec_l05End p0 (0 : Int)).bind fun (r20 : Int) =>
    some (decide (r20 = (p0.length : Int)))
  | .inr u0 =>
    some u0

noncomputable def m_spec_l05Is (p0 : List Node) : Option Bool :=
  (m_spec_l00In (p0.length : Int) (1 : Int) (60 : Int)).bind fun (r6 : Bool) =>
  bif (!r6) then
    some false
  else
    (iter (m_spec_l05Is_L0 p0) (0 : Int)).bind fun (u0 : Unit ⊕ Bool) =>
    m_spec_l05Is_A0 p0 u0

noncomputable def m_spec_l00Own (p0 : List Int) : Option (List Int) :=
  (capI (([] : List Int).length + p0.length) 8).bind fun (q5 : Unit) =>
  some (([] : List Int) ++ p0)

noncomputable def m_spec_l02Own (p0 : Term) : Option Term :=
  (m_spec_l00Own p0.Coeffs).bind fun (r11 : List Int) =>
  some (Term.mk p0.Const r11)

noncomputable def m_spec_l05Own (p0 : Node) : Option Node :=
  (m_spec_l02Own p0.Term).bind fun (r14 : Term) =>
  (m_spec_l00Own p0.Multipliers).bind fun (r19 : List Int) =>
  some (Node.mk p0.Kind p0.Fact r14 r19)

noncomputable def m_spec_l05OwnAll_L0 (p0 : List Node) (s0 : (List Node) × Int) : Option (Ctl ((List Node) × Int) ((List Node))) :=
  bif (decide (s0.2 < (p0.length : Int))) then
    (getI p0 s0.2).bind fun (x15 : Node) =>
    (m_spec_l05Own x15).bind fun (r16 : Node) =>
    (capI (s0.1.length + [r16].length) 72).bind fun (q18 : Unit) =>
    some (.next ((s0.1 ++ [r16]), (w64 (s0.2 + (1 : Int)))))
  else
    some (.out s0.1)

noncomputable def m_spec_l05OwnAll_A0 (u0 : (List Node)) : Option (List Node) :=
  some u0

noncomputable def m_spec_l05OwnAll (p0 : List Node) : Option (List Node) :=
  (iter (m_spec_l05OwnAll_L0 p0) (([] : List Node), (0 : Int))).bind fun (u0 : (List Node)) =>
  m_spec_l05OwnAll_A0 u0

noncomputable def m_spec_SubproofAt (p0 : List Node) (p1 : Int) : Option ((List Node) × Bool) :=
  (m_spec_l05Is p0).bind fun (r7 : Bool) =>
  bif (!r7) then
    some (([] : List Node), false)
  else
    (m_spec_l00In p1 (0 : Int) (w64 ((p0.length : Int) - (1 : Int)))).bind fun (r14 : Bool) =>
    bif (!r14) then
      some (([] : List Node), false)
    else
      (m_spec_l05End p0 p1).bind fun (r21 : Int) =>
      (sliceI p0 p1 r21).bind fun (y22 : List Node) =>
      (m_spec_l05OwnAll y22).bind fun (r23 : List Node) =>
      some (r23, true)

noncomputable def m_impl_Term_isZero (p0 : Term) : Option Bool :=
  some ((decide (p0.Const = (0 : Int))) && (decide ((p0.Coeffs.length : Int) = (0 : Int))))

noncomputable def m_impl_within (p0 : Int) (p1 : Int) (p2 : Int) : Option Bool :=
  some ((decide (p1 ≤ p0)) && (decide (p0 ≤ p2)))

noncomputable def m_impl_allWithin_L0 (p1 : Int) (p2 : Int) (n0 : Nat) (x0 : Int) (s0 : Unit) : Option (Ctl Unit (Unit ⊕ Bool)) :=
  (m_impl_within x0 p1 p2).bind fun (r18 : Bool) =>
  bif (!r18) then
    some (.out (.inr false))
  else
    some (.next ())

noncomputable def m_impl_allWithin_A0 (u0 : Unit ⊕ Bool) : Option Bool :=
  match u0 with
  | .inl u0 =>
    some true
  | .inr u0 =>
    some u0

noncomputable def m_impl_allWithin (p0 : List Int) (p1 : Int) (p2 : Int) : Option Bool :=
  (forL (m_impl_allWithin_L0 p1 p2) (fun s0 => (.inl ())) 0 p0 ()).bind fun (u0 : Unit ⊕ Bool) =>
  m_impl_allWithin_A0 u0

noncomputable def m_impl_isCoeff (p0 : Int) : Option Bool :=
  (m_impl_within p0 (-1000000 : Int) (1000000 : Int)).bind fun (r4 : Bool) =>
  some r4

noncomputable def m_impl_ValidTerm (p0 : Term) : Option Bool :=
  bif (decide ((p0.Coeffs.length : Int) ≤ (10 : Int))) then
    (m_impl_isCoeff p0.Const).bind fun (r12 : Bool) =>
    bif r12 then
      (m_impl_allWithin p0.Coeffs (-1000000 : Int) (1000000 : Int)).bind fun (r17 : Bool) =>
      bif r17 then
        bif (decide ((p0.Coeffs.length : Int) = (0 : Int))) then
          some true
        else
          (getI p0.Coeffs (w64 ((p0.Coeffs.length : Int) - (1 : Int)))).bind fun (x27 : Int) =>
          some (!decide (x27 = (0 : Int)))
      else
        some false
    else
      some false
  else
    some false

noncomputable def m_impl_subproofs (p0 : Node) : Option Int :=
  (m_impl_Term_isZero p0.Term).bind fun (r12 : Bool) =>
  bif (decide (p0.Kind = (1 : Int))) then
    bif (((decide (p0.Fact = (0 : Int))) && r12) && (decide ((p0.Multipliers.length : Int) ≤ (20 : Int)))) then
      (m_impl_allWithin p0.Multipliers (0 : Int) (1000000 : Int)).bind fun (r34 : Bool) =>
      bif r34 then
        some (0 : Int)
      else
        some (-1 : Int)
    else
      some (-1 : Int)
  else
    bif (decide (p0.Kind = (2 : Int))) then
      bif ((decide (p0.Fact = (0 : Int))) && (decide ((p0.Multipliers.length : Int) = (0 : Int)))) then
        (m_impl_ValidTerm p0.Term).bind fun (r45 : Bool) =>
        bif r45 then
          some (2 : Int)
        else
          some (-1 : Int)
      else
        some (-1 : Int)
    else
      bif (decide (p0.Kind = (3 : Int))) then
        (m_impl_within p0.Fact (0 : Int) (19 : Int)).bind fun (r51 : Bool) =>
        bif ((r51 && r12) && (decide ((p0.Multipliers.length : Int) = (0 : Int)))) then
          some (1 : Int)
        else
          some (-1 : Int)
      else
        some (-1 : Int)

noncomputable def m_laws_szTermS_L0 (p0 : List Term) (s0 : Int × Int) : Option (Ctl (Int × Int) (Int ⊕ Int)) :=
  bif (decide (s0.2 < (p0.length : Int))) then
    (getI p0 s0.2).bind fun (x20 : Term) =>
    (m_laws_szTerm x20 s0.1).bind fun (r23 : Int) =>
    bif (decide (r23 < (0 : Int))) then
      some (.out (.inr (-1 : Int)))
    else
      some (.next (r23, (w64 (s0.2 + (1 : Int)))))
  else
    some (.out (.inl s0.1))

noncomputable def m_laws_szTermS_A0 (u0 : Int ⊕ Int) : Option Int :=
  match u0 with
  | .inl u0 =>
    some u0
  | .inr u0 =>
    some u0

noncomputable def m_laws_szTermS (p0 : List Term) (p1 : Int) : Option Int :=
  bif (decide ((w64 (p1 - (p0.length : Int))) < (0 : Int))) then
    some (-1 : Int)
  else
    (iter (m_laws_szTermS_L0 p0) ((w64 (p1 - (p0.length : Int))), (0 : Int))).bind fun (u0 : Int ⊕ Int) =>
    m_laws_szTermS_A0 u0

noncomputable def m_laws_szSequent (p0 : Sequent) (p1 : Int) : Option Int :=
  (m_laws_szTermS p0.Facts p1).bind fun (r8 : Int) =>
  bif (decide (r8 < (0 : Int))) then
    some (-1 : Int)
  else
    (m_laws_szTerm p0.Goal r8).bind fun (r14 : Int) =>
    bif (decide (r14 < (0 : Int))) then
      some (-1 : Int)
    else
      some r14

noncomputable def m_laws_toTermS_L0 (p0 : List Term) (s0 : (List Term) × Int) : Option (Ctl ((List Term) × Int) ((List Term))) :=
  bif (decide (s0.2 < (p0.length : Int))) then
    (getI p0 s0.2).bind fun (x18 : Term) =>
    (m_laws_toTerm x18).bind fun (r20 : Term) =>
    (getI s0.1 s0.2).bind fun (x21 : Term) =>
    some (.next ((s0.1.set ((s0.2).toNat) r20), (w64 (s0.2 + (1 : Int)))))
  else
    some (.out s0.1)

noncomputable def m_laws_toTermS_A0 (u0 : (List Term)) : Option (List Term) :=
  some u0

noncomputable def m_laws_toTermS (p0 : List Term) : Option (List Term) :=
  (makeI (p0.length : Int) 32).bind fun (k7 : Nat) =>
  (iter (m_laws_toTermS_L0 p0) ((List.replicate k7 (Term.mk (0 : Int) ([] : List Int))), (0 : Int))).bind fun (u0 : (List Term)) =>
  m_laws_toTermS_A0 u0

noncomputable def m_laws_toSequent (p0 : Sequent) : Option Sequent :=
  (m_laws_toTermS p0.Facts).bind fun (r6 : List Term) =>
  (m_laws_toTerm p0.Goal).bind fun (r10 : Term) =>
  some (Sequent.mk r6 r10)

noncomputable def m_spec_l02All_L0 (p0 : List Term) (s0 : Int) : Option (Ctl Int (Unit ⊕ Bool)) :=
  bif (decide (s0 < (p0.length : Int))) then
    (getI p0 s0).bind fun (x14 : Term) =>
    (m_spec_l02Is x14).bind fun (r15 : Bool) =>
    bif (!r15) then
      some (.out (.inr false))
    else
      some (.next (w64 (s0 + (1 : Int))))
  else
    some (.out (.inl ()))

noncomputable def m_spec_l02All_A0 (p0 : List Term) (p1 : Int) (u0 : Unit ⊕ Bool) : Option Bool :=
  match u0 with
  | .inl u0 =>
    some (decide ((p0.length : Int) ≤ p1))
  | .inr u0 =>
    some u0

noncomputable def m_spec_l02All (p0 : List Term) (p1 : Int) : Option Bool :=
  (iter (m_spec_l02All_L0 p0) (0 : Int)).bind fun (u0 : Unit ⊕ Bool) =>
  m_spec_l02All_A0 p0 p1 u0

noncomputable def m_spec_l02Sequent (p0 : Sequent) : Option Bool :=
  (m_spec_l02All p0.Facts (13 : Int)).bind fun (r7 : Bool) =>
  bif r7 then
    (m_spec_l02Is p0.Goal).bind fun (r12 : Bool) =>
    some r12
  else
    some false

noncomputable def m_spec_l02Coeff (p0 : Term) (p1 : Int) : Option Int :=
  bif (decide (p1 < (p0.Coeffs.length : Int))) then
    (getI p0.Coeffs p1).bind fun (x17 : Int) =>
    some x17
  else
    some (0 : Int)

noncomputable def m_spec_l02Make_L0 (p1 : List Int) (s0 : Int) : Option (Ctl Int Int) :=
  bif (decide ((0 : Int) < s0)) then
    (getI p1 (w64 (s0 - (1 : Int)))).bind fun (x16 : Int) =>
    bif (decide (x16 = (0 : Int))) then
      some (.next (w64 (s0 - (1 : Int))))
    else
      some (.out s0)
  else
    some (.out s0)

noncomputable def m_spec_l02Make_A0 (p0 : Int) (p1 : List Int) (u0 : Int) : Option (Term × Bool) :=
  (sliceI p1 (0 : Int) u0).bind fun (y25 : List Int) =>
  (m_spec_l00Own y25).bind fun (r26 : List Int) =>
  (m_spec_l02Is (Term.mk p0 r26)).bind fun (r28 : Bool) =>
  bif (!r28) then
    some ((Term.mk (0 : Int) ([] : List Int)), false)
  else
    some ((Term.mk p0 r26), true)

noncomputable def m_spec_l02Make (p0 : Int) (p1 : List Int) : Option (Term × Bool) :=
  (iter (m_spec_l02Make_L0 p1) (p1.length : Int)).bind fun (u0 : Int) =>
  m_spec_l02Make_A0 p0 p1 u0

noncomputable def m_spec_l02Sum_L0 (p0 : Term) (p1 : Int) (p2 : Term) (p3 : Int) (s0 : (List Int) × Int) : Option (Ctl ((List Int) × Int) ((List Int))) :=
  bif (decide (s0.2 < (10 : Int))) then
    (m_spec_l02Coeff p0 s0.2).bind fun (r21 : Int) =>
    (m_spec_l02Coeff p2 s0.2).bind fun (r26 : Int) =>
    (capI (s0.1.length + [(w64 ((w64 (p1 * r21)) + (w64 (p3 * r26))))].length) 8).bind fun (q30 : Unit) =>
    some (.next ((s0.1 ++ [(w64 ((w64 (p1 * r21)) + (w64 (p3 * r26))))]), (w64 (s0.2 + (1 : Int)))))
  else
    some (.out s0.1)

noncomputable def m_spec_l02Sum_A0 (p0 : Term) (p1 : Int) (p2 : Term) (p3 : Int) (u0 : (List Int)) : Option (Term × Bool) :=
  (m_spec_l02Make (w64 ((w64 (p1 * p0.Const)) + (w64 (p3 * p2.Const)))) u0).bind fun (r45 : Term × Bool) =>
  some (r45.1, r45.2)

noncomputable def m_spec_l02Sum (p0 : Term) (p1 : Int) (p2 : Term) (p3 : Int) : Option (Term × Bool) :=
  (iter (m_spec_l02Sum_L0 p0 p1 p2 p3) (([] : List Int), (0 : Int))).bind fun (u0 : (List Int)) =>
  m_spec_l02Sum_A0 p0 p1 p2 p3 u0

noncomputable def m_spec_l02Opposite (p0 : Term) : Option (Term × Bool) :=
  (m_spec_l02Sum p0 (-1 : Int) (Term.mk (1 : Int) ([] : List Int)) (-1 : Int)).bind fun (r7 : Term × Bool) =>
  some (r7.1, r7.2)

noncomputable def m_spec_l02OwnAll_L0 (p0 : List Term) (s0 : (List Term) × Int) : Option (Ctl ((List Term) × Int) ((List Term))) :=
  bif (decide (s0.2 < (p0.length : Int))) then
    (getI p0 s0.2).bind fun (x15 : Term) =>
    (m_spec_l02Own x15).bind fun (r16 : Term) =>
    (capI (s0.1.length + [r16].length) 32).bind fun (q18 : Unit) =>
    some (.next ((s0.1 ++ [r16]), (w64 (s0.2 + (1 : Int)))))
  else
    some (.out s0.1)

noncomputable def m_spec_l02OwnAll_A0 (u0 : (List Term)) : Option (List Term) :=
  some u0

noncomputable def m_spec_l02OwnAll (p0 : List Term) : Option (List Term) :=
  (iter (m_spec_l02OwnAll_L0 p0) (([] : List Term), (0 : Int))).bind fun (u0 : (List Term)) =>
  m_spec_l02OwnAll_A0 u0

noncomputable def m_spec_l02Context (p0 : Sequent) : Option ((List Term) × Bool) :=
  (m_spec_l02Opposite p0.Goal).bind fun (r10 : Term × Bool) =>
  bif (!r10.2) then
    some (([] : List Term), false)
  else
    (m_spec_l02OwnAll p0.Facts).bind fun (r19 : List Term) =>
    (capI (r19.length + [r10.1].length) 32).bind fun (q22 : Unit) =>
    some ((r19 ++ [r10.1]), true)

noncomputable def m_spec_l05Close_J0 (p2 : Int) (j0 : List Int) : Option Node :=
  bif (decide ((0 : Int) ≤ p2)) then
    (getI j0 p2).bind fun (x22 : Int) =>
    some (Node.mk (1 : Int) (0 : Int) (Term.mk (0 : Int) ([] : List Int)) (j0.set ((p2).toNat) (1 : Int)))
  else
    some (Node.mk (1 : Int) (0 : Int) (Term.mk (0 : Int) ([] : List Int)) j0)

noncomputable def m_spec_l05Close (p0 : Int) (p1 : Int) (p2 : Int) : Option Node :=
  (makeI p0 8).bind fun (k9 : Nat) =>
  bif (decide ((0 : Int) ≤ p1)) then
    (getI (List.replicate k9 (0 : Int)) p1).bind fun (x16 : Int) =>
    m_spec_l05Close_J0 p2 ((List.replicate k9 (0 : Int)).set ((p1).toNat) (1 : Int))
  else
    m_spec_l05Close_J0 p2 (List.replicate k9 (0 : Int))

noncomputable def m_spec_l05Closes_L1 (x25 : Int) (x29 : Term) (s1 : (List Int) × Int) : Option (Ctl ((List Int) × Int) ((List Int))) :=
  bif (decide (s1.2 < (x29.Coeffs.length : Int))) then
    (getI s1.1 s1.2).bind fun (x46 : Int) =>
    (getI x29.Coeffs s1.2).bind fun (x58 : Int) =>
    some (.next ((s1.1.set ((s1.2).toNat) (w64 (x46 + (w64 (x25 * x58))))), (w64 (s1.2 + (1 : Int)))))
  else
    some (.out s1.1)

noncomputable def m_spec_l05Closes_A1 (s0 : Int × (List Int) × Int) (x25 : Int) (x29 : Term) (u1 : (List Int)) : Option (Ctl (Int × (List Int) × Int) ((Int × (List Int)))) :=
  some (.next ((w64 (s0.1 + (w64 (x25 * x29.Const)))), u1, (w64 (s0.2.2 + (1 : Int)))))

noncomputable def m_spec_l05Closes_L0 (p0 : List Term) (p1 : List Int) (s0 : Int × (List Int) × Int) : Option (Ctl (Int × (List Int) × Int) ((Int × (List Int)))) :=
  bif (decide (s0.2.2 < (p0.length : Int))) then
    (getI p1 s0.2.2).bind fun (x25 : Int) =>
    (getI p0 s0.2.2).bind fun (x29 : Term) =>
    (iter (m_spec_l05Closes_L1 x25 x29) (s0.2.1, (0 : Int))).bind fun (u1 : (List Int)) =>
    m_spec_l05Closes_A1 s0 x25 x29 u1
  else
    some (.out (s0.1, s0.2.1))

noncomputable def m_spec_l05Closes_L2 (u0 : Int × (List Int)) (s2 : Int) : Option (Ctl Int (Unit ⊕ Bool)) :=
  bif (decide (s2 < (u0.2.length : Int))) then
    (getI u0.2 s2).bind fun (x71 : Int) =>
    bif (!decide (x71 = (0 : Int))) then
      some (.out (.inr false))
    else
      some (.next (w64 (s2 + (1 : Int))))
  else
    some (.out (.inl ()))

noncomputable def m_spec_l05Closes_A2 (u0 : Int × (List Int)) (u2 : Unit ⊕ Bool) : Option Bool :=
  match u2 with
  | .inl u2 =>
    some (decide (u0.1 < (0 : Int)))
  | .inr u2 =>
    some u2

noncomputable def m_spec_l05Closes_A0 (u0 : (Int × (List Int))) : Option Bool :=
  (iter (m_spec_l05Closes_L2 u0) (0 : Int)).bind fun (u2 : Unit ⊕ Bool) =>
  m_spec_l05Closes_A2 u0 u2

noncomputable def m_spec_l05Closes (p0 : List Term) (p1 : List Int) : Option Bool :=
  bif (!decide ((p0.length : Int) = (p1.length : Int))) then
    some false
  else
    (makeI (10 : Int) 8).bind fun (k15 : Nat) =>
    (iter (m_spec_l05Closes_L0 p0 p1) ((0 : Int), (List.replicate k15 (0 : Int)), (0 : Int))).bind fun (u0 : (Int × (List Int))) =>
    m_spec_l05Closes_A0 u0

noncomputable def m_spec_TrivialProof_L0 (r14 : (List Term) × Bool) (s0 : (List Node) × Int) : Option (Ctl ((List Node) × Int) ((List Node))) :=
  bif (decide (s0.2 < (w64 ((r14.1.length : Int) - (1 : Int))))) then
    (m_spec_l05Close (r14.1.length : Int) (-1 : Int) s0.2).bind fun (r35 : Node) =>
    (capI (s0.1.length + ([(Node.mk r35.Kind r35.Fact (Term.mk r35.Term.Const ([] : List Int)) r35.Multipliers)]).length) 72).bind fun (q37 : Unit) =>
    some (.next ((s0.1 ++ [(Node.mk r35.Kind r35.Fact (Term.mk r35.Term.Const ([] : List Int)) r35.Multipliers)]), (w64 (s0.2 + (1 : Int)))))
  else
    some (.out s0.1)

noncomputable def m_spec_TrivialProof_L1 (r14 : (List Term) × Bool) (s1 : (List Node) × Int) : Option (Ctl ((List Node) × Int) ((List Node))) :=
  bif (decide (s1.2 < (w64 ((r14.1.length : Int) - (1 : Int))))) then
    (m_spec_l05Close (r14.1.length : Int) (w64 ((r14.1.length : Int) - (1 : Int))) s1.2).bind fun (r49 : Node) =>
    (capI (s1.1.length + ([(Node.mk r49.Kind r49.Fact (Term.mk r49.Term.Const ([] : List Int)) r49.Multipliers)]).length) 72).bind fun (q51 : Unit) =>
    some (.next ((s1.1 ++ [(Node.mk r49.Kind r49.Fact (Term.mk r49.Term.Const ([] : List Int)) r49.Multipliers)]), (w64 (s1.2 + (1 : Int)))))
  else
    some (.out s1.1)

noncomputable def m_spec_TrivialProof_L2 (r14 : (List Term) × Bool) (u1 : List Node) (s2 : Int) : Option (Ctl Int (Unit ⊕ ((List Node) × Bool))) :=
  bif (decide (s2 < (u1.length : Int))) then
    (getI u1 s2).bind fun (x61 : Node) =>
    (m_spec_l05Closes r14.1 x61.Multipliers).bind fun (r64 : Bool) =>
    bif r64 then
      some (.out (.inr ([x61], true)))
    else
      some (.next (w64 (s2 + (1 : Int))))
  else
    some (.out (.inl ()))

noncomputable def m_spec_TrivialProof_A2 (u2 : Unit ⊕ ((List Node) × Bool)) : Option ((List Node) × Bool) :=
  match u2 with
  | .inl u2 =>
    some (([] : List Node), false)
  | .inr u2 =>
    some (u2.1, u2.2)

noncomputable def m_spec_TrivialProof_A1 (r14 : (List Term) × Bool) (u1 : (List Node)) : Option ((List Node) × Bool) :=
  (iter (m_spec_TrivialProof_L2 r14 u1) (0 : Int)).bind fun (u2 : Unit ⊕ ((List Node) × Bool)) =>
  m_spec_TrivialProof_A2 u2

noncomputable def m_spec_TrivialProof_A0 (r14 : (List Term) × Bool) (u0 : (List Node)) : Option ((List Node) × Bool) :=
  (iter (m_spec_TrivialProof_L1 r14) (u0, (0 : Int))).bind fun (u1 : (List Node)) =>
  m_spec_TrivialProof_A1 r14 u1

noncomputable def m_spec_TrivialProof (p0 : Sequent) : Option ((List Node) × Bool) :=
  (m_spec_l02Sequent p0).bind fun (r11 : Bool) =>
  bif (!r11) then
    some (([] : List Node), false)
  else
    (m_spec_l02Context p0).bind fun (r14 : (List Term) × Bool) =>
    bif (!r14.2) then
      some (([] : List Node), false)
    else
      (m_spec_l05Close (r14.1.length : Int) (w64 ((r14.1.length : Int) - (1 : Int))) (-1 : Int)).bind fun (r24 : Node) =>
      (iter (m_spec_TrivialProof_L0 r14) ([(Node.mk r24.Kind r24.Fact (Term.mk r24.Term.Const ([] : List Int)) r24.Multipliers)], (0 : Int))).bind fun (u0 : (List Node)) =>
      m_spec_TrivialProof_A0 r14 u0

noncomputable def m_impl_areTerms_L0 (n0 : Nat) (x0 : Term) (s0 : Unit) : Option (Ctl Unit (Unit ⊕ Bool)) :=
  (m_impl_ValidTerm x0).bind fun (r18 : Bool) =>
  bif (!r18) then
    some (.out (.inr false))
  else
    some (.next ())

noncomputable def m_impl_areTerms_A0 (u0 : Unit ⊕ Bool) : Option Bool :=
  match u0 with
  | .inl u0 =>
    some true
  | .inr u0 =>
    some u0

noncomputable def m_impl_areTerms (p0 : List Term) (p1 : Int) : Option Bool :=
  bif (decide (p1 < (p0.length : Int))) then
    some false
  else
    (forL (m_impl_areTerms_L0) (fun s0 => (.inl ())) 0 p0 ()).bind fun (u0 : Unit ⊕ Bool) =>
    m_impl_areTerms_A0 u0

noncomputable def m_impl_ValidSequent (p0 : Sequent) : Option Bool :=
  (m_impl_areTerms p0.Facts (13 : Int)).bind fun (r5 : Bool) =>
  bif r5 then
    (m_impl_ValidTerm p0.Goal).bind fun (r9 : Bool) =>
    some r9
  else
    some false

noncomputable def m_impl_Term_trimmed_L0 (p0 : Term) (s0 : Int) : Option (Ctl Int Int) :=
  bif (decide ((0 : Int) < s0)) then
    (getI p0.Coeffs (w64 (s0 - (1 : Int)))).bind fun (x14 : Int) =>
    bif (decide (x14 = (0 : Int))) then
      some (.next (w64 (s0 - (1 : Int))))
    else
      some (.out s0)
  else
    some (.out s0)

noncomputable def m_impl_Term_trimmed_A0 (p0 : Term) (u0 : Int) : Option Term :=
  (sliceI p0.Coeffs (0 : Int) u0).bind fun (y23 : List Int) =>
  some (Term.mk p0.Const y23)

noncomputable def m_impl_Term_trimmed (p0 : Term) : Option Term :=
  (iter (m_impl_Term_trimmed_L0 p0) (p0.Coeffs.length : Int)).bind fun (u0 : Int) =>
  m_impl_Term_trimmed_A0 p0 u0

noncomputable def m_impl_combined_L1 (x23 : Int) (n1 : Nat) (x1 : Int) (s1 : List Int) : Option (Ctl (List Int) ((List Int))) :=
  (getI s1 (n1 : Int)).bind fun (x41 : Int) =>
  some (.next (s1.set (((n1 : Int)).toNat) (w64 (x41 + (w64 (x23 * x1))))))

noncomputable def m_impl_combined_A1 (s0 : Int × (List Int)) (x0 : Term) (x23 : Int) (u1 : (List Int)) : Option (Ctl (Int × (List Int)) ((Int × (List Int)))) :=
  some (.next ((w64 (s0.1 + (w64 (x23 * x0.Const)))), u1))

noncomputable def m_impl_combined_L0 (p1 : List Int) (n0 : Nat) (x0 : Term) (s0 : Int × (List Int)) : Option (Ctl (Int × (List Int)) ((Int × (List Int)))) :=
  (getI p1 (n0 : Int)).bind fun (x23 : Int) =>
  (forL (m_impl_combined_L1 x23) (fun s1 => s1) 0 x0.Coeffs s0.2).bind fun (u1 : (List Int)) =>
  m_impl_combined_A1 s0 x0 x23 u1

noncomputable def m_impl_combined_A0 (u0 : (Int × (List Int))) : Option Term :=
  (m_impl_Term_trimmed (Term.mk u0.1 u0.2)).bind fun (r54 : Term) =>
  some r54

noncomputable def m_impl_combined (p0 : List Term) (p1 : List Int) : Option Term :=
  (makeI (10 : Int) 8).bind fun (k10 : Nat) =>
  (forL (m_impl_combined_L0 p1) (fun s0 => (s0.1, s0.2)) 0 p0 ((0 : Int), (List.replicate k10 (0 : Int)))).bind fun (u0 : (Int × (List Int))) =>
  m_impl_combined_A0 u0

noncomputable def m_impl_Term_opposite (p0 : Term) : Option Term :=
  (m_impl_combined [p0] [(-1 : Int)]).bind fun (r7 : Term) =>
  some (Term.mk (w64 (r7.Const - (1 : Int))) r7.Coeffs)

noncomputable def m_impl_copyInts (p0 : List Int) : Option (List Int) :=
  (capI (([] : List Int).length + p0.length) 8).bind fun (q5 : Unit) =>
  some (([] : List Int) ++ p0)

noncomputable def m_impl_Term_own (p0 : Term) : Option Term :=
  (m_impl_copyInts p0.Coeffs).bind fun (r7 : List Int) =>
  some (Term.mk p0.Const r7)

noncomputable def m_impl_ownTerms_L0 (n0 : Nat) (x0 : Term) (s0 : List Term) : Option (Ctl (List Term) ((List Term))) :=
  (m_impl_Term_own x0).bind fun (r14 : Term) =>
  (capI (s0.length + [r14].length) 32).bind fun (q16 : Unit) =>
  some (.next (s0 ++ [r14]))

noncomputable def m_impl_ownTerms_A0 (u0 : (List Term)) : Option (List Term) :=
  some u0

noncomputable def m_impl_ownTerms (p0 : List Term) : Option (List Term) :=
  (forL (m_impl_ownTerms_L0) (fun s0 => s0) 0 p0 ([] : List Term)).bind fun (u0 : (List Term)) =>
  m_impl_ownTerms_A0 u0

noncomputable def m_impl_ContextOf (p0 : Sequent) : Option ((List Term) × Bool) :=
  (m_impl_ValidSequent p0).bind fun (r5 : Bool) =>
  bif (!r5) then
    some (([] : List Term), false)
  else
    (m_impl_Term_opposite p0.Goal).bind fun (r10 : Term) =>
    (m_impl_ValidTerm r10).bind fun (r11 : Bool) =>
    bif (!r11) then
      some (([] : List Term), false)
    else
      (m_impl_ownTerms p0.Facts).bind fun (r16 : List Term) =>
      (m_impl_Term_opposite p0.Goal).bind fun (r19 : Term) =>
      (m_impl_Term_own r19).bind fun (r20 : Term) =>
      (capI (r16.length + [r20].length) 32).bind fun (q22 : Unit) =>
      some ((r16 ++ [r20]), true)

noncomputable def m_impl_closes (p0 : List Term) (p1 : List Int) : Option Bool :=
  bif (!decide ((p1.length : Int) = (p0.length : Int))) then
    some false
  else
    (m_impl_combined p0 p1).bind fun (r13 : Term) =>
    some ((decide ((r13.Coeffs.length : Int) = (0 : Int))) && (decide (r13.Const < (0 : Int))))

noncomputable def m_impl_TrivialProof_L0 (r17 : (List Term) × Bool) (s0 : (List (List Int)) × Int) : Option (Ctl ((List (List Int)) × Int) ((List (List Int)))) :=
  bif (decide (s0.2 < (w64 ((r17.1.length : Int) - (1 : Int))))) then
    (capI (s0.1.length + ([[s0.2]]).length) 24).bind fun (q36 : Unit) =>
    some (.next ((s0.1 ++ [[s0.2]]), (w64 (s0.2 + (1 : Int)))))
  else
    some (.out s0.1)

noncomputable def m_impl_TrivialProof_L1 (r17 : (List Term) × Bool) (s1 : (List (List Int)) × Int) : Option (Ctl ((List (List Int)) × Int) ((List (List Int)))) :=
  bif (decide (s1.2 < (w64 ((r17.1.length : Int) - (1 : Int))))) then
    (capI (s1.1.length + ([[s1.2, (w64 ((r17.1.length : Int) - (1 : Int)))]]).length) 24).bind fun (q47 : Unit) =>
    some (.next ((s1.1 ++ [[s1.2, (w64 ((r17.1.length : Int) - (1 : Int)))]]), (w64 (s1.2 + (1 : Int)))))
  else
    some (.out s1.1)

noncomputable def m_impl_TrivialProof_L3 (n3 : Nat) (x3 : Int) (s3 : List Int) : Option (Ctl (List Int) ((List Int))) :=
  (getI s3 x3).bind fun (x66 : Int) =>
  some (.next (s3.set ((x3).toNat) (1 : Int)))

noncomputable def m_impl_TrivialProof_A3 (r17 : (List Term) × Bool) (u3 : (List Int)) : Option (Ctl Unit (Unit ⊕ ((List Node) × Bool))) :=
  (m_impl_closes r17.1 u3).bind fun (r70 : Bool) =>
  bif r70 then
    some (.out (.inr ([(Node.mk (1 : Int) (0 : Int) (Term.mk (0 : Int) ([] : List Int)) u3)], true)))
  else
    some (.next ())

noncomputable def m_impl_TrivialProof_L2 (r17 : (List Term) × Bool) (n2 : Nat) (x2 : List Int) (s2 : Unit) : Option (Ctl Unit (Unit ⊕ ((List Node) × Bool))) :=
  (makeI (r17.1.length : Int) 8).bind fun (k57 : Nat) =>
  (forL (m_impl_TrivialProof_L3) (fun s3 => s3) 0 x2 (List.replicate k57 (0 : Int))).bind fun (u3 : (List Int)) =>
  m_impl_TrivialProof_A3 r17 u3

noncomputable def m_impl_TrivialProof_A2 (u2 : Unit ⊕ ((List Node) × Bool)) : Option ((List Node) × Bool) :=
  match u2 with
  | .inl u2 =>
    some (([] : List Node), false)
  | .inr u2 =>
    some (u2.1, u2.2)

noncomputable def m_impl_TrivialProof_A1 (r17 : (List Term) × Bool) (u1 : (List (List Int))) : Option ((List Node) × Bool) :=
  (forL (m_impl_TrivialProof_L2 r17) (fun s2 => (.inl ())) 0 u1 ()).bind fun (u2 : Unit ⊕ ((List Node) × Bool)) =>
  m_impl_TrivialProof_A2 u2

noncomputable def m_impl_TrivialProof_A0 (r17 : (List Term) × Bool) (u0 : (List (List Int))) : Option ((List Node) × Bool) :=
  (iter (m_impl_TrivialProof_L1 r17) (u0, (0 : Int))).bind fun (u1 : (List (List Int))) =>
  m_impl_TrivialProof_A1 r17 u1

noncomputable def m_impl_TrivialProof (p0 : Sequent) : Option ((List Node) × Bool) :=
  (m_impl_ContextOf p0).bind fun (r17 : (List Term) × Bool) =>
  bif (!r17.2) then
    some (([] : List Node), false)
  else
    (iter (m_impl_TrivialProof_L0 r17) ([[(w64 ((r17.1.length : Int) - (1 : Int)))]], (0 : Int))).bind fun (u0 : (List (List Int))) =>
    m_impl_TrivialProof_A0 r17 u0

noncomputable def m_laws_eqInt64S_L0 (p0 : List Int) (p1 : List Int) (s0 : Int) : Option (Ctl Int (Unit ⊕ Bool)) :=
  bif (decide (s0 < (p0.length : Int))) then
    (getI p0 s0).bind fun (x19 : Int) =>
    (getI p1 s0).bind fun (x23 : Int) =>
    bif (!decide (x19 = x23)) then
      some (.out (.inr false))
    else
      some (.next (w64 (s0 + (1 : Int))))
  else
    some (.out (.inl ()))

noncomputable def m_laws_eqInt64S_A0 (u0 : Unit ⊕ Bool) : Option Bool :=
  match u0 with
  | .inl u0 =>
    some true
  | .inr u0 =>
    some u0

noncomputable def m_laws_eqInt64S (p0 : List Int) (p1 : List Int) : Option Bool :=
  bif (!decide ((p0.length : Int) = (p1.length : Int))) then
    some false
  else
    (iter (m_laws_eqInt64S_L0 p0 p1) (0 : Int)).bind fun (u0 : Unit ⊕ Bool) =>
    m_laws_eqInt64S_A0 u0

noncomputable def m_laws_eqTerm (p0 : Term) (p1 : Term) : Option Bool :=
  bif (!decide (p0.Const = p1.Const)) then
    some false
  else
    (m_laws_eqInt64S p0.Coeffs p1.Coeffs).bind fun (r14 : Bool) =>
    bif (!r14) then
      some false
    else
      some true

noncomputable def m_laws_eqNode (p0 : Node) (p1 : Node) : Option Bool :=
  bif (!decide (p0.Kind = p1.Kind)) then
    some false
  else
    bif (!decide (p0.Fact = p1.Fact)) then
      some false
    else
      (m_laws_eqTerm p0.Term p1.Term).bind fun (r19 : Bool) =>
      bif (!r19) then
        some false
      else
        (m_laws_eqInt64S p0.Multipliers p1.Multipliers).bind fun (r25 : Bool) =>
        bif (!r25) then
          some false
        else
          some true

noncomputable def m_laws_eqNodeS_L0 (p0 : List Node) (p1 : List Node) (s0 : Int) : Option (Ctl Int (Unit ⊕ Bool)) :=
  bif (decide (s0 < (p0.length : Int))) then
    (getI p0 s0).bind fun (x19 : Node) =>
    (getI p1 s0).bind fun (x23 : Node) =>
    (m_laws_eqNode x19 x23).bind fun (r25 : Bool) =>
    bif (!r25) then
      some (.out (.inr false))
    else
      some (.next (w64 (s0 + (1 : Int))))
  else
    some (.out (.inl ()))

noncomputable def m_laws_eqNodeS_A0 (u0 : Unit ⊕ Bool) : Option Bool :=
  match u0 with
  | .inl u0 =>
    some true
  | .inr u0 =>
    some u0

noncomputable def m_laws_eqNodeS (p0 : List Node) (p1 : List Node) : Option Bool :=
  bif (!decide ((p0.length : Int) = (p1.length : Int))) then
    some false
  else
    (iter (m_laws_eqNodeS_L0 p0 p1) (0 : Int)).bind fun (u0 : Unit ⊕ Bool) =>
    m_laws_eqNodeS_A0 u0

noncomputable def m_laws_eqTermS_L0 (p0 : List Term) (p1 : List Term) (s0 : Int) : Option (Ctl Int (Unit ⊕ Bool)) :=
  bif (decide (s0 < (p0.length : Int))) then
    (getI p0 s0).bind fun (x19 : Term) =>
    (getI p1 s0).bind fun (x23 : Term) =>
    (m_laws_eqTerm x19 x23).bind fun (r25 : Bool) =>
    bif (!r25) then
      some (.out (.inr false))
    else
      some (.next (w64 (s0 + (1 : Int))))
  else
    some (.out (.inl ()))

noncomputable def m_laws_eqTermS_A0 (u0 : Unit ⊕ Bool) : Option Bool :=
  match u0 with
  | .inl u0 =>
    some true
  | .inr u0 =>
    some u0

noncomputable def m_laws_eqTermS (p0 : List Term) (p1 : List Term) : Option Bool :=
  bif (!decide ((p0.length : Int) = (p1.length : Int))) then
    some false
  else
    (iter (m_laws_eqTermS_L0 p0 p1) (0 : Int)).bind fun (u0 : Unit ⊕ Bool) =>
    m_laws_eqTermS_A0 u0

noncomputable def m_laws_eqSequent (p0 : Sequent) (p1 : Sequent) : Option Bool :=
  (m_laws_eqTermS p0.Facts p1.Facts).bind fun (r9 : Bool) =>
  bif (!r9) then
    some false
  else
    (m_laws_eqTerm p0.Goal p1.Goal).bind fun (r15 : Bool) =>
    bif (!r15) then
      some false
    else
      some true

noncomputable def m_laws_markInt64S_L0 (s0 : (List Int) × Int × Int) : Option (Ctl ((List Int) × Int × Int) ((Int × (List Int)))) :=
  bif (decide (s0.2.2 < (s0.1.length : Int))) then
    (getI s0.1 s0.2.2).bind fun (x15 : Int) =>
    some (.next ((s0.1.set ((s0.2.2).toNat) s0.2.1), (w64 (s0.2.1 + (1 : Int))), (w64 (s0.2.2 + (1 : Int)))))
  else
    some (.out (s0.2.1, s0.1))

noncomputable def m_laws_markInt64S_A0 (u0 : (Int × (List Int))) : Option (Int × (List Int)) :=
  some (u0.1, u0.2)

noncomputable def m_laws_markInt64S (p0 : List Int) (p1 : Int) : Option (Int × (List Int)) :=
  (iter (m_laws_markInt64S_L0) (p0, p1, (0 : Int))).bind fun (u0 : (Int × (List Int))) =>
  m_laws_markInt64S_A0 u0

noncomputable def m_laws_markTermS_L0 (s0 : (List Term) × Int × Int) : Option (Ctl ((List Term) × Int × Int) ((Int × (List Term)))) :=
  bif (decide (s0.2.2 < (s0.1.length : Int))) then
    (getI s0.1 s0.2.2).bind fun (x15 : Term) =>
    (getI (s0.1.set ((s0.2.2).toNat) (Term.mk s0.2.1 x15.Coeffs)) s0.2.2).bind fun (x21 : Term) =>
    (m_laws_markInt64S x21.Coeffs (w64 (s0.2.1 + (1 : Int)))).bind fun (r25 : Int × (List Int)) =>
    some (.next (((s0.1.set ((s0.2.2).toNat) (Term.mk s0.2.1 x15.Coeffs)).set ((s0.2.2).toNat) (Term.mk x21.Const r25.2)), r25.1, (w64 (s0.2.2 + (1 : Int)))))
  else
    some (.out (s0.2.1, s0.1))

noncomputable def m_laws_markTermS_A0 (u0 : (Int × (List Term))) : Option (Int × (List Term)) :=
  some (u0.1, u0.2)

noncomputable def m_laws_markTermS (p0 : List Term) (p1 : Int) : Option (Int × (List Term)) :=
  (iter (m_laws_markTermS_L0) (p0, p1, (0 : Int))).bind fun (u0 : (Int × (List Term))) =>
  m_laws_markTermS_A0 u0

noncomputable def m_laws_markTerm (p0 : Term) (p1 : Int) : Option (Int × (List Int)) :=
  (m_laws_markInt64S p0.Coeffs p1).bind fun (r8 : Int × (List Int)) =>
  some (r8.1, r8.2)

noncomputable def m_laws_markSequent (p0 : Sequent) (p1 : Int) : Option (Int × (List Term) × (List Int)) :=
  (m_laws_markTermS p0.Facts p1).bind fun (r8 : Int × (List Term)) =>
  (m_laws_markTerm p0.Goal r8.1).bind fun (r12 : Int × (List Int)) =>
  some (r12.1, r8.2, r12.2)

noncomputable def m_laws_markNodeS_L0 (s0 : (List Node) × Int × Int) : Option (Ctl ((List Node) × Int × Int) ((Int × (List Node)))) :=
  bif (decide (s0.2.2 < (s0.1.length : Int))) then
    (getI s0.1 s0.2.2).bind fun (x15 : Node) =>
    (getI (s0.1.set ((s0.2.2).toNat) (Node.mk s0.2.1 x15.Fact x15.Term x15.Multipliers)) s0.2.2).bind fun (x22 : Node) =>
    (getI ((s0.1.set ((s0.2.2).toNat) (Node.mk s0.2.1 x15.Fact x15.Term x15.Multipliers)).set ((s0.2.2).toNat) (Node.mk x22.Kind (w64 (s0.2.1 + (1 : Int))) x22.Term x22.Multipliers)) s0.2.2).bind fun (x29 : Node) =>
    (getI (((s0.1.set ((s0.2.2).toNat) (Node.mk s0.2.1 x15.Fact x15.Term x15.Multipliers)).set ((s0.2.2).toNat) (Node.mk x22.Kind (w64 (s0.2.1 + (1 : Int))) x22.Term x22.Multipliers)).set ((s0.2.2).toNat) (Node.mk x29.Kind x29.Fact (Term.mk (w64 ((w64 (s0.2.1 + (1 : Int))) + (1 : Int))) x29.Term.Coeffs) x29.Multipliers)) s0.2.2).bind fun (x36 : Node) =>
    (m_laws_markInt64S x36.Term.Coeffs (w64 ((w64 ((w64 (s0.2.1 + (1 : Int))) + (1 : Int))) + (1 : Int)))).bind fun (r41 : Int × (List Int)) =>
    (getI ((((s0.1.set ((s0.2.2).toNat) (Node.mk s0.2.1 x15.Fact x15.Term x15.Multipliers)).set ((s0.2.2).toNat) (Node.mk x22.Kind (w64 (s0.2.1 + (1 : Int))) x22.Term x22.Multipliers)).set ((s0.2.2).toNat) (Node.mk x29.Kind x29.Fact (Term.mk (w64 ((w64 (s0.2.1 + (1 : Int))) + (1 : Int))) x29.Term.Coeffs) x29.Multipliers)).set ((s0.2.2).toNat) (Node.mk x36.Kind x36.Fact (Term.mk x36.Term.Const r41.2) x36.Multipliers)) s0.2.2).bind fun (x44 : Node) =>
    (m_laws_markInt64S x44.Multipliers r41.1).bind fun (r48 : Int × (List Int)) =>
    some (.next ((((((s0.1.set ((s0.2.2).toNat) (Node.mk s0.2.1 x15.Fact x15.Term x15.Multipliers)).set ((s0.2.2).toNat) (Node.mk x22.Kind (w64 (s0.2.1 + (1 : Int))) x22.Term x22.Multipliers)).set ((s0.2.2).toNat) (Node.mk x29.Kind x29.Fact (Term.mk (w64 ((w64 (s0.2.1 + (1 : Int))) + (1 : Int))) x29.Term.Coeffs) x29.Multipliers)).set ((s0.2.2).toNat) (Node.mk x36.Kind x36.Fact (Term.mk x36.Term.Const r41.2) x36.Multipliers)).set ((s0.2.2).toNat) (Node.mk x44.Kind x44.Fact x44.Term r48.2)), r48.1, (w64 (s0.2.2 + (1 : Int)))))
  else
    some (.out (s0.2.1, s0.1))

noncomputable def m_laws_markNodeS_A0 (u0 : (Int × (List Node))) : Option (Int × (List Node)) :=
  some (u0.1, u0.2)

noncomputable def m_laws_markNodeS (p0 : List Node) (p1 : Int) : Option (Int × (List Node)) :=
  (iter (m_laws_markNodeS_L0) (p0, p1, (0 : Int))).bind fun (u0 : (Int × (List Node))) =>
  m_laws_markNodeS_A0 u0

noncomputable def m_laws_heldInt64S_L0 (p0 : List Int) (s0 : Int × Int) : Option (Ctl (Int × Int) (Int ⊕ Int)) :=
  bif (decide (s0.2 < (p0.length : Int))) then
    (getI p0 s0.2).bind fun (x14 : Int) =>
    bif (!decide (x14 = s0.1)) then
      some (.out (.inr (-1 : Int)))
    else
      some (.next ((w64 (s0.1 + (1 : Int))), (w64 (s0.2 + (1 : Int)))))
  else
    some (.out (.inl s0.1))

noncomputable def m_laws_heldInt64S_A0 (u0 : Int ⊕ Int) : Option Int :=
  match u0 with
  | .inl u0 =>
    some u0
  | .inr u0 =>
    some u0

noncomputable def m_laws_heldInt64S (p0 : List Int) (p1 : Int) : Option Int :=
  (iter (m_laws_heldInt64S_L0 p0) (p1, (0 : Int))).bind fun (u0 : Int ⊕ Int) =>
  m_laws_heldInt64S_A0 u0

noncomputable def m_laws_heldNodeS_L0 (p0 : List Node) (s0 : Int × Int) : Option (Ctl (Int × Int) (Int ⊕ Int)) :=
  bif (decide (s0.2 < (p0.length : Int))) then
    (getI p0 s0.2).bind fun (x14 : Node) =>
    bif (!decide (x14.Kind = s0.1)) then
      some (.out (.inr (-1 : Int)))
    else
      bif (!decide (x14.Fact = (w64 (s0.1 + (1 : Int))))) then
        some (.out (.inr (-1 : Int)))
      else
        bif (!decide (x14.Term.Const = (w64 ((w64 (s0.1 + (1 : Int))) + (1 : Int))))) then
          some (.out (.inr (-1 : Int)))
        else
          (m_laws_heldInt64S x14.Term.Coeffs (w64 ((w64 ((w64 (s0.1 + (1 : Int))) + (1 : Int))) + (1 : Int)))).bind fun (r47 : Int) =>
          bif (decide (r47 < (0 : Int))) then
            some (.out (.inr (-1 : Int)))
          else
            (m_laws_heldInt64S x14.Multipliers r47).bind fun (r56 : Int) =>
            bif (decide (r56 < (0 : Int))) then
              some (.out (.inr (-1 : Int)))
            else
              some (.next (r56, (w64 (s0.2 + (1 : Int)))))
  else
    some (.out (.inl s0.1))

noncomputable def m_laws_heldNodeS_A0 (u0 : Int ⊕ Int) : Option Int :=
  match u0 with
  | .inl u0 =>
    some u0
  | .inr u0 =>
    some u0

noncomputable def m_laws_heldNodeS (p0 : List Node) (p1 : Int) : Option Int :=
  (iter (m_laws_heldNodeS_L0 p0) (p1, (0 : Int))).bind fun (u0 : Int ⊕ Int) =>
  m_laws_heldNodeS_A0 u0

noncomputable def m_laws_FnExactTrivialProof (p0 : Sequent) : Option Bool :=
  (m_laws_szSequent p0 (1048576 : Int)).bind fun (r16 : Int) =>
  bif (decide (r16 < (0 : Int))) then
    some true
  else
    (m_laws_toSequent p0).bind fun (r21 : Sequent) =>
    (m_spec_TrivialProof r21).bind fun (r22 : (List Node) × Bool) =>
    (m_laws_toSequent p0).bind fun (r26 : Sequent) =>
    (m_impl_TrivialProof r26).bind fun (r29 : (List Node) × Bool) =>
    (m_laws_eqNodeS r29.1 r22.1).bind fun (r34 : Bool) =>
    bif ((!r34) || (!(r29.2 == r22.2))) then
      some false
    else
      (m_laws_toSequent p0).bind fun (r43 : Sequent) =>
      (m_laws_eqSequent r26 r43).bind fun (r44 : Bool) =>
      bif (!r44) then
        some false
      else
        (m_laws_markSequent r26 (1 : Int)).bind fun (r48 : Int × (List Term) × (List Int)) =>
        bif (decide (r48.1 < (0 : Int))) then
          some false
        else
          (m_laws_eqNodeS r29.1 r22.1).bind fun (r54 : Bool) =>
          bif ((!r54) || (!(r29.2 == r22.2))) then
            some false
          else
            (m_laws_markNodeS r29.1 (1 : Int)).bind fun (r64 : Int × (List Node)) =>
            (m_laws_heldNodeS r64.2 (1 : Int)).bind fun (r67 : Int) =>
            bif (decide (r67 < (0 : Int))) then
              some false
            else
              bif (!decide (r67 = r64.1)) then
                some false
              else
                (m_laws_toSequent p0).bind fun (r75 : Sequent) =>
                (m_impl_TrivialProof r75).bind fun (r76 : (List Node) × Bool) =>
                (m_laws_eqNodeS r76.1 r22.1).bind fun (r81 : Bool) =>
                bif ((!r81) || (!(r76.2 == r22.2))) then
                  some false
                else
                  (m_laws_heldNodeS r64.2 (1 : Int)).bind fun (r90 : Int) =>
                  bif (decide (r90 < (0 : Int))) then
                    some false
                  else
                    bif (!decide (r90 = r64.1)) then
                      some false
                    else
                      some true

noncomputable def m_laws_r8Long (p0 : List Int) (p1 : List Int) : Option Bool :=
  some ((decide ((48 : Int) < (p0.length : Int))) || (decide ((48 : Int) < (p1.length : Int))))

noncomputable def m_spec_l00From (p0 : List Int) : Option l00Src :=
  some (l00Src.mk p0 (0 : Int) (0 : Int))

noncomputable def m_spec_l00Src_next_J0 (p0 : l00Src) (j0 : Int) : Option (Int × l00Src) :=
  bif (decide ((w64 (p0.at_ + (1 : Int))) ≤ (p0.code.length : Int))) then
    some (j0, (l00Src.mk p0.code (w64 (p0.at_ + (1 : Int))) (wu 64 ((wu 64 ((wu 64 (p0.seed * (6364136223846793005 : Int))) + (wu 64 j0))) + (1442695040888963407 : Int)))))
  else
    some ((w64 (andU 64 (Int.fdiv (wu 64 ((wu 64 ((wu 64 (p0.seed * (6364136223846793005 : Int))) + (wu 64 j0))) + (1442695040888963407 : Int))) (2 ^ 40)) (255 : Int))), (l00Src.mk p0.code (w64 (p0.at_ + (1 : Int))) (wu 64 ((wu 64 ((wu 64 (p0.seed * (6364136223846793005 : Int))) + (wu 64 j0))) + (1442695040888963407 : Int)))))

noncomputable def m_spec_l00Src_next (p0 : l00Src) : Option (Int × l00Src) :=
  bif (decide (p0.at_ < (p0.code.length : Int))) then
    (getI p0.code p0.at_).bind fun (x22 : Int) =>
    m_spec_l00Src_next_J0 p0 (w64 x22)
  else
    m_spec_l00Src_next_J0 p0 (0 : Int)

noncomputable def m_spec_l00Src_pick (p0 : l00Src) (p1 : Int) : Option (Int × l00Src) :=
  bif (decide (p1 ≤ (1 : Int))) then
    some ((0 : Int), p0)
  else
    (m_spec_l00Src_next p0).bind fun (r9 : Int × l00Src) =>
    bif (decide ((200 : Int) < p1)) then
      (m_spec_l00Src_next r9.2).bind fun (r15 : Int × l00Src) =>
      (remI (w64 ((w64 (r9.1 * (256 : Int))) + r15.1)) p1).bind fun (q19 : Int) =>
      some (q19, r15.2)
    else
      (remI r9.1 p1).bind fun (q19 : Int) =>
      some (q19, r9.2)

noncomputable def m_spec_l05DrawTerm_L0 (s0 : (List Int) × Int × Int × (List Int) × Int) : Option (Ctl ((List Int) × Int × Int × (List Int) × Int) (((List Int) × Int × Int × (List Int)))) :=
  bif (decide ((0 : Int) < s0.2.2.2.2)) then
    (m_spec_l00Src_pick (l00Src.mk s0.1 s0.2.1 s0.2.2.1) (7 : Int)).bind fun (r16 : Int × l00Src) =>
    (capI (s0.2.2.2.1.length + [(w64 (r16.1 - (3 : Int)))].length) 8).bind fun (q19 : Unit) =>
    some (.next (r16.2.code, r16.2.at_, r16.2.seed, (s0.2.2.2.1 ++ [(w64 (r16.1 - (3 : Int)))]), (w64 (s0.2.2.2.2 - (1 : Int)))))
  else
    some (.out (s0.1, s0.2.1, s0.2.2.1, s0.2.2.2.1))

noncomputable def m_spec_l05DrawTerm_A0 (u0 : ((List Int) × Int × Int × (List Int))) : Option (Term × l00Src) :=
  (m_spec_l00Src_pick (l00Src.mk u0.1 u0.2.1 u0.2.2.1) (21 : Int)).bind fun (r22 : Int × l00Src) =>
  (m_spec_l02Make (w64 (r22.1 - (10 : Int))) u0.2.2.2).bind fun (r25 : Term × Bool) =>
  some (r25.1, r22.2)

noncomputable def m_spec_l05DrawTerm (p0 : l00Src) : Option (Term × l00Src) :=
  (m_spec_l00Src_pick p0 (4 : Int)).bind fun (r9 : Int × l00Src) =>
  (iter (m_spec_l05DrawTerm_L0) (r9.2.code, r9.2.at_, r9.2.seed, ([] : List Int), r9.1)).bind fun (u0 : ((List Int) × Int × Int × (List Int))) =>
  m_spec_l05DrawTerm_A0 u0

noncomputable def m_spec_l05Parent_L0 (p0 : List Node) (p1 : Int) (s0 : Int) : Option (Ctl Int (Unit ⊕ (Int × Bool))) :=
  bif (decide ((0 : Int) ≤ s0)) then
    (getI p0 s0).bind fun (x15 : Node) =>
    bif (decide (x15.Kind = (1 : Int))) then
      some (.next (w64 (s0 - (1 : Int))))
    else
      (m_spec_l05End p0 s0).bind fun (r22 : Int) =>
      bif (decide (r22 ≤ p1)) then
        some (.next (w64 (s0 - (1 : Int))))
      else
        some (.out (.inr (s0, (decide ((w64 (s0 + (1 : Int))) = p1)))))
  else
    some (.out (.inl ()))

noncomputable def m_spec_l05Parent_A0 (u0 : Unit ⊕ (Int × Bool)) : Option (Int × Bool) :=
  match u0 with
  | .inl u0 =>
    some ((-1 : Int), false)
  | .inr u0 =>
    some (u0.1, u0.2)

noncomputable def m_spec_l05Parent (p0 : List Node) (p1 : Int) : Option (Int × Bool) :=
  (iter (m_spec_l05Parent_L0 p0 p1) (w64 (p1 - (1 : Int)))).bind fun (u0 : Unit ⊕ (Int × Bool)) =>
  m_spec_l05Parent_A0 u0

noncomputable def m_spec_l00Max (p0 : Int) (p1 : Int) : Option Int :=
  bif (decide (p1 < p0)) then
    some p0
  else
    some p1

noncomputable def m_spec_l02Divisor_L1 (s1 : Int × Int) : Option (Ctl (Int × Int) Int) :=
  bif (decide ((0 : Int) < s1.2)) then
    (remI s1.1 s1.2).bind fun (q36 : Int) =>
    some (.next (s1.2, q36))
  else
    some (.out s1.1)

noncomputable def m_spec_l02Divisor_A1 (s0 : Int × Int) (u1 : Int) : Option (Ctl (Int × Int) Int) :=
  some (.next (u1, (w64 (s0.2 + (1 : Int)))))

noncomputable def m_spec_l02Divisor_L0 (p0 : Term) (s0 : Int × Int) : Option (Ctl (Int × Int) Int) :=
  bif (decide (s0.2 < (p0.Coeffs.length : Int))) then
    (getI p0.Coeffs s0.2).bind fun (x21 : Int) =>
    (m_spec_l00Max x21 (w64 (0 - x21))).bind fun (r31 : Int) =>
    (iter (m_spec_l02Divisor_L1) (s0.1, r31)).bind fun (u1 : Int) =>
    m_spec_l02Divisor_A1 s0 u1
  else
    some (.out s0.1)

noncomputable def m_spec_l02Divisor_A0 (u0 : Int) : Option Int :=
  some u0

noncomputable def m_spec_l02Divisor (p0 : Term) : Option Int :=
  (iter (m_spec_l02Divisor_L0 p0) ((0 : Int), (0 : Int))).bind fun (u0 : Int) =>
  m_spec_l02Divisor_A0 u0

noncomputable def m_spec_l02Tight_L0 (p0 : Term) (r9 : Int) (s0 : (List Int) × Int) : Option (Ctl ((List Int) × Int) ((List Int))) :=
  bif (decide (s0.2 < (p0.Coeffs.length : Int))) then
    (getI p0.Coeffs s0.2).bind fun (x29 : Int) =>
    (quoI x29 r9).bind fun (q32 : Int) =>
    (capI (s0.1.length + [q32].length) 8).bind fun (q34 : Unit) =>
    some (.next ((s0.1 ++ [q32]), (w64 (s0.2 + (1 : Int)))))
  else
    some (.out s0.1)

noncomputable def m_spec_l02Tight_J0 (u0 : List Int) (j0 : Int) : Option (Term × Bool) :=
  (m_spec_l02Make j0 u0).bind fun (r52 : Term × Bool) =>
  some (r52.1, r52.2)

noncomputable def m_spec_l02Tight_A0 (p0 : Term) (r9 : Int) (u0 : (List Int)) : Option (Term × Bool) :=
  (quoI p0.Const r9).bind fun (q40 : Int) =>
  (remI p0.Const r9).bind fun (q46 : Int) =>
  bif (decide (q46 < (0 : Int))) then
    m_spec_l02Tight_J0 u0 (w64 (q40 - (1 : Int)))
  else
    m_spec_l02Tight_J0 u0 q40

noncomputable def m_spec_l02Tight (p0 : Term) : Option (Term × Bool) :=
  (m_spec_l02Divisor p0).bind fun (r9 : Int) =>
  bif (decide (r9 < (2 : Int))) then
    some ((Term.mk (0 : Int) ([] : List Int)), false)
  else
    (iter (m_spec_l02Tight_L0 p0 r9) (([] : List Int), (0 : Int))).bind fun (u0 : (List Int)) =>
    m_spec_l02Tight_A0 p0 r9 u0

noncomputable def m_spec_l05Below (p0 : Node) (p1 : List Term) (p2 : Bool) : Option (List Term) :=
  (capI (([] : List Term).length + p1.length) 32).bind fun (q14 : Unit) =>
  bif (decide (p0.Kind = (3 : Int))) then
    (getI p1 p0.Fact).bind fun (x26 : Term) =>
    (m_spec_l02Tight x26).bind fun (r27 : Term × Bool) =>
    (capI ((([] : List Term) ++ p1).length + [r27.1].length) 32).bind fun (q33 : Unit) =>
    some ((([] : List Term) ++ p1) ++ [r27.1])
  else
    bif p2 then
      (capI ((([] : List Term) ++ p1).length + [p0.Term].length) 32).bind fun (q41 : Unit) =>
      some ((([] : List Term) ++ p1) ++ [p0.Term])
    else
      (m_spec_l02Opposite p0.Term).bind fun (r46 : Term × Bool) =>
      (capI ((([] : List Term) ++ p1).length + [r46.1].length) 32).bind fun (q52 : Unit) =>
      some ((([] : List Term) ++ p1) ++ [r46.1])

noncomputable def m_spec_l05Right (p0 : Node) (p1 : List Term) : Option Bool :=
  bif (decide (p0.Kind = (1 : Int))) then
    (m_spec_l05Closes p1 p0.Multipliers).bind fun (r19 : Bool) =>
    some r19
  else
    bif (decide ((20 : Int) ≤ (p1.length : Int))) then
      some false
    else
      bif (decide (p0.Kind = (2 : Int))) then
        (m_spec_l02Opposite p0.Term).bind fun (r32 : Term × Bool) =>
        some r32.2
      else
        bif (decide ((p1.length : Int) ≤ p0.Fact)) then
          some false
        else
          (getI p1 p0.Fact).bind fun (x49 : Term) =>
          (m_spec_l02Tight x49).bind fun (r50 : Term × Bool) =>
          some r50.2
end Go.Mod

/- My laws of terms, those that hold over this seat. Plain Lean. -/
namespace Go.Mod
open Go.AM
set_option linter.unusedVariables false
set_option linter.unusedSimpArgs false

theorem sz_ints {xs : List Int} (hl : xs.length ≤ 9223372036854775807) : SzP m_laws_szInt64S List.length xs := fun _ hb => sz_flat hl hb
theorem to_ints {xs : List Int} (hl : xs.length ≤ 1048576) : m_laws_toInt64S xs = some xs := by
  unfold m_laws_toInt64S
  rw [makeI_some (by omega), Option.bind_some, iter_to (xs := xs) (z := 0) (cp := some)
    (fun n x ys hx => by unfold m_laws_toInt64S_L0; rw [dec_lt (get_lt hx), cond_true, getI_some hx]; rfl)
    (fun ys => by unfold m_laws_toInt64S_L0; rw [dec_self]; rfl) hl (fun _ _ => rfl)]
  rfl
theorem eq_ints {xs ys : List Int} (hl : xs.length ≤ 9223372036854775807) : m_laws_eqInt64S xs ys = some (decide (xs = ys)) := by
  unfold m_laws_eqInt64S
  by_cases h : xs.length = ys.length
  · rw [decide_eq_true (by omega), Bool.not_true, cond_false, iter_eq (xs := xs) (ys := ys) (eq := fun x y => some (decide (x = y)))
      (fun n x y hx hy => by unfold m_laws_eqInt64S_L0; rw [dec_lt (get_lt hx), cond_true, getI_some hx, getI_some hy]; rfl)
      (by unfold m_laws_eqInt64S_L0; rw [dec_self]; rfl) hl h (fun _ _ _ => rfl)]
    by_cases e : xs = ys
    · rw [if_pos e, decide_eq_true e]; rfl
    · rw [if_neg e, decide_eq_false e]; rfl
  · rw [decide_eq_false (by omega), decide_eq_false (fun e => h (by rw [e]))]; rfl
theorem sum_one {α : Type} (xs : List α) : (xs.map fun _ => 1).sum = xs.length := by
  induction xs with
  | nil => rfl
  | cons x r ih => simp only [List.map_cons, List.sum_cons, List.length_cons, ih]; omega
def heldI (x k : Int) : Option Int := some (bif !decide (x = k) then -1 else w64 (k + 1))
def markI (_x k : Int) : Option (Int × Int) := some (w64 (k + 1), k)
theorem mk_I (x : Int) : MkP markI heldI (fun _ => 1) x := fun k hk => by
  have h : w64 ((k : Int) + 1) = ((k + 1 : Nat) : Int) := w64_succ (by omega)
  refine ⟨k, ?_, ?_⟩
  · unfold markI; rw [h]
  · unfold heldI; rw [decide_eq_true (rfl : (k : Int) = k), Bool.not_true, cond_false, h]
theorem mk_ints {xs : List Int} (hl : xs.length ≤ 1048576) {k : Nat} (hk : k ≤ 1125899906842624) :
    ∃ xs', m_laws_markInt64S xs k = some (((k + xs.length : Nat) : Int), xs') ∧ m_laws_heldInt64S xs' k = some ((k + xs.length : Nat) : Int) := by
  obtain ⟨xs', h1, h2, h3⟩ := iter_mark (xs := xs) (m := fun _ => 1) (mk := markI) (held := heldI)
    (step := m_laws_markInt64S_L0) (hstep := m_laws_heldInt64S_L0)
    (fun n ys x k hk hx => by unfold m_laws_markInt64S_L0; rw [dec_lt (get_lt hx), cond_true, getI_some hx]; rfl)
    (fun ys k => by unfold m_laws_markInt64S_L0; rw [dec_self]; rfl)
    (fun n ys x k hk hx => by
      unfold m_laws_heldInt64S_L0 heldI; rw [dec_lt (get_lt hx), cond_true, getI_some hx, Option.bind_some, Option.bind_some]
      have h2 : w64 ((k : Int) + 1) = ((k + 1 : Nat) : Int) := w64_succ (by omega)
      by_cases h : x = k
      · rw [decide_eq_true h, Bool.not_true, cond_false, cond_false, h2, decide_eq_false (by omega), cond_false]
      · rw [decide_eq_false h, Bool.not_false, cond_true, cond_true, decide_eq_true (by decide), cond_true])
    (fun ys k => by unfold m_laws_heldInt64S_L0; rw [dec_self]; rfl)
    (by omega) (fun x _ => mk_I x) (k := k) (by rw [sum_one]; omega)
  rw [sum_one] at h1 h3
  exact ⟨xs', by unfold m_laws_markInt64S; rw [h1]; rfl, by unfold m_laws_heldInt64S; rw [h3]; rfl⟩
def cTerm (t : Term) : Nat := t.Coeffs.length
theorem sz_Term {t : Term} (hl : t.Coeffs.length ≤ 9223372036854775807) : SzP m_laws_szTerm cTerm t := fun b hb => by
  unfold m_laws_szTerm
  rw [sz_ints hl b hb, Option.bind_some]
  by_cases h : t.Coeffs.length ≤ b
  · rw [show szOut (cTerm t) b = _ from szOut_ok h, szOut_ok h, decide_eq_false (by omega)]; rfl
  · rw [show szOut (cTerm t) b = _ from szOut_no h, szOut_no h]; rfl
theorem to_Term {t : Term} (hl : cTerm t ≤ 1048576) : m_laws_toTerm t = some t := by
  unfold m_laws_toTerm; rw [to_ints hl]; rfl
theorem eq_Term {x y : Term} (hl : cTerm x ≤ 1048576) : m_laws_eqTerm x y = some (decide (x = y)) := by
  unfold m_laws_eqTerm
  unfold cTerm at hl
  rw [eq_ints (by omega), Option.bind_some]
  obtain ⟨a, as⟩ := x
  obtain ⟨b, bs⟩ := y
  by_cases h1 : a = b <;> by_cases h2 : as = bs <;> simp [h1, h2]
def inR (c : Int) : Bool := decide (-1000000 ≤ c) && decide (c ≤ 1000000)
theorem inR_iff {c : Int} : inR c = true ↔ -1000000 ≤ c ∧ c ≤ 1000000 := by simp [inR]
def lastOK (xs : List Int) : Bool := match xs.getLast? with | none => true | some x => !decide (x = 0)
def vT (t : Term) : Bool := inR t.Const && decide (t.Coeffs.length ≤ 10) && lastOK t.Coeffs && t.Coeffs.all inR
theorem vT_len {t : Term} (h : vT t = true) : t.Coeffs.length ≤ 10 := by simp [vT] at h; omega
theorem vT_const {t : Term} (h : vT t = true) : inR t.Const = true := by simp [vT] at h; exact h.1.1.1
theorem vT_coef {t : Term} (h : vT t = true) : ∀ x ∈ t.Coeffs, inR x = true := by simp [vT] at h; exact h.2
theorem getI_last {xs : List Int} (h0 : 0 < xs.length) (hl : xs.length ≤ 9223372036854775807) : getI xs (w64 ((xs.length : Int) - 1)) = xs.getLast? := by
  rw [w64_pred h0 hl, getI_nat, List.getLast?_eq_getElem?]
theorem spec_number (c : Int) : m_spec_l02Number c = some (inR c) := rfl
theorem spec_is_loop {t : Term} (hl : t.Coeffs.length ≤ 1048576) : iter (m_spec_l02Is_L0 t) 0 = some (bif t.Coeffs.all inR then .inl () else .inr false) := by
  have h := iter_for (step := m_spec_l02Is_L0 t) t.Coeffs (fun n (_ : Unit) => (n : Int)) (fun _ x _ => bif inR x then some (.next ()) else some (.out (.inr false))) (fun _ => .inl ())
    (fun n x r hx => by
      unfold m_spec_l02Is_L0
      rw [dec_lt (get_lt hx), cond_true, getI_some hx, Option.bind_some, spec_number, Option.bind_some]
      have hw : w64 ((n : Int) + 1) = ((n + 1 : Nat) : Int) := w64_succ (by have := get_lt hx; omega)
      cases inR x
      · rfl
      · rw [hw]; rfl)
    (fun r => by unfold m_spec_l02Is_L0; rw [dec_self]; rfl) ()
  rw [forL_all inR _ _ (fun n x _ => rfl)] at h
  exact h
theorem spec_is {t : Term} (hl : cTerm t ≤ 1048576) : m_spec_l02Is t = some (vT t) := by
  unfold cTerm at hl
  have hJ : m_spec_l02Is_J0 t () = some (t.Coeffs.all inR) := by
    unfold m_spec_l02Is_J0
    rw [spec_is_loop hl, Option.bind_some]
    cases t.Coeffs.all inR <;> rfl
  unfold m_spec_l02Is
  rw [spec_number, Option.bind_some]
  unfold vT
  cases h1 : inR t.Const with
  | false => rfl
  | true =>
    by_cases h2 : t.Coeffs.length ≤ 10
    · rw [decide_eq_true h2, decide_eq_false (show ¬ (10 : Int) < (t.Coeffs.length : Int) by omega)]
      simp only [Bool.not_true, Bool.false_or, cond_false, Bool.true_and]
      by_cases h3 : 0 < t.Coeffs.length
      · rw [decide_eq_true (show (0 : Int) < (t.Coeffs.length : Int) by omega), cond_true, getI_last h3 (by omega)]
        unfold lastOK
        cases h4 : t.Coeffs.getLast? with
        | none => rw [List.getLast?_eq_none_iff] at h4; rw [h4] at h3; exact absurd h3 (by simp)
        | some x =>
          simp only [Option.bind_some]
          by_cases h5 : x = 0
          · rw [decide_eq_true h5]; rfl
          · rw [decide_eq_false h5, cond_false, hJ]; rfl
      · rw [decide_eq_false (show ¬ (0 : Int) < (t.Coeffs.length : Int) by omega), cond_false, hJ]
        have : t.Coeffs = [] := List.length_eq_zero_iff.1 (by omega)
        rw [this]; rfl
    · rw [decide_eq_false h2, decide_eq_true (show (10 : Int) < (t.Coeffs.length : Int) by omega)]; rfl
theorem impl_all {xs : List Int} {a b : Int} : m_impl_allWithin xs a b = some (xs.all fun x => decide (a ≤ x) && decide (x ≤ b)) := by
  unfold m_impl_allWithin
  rw [forL_all (fun x => decide (a ≤ x) && decide (x ≤ b)) (f := .inr false) xs 0 (fun n x _ => by
    unfold m_impl_allWithin_L0 m_impl_within
    rw [Option.bind_some]
    cases (decide (a ≤ x) && decide (x ≤ b)) <;> rfl), Option.bind_some]
  cases xs.all fun x => decide (a ≤ x) && decide (x ≤ b) <;> rfl
theorem impl_valid (t : Term) : m_impl_ValidTerm t = some (vT t) := by
  unfold m_impl_ValidTerm vT
  by_cases h2 : t.Coeffs.length ≤ 10
  · rw [decide_eq_true h2, decide_eq_true (show (t.Coeffs.length : Int) ≤ (10 : Int) by omega), cond_true]
    rw [show m_impl_isCoeff t.Const = some (inR t.Const) from rfl, Option.bind_some]
    cases h1 : inR t.Const with
    | false => rfl
    | true =>
      rw [cond_true, impl_all, Option.bind_some]
      change (bif t.Coeffs.all inR then _ else _) = _
      cases h3 : t.Coeffs.all inR with
      | false => simp
      | true =>
        rw [cond_true]
        by_cases h4 : t.Coeffs.length = 0
        · rw [decide_eq_true (by omega), cond_true]
          rw [List.length_eq_zero_iff.1 h4]; rfl
        · rw [decide_eq_false (by omega), cond_false, getI_last (by omega) (by omega)]
          unfold lastOK
          cases h5 : t.Coeffs.getLast? with
          | none => rw [List.getLast?_eq_none_iff] at h5; rw [h5] at h4; exact absurd rfl h4
          | some x => simp
  · rw [decide_eq_false h2, decide_eq_false (show ¬ (t.Coeffs.length : Int) ≤ (10 : Int) by omega)]; simp
def tl (xs : List Int) : Nat → Nat
  | 0 => 0
  | n + 1 => if xs[n]? = some 0 then tl xs n else n + 1
theorem tl_le (xs : List Int) : ∀ n, tl xs n ≤ n := by
  intro n
  induction n with
  | zero => exact Nat.le_refl _
  | succ n ih => unfold tl; split <;> omega
def trim (xs : List Int) : List Int := xs.take (tl xs xs.length)
theorem trim_len (xs : List Int) : (trim xs).length ≤ xs.length := by unfold trim; simp; omega
theorem tl_iter {xs : List Int} {step : Int → Option (Ctl Int Int)}
    (hs : ∀ n : Int, step n = bif decide ((0 : Int) < n) then (getI xs (w64 (n - 1))).bind fun x => bif decide (x = 0) then some (.next (w64 (n - 1))) else some (.out n) else some (.out n))
    (hl : xs.length ≤ 1048576) : ∀ n : Nat, n ≤ xs.length → iter step (n : Int) = some ((tl xs n : Nat) : Int) := by
  intro n
  induction n with
  | zero => intro _; exact iter_out (by rw [hs]; rfl)
  | succ n ih =>
    intro hn
    have h := hs ((n + 1 : Nat) : Int)
    have hx : xs[n]? = some xs[n] := by simp
    rw [decide_eq_true (by omega), cond_true, w64_pred (by omega) (by omega), show n + 1 - 1 = n from rfl, getI_some hx, Option.bind_some] at h
    unfold tl
    by_cases h0 : xs[n] = 0
    · rw [decide_eq_true h0, cond_true] at h
      rw [iter_next h, ih (by omega), if_pos (by rw [hx, h0])]
    · rw [decide_eq_false h0, cond_false] at h
      rw [iter_out h, if_neg (by rw [hx]; simpa using h0)]
theorem slice_trim (xs : List Int) : sliceI xs 0 ((tl xs xs.length : Nat) : Int) = some (trim xs) := by
  rw [show (0 : Int) = ((0 : Nat) : Int) from rfl, sliceI_some (by omega) (tl_le _ _)]; rfl
def chk (t : Term) : Term × Bool := bif vT t then (t, true) else (Term.mk 0 [], false)
theorem spec_own {xs : List Int} (h : xs.length ≤ 1048576) : m_spec_l00Own xs = some xs := by
  unfold m_spec_l00Own; rw [capI_some (by simp; omega)]; simp
theorem spec_make {c : Int} {xs : List Int} (hl : xs.length ≤ 1048576) : m_spec_l02Make c xs = some (chk (Term.mk c (trim xs))) := by
  unfold m_spec_l02Make m_spec_l02Make_A0
  have h2 := trim_len xs
  rw [tl_iter (step := m_spec_l02Make_L0 xs) (fun n => rfl) hl _ (Nat.le_refl _), Option.bind_some, slice_trim, Option.bind_some, spec_own (by omega), Option.bind_some, spec_is (by unfold cTerm; simp only; omega), Option.bind_some]
  unfold chk
  cases vT (Term.mk c (trim xs)) <;> rfl
theorem impl_copy {xs : List Int} (h : xs.length ≤ 1048576) : m_impl_copyInts xs = some xs := by
  unfold m_impl_copyInts; rw [capI_some (by simp; omega)]; simp
theorem impl_own {t : Term} (h : t.Coeffs.length ≤ 1048576) : m_impl_Term_own t = some t := by
  unfold m_impl_Term_own; rw [impl_copy h]; rfl
theorem impl_trimmed {t : Term} (hl : t.Coeffs.length ≤ 1048576) : m_impl_Term_trimmed t = some (Term.mk t.Const (trim t.Coeffs)) := by
  unfold m_impl_Term_trimmed m_impl_Term_trimmed_A0
  rw [tl_iter (step := m_impl_Term_trimmed_L0 t) (fun n => rfl) hl _ (Nat.le_refl _), Option.bind_some, slice_trim, Option.bind_some]
def tab (f : Nat → Int) : List Int := (List.range 10).map f
theorem tab_len (f : Nat → Int) : (tab f).length = 10 := rfl
theorem tab_get {f : Nat → Int} {n : Nat} (h : n < 10) : (tab f)[n]? = some (f n) := by simp [tab, h]
theorem tab_set {f : Nat → Int} {n : Nat} {v : Int} (h : n < 10) : (tab f).set n v = tab fun i => if i = n then v else f i := by
  unfold tab
  apply List.ext_getElem?
  intro i
  rw [List.getElem?_set]
  by_cases hi : n = i
  · subst hi; simp [h]
  · rw [if_neg hi]
    have hi' : i ≠ n := Ne.symm hi
    by_cases h10 : i < 10
    · simp [h10, hi']
    · simp [h10]
theorem tab_zero : List.replicate 10 (0 : Int) = tab fun _ => 0 := rfl
def coef (xs : List Int) (i : Nat) : Int := xs[i]?.getD 0
theorem coef_get {xs : List Int} {i : Nat} {x : Int} (h : xs[i]? = some x) : coef xs i = x := by simp [coef, h]
theorem coef_no {xs : List Int} {i : Nat} (h : xs.length ≤ i) : coef xs i = 0 := by simp [coef, h]
theorem coef_rng {t : Term} (h : vT t = true) (i : Nat) : -1000000 ≤ coef t.Coeffs i ∧ coef t.Coeffs i ≤ 1000000 := by
  unfold coef
  cases hx : t.Coeffs[i]? with
  | none => simp
  | some x => exact inR_iff.1 (vT_coef h x (List.mem_of_getElem? hx))
theorem const_rng {t : Term} (h : vT t = true) : -1000000 ≤ t.Const ∧ t.Const ≤ 1000000 := inR_iff.1 (vT_const h)
theorem prod_rng {a b A B : Int} (h1 : -A ≤ a) (h2 : a ≤ A) (h3 : -B ≤ b) (h4 : b ≤ B) : -(A * B) ≤ a * b ∧ a * b ≤ A * B := by
  have hA : 0 ≤ A := by omega
  have hB : 0 ≤ B := by omega
  have p1 : 0 ≤ (A - a) * (B - b) := Int.mul_nonneg (by omega) (by omega)
  have p2 : 0 ≤ (A + a) * (B + b) := Int.mul_nonneg (by omega) (by omega)
  have p3 : 0 ≤ (A - a) * (B + b) := Int.mul_nonneg (by omega) (by omega)
  have p4 : 0 ≤ (A + a) * (B - b) := Int.mul_nonneg (by omega) (by omega)
  simp only [Int.sub_mul, Int.add_mul, Int.mul_sub, Int.mul_add] at p1 p2 p3 p4
  omega
theorem spec_coeff {t : Term} {i : Nat} (hl : i < 10) : m_spec_l02Coeff t (i : Int) = some (coef t.Coeffs i) := by
  unfold m_spec_l02Coeff
  by_cases h : i < t.Coeffs.length
  · have hx : t.Coeffs[i]? = some t.Coeffs[i] := by simp [h]
    rw [dec_lt h, cond_true, getI_some hx, coef_get hx]; rfl
  · rw [dec_not_lt h, cond_false, coef_no (by omega)]
/-- The sum of the first n. -/
def sumN (f : Nat → Int) : Nat → Int
  | 0 => 0
  | n + 1 => sumN f n + f n
theorem sumN_rng {f : Nat → Int} {B : Int} (h : ∀ i, -B ≤ f i ∧ f i ≤ B) : ∀ n : Nat, -(n * B) ≤ sumN f n ∧ sumN f n ≤ n * B := by
  intro n
  induction n with
  | zero => simp [sumN]
  | succ n ih =>
    have := h n
    have e : ((n + 1 : Nat) : Int) * B = n * B + B := by rw [Int.natCast_add]; simp [Int.add_mul]
    rw [e]
    unfold sumN
    omega
def tAt (ts : List Term) (k : Nat) : Term := ts[k]?.getD ⟨0, []⟩
def lin (ts : List Term) (ms : List Int) (g : Term → Int) (n : Nat) : Int := sumN (fun k => coef ms k * g (tAt ts k)) n
def mOK (m : Int) : Prop := -1000000 ≤ m ∧ m ≤ 1000000
def Lin (ts : List Term) (ms : List Int) : Prop := (∀ t ∈ ts, vT t = true) ∧ (∀ m ∈ ms, mOK m) ∧ ts.length ≤ 14 ∧ ms.length = ts.length
theorem tAt_valid {ts : List Term} (h : ∀ t ∈ ts, vT t = true) (k : Nat) : vT (tAt ts k) = true := by
  unfold tAt
  cases hx : ts[k]? with
  | none => rfl
  | some t => exact h t (List.mem_of_getElem? hx)
theorem coef_m {ms : List Int} (h : ∀ m ∈ ms, mOK m) (k : Nat) : -1000000 ≤ coef ms k ∧ coef ms k ≤ 1000000 := by
  unfold coef
  cases hx : ms[k]? with
  | none => simp
  | some m => exact h m (List.mem_of_getElem? hx)
theorem mul_rng {a b : Int} (h1 : -1000000 ≤ a ∧ a ≤ 1000000) (h2 : -1000000 ≤ b ∧ b ≤ 1000000) : -1000000000000 ≤ a * b ∧ a * b ≤ 1000000000000 := by
  have := prod_rng h1.1 h1.2 h2.1 h2.2
  omega
theorem lin_rng {ts : List Term} {ms : List Int} (h : Lin ts ms) {g : Term → Int} (hg : ∀ t, vT t = true → -1000000 ≤ g t ∧ g t ≤ 1000000) {n : Nat} (hn : n ≤ 14) :
    -14000000000000 ≤ lin ts ms g n ∧ lin ts ms g n ≤ 14000000000000 := by
  have := sumN_rng (f := fun k => coef ms k * g (tAt ts k)) (B := 1000000000000) (fun i => mul_rng (coef_m h.2.1 i) (hg _ (tAt_valid h.1 i))) n
  unfold lin
  omega
/-- One term more: the coefficients. -/
theorem inner {f : Nat → Int} {m : Int} {xs : List Int} (hm : mOK m) (hl : xs.length ≤ 10) (hx : ∀ x ∈ xs, inR x = true) (hf : ∀ i, -100000000000000 ≤ f i ∧ f i ≤ 100000000000000) :
    forL (m_impl_combined_L1 m) (fun s1 => s1) 0 xs (tab f) = some (tab fun i => f i + m * coef xs i) := by
  obtain ⟨t, h1, h2⟩ := forL_inv (step := m_impl_combined_L1 m) (fin := fun s1 => s1) (xs := xs) (fun n s => s = tab fun i => if i < n then f i + m * coef xs i else f i) (fun t => t = tab fun i => f i + m * coef xs i)
    (fun n x s hxn hs => by
      subst hs
      have hn := get_lt hxn
      refine .inl ⟨_, ?_, rfl⟩
      unfold m_impl_combined_L1
      rw [getI_some (tab_get (by omega)), Option.bind_some, if_neg (by omega)]
      have hp := mul_rng hm (inR_iff.1 (hx x (List.mem_of_getElem? hxn)))
      have := hf n
      rw [w64_eq (n := m * x) (by omega), w64_eq (by omega), Int.toNat_natCast, tab_set (by omega)]
      congr 2
      unfold tab
      apply List.map_congr_left
      intro i hi
      by_cases h1 : i = n
      · subst h1; rw [if_pos rfl, if_pos (by omega), coef_get hxn]
      · rw [if_neg h1]
        by_cases h2 : i < n
        · rw [if_pos h2, if_pos (by omega)]
        · rw [if_neg h2, if_neg (by omega)])
    (fun s hs => by
      subst hs
      unfold tab
      apply List.map_congr_left
      intro i hi
      by_cases h2 : i < xs.length
      · rw [if_pos h2]
      · rw [if_neg h2, coef_no (by omega)]; omega)
    (s := tab f) (by simp)
  rw [h1, h2]
theorem impl_combined {ts : List Term} {ms : List Int} (h : Lin ts ms) :
    m_impl_combined ts ms = some (Term.mk (lin ts ms Term.Const ts.length) (trim (tab fun i => lin ts ms (fun t => coef t.Coeffs i) ts.length))) := by
  unfold m_impl_combined
  rw [show (10 : Int) = ((10 : Nat) : Int) from rfl, makeI_some (by omega), Option.bind_some, tab_zero]
  obtain ⟨t, h1, h2⟩ := forL_inv (step := m_impl_combined_L0 ms) (fin := fun s0 => (s0.1, s0.2)) (xs := ts) (fun n s => s = (lin ts ms Term.Const n, tab fun i => lin ts ms (fun t => coef t.Coeffs i) n))
    (fun t => t = (lin ts ms Term.Const ts.length, tab fun i => lin ts ms (fun t => coef t.Coeffs i) ts.length))
    (fun n x s hxn hs => by
      subst hs
      have hn := get_lt hxn
      refine .inl ⟨_, ?_, rfl⟩
      unfold m_impl_combined_L0
      have hmn : n < ms.length := by rw [h.2.2.2]; exact hn
      have hm : ms[n]? = some ms[n] := by simp [hmn]
      have hv := h.1 x (List.mem_of_getElem? hxn)
      have hmo := h.2.1 _ (List.mem_of_getElem? hm)
      rw [getI_some hm, Option.bind_some, inner hmo (vT_len hv) (vT_coef hv)
        (fun i => by have := lin_rng h (g := fun t => coef t.Coeffs i) (fun t ht => coef_rng ht i) (n := n) (by have := h.2.2.1; omega); omega), Option.bind_some]
      unfold m_impl_combined_A1
      have hp := mul_rng hmo (const_rng hv)
      have hq := lin_rng h (g := Term.Const) (fun t ht => const_rng ht) (n := n) (by have := h.2.2.1; omega)
      simp only
      rw [w64_eq (n := ms[n] * x.Const) (by omega), w64_eq (by omega)]
      have e : ∀ g : Term → Int, lin ts ms g (n + 1) = lin ts ms g n + ms[n] * g x := by
        intro g
        unfold lin
        rw [show sumN (fun k => coef ms k * g (tAt ts k)) (n + 1) = sumN (fun k => coef ms k * g (tAt ts k)) n + coef ms n * g (tAt ts n) from rfl, coef_get hm]
        unfold tAt
        rw [hxn]; rfl
      simp only [e])
    (fun s hs => hs) rfl
  change (forL (m_impl_combined_L0 ms) (fun s0 => (s0.1, s0.2)) 0 ts (lin ts ms Term.Const 0, tab fun i => lin ts ms (fun t => coef t.Coeffs i) 0)).bind _ = _
  rw [h1, h2, Option.bind_some]
  unfold m_impl_combined_A0
  rw [impl_trimmed (by simp only [tab_len]; omega)]; rfl
theorem spec_sum_loop {p q : Term} {a b : Int} (hp : vT p = true) (hq : vT q = true) (ha : mOK a) (hb : mOK b) :
    iter (m_spec_l02Sum_L0 p a q b) ([], 0) = some (tab fun i => a * coef p.Coeffs i + b * coef q.Coeffs i) := by
  have key : ∀ (m n : Nat), n + m = 10 → iter (m_spec_l02Sum_L0 p a q b) ((tab fun i => a * coef p.Coeffs i + b * coef q.Coeffs i).take n, (n : Int)) = some (tab fun i => a * coef p.Coeffs i + b * coef q.Coeffs i) := by
    intro m
    induction m with
    | zero =>
      intro n hn
      obtain rfl : n = 10 := by omega
      exact iter_out rfl
    | succ m ih =>
      intro n hn
      rw [iter_next (s' := ((tab fun i => a * coef p.Coeffs i + b * coef q.Coeffs i).take (n + 1), ((n + 1 : Nat) : Int)))]
      · exact ih (n + 1) (by omega)
      · unfold m_spec_l02Sum_L0
        have h1 := mul_rng ha (coef_rng hp n)
        have h2 := mul_rng hb (coef_rng hq n)
        rw [decide_eq_true (by omega), cond_true, spec_coeff (by omega), Option.bind_some, spec_coeff (by omega), Option.bind_some, capI_some (by simp [tab_len]; omega), Option.bind_some]
        rw [w64_succ (by omega), w64_eq (n := a * coef p.Coeffs n) (by omega), w64_eq (n := b * coef q.Coeffs n) (by omega), w64_eq (by omega), List.take_add_one, tab_get (by omega)]
        rfl
  exact key 10 0 rfl
theorem spec_sum {p q : Term} {a b : Int} (hp : vT p = true) (hq : vT q = true) (ha : mOK a) (hb : mOK b) :
    m_spec_l02Sum p a q b = some (chk (Term.mk (a * p.Const + b * q.Const) (trim (tab fun i => a * coef p.Coeffs i + b * coef q.Coeffs i)))) := by
  unfold m_spec_l02Sum
  rw [spec_sum_loop hp hq ha hb, Option.bind_some]
  unfold m_spec_l02Sum_A0
  have h1 := mul_rng ha (const_rng hp)
  have h2 := mul_rng hb (const_rng hq)
  rw [w64_eq (n := a * p.Const) (by omega), w64_eq (n := b * q.Const) (by omega), w64_eq (by omega), spec_make (by rw [tab_len]; omega)]
  rfl
def fAdd (p q : Term) : Term × Bool := bif vT p && vT q then chk (Term.mk (p.Const + q.Const) (trim (tab fun i => coef p.Coeffs i + coef q.Coeffs i))) else (Term.mk 0 [], false)
theorem one_mul' (x : Int) : (1 : Int) * x = x := Int.one_mul x
def small (r : Term × Bool) : Prop := cTerm r.1 ≤ 1048576
theorem chk_small (t : Term) : small (chk t) := by
  unfold chk small
  cases h : vT t with
  | false => exact Nat.zero_le _
  | true => have := vT_len h; unfold cTerm; simp only [cond_true]; omega
theorem fAdd_small (p q : Term) : small (fAdd p q) := by
  unfold fAdd
  cases vT p && vT q
  · exact Nat.zero_le _
  · exact chk_small _
theorem vT_one (c : Int) (h : inR c = true) : vT (Term.mk c []) = true := by unfold vT; simp only [h]; rfl
theorem coef_nil (i : Nat) : coef [] i = 0 := rfl
def fScale (p : Term) (m : Int) : Term × Bool := bif vT p && inR m then chk (Term.mk (m * p.Const) (trim (tab fun i => m * coef p.Coeffs i))) else (Term.mk 0 [], false)
theorem lin_one (p : Term) (m : Int) (g : Term → Int) : lin [p] [m] g 1 = m * g p := by
  unfold lin
  simp [sumN, coef, tAt]
theorem fScale_small (p : Term) (m : Int) : small (fScale p m) := by
  unfold fScale
  cases vT p && inR m
  · exact Nat.zero_le _
  · exact chk_small _
def fOpp (p : Term) : Term × Bool := bif vT p then chk (Term.mk (-p.Const - 1) (trim (tab fun i => -coef p.Coeffs i))) else (Term.mk 0 [], false)
theorem fOpp_small (p : Term) : small (fOpp p) := by
  unfold fOpp
  cases vT p
  · exact Nat.zero_le _
  · exact chk_small _
def cTermS (ts : List Term) : Nat := ts.length + (ts.map cTerm).sum
theorem mem_sum {α : Type} {c : α → Nat} {xs : List α} {x : α} (h : x ∈ xs) : c x ≤ (xs.map c).sum := by
  induction xs with
  | nil => cases h
  | cons y r ih =>
    simp only [List.map_cons, List.sum_cons]
    rcases List.mem_cons.1 h with rfl | h
    · omega
    · have := ih h; omega
theorem cTermS_mem {ts : List Term} {t : Term} (h : t ∈ ts) : cTerm t ≤ cTermS ts := by have := mem_sum (c := cTerm) h; unfold cTermS; omega
theorem sz_TermS {ts : List Term} (k : kLa_Term ts) : SzP m_laws_szTermS cTermS ts := fun b hb => by
  unfold m_laws_szTermS cTermS
  rw [szW k.1 hb]
  by_cases h : ts.length ≤ b
  · rw [decide_eq_false (by omega), cond_false, show (b : Int) - (ts.length : Int) = ((b - ts.length : Nat) : Int) by omega,
      iter_sz (xs := ts) (c := cTerm) (sz := m_laws_szTerm)
        (fun n x b hx => by unfold m_laws_szTermS_L0; rw [dec_lt (get_lt hx), cond_true, getI_some hx]; rfl)
        (fun b => by unfold m_laws_szTermS_L0; rw [dec_self]; rfl) k.1 (fun x hx => sz_Term (k.2 x hx).2.1) (by omega), Option.bind_some]
    by_cases h2 : (ts.map cTerm).sum ≤ b - ts.length
    · rw [if_pos h2, szOut_ok (by omega)]
      unfold m_laws_szTermS_A0; simp only; congr 2; omega
    · rw [if_neg h2, szOut_no (by omega)]; rfl
  · rw [decide_eq_true (by omega), szOut_no (by omega)]; rfl
theorem to_TermS {ts : List Term} (hl : cTermS ts ≤ 1048576) : m_laws_toTermS ts = some ts := by
  have hlen : ts.length ≤ 1048576 := by unfold cTermS at hl; omega
  unfold m_laws_toTermS
  rw [makeI_some (by omega), Option.bind_some, iter_to (xs := ts) (z := Term.mk 0 []) (cp := m_laws_toTerm)
    (fun n x ys hx => by unfold m_laws_toTermS_L0; rw [dec_lt (get_lt hx), cond_true, getI_some hx]; rfl)
    (fun ys => by unfold m_laws_toTermS_L0; rw [dec_self]; rfl) hlen (fun x hx => to_Term (by have := cTermS_mem hx; omega))]
  rfl
theorem eq_TermS {xs ys : List Term} (hl : cTermS xs ≤ 1048576) : m_laws_eqTermS xs ys = some (decide (xs = ys)) := by
  have hlen : xs.length ≤ 1048576 := by unfold cTermS at hl; omega
  unfold m_laws_eqTermS
  by_cases h : xs.length = ys.length
  · rw [decide_eq_true (by omega), Bool.not_true, cond_false, iter_eq (xs := xs) (ys := ys) (eq := m_laws_eqTerm)
      (fun n x y hx hy => by unfold m_laws_eqTermS_L0; rw [dec_lt (get_lt hx), cond_true, getI_some hx, getI_some hy]; rfl)
      (by unfold m_laws_eqTermS_L0; rw [dec_self]; rfl) (by omega) h (fun x hx y => eq_Term (by have := cTermS_mem hx; omega))]
    by_cases e : xs = ys
    · rw [if_pos e, decide_eq_true e]; rfl
    · rw [if_neg e, decide_eq_false e]; rfl
  · rw [decide_eq_false (by omega), decide_eq_false (fun e => h (by rw [e]))]; rfl
/-- An element's marks: its number, then its coefficients. -/
noncomputable def mkEl (x : Term) (k : Int) : Option (Int × Term) := (m_laws_markInt64S x.Coeffs (w64 (k + 1))).bind fun r => some (r.1, Term.mk k r.2)
theorem mkEl_ok {x : Term} (hl : cTerm x ≤ 1048576) {k : Nat} (hk : k ≤ 1125899906842623) : ∃ x', mkEl x k = some (((k + (1 + cTerm x) : Nat) : Int), x') := by
  obtain ⟨r, h1, _⟩ := mk_ints (xs := x.Coeffs) hl (k := k + 1) (by omega)
  refine ⟨Term.mk k r, ?_⟩
  unfold mkEl
  rw [w64_succ (by omega), h1, Option.bind_some]
  unfold cTerm
  congr 3
  omega
/-- The marks of a list of terms. -/
theorem mk_TermS {ts : List Term} (hl : cTermS ts ≤ 1048576) {k : Nat} (hk : k ≤ 1048577) : ∃ ts', m_laws_markTermS ts k = some (((k + cTermS ts : Nat) : Int), ts') := by
  have hlen : ts.length ≤ 1048576 := by unfold cTermS at hl; omega
  have key : ∀ (q n : Nat) (ys : List Term) (k : Nat), n + q = ts.length → ys.length = ts.length → ys.drop n = ts.drop n → k + cTermS (ts.drop n) ≤ 1000000000 →
      ∃ xs', iter m_laws_markTermS_L0 (ys, (k : Int), (n : Int)) = some (((k + cTermS (ts.drop n) : Nat) : Int), xs') := by
    intro q
    induction q with
    | zero =>
      intro n ys k hn hy _ hk
      obtain rfl : n = ts.length := by omega
      refine ⟨ys, ?_⟩
      rw [iter_out (t := ((k : Int), ys))]
      · simp [cTermS]
      · unfold m_laws_markTermS_L0; rw [← hy, dec_self]; rfl
    | succ q ih =>
      intro n ys k hn hy hd hk
      have hlt : n < ts.length := by omega
      have hyn : ys[n]? = some ts[n] := by
        have := congrArg (fun l => l[0]?) hd
        simpa [List.getElem?_drop, hlt] using this
      have hc : cTermS (ts.drop n) = 1 + cTerm ts[n] + cTermS (ts.drop (n + 1)) := by
        rw [List.drop_eq_getElem_cons hlt]; unfold cTermS; simp only [List.length_cons, List.map_cons, List.sum_cons]; omega
      have hm := cTermS_mem (List.getElem_mem hlt)
      obtain ⟨r, h1, _⟩ := mk_ints (xs := (ts[n]).Coeffs) (by unfold cTerm at hm; omega) (k := k + 1) (by omega)
      obtain ⟨xs', e1⟩ := ih (n + 1) ((ys.set n (Term.mk k (ts[n]).Coeffs)).set n (Term.mk k r)) (k + 1 + cTerm ts[n]) (by omega) (by simpa using hy)
        (by
          have := congrArg (fun l => l.drop 1) hd
          simp only [List.drop_drop] at this
          rw [List.drop_set_of_lt (by omega), List.drop_set_of_lt (by omega)]; exact this) (by omega)
      refine ⟨xs', ?_⟩
      rw [iter_next (s' := ((ys.set n (Term.mk k (ts[n]).Coeffs)).set n (Term.mk k r), ((k + 1 + cTerm ts[n] : Nat) : Int), ((n + 1 : Nat) : Int))), e1, hc]
      · congr 2; omega
      · unfold m_laws_markTermS_L0
        simp only
        rw [dec_lt (by omega), cond_true, getI_some hyn, Option.bind_some, Int.toNat_natCast,
          getI_some (x := Term.mk k (ts[n]).Coeffs) (by rw [List.getElem?_set_self (by omega)]), Option.bind_some, w64_succ (by omega)]
        simp only
        rw [h1, Option.bind_some, w64_succ (by omega)]
        rfl
  obtain ⟨xs', h⟩ := key ts.length 0 ts k (by omega) rfl rfl (by simp only [List.drop_zero]; omega)
  refine ⟨xs', ?_⟩
  unfold m_laws_markTermS
  rw [List.drop_zero] at h
  rw [show (0 : Int) = ((0 : Nat) : Int) from rfl, h]; rfl
theorem comb_loop {ts : List Term} {ms : List Int} (h : Lin ts ms) :
    forL (m_impl_combined_L0 ms) (fun s0 => (s0.1, s0.2)) 0 ts (0, tab fun _ => 0) = some (lin ts ms Term.Const ts.length, tab fun i => lin ts ms (fun t => coef t.Coeffs i) ts.length) := by
  obtain ⟨t, h1, h2⟩ := forL_inv (step := m_impl_combined_L0 ms) (fin := fun s0 => (s0.1, s0.2)) (xs := ts) (fun n s => s = (lin ts ms Term.Const n, tab fun i => lin ts ms (fun t => coef t.Coeffs i) n))
    (fun t => t = (lin ts ms Term.Const ts.length, tab fun i => lin ts ms (fun t => coef t.Coeffs i) ts.length))
    (fun n x s hxn hs => by
      subst hs
      have hn := get_lt hxn
      refine .inl ⟨_, ?_, rfl⟩
      unfold m_impl_combined_L0
      have hmn : n < ms.length := by rw [h.2.2.2]; exact hn
      have hm : ms[n]? = some ms[n] := by simp [hmn]
      have hv := h.1 x (List.mem_of_getElem? hxn)
      have hmo := h.2.1 _ (List.mem_of_getElem? hm)
      rw [getI_some hm, Option.bind_some, inner hmo (vT_len hv) (vT_coef hv)
        (fun i => by have := lin_rng h (g := fun t => coef t.Coeffs i) (fun t ht => coef_rng ht i) (n := n) (by have := h.2.2.1; omega); omega), Option.bind_some]
      unfold m_impl_combined_A1
      have hp := mul_rng hmo (const_rng hv)
      have hq := lin_rng h (g := Term.Const) (fun t ht => const_rng ht) (n := n) (by have := h.2.2.1; omega)
      simp only
      rw [w64_eq (n := ms[n] * x.Const) (by omega), w64_eq (by omega)]
      have e : ∀ g : Term → Int, lin ts ms g (n + 1) = lin ts ms g n + ms[n] * g x := by
        intro g
        unfold lin
        rw [show sumN (fun k => coef ms k * g (tAt ts k)) (n + 1) = sumN (fun k => coef ms k * g (tAt ts k)) n + coef ms n * g (tAt ts n) from rfl, coef_get hm]
        unfold tAt
        rw [hxn]; rfl
      simp only [e])
    (fun s hs => hs) rfl
  change forL (m_impl_combined_L0 ms) (fun s0 => (s0.1, s0.2)) 0 ts (lin ts ms Term.Const 0, tab fun i => lin ts ms (fun t => coef t.Coeffs i) 0) = _
  rw [h1, h2]
def inM (m : Int) : Bool := decide (0 ≤ m) && decide (m ≤ 1000000)
theorem inM_ok {m : Int} (h : inM m = true) : mOK m := by simp [inM] at h; unfold mOK; omega
theorem dec_eqN {a b : Nat} : decide ((a : Int) = (b : Int)) = decide (a = b) := by by_cases h : a = b <;> simp [h]; omega
theorem dec_leN {a b : Nat} : decide ((a : Int) ≤ (b : Int)) = decide (a ≤ b) := by by_cases h : a ≤ b <;> simp [h]
theorem spec_all {ts : List Term} {k : Nat} (hl : cTermS ts ≤ 1048576) : m_spec_l02All ts (k : Int) = some (ts.all vT && decide (ts.length ≤ k)) := by
  have hlen : ts.length ≤ 1048576 := by unfold cTermS at hl; omega
  have h := iter_for (step := m_spec_l02All_L0 ts) ts (fun n (_ : Unit) => (n : Int)) (fun _ x _ => bif vT x then some (.next ()) else some (.out (.inr false))) (fun _ => .inl ())
    (fun n x r hx => by
      unfold m_spec_l02All_L0
      rw [dec_lt (get_lt hx), cond_true, getI_some hx, Option.bind_some, spec_is (by have := cTermS_mem (List.mem_of_getElem? hx); omega), Option.bind_some]
      have hw : w64 ((n : Int) + 1) = ((n + 1 : Nat) : Int) := w64_succ (by have := get_lt hx; omega)
      cases vT x
      · rfl
      · rw [hw]; rfl)
    (fun r => by unfold m_spec_l02All_L0; rw [dec_self]; rfl) ()
  rw [forL_all vT _ _ (fun n x _ => rfl)] at h
  unfold m_spec_l02All
  rw [show (0 : Int) = ((0 : Nat) : Int) from rfl, h, Option.bind_some]
  cases ts.all vT
  · rfl
  · change some (decide ((ts.length : Int) ≤ (k : Int))) = _
    rw [dec_leN]; rfl
theorem impl_terms {ts : List Term} {k : Nat} : m_impl_areTerms ts (k : Int) = some (decide (ts.length ≤ k) && ts.all vT) := by
  unfold m_impl_areTerms
  by_cases h : ts.length ≤ k
  · rw [decide_eq_false (by omega), cond_false, decide_eq_true h, Bool.true_and, forL_all vT (f := .inr false) ts 0 (fun n x _ => by
      unfold m_impl_areTerms_L0
      rw [impl_valid, Option.bind_some]
      cases vT x <;> rfl), Option.bind_some]
    cases ts.all vT <;> rfl
  · rw [decide_eq_true (by omega), decide_eq_false h]; rfl
def fComb (ts : List Term) (ms : List Int) : Term × Bool :=
  bif ts.all vT && decide (ts.length ≤ 14) && decide (ms.length = ts.length) && ms.all inM then
    chk (Term.mk (lin ts ms Term.Const ts.length) (trim (tab fun i => lin ts ms (fun t => coef t.Coeffs i) ts.length))) else (Term.mk 0 [], false)
theorem comb_lin {ts : List Term} {ms : List Int} (h1 : ts.all vT = true) (h2 : ts.length ≤ 14) (h3 : ms.length = ts.length) (h4 : ms.all inM = true) : Lin ts ms :=
  ⟨fun t ht => List.all_eq_true.1 h1 t ht, fun m hm => inM_ok (List.all_eq_true.1 h4 m hm), h2, h3⟩
theorem fComb_small (ts : List Term) (ms : List Int) : small (fComb ts ms) := by
  unfold fComb
  cases ts.all vT && decide (ts.length ≤ 14) && decide (ms.length = ts.length) && ms.all inM
  · exact Nat.zero_le _
  · exact chk_small _
def fRef (r : Term × Bool) : Bool := (r.2 && decide ((r.1.Coeffs.length : Int) = 0)) && decide (r.1.Const < 0)
theorem mk_ints' {xs : List Int} {k : Nat} (hk : k + xs.length ≤ 4611686018427387904) :
    ∃ xs', m_laws_markInt64S xs k = some (((k + xs.length : Nat) : Int), xs') ∧ m_laws_heldInt64S xs' k = some ((k + xs.length : Nat) : Int) := by
  obtain ⟨xs', h1, h2, h3⟩ := iter_mark (xs := xs) (m := fun _ => 1) (mk := markI) (held := heldI)
    (step := m_laws_markInt64S_L0) (hstep := m_laws_heldInt64S_L0)
    (fun n ys x k hk hx => by unfold m_laws_markInt64S_L0; rw [dec_lt (get_lt hx), cond_true, getI_some hx]; rfl)
    (fun ys k => by unfold m_laws_markInt64S_L0; rw [dec_self]; rfl)
    (fun n ys x k hk hx => by
      unfold m_laws_heldInt64S_L0 heldI; rw [dec_lt (get_lt hx), cond_true, getI_some hx, Option.bind_some, Option.bind_some]
      have h2 : w64 ((k : Int) + 1) = ((k + 1 : Nat) : Int) := w64_succ (by omega)
      by_cases h : x = k
      · rw [decide_eq_true h, Bool.not_true, cond_false, cond_false, h2, decide_eq_false (by omega), cond_false]
      · rw [decide_eq_false h, Bool.not_false, cond_true, cond_true, decide_eq_true (by decide), cond_true])
    (fun ys k => by unfold m_laws_heldInt64S_L0; rw [dec_self]; rfl)
    (by omega) (fun x _ => mk_I x) (k := k) (by rw [sum_one]; omega)
  rw [sum_one] at h1 h3
  exact ⟨xs', by unfold m_laws_markInt64S; rw [h1]; rfl, by unfold m_laws_heldInt64S; rw [h3]; rfl⟩
noncomputable def heldEl (x : Term) (k : Int) : Option Int := bif !decide (x.Const = k) then some (-1) else m_laws_heldInt64S x.Coeffs (w64 (k + 1))
theorem mk_El (x : Term) : MkP mkEl heldEl (fun x => 1 + cTerm x) x := fun k hk => by
  simp only [cTerm] at hk ⊢
  obtain ⟨r, h1, h2⟩ := mk_ints' (xs := x.Coeffs) (k := k + 1) (by omega)
  refine ⟨Term.mk k r, ?_, ?_⟩
  · unfold mkEl
    rw [w64_succ (by omega), h1, Option.bind_some]
    congr 3; omega
  · unfold heldEl
    rw [decide_eq_true rfl, Bool.not_true, cond_false, w64_succ (by omega), h2]
    congr 2; omega
theorem sum_add {α : Type} (c : α → Nat) (xs : List α) : (xs.map fun x => 1 + c x).sum = xs.length + (xs.map c).sum := by
  induction xs with
  | nil => rfl
  | cons x r ih => simp only [List.map_cons, List.sum_cons, List.length_cons, ih]; omega
def cSeq (s : Sequent) : Nat := cTermS s.Facts + cTerm s.Goal
theorem sz_Seq {s : Sequent} (k : k_Sequent s) : SzP m_laws_szSequent cSeq s := fun b hb => by
  unfold m_laws_szSequent cSeq
  rw [sz_TermS k.1 b hb, Option.bind_some]
  by_cases h : cTermS s.Facts ≤ b
  · rw [szOut_ok h, dec_neg, cond_false, sz_Term k.2.2.1 _ (by omega), Option.bind_some]
    by_cases h2 : cTerm s.Goal ≤ b - cTermS s.Facts
    · rw [szOut_ok h2, dec_neg, cond_false, szOut_ok (by omega)]; congr 2; omega
    · rw [szOut_no h2, szOut_no (by omega)]; rfl
  · rw [szOut_no h, szOut_no (by omega)]; rfl
theorem to_Seq {s : Sequent} (hl : cSeq s ≤ 1048576) : m_laws_toSequent s = some s := by
  unfold cSeq at hl
  unfold m_laws_toSequent; rw [to_TermS (by omega), Option.bind_some, to_Term (by omega)]; rfl
theorem eq_Seq {x y : Sequent} (hl : cSeq x ≤ 1048576) : m_laws_eqSequent x y = some (decide (x = y)) := by
  unfold cSeq at hl
  unfold m_laws_eqSequent
  rw [eq_TermS (by omega), eq_Term (by omega)]
  obtain ⟨a, as⟩ := x
  obtain ⟨b, bs⟩ := y
  by_cases h1 : a = b <;> by_cases h2 : as = bs <;> simp [h1, h2]
theorem foldl_snoc {α : Type} (xs s : List α) : xs.foldl (fun s x => s ++ [x]) s = s ++ xs := by
  induction xs generalizing s with
  | nil => simp
  | cons x r ih => simp [ih]
theorem impl_ownTerms {ts : List Term} (hl : cTermS ts ≤ 1048576) : m_impl_ownTerms ts = some ts := by
  have hlen : ts.length ≤ 1048576 := by unfold cTermS at hl; omega
  unfold m_impl_ownTerms
  rw [forL_fold (fun s x => s ++ [x]) (fun k s => s.length = k) ts 0 [] rfl (fun n x s hx hs => by
    have := get_lt hx
    unfold m_impl_ownTerms_L0
    rw [impl_own (by have := cTermS_mem (List.mem_of_getElem? hx); unfold cTerm at this; omega), Option.bind_some, capI_some (by simp; omega), Option.bind_some]
    exact ⟨rfl, by simp [hs]⟩), Option.bind_some, foldl_snoc]
  rfl
theorem spec_ownAll {ts : List Term} (hl : cTermS ts ≤ 1048576) : m_spec_l02OwnAll ts = some ts := by
  have hlen : ts.length ≤ 1048576 := by unfold cTermS at hl; omega
  have h := iter_for (step := m_spec_l02OwnAll_L0 ts) ts (fun n (s : List Term) => (s, (n : Int))) m_impl_ownTerms_L0 (fun s0 => s0)
    (fun n x r hx => by
      unfold m_spec_l02OwnAll_L0 m_impl_ownTerms_L0 m_spec_l02Own
      have hc := cTermS_mem (List.mem_of_getElem? hx)
      unfold cTerm at hc
      simp only
      rw [dec_lt (get_lt hx), cond_true, getI_some hx, Option.bind_some, spec_own (by omega), Option.bind_some, Option.bind_some, impl_own (by omega), Option.bind_some]
      simp only [List.length_cons, List.length_nil, Nat.zero_add]
      cases capI (r.length + 1) 32 with
      | none => rfl
      | some u => simp only [Option.bind_some]; rw [w64_succ (by have := get_lt hx; omega)]; rfl)
    (fun r => by unfold m_spec_l02OwnAll_L0; simp only; rw [dec_self]; rfl) ([] : List Term)
  have h2 := impl_ownTerms hl
  unfold m_impl_ownTerms at h2
  unfold m_spec_l02OwnAll
  rw [show (0 : Int) = ((0 : Nat) : Int) from rfl, h]
  exact h2
def opp (t : Term) : Term := Term.mk (-t.Const - 1) (trim (tab fun i => -coef t.Coeffs i))
theorem spec_opposite {t : Term} (h : vT t = true) : m_spec_l02Opposite t = some (chk (opp t)) := by
  unfold m_spec_l02Opposite
  rw [spec_sum h (vT_one 1 rfl) (by unfold mOK; omega) (by unfold mOK; omega)]
  simp only [coef_nil, Int.mul_zero, Int.add_zero, Int.neg_mul, Int.one_mul]; rfl
theorem impl_opposite {t : Term} (h : vT t = true) : m_impl_Term_opposite t = some (opp t) := by
  unfold m_impl_Term_opposite
  have := const_rng h
  rw [impl_combined ⟨by simp [h], by simp [mOK], by simp, rfl⟩]
  simp only [List.length_cons, List.length_nil, Nat.zero_add, lin_one, Option.bind_some, Int.neg_mul, Int.one_mul]
  rw [w64_eq (by omega)]; rfl
theorem opp_len (t : Term) : (opp t).Coeffs.length ≤ 10 := by unfold opp; have := trim_len (tab fun i => -coef t.Coeffs i); rw [tab_len] at this; exact this
def vSeq (s : Sequent) : Bool := s.Facts.all vT && decide (s.Facts.length ≤ 13) && vT s.Goal
def fCtx (s : Sequent) : List Term × Bool := bif vSeq s && vT (opp s.Goal) then (s.Facts ++ [opp s.Goal], true) else ([], false)
theorem impl_ctx {s : Sequent} (hl : cSeq s ≤ 1048576) : m_impl_ContextOf s = some (fCtx s) := by
  unfold cSeq at hl
  have hlen : s.Facts.length ≤ 1048576 := by have : s.Facts.length ≤ cTermS s.Facts := by { unfold cTermS; omega }; omega
  unfold m_impl_ContextOf m_impl_ValidSequent fCtx vSeq
  rw [show (13 : Int) = ((13 : Nat) : Int) from rfl, impl_terms, Option.bind_some, impl_valid, Bool.and_comm (decide (s.Facts.length ≤ 13))]
  cases h1 : s.Facts.all vT && decide (s.Facts.length ≤ 13) with
  | false => rfl
  | true =>
    cases h2 : vT s.Goal with
    | false => rfl
    | true =>
      simp only [cond_true, Option.bind_some, Bool.not_true, cond_false, Bool.true_and]
      rw [impl_opposite h2, Option.bind_some, impl_valid, Option.bind_some, impl_ownTerms (by omega), Option.bind_some, Option.bind_some, impl_own (by have := opp_len s.Goal; omega), Option.bind_some]
      cases h3 : vT (opp s.Goal) with
      | false => rfl
      | true =>
        simp only [cond_true, Bool.not_true, cond_false]
        rw [capI_some (by simp; omega)]; rfl
theorem fCtx_small (s : Sequent) : cTermS (fCtx s).1 ≤ 1048576 := by
  unfold fCtx
  cases h : vSeq s && vT (opp s.Goal) with
  | false => exact Nat.zero_le _
  | true =>
    simp only [cond_true]
    simp only [vSeq, Bool.and_eq_true, List.all_eq_true, decide_eq_true_eq] at h
    have hk : ∀ (ts : List Term), (∀ t ∈ ts, vT t = true) → (ts.map cTerm).sum ≤ ts.length * 10 := by
      intro ts
      induction ts with
      | nil => intro _; simp
      | cons t r ih =>
        intro h
        have h1 := ih (fun t ht => h t (by simp [ht]))
        have h2 := vT_len (h t (by simp))
        simp only [List.map_cons, List.sum_cons, List.length_cons]
        unfold cTerm at *
        omega
    have h1 := hk (s.Facts ++ [opp s.Goal]) (fun t ht => by
      rcases List.mem_append.1 ht with ht | ht
      · exact h.1.1.1 t ht
      · rw [List.mem_singleton.1 ht]; exact h.2)
    unfold cTermS
    simp only [List.length_append, List.length_cons, List.length_nil] at h1 ⊢
    have := h.1.1.2
    omega
theorem euclid {step : Int × Int → Option (Ctl (Int × Int) Int)}
    (h0 : ∀ a : Nat, step ((a : Int), ((0 : Nat) : Int)) = some (.out (a : Int)))
    (hs : ∀ a b : Nat, 0 < b → step ((a : Int), (b : Int)) = some (.next ((b : Int), ((a % b : Nat) : Int)))) : ∀ (n b a : Nat), b < n → iter step ((a : Int), (b : Int)) = some ((Nat.gcd a b : Nat) : Int) := by
  intro n
  induction n with
  | zero => intro b a h; omega
  | succ n ih =>
    intro b a h
    by_cases hb : b = 0
    · subst hb; rw [iter_out (h0 a), Nat.gcd_zero_right]
    · rw [iter_next (hs a b (by omega)), ih (a % b) b (by have := Nat.mod_lt a (Nat.pos_of_ne_zero hb); omega)]
      congr 2
      rw [Nat.gcd_comm a b, Nat.gcd_rec b a, Nat.gcd_comm]
theorem rem_nat {a b : Nat} (hb : 0 < b) : remI (a : Int) (b : Int) = some ((a % b : Nat) : Int) := by
  unfold remI
  rw [decide_eq_false (by omega), cond_false]
  rfl
theorem spec_euclid (a b : Nat) : iter m_spec_l02Divisor_L1 ((a : Int), (b : Int)) = some ((Nat.gcd a b : Nat) : Int) :=
  euclid (fun a => rfl) (fun a b hb => by
    unfold m_spec_l02Divisor_L1
    simp only
    rw [decide_eq_true (by omega), cond_true, rem_nat hb]; rfl) (b + 1) b a (Nat.lt_succ_self _)
def gcdL (xs : List Int) : Nat := xs.foldl (fun d x => Nat.gcd d x.natAbs) 0
theorem foldl_cast (xs : List Int) : ∀ (d : Nat), xs.foldl (fun (d : Int) x => ((Nat.gcd d.toNat x.natAbs : Nat) : Int)) (d : Int) = ((xs.foldl (fun d x => Nat.gcd d x.natAbs) d : Nat) : Int) := by
  induction xs with
  | nil => intro d; rfl
  | cons x r ih => intro d; simp only [List.foldl_cons, Int.toNat_natCast]; exact ih _
theorem spec_gcd {t : Term} (h : ∀ x ∈ t.Coeffs, inR x = true) (hl : t.Coeffs.length ≤ 1048576) : m_spec_l02Divisor t = some ((gcdL t.Coeffs : Nat) : Int) := by
  have h2 := iter_for (step := m_spec_l02Divisor_L0 t) t.Coeffs (fun n (d : Nat) => ((d : Int), (n : Int))) (fun n x d => some (.next (Nat.gcd d x.natAbs))) (fun d => ((d : Nat) : Int))
    (fun n x d hx => by
      have hr := inR_iff.1 (h x (List.mem_of_getElem? hx))
      unfold m_spec_l02Divisor_L0 m_spec_l00Max
      simp only
      rw [dec_lt (get_lt hx), cond_true, getI_some hx, Option.bind_some, w64_eq (n := 0 - x) (by omega)]
      have e : (bif decide (0 - x < x) then some x else some (0 - x)) = some ((x.natAbs : Nat) : Int) := by
        by_cases h : 0 - x < x
        · rw [decide_eq_true h, cond_true, show ((x.natAbs : Nat) : Int) = x by omega]
        · rw [decide_eq_false h, cond_false, show ((x.natAbs : Nat) : Int) = 0 - x by omega]
      rw [e, Option.bind_some, spec_euclid, Option.bind_some]
      unfold m_spec_l02Divisor_A1
      simp only
      rw [w64_succ (by have := get_lt hx; omega)]; rfl)
    (fun r => by unfold m_spec_l02Divisor_L0; simp only; rw [dec_self]; rfl) 0
  rw [forL_fold (fun (d : Nat) x => Nat.gcd d x.natAbs) (fun _ _ => True) t.Coeffs 0 0 trivial (fun n x d hx _ => ⟨rfl, trivial⟩)] at h2
  unfold m_spec_l02Divisor
  rw [show ((0 : Int), (0 : Int)) = (((0 : Nat) : Int), ((0 : Nat) : Int)) from rfl, h2]
  rfl
theorem foldl_dvd (xs : List Int) : ∀ (d : Nat), (xs.foldl (fun d x => Nat.gcd d x.natAbs) d) ∣ d ∧ ∀ x ∈ xs, (xs.foldl (fun d x => Nat.gcd d x.natAbs) d) ∣ x.natAbs := by
  induction xs with
  | nil => intro d; exact ⟨Nat.dvd_refl d, fun x h => by cases h⟩
  | cons y r ih =>
    intro d
    obtain ⟨h1, h2⟩ := ih (Nat.gcd d y.natAbs)
    simp only [List.foldl_cons]
    refine ⟨Nat.dvd_trans h1 (Nat.gcd_dvd_left _ _), fun x hx => ?_⟩
    rcases List.mem_cons.1 hx with rfl | hx
    · exact Nat.dvd_trans h1 (Nat.gcd_dvd_right _ _)
    · exact h2 x hx
theorem gcdL_dvd {xs : List Int} {x : Int} (h : x ∈ xs) : gcdL xs ∣ x.natAbs := (foldl_dvd xs 0).2 x h
theorem tdiv_rng {x : Int} {d : Nat} (hd : 2 ≤ d) (h : inR x = true) : inR (x.tdiv d) = true ∧ -500000 ≤ x.tdiv d ∧ x.tdiv d ≤ 500000 := by
  have hr := inR_iff.1 h
  have key : ∀ n : Nat, n ≤ 1000000 → n / d ≤ 500000 := by
    intro n hn
    rw [Nat.div_le_iff_le_mul_add_pred (by omega)]
    have : d * 500000 ≥ 2 * 500000 := Nat.mul_le_mul_right _ hd
    omega
  have : -500000 ≤ x.tdiv d ∧ x.tdiv d ≤ 500000 := by
    rcases Int.le_total 0 x with h0 | h0
    · obtain ⟨n, rfl⟩ := Int.eq_ofNat_of_zero_le h0
      have := key n (by omega)
      rw [show ((n : Int).tdiv (d : Int)) = ((n / d : Nat) : Int) from rfl]
      generalize n / d = q at this ⊢
      omega
    · obtain ⟨n, hn⟩ := Int.eq_ofNat_of_zero_le (show 0 ≤ -x by omega)
      have := key n (by omega)
      have e : x.tdiv d = -((n / d : Nat) : Int) := by
        rw [show x = -(n : Int) by omega, Int.neg_tdiv]; rfl
      rw [e]
      generalize n / d = q at this ⊢
      omega
  exact ⟨inR_iff.2 (by omega), this⟩
theorem tdiv_ne {x : Int} {d : Nat} (hd : 0 < d) (hx : x ≠ 0) (h : d ∣ x.natAbs) : x.tdiv d ≠ 0 := by
  obtain ⟨k, hk⟩ := h
  intro h0
  have h1 : (x.tdiv d) * d = x := Int.tdiv_mul_cancel (Int.natAbs_dvd_natAbs.1 (by simpa using ⟨k, hk⟩))
  rw [h0, Int.zero_mul] at h1
  exact hx h1.symm
theorem quo_nat {x : Int} {d : Nat} (hd : 2 ≤ d) (h : inR x = true) : quoI x (d : Int) = some (x.tdiv d) := by
  have := (tdiv_rng hd h).2
  unfold quoI
  rw [decide_eq_false (by omega), cond_false, w64_eq (by omega)]
def quos (xs : List Int) (d : Nat) : List Int := xs.map fun x => x.tdiv d
def flo (c : Int) (d : Nat) : Int := if c.tmod d < 0 then c.tdiv d - 1 else c.tdiv d
theorem flo_rng {c : Int} {d : Nat} (hd : 2 ≤ d) (h : inR c = true) : inR (flo c d) = true := by
  have := (tdiv_rng hd h).2
  unfold flo
  split <;> exact inR_iff.2 (by omega)
theorem trim_id {xs : List Int} (h : lastOK xs = true) : trim xs = xs := by
  unfold trim
  cases hn : xs.length with
  | zero => rw [List.length_eq_zero_iff.1 hn]; rfl
  | succ n =>
    have hl : xs.getLast? = xs[n]? := by rw [List.getLast?_eq_getElem?, hn]; rfl
    have hx : xs[n]? = some xs[n] := by simp
    unfold lastOK at h
    rw [hl, hx] at h
    simp at h
    unfold tl
    rw [if_neg (by rw [hx]; simpa using h), ← hn, List.take_length]
theorem quos_last {xs : List Int} {d : Nat} (hd : 0 < d) (h : lastOK xs = true) (hv : ∀ x ∈ xs, d ∣ x.natAbs) : lastOK (quos xs d) = true := by
  unfold lastOK quos at *
  rw [List.getLast?_map]
  cases hx : xs.getLast? with
  | none => rfl
  | some x =>
    rw [hx] at h
    simp at h
    have := tdiv_ne hd h (hv x (List.mem_of_getLast? hx))
    simpa using this
theorem vT_last {t : Term} (h : vT t = true) : lastOK t.Coeffs = true := by simp [vT] at h; exact h.1.2
theorem tight_valid {t : Term} (h : vT t = true) (hd : 2 ≤ gcdL t.Coeffs) : vT (Term.mk (flo t.Const (gcdL t.Coeffs)) (quos t.Coeffs (gcdL t.Coeffs))) = true := by
  have h1 := vT_len h
  have h2 := quos_last (d := gcdL t.Coeffs) (by omega) (vT_last h) (fun x hx => gcdL_dvd hx)
  have h3 := flo_rng hd (vT_const h)
  have h4 : (quos t.Coeffs (gcdL t.Coeffs)).all inR = true := by
    rw [List.all_eq_true]
    intro y hy
    obtain ⟨x, hx, rfl⟩ := List.mem_map.1 hy
    exact (tdiv_rng hd (vT_coef h x hx)).1
  unfold vT
  rw [h2, h3, h4]
  simp [quos, h1]
def fTight (t : Term) : Term × Bool :=
  bif vT t && decide (2 ≤ gcdL t.Coeffs) then (Term.mk (flo t.Const (gcdL t.Coeffs)) (quos t.Coeffs (gcdL t.Coeffs)), true) else (Term.mk 0 [], false)
theorem spec_quos {t : Term} {d : Nat} (hd : 2 ≤ d) (h : ∀ x ∈ t.Coeffs, inR x = true) (hl : t.Coeffs.length ≤ 1048576) : iter (m_spec_l02Tight_L0 t (d : Int)) ([], 0) = some (quos t.Coeffs d) := by
  have h2 := iter_for (step := m_spec_l02Tight_L0 t (d : Int)) t.Coeffs (fun n (s : List Int) => (s, (n : Int))) (fun n x s => (capI (s.length + 1) 8).bind fun _ => some (.next (s ++ [x.tdiv d]))) (fun s => s)
    (fun n x s hx => by
      unfold m_spec_l02Tight_L0
      simp only
      rw [dec_lt (get_lt hx), cond_true, getI_some hx, Option.bind_some, quo_nat hd (h x (List.mem_of_getElem? hx)), Option.bind_some]
      simp only [List.length_cons, List.length_nil, Nat.zero_add]
      cases capI (s.length + 1) 8 with
      | none => rfl
      | some u => simp only [Option.bind_some]; rw [w64_succ (by have := get_lt hx; omega)]; rfl)
    (fun r => by unfold m_spec_l02Tight_L0; simp only; rw [dec_self]; rfl) []
  rw [forL_fold (fun s x => s ++ [x.tdiv d]) (fun k s => s.length = k) t.Coeffs 0 [] rfl (fun n x s hx hs => by
    have := get_lt hx
    rw [capI_some (by omega), Option.bind_some]
    exact ⟨rfl, by simp [hs]⟩)] at h2
  rw [show (([] : List Int), (0 : Int)) = ([], ((0 : Nat) : Int)) from rfl, h2]
  congr 1
  have : ∀ (xs s : List Int), xs.foldl (fun s x => s ++ [x.tdiv d]) s = s ++ xs.map fun x => x.tdiv d := by
    intro xs
    induction xs with
    | nil => intro s; simp
    | cons x r ih => intro s; simp [ih]
  exact this t.Coeffs []
theorem fTight_small (t : Term) : small (fTight t) := by
  unfold fTight small
  cases h : vT t && decide (2 ≤ gcdL t.Coeffs) with
  | false => exact Nat.zero_le _
  | true =>
    simp only [Bool.and_eq_true] at h
    have := vT_len h.1
    simp [cTerm, quos]; omega
theorem lin_succ {ts : List Term} {ms : List Int} {n : Nat} {t : Term} {m : Int} (h1 : ts[n]? = some t) (h2 : ms[n]? = some m) (g : Term → Int) :
    lin ts ms g (n + 1) = lin ts ms g n + m * g t := by
  unfold lin
  rw [show sumN (fun k => coef ms k * g (tAt ts k)) (n + 1) = sumN (fun k => coef ms k * g (tAt ts k)) n + coef ms n * g (tAt ts n) from rfl, coef_get h2]
  unfold tAt
  rw [h1]; rfl
def unitT (n : Nat) : Term := Term.mk 0 ((List.replicate (n + 1) 0).set n 1)
theorem unit_coef (n i : Nat) : coef (unitT n).Coeffs i = if i = n then 1 else 0 := by
  unfold coef unitT
  simp only [List.getElem?_set, List.length_replicate, List.getElem?_replicate]
  by_cases h : i = n
  · subst h; simp
  · rw [if_neg (Ne.symm h), if_neg h]
    by_cases h2 : i < n + 1
    · rw [if_pos h2]; rfl
    · rw [if_neg h2]; rfl
theorem unit_valid : ∀ n, n < 10 → vT (unitT n) = true := by decide
def subT (ps : List Term) (n : Nat) : Term := match ps[n]? with | some t => t | none => unitT n
theorem subT_valid {ps : List Term} (h : ps.all vT = true) {n : Nat} (hn : n < 10) : vT (subT ps n) = true := by
  unfold subT
  cases hx : ps[n]? with
  | none => exact unit_valid n hn
  | some t => exact List.all_eq_true.1 h t (List.mem_of_getElem? hx)
def subL (p : Term) (ps : List Term) (n : Nat) : List Term := Term.mk p.Const [] :: (List.range n).map (subT ps)
def subM (p : Term) : List Int := 1 :: p.Coeffs
theorem sub_lin {p : Term} {ps : List Term} (hp : vT p = true) (hs : ps.all vT = true) : Lin (subL p ps p.Coeffs.length) (subM p) := by
  have hl := vT_len hp
  refine ⟨fun t ht => ?_, fun m hm => ?_, by simp [subL]; omega, by simp [subL, subM]⟩
  · unfold subL at ht
    rcases List.mem_cons.1 ht with rfl | ht
    · exact vT_one _ (vT_const hp)
    · obtain ⟨i, hi, rfl⟩ := List.mem_map.1 ht
      exact subT_valid hs (by rw [List.mem_range] at hi; omega)
  · unfold subM at hm
    rcases List.mem_cons.1 hm with rfl | hm
    · unfold mOK; omega
    · exact inR_iff.1 (vT_coef hp m hm)
def fSub (p : Term) (ps : List Term) : Term × Bool :=
  bif vT p && ps.all vT && decide (ps.length ≤ 10) then
    chk (Term.mk (lin (subL p ps p.Coeffs.length) (subM p) Term.Const (p.Coeffs.length + 1)) (trim (tab fun i => lin (subL p ps p.Coeffs.length) (subM p) (fun t => coef t.Coeffs i) (p.Coeffs.length + 1)))) else (Term.mk 0 [], false)
theorem fSub_small (p : Term) (ps : List Term) : small (fSub p ps) := by
  unfold fSub
  cases vT p && ps.all vT && decide (ps.length ≤ 10)
  · exact Nat.zero_le _
  · exact chk_small _
def Src (s : l00Src) (k : Nat) : Prop := (∀ x ∈ s.code, 0 ≤ x ∧ x ≤ 255) ∧ s.code.length ≤ 1048576 ∧ 0 ≤ s.at_ ∧ s.at_ ≤ k
theorem Src.mono {s : l00Src} {k k' : Nat} (h : Src s k) (hk : k ≤ k') : Src s k' := ⟨h.1, h.2.1, h.2.2.1, by have := h.2.2.2; omega⟩
theorem and_rng (a : Int) : 0 ≤ andU 64 a 255 ∧ andU 64 a 255 ≤ 255 := by
  unfold andU
  have h : (BitVec.ofInt 64 a &&& BitVec.ofInt 64 255).toNat ≤ 255 := by
    rw [BitVec.toNat_and]
    have : (BitVec.ofInt 64 255).toNat = 255 := by decide
    rw [this]
    exact Nat.and_le_right
  generalize (BitVec.ofInt 64 a &&& BitVec.ofInt 64 255).toNat = q at h
  unfold wu
  omega
theorem next_ok {s : l00Src} {k : Nat} (h : Src s k) (hk : k ≤ 1000000000) : ∃ r s', m_spec_l00Src_next s = some (r, s') ∧ 0 ≤ r ∧ r ≤ 255 ∧ Src s' (k + 1) := by
  obtain ⟨h1, h2, h3, h4⟩ := h
  have hJ : ∀ j : Int, 0 ≤ j → j ≤ 255 → ∃ r s', m_spec_l00Src_next_J0 s j = some (r, s') ∧ 0 ≤ r ∧ r ≤ 255 ∧ Src s' (k + 1) := by
    intro j hj0 hj1
    unfold m_spec_l00Src_next_J0
    rw [w64_eq (n := s.at_ + 1) (by omega)]
    have hS : ∀ sd, Src (l00Src.mk s.code (s.at_ + 1) sd) (k + 1) := fun sd => ⟨h1, h2, by simp only; omega, by simp only; omega⟩
    by_cases hq : s.at_ + 1 ≤ (s.code.length : Int)
    · rw [decide_eq_true hq, cond_true]; exact ⟨_, _, rfl, hj0, hj1, hS _⟩
    · rw [decide_eq_false hq, cond_false]
      have := and_rng (Int.fdiv (wu 64 ((wu 64 ((wu 64 (s.seed * (6364136223846793005 : Int))) + (wu 64 j))) + (1442695040888963407 : Int))) (2 ^ 40))
      exact ⟨_, _, rfl, by rw [w64_eq (by omega)]; omega, by rw [w64_eq (by omega)]; omega, hS _⟩
  unfold m_spec_l00Src_next
  by_cases hq : s.at_ < (s.code.length : Int)
  · obtain ⟨n, hn⟩ := Int.eq_ofNat_of_zero_le h3
    have hlt : n < s.code.length := by omega
    have hx : s.code[n]? = some s.code[n] := by simp
    have hb := h1 _ (List.getElem_mem hlt)
    rw [decide_eq_true hq, cond_true, hn, getI_some hx, Option.bind_some, w64_eq (by omega)]
    exact hJ _ hb.1 hb.2
  · rw [decide_eq_false hq, cond_false]; exact hJ 0 (by omega) (by omega)
theorem pick_ok {s : l00Src} {k : Nat} {n : Int} (h : Src s k) (hk : k ≤ 100000000) (hn : n ≤ 200) : ∃ r s', m_spec_l00Src_pick s n = some (r, s') ∧ 0 ≤ r ∧ (r < n ∨ r = 0) ∧ Src s' (k + 1) := by
  unfold m_spec_l00Src_pick
  by_cases h1 : n ≤ 1
  · rw [decide_eq_true h1, cond_true]; exact ⟨_, _, rfl, by omega, .inr rfl, h.mono (by omega)⟩
  · rw [decide_eq_false h1, cond_false]
    obtain ⟨r, s', e1, e2, e3, e4⟩ := next_ok h (by omega)
    rw [e1, Option.bind_some, decide_eq_false (by omega), cond_false]
    simp only
    unfold remI
    rw [decide_eq_false (by omega), cond_false, Option.bind_some]
    exact ⟨_, _, rfl, Int.tmod_nonneg _ e2, .inl (Int.tmod_lt_of_pos _ (by omega)), e4⟩
theorem from_ok {code : List Int} (h1 : ∀ x ∈ code, 0 ≤ x ∧ x ≤ 255) (h2 : code.length ≤ 1048576) : m_spec_l00From code = some (l00Src.mk code 0 0) ∧ Src (l00Src.mk code 0 0) 0 :=
  ⟨rfl, h1, h2, Int.le_refl _, Int.le_refl _⟩
theorem tl_last {xs : List Int} : ∀ n, n ≤ xs.length → lastOK (xs.take (tl xs n)) = true := by
  intro n
  induction n with
  | zero => intro _; rfl
  | succ n ih =>
    intro hn
    unfold tl
    split
    · exact ih (by omega)
    · rename_i h
      have hx : xs[n]? = some xs[n] := by simp
      unfold lastOK
      rw [List.getLast?_eq_getElem?]
      have hl : (xs.take (n + 1)).length = n + 1 := by simp; omega
      rw [hl, show n + 1 - 1 = n from rfl, List.getElem?_take, if_pos (by omega), hx]
      rw [hx] at h
      simpa using h
theorem trim_last (xs : List Int) : lastOK (trim xs) = true := tl_last _ (Nat.le_refl _)
theorem tl_zero {xs : List Int} : ∀ n, n ≤ xs.length → ∀ i, tl xs n ≤ i → i < n → coef xs i = 0 := by
  intro n
  induction n with
  | zero => intro _ i _ h; omega
  | succ n ih =>
    intro hn i h1 h2
    unfold tl at h1
    split at h1
    · rename_i h
      by_cases hi : i = n
      · subst hi; exact coef_get h
      · exact ih (by omega) i h1 (by omega)
    · omega
theorem trim_coef (xs : List Int) (i : Nat) : coef (trim xs) i = coef xs i := by
  unfold trim
  by_cases h : i < tl xs xs.length
  · unfold coef; rw [List.getElem?_take, if_pos h]
  · rw [coef_no (by simp; omega)]
    by_cases h2 : i < xs.length
    · rw [tl_zero xs.length (Nat.le_refl _) i (by omega) h2]
    · rw [coef_no (by omega)]
theorem tab_coef (f : Nat → Int) (i : Nat) : coef (tab f) i = if i < 10 then f i else 0 := by
  by_cases h : i < 10
  · rw [if_pos h, coef_get (tab_get h)]
  · rw [if_neg h, coef_no (by rw [tab_len]; omega)]
theorem last_coef {xs : List Int} (h : lastOK xs = true) (h0 : 0 < xs.length) : coef xs (xs.length - 1) ≠ 0 := by
  unfold lastOK at h
  rw [List.getLast?_eq_getElem?] at h
  have hx : xs[xs.length - 1]? = some (xs[xs.length - 1]'(by omega)) := by simp
  rw [hx] at h
  rw [coef_get hx]
  simpa using h
theorem coef_ext {xs ys : List Int} (hx : lastOK xs = true) (hy : lastOK ys = true) (h : ∀ i, coef xs i = coef ys i) : xs = ys := by
  have key : ∀ (xs ys : List Int), lastOK xs = true → (∀ i, coef xs i = coef ys i) → xs.length ≤ ys.length := by
    intro xs ys hx h
    apply Nat.le_of_not_lt
    intro hlt
    have := last_coef hx (by omega)
    rw [h, coef_no (by omega)] at this
    exact this rfl
  have hl : xs.length = ys.length := Nat.le_antisymm (key xs ys hx h) (key ys xs hy (fun i => (h i).symm))
  apply List.ext_getElem hl
  intro i h1 h2
  have := h i
  rw [coef_get (show xs[i]? = some xs[i] by simp), coef_get (show ys[i]? = some ys[i] by simp)] at this
  exact this
theorem coef_ten {t : Term} (h : vT t = true) {i : Nat} (hi : 10 ≤ i) : coef t.Coeffs i = 0 := coef_no (by have := vT_len h; omega)
/-- A term made of a table. -/
def mkT (c : Int) (f : Nat → Int) : Term := Term.mk c (trim (tab f))
theorem mkT_coef (c : Int) (f : Nat → Int) (i : Nat) : coef (mkT c f).Coeffs i = if i < 10 then f i else 0 := by
  unfold mkT; rw [trim_coef, tab_coef]
theorem mkT_valid {c : Int} {f : Nat → Int} (hc : -1000000 ≤ c ∧ c ≤ 1000000) (hf : ∀ i, i < 10 → -1000000 ≤ f i ∧ f i ≤ 1000000) : vT (mkT c f) = true := by
  have h1 : (mkT c f).Coeffs.length ≤ 10 := by have := trim_len (tab f); rw [tab_len] at this; exact this
  have h2 : lastOK (mkT c f).Coeffs = true := trim_last _
  have h3 : (mkT c f).Coeffs.all inR = true := by
    rw [List.all_eq_true]
    intro x hx
    obtain ⟨i, hi⟩ := List.getElem?_of_mem hx
    have := mkT_coef c f i
    rw [coef_get hi] at this
    rw [this]
    have hlt := get_lt hi
    rw [if_pos (by omega)]
    exact inR_iff.2 (hf i (by omega))
  unfold vT
  rw [h2, h3, inR_iff.2 (show -1000000 ≤ (mkT c f).Const ∧ (mkT c f).Const ≤ 1000000 from hc)]
  simp [h1]
theorem mkT_chk {c : Int} {f : Nat → Int} (hc : -1000000 ≤ c ∧ c ≤ 1000000) (hf : ∀ i, i < 10 → -1000000 ≤ f i ∧ f i ≤ 1000000) : chk (Term.mk c (trim (tab f))) = (mkT c f, true) := by
  have := mkT_valid hc hf
  unfold chk
  rw [show Term.mk c (trim (tab f)) = mkT c f from rfl, this]; rfl
theorem mkT_self {t : Term} (h : vT t = true) : mkT t.Const (fun i => coef t.Coeffs i) = t := by
  have : trim (tab fun i => coef t.Coeffs i) = t.Coeffs := coef_ext (trim_last _) (vT_last h) (fun i => by
    rw [trim_coef, tab_coef]
    by_cases hi : i < 10
    · rw [if_pos hi]
    · rw [if_neg hi, coef_ten h (by omega)])
  unfold mkT
  rw [this]
theorem mkT_ext {t : Term} {c : Int} {f : Nat → Int} (h : vT t = true) (hc : c = t.Const) (hf : ∀ i, i < 10 → f i = coef t.Coeffs i) : mkT c f = t := by
  rw [← mkT_self h]
  unfold mkT tab
  subst hc
  congr 2
  apply List.map_congr_left
  intro i hi
  exact hf i (by simpa using hi)
theorem sumN_congr {f g : Nat → Int} : ∀ n, (∀ i, i < n → f i = g i) → sumN f n = sumN g n := by
  intro n
  induction n with
  | zero => intro _; rfl
  | succ n ih => intro h; unfold sumN; rw [ih (fun i hi => h i (by omega)), h n (by omega)]
theorem sumN_neg (f : Nat → Int) : ∀ n, sumN (fun i => -f i) n = -sumN f n := by
  intro n
  induction n with
  | zero => rfl
  | succ n ih => unfold sumN; rw [ih]; omega
theorem sumN_add (f g : Nat → Int) : ∀ n, sumN (fun i => f i + g i) n = sumN f n + sumN g n := by
  intro n
  induction n with
  | zero => rfl
  | succ n ih => unfold sumN; rw [ih]; omega
theorem sumN_mul (c : Int) (f : Nat → Int) : ∀ n, sumN (fun i => c * f i) n = c * sumN f n := by
  intro n
  induction n with
  | zero => simp [sumN]
  | succ n ih => unfold sumN; rw [ih, Int.mul_add]
theorem sumN_zero : ∀ n, sumN (fun _ => 0) n = 0 := by
  intro n
  induction n with
  | zero => rfl
  | succ n ih => unfold sumN; rw [ih]; rfl
theorem sumN_stop {f : Nat → Int} {n : Nat} (h : ∀ i, n ≤ i → f i = 0) : ∀ m, n ≤ m → sumN f m = sumN f n := by
  intro m
  induction m with
  | zero => intro hm; rw [show n = 0 by omega]
  | succ m ih =>
    intro hm
    by_cases e : n = m + 1
    · rw [e]
    · rw [show sumN f (m + 1) = sumN f m + f m from rfl, ih (by omega), h m (by omega)]; omega
/-- A term's value. -/
def val (t : Term) (v : List Int) : Int := t.Const + sumN (fun i => coef t.Coeffs i * coef v i) 10
def Vals (v : List Int) : Prop := v.length = 10 ∧ ∀ x ∈ v, -6 ≤ x ∧ x ≤ 6
theorem Vals.coef {v : List Int} (h : Vals v) (i : Nat) : -6 ≤ coef v i ∧ coef v i ≤ 6 := by
  unfold Mod.coef
  cases hx : v[i]? with
  | none => simp
  | some x => exact h.2 x (List.mem_of_getElem? hx)
structure Small (t : Term) : Prop where
  v : vT t = true
  c : -7 ≤ t.Const ∧ t.Const ≤ 7
  f : ∀ i, -4 ≤ coef t.Coeffs i ∧ coef t.Coeffs i ≤ 4
theorem list_coef {xs : List Int} {a b : Int} (h : ∀ x ∈ xs, a ≤ x ∧ x ≤ b) (h0 : a ≤ 0 ∧ 0 ≤ b) (i : Nat) : a ≤ coef xs i ∧ coef xs i ≤ b := by
  unfold coef
  cases hx : xs[i]? with
  | none => simpa using h0
  | some x => exact h x (List.mem_of_getElem? hx)
theorem fOpp_ok {t : Term} (h : vT t = true) (hc : -999999 ≤ t.Const ∧ t.Const ≤ 999999) : fOpp t = (mkT (-t.Const - 1) (fun i => -coef t.Coeffs i), true) := by
  unfold fOpp
  rw [h, cond_true]
  exact mkT_chk (by omega) (fun i _ => by have := coef_rng h i; omega)
theorem val_mkT (c : Int) (f : Nat → Int) (v : List Int) : val (mkT c f) v = c + sumN (fun i => f i * coef v i) 10 := by
  unfold val
  rw [sumN_congr (g := fun i => f i * coef v i) 10 (fun i hi => by rw [mkT_coef, if_pos hi])]
  rfl
theorem dvd_foldl {k : Nat} : ∀ (xs : List Int) (d : Nat), k ∣ d → (∀ x ∈ xs, k ∣ x.natAbs) → k ∣ xs.foldl (fun d x => Nat.gcd d x.natAbs) d := by
  intro xs
  induction xs with
  | nil => intro d h _; exact h
  | cons x r ih => intro d h hx; exact ih _ (Nat.dvd_gcd h (hx x (by simp))) (fun y hy => hx y (by simp [hy]))
theorem dvd_gcdL {k : Nat} {xs : List Int} (h : ∀ x ∈ xs, k ∣ x.natAbs) : k ∣ gcdL xs := dvd_foldl xs 0 (Nat.dvd_zero k) h
theorem quo_mul {x : Int} {d : Nat} (h : d ∣ x.natAbs) : x.tdiv d * d = x := Int.tdiv_mul_cancel (Int.natAbs_dvd_natAbs.1 (by simpa using h))
theorem gcd_quos {xs : List Int} {d : Nat} (hd : 0 < d) (hg : gcdL xs = d) : gcdL (quos xs d) ≤ 1 := by
  have h1 : gcdL (quos xs d) * d ∣ gcdL xs := dvd_gcdL (fun x hx => by
    have h2 : gcdL (quos xs d) ∣ (x.tdiv d).natAbs := gcdL_dvd (List.mem_map.2 ⟨x, hx, rfl⟩)
    have h3 : d ∣ x.natAbs := by rw [← hg]; exact gcdL_dvd hx
    have h4 := quo_mul h3
    have h5 : x.natAbs = (x.tdiv d).natAbs * d := by
      have := congrArg Int.natAbs h4
      rw [Int.natAbs_mul] at this
      simpa using this.symm
    rw [h5]
    exact Nat.mul_dvd_mul_right h2 d)
  rw [hg] at h1
  have h6 := Nat.le_of_dvd hd h1
  apply Nat.le_of_not_lt
  intro hlt
  have : 2 * d ≤ gcdL (quos xs d) * d := Nat.mul_le_mul_right d hlt
  omega
theorem quos_coef {xs : List Int} {d : Nat} (h : ∀ x ∈ xs, d ∣ x.natAbs) (i : Nat) : coef xs i = (d : Int) * coef (quos xs d) i := by
  unfold coef quos
  rw [List.getElem?_map]
  cases hx : xs[i]? with
  | none => simp
  | some x =>
    have := quo_mul (h x (List.mem_of_getElem? hx))
    simp only [Option.getD_some, Option.map_some]
    rw [Int.mul_comm]; exact this.symm
theorem flo_spec (c : Int) {d : Nat} (hd : 0 < d) : (d : Int) * flo c d ≤ c ∧ c < (d : Int) * flo c d + d := by
  have h1 := Int.mul_tdiv_add_tmod c (d : Int)
  have h2 := Int.tmod_lt_of_pos c (show (0 : Int) < d by omega)
  have h3 : -(d : Int) < c.tmod d := by
    have := Int.tmod_lt_of_pos (-c) (show (0 : Int) < d by omega)
    rw [Int.neg_tmod] at this
    omega
  unfold flo
  split
  · rw [Int.mul_sub, Int.mul_one]; omega
  · omega
theorem sign_flo {c S : Int} {d : Nat} (hd : 0 < d) : (0 ≤ flo c d + S) ↔ (0 ≤ c + (d : Int) * S) := by
  obtain ⟨h1, h2⟩ := flo_spec c hd
  have e : (d : Int) * (flo c d + S) = (d : Int) * flo c d + d * S := Int.mul_add _ _ _
  constructor
  · intro h
    have := Int.mul_nonneg (show (0 : Int) ≤ d by omega) h
    omega
  · intro h
    apply Int.not_lt.1
    intro hlt
    have := Int.mul_le_mul_of_nonneg_left (show flo c d + S ≤ -1 by omega) (show (0 : Int) ≤ d by omega)
    rw [Int.mul_neg, Int.mul_one] at this
    omega
theorem fTight_val {t : Term} {v : List Int} (h : vT t = true) (hd : 2 ≤ gcdL t.Coeffs) : (0 ≤ val (Term.mk (flo t.Const (gcdL t.Coeffs)) (quos t.Coeffs (gcdL t.Coeffs))) v) ↔ (0 ≤ val t v) := by
  unfold val
  simp only
  rw [sign_flo (d := gcdL t.Coeffs) (by omega), ← sumN_mul]
  rw [sumN_congr (f := fun i => (gcdL t.Coeffs : Int) * (coef (quos t.Coeffs (gcdL t.Coeffs)) i * coef v i)) (g := fun i => coef t.Coeffs i * coef v i) 10 (fun i _ => by
    rw [quos_coef (d := gcdL t.Coeffs) (fun x hx => gcdL_dvd hx) i, Int.mul_assoc])]
theorem sumN_shift (f : Nat → Int) : ∀ n, sumN f (n + 1) = f 0 + sumN (fun i => f (i + 1)) n := by
  intro n
  induction n with
  | zero => simp [sumN]
  | succ n ih => rw [show sumN f (n + 1 + 1) = sumN f (n + 1) + f (n + 1) from rfl, ih, show sumN (fun i => f (i + 1)) (n + 1) = sumN (fun i => f (i + 1)) n + f (n + 1) from rfl]; omega
theorem lin_cons (t : Term) (ts : List Term) (m : Int) (ms : List Int) (g : Term → Int) (n : Nat) : lin (t :: ts) (m :: ms) g (n + 1) = m * g t + lin ts ms g n := by
  unfold lin
  rw [sumN_shift]
  rfl
/-- The value of a sum of multiples is the sum of the multiples of the values. -/
theorem val_lin (ts : List Term) (ms : List Int) (v : List Int) : ∀ n, lin ts ms Term.Const n + sumN (fun i => lin ts ms (fun t => coef t.Coeffs i) n * coef v i) 10 = lin ts ms (fun t => val t v) n := by
  intro n
  induction n with
  | zero => simp [lin, sumN]
  | succ n ih =>
    have e : ∀ g : Term → Int, lin ts ms g (n + 1) = lin ts ms g n + coef ms n * g (tAt ts n) := fun g => rfl
    simp only [e]
    rw [← ih]
    have e2 : sumN (fun i => (lin ts ms (fun t => coef t.Coeffs i) n + coef ms n * coef (tAt ts n).Coeffs i) * coef v i) 10 =
        sumN (fun i => lin ts ms (fun t => coef t.Coeffs i) n * coef v i) 10 + coef ms n * sumN (fun i => coef (tAt ts n).Coeffs i * coef v i) 10 := by
      rw [← sumN_mul, ← sumN_add]
      exact sumN_congr 10 (fun i _ => by rw [Int.add_mul, Int.mul_assoc])
    rw [e2]
    unfold val
    rw [Int.mul_add]
    omega
theorem val_mkT_lin (ts : List Term) (ms : List Int) (v : List Int) (n : Nat) : val (mkT (lin ts ms Term.Const n) (fun i => lin ts ms (fun t => coef t.Coeffs i) n)) v = lin ts ms (fun t => val t v) n := by
  rw [val_mkT]; exact val_lin ts ms v n
theorem prod_small {a b : Int} {A B : Int} (h1 : -A ≤ a ∧ a ≤ A) (h2 : -B ≤ b ∧ b ≤ B) : -(A * B) ≤ a * b ∧ a * b ≤ A * B := prod_rng h1.1 h1.2 h2.1 h2.2
theorem val_small {t : Term} {v : List Int} (ht : Small t) (hv : Vals v) : -247 ≤ val t v ∧ val t v ≤ 247 := by
  have h := sumN_rng (f := fun i => coef t.Coeffs i * coef v i) (B := 24) (fun i => by have := prod_small (A := 4) (B := 6) (ht.f i) (hv.coef i); omega) 10
  have := ht.c
  unfold val
  omega
theorem sub_form (t : Term) (ps : List Term) (g : Term → Int) : lin (subL t ps t.Coeffs.length) (subM t) g (t.Coeffs.length + 1) = g (Term.mk t.Const []) + sumN (fun i => coef t.Coeffs i * g (subT ps i)) t.Coeffs.length := by
  unfold subL subM
  rw [lin_cons, Int.one_mul]
  congr 1
  unfold lin
  refine sumN_congr _ (fun i hi => ?_)
  unfold tAt
  rw [List.getElem?_map, List.getElem?_range hi]
  rfl
theorem val_unit (i : Nat) (v : List Int) (hi : i < 10) : val (unitT i) v = coef v i := by
  unfold val
  simp only [unit_coef]
  have : ∀ n, sumN (fun j => (if j = i then 1 else 0) * coef v j) n = if i < n then coef v i else 0 := by
    intro n
    induction n with
    | zero => simp [sumN]
    | succ n ih =>
      unfold sumN
      rw [ih]
      by_cases h1 : n = i
      · subst h1; simp
      · rw [if_neg h1]
        by_cases h2 : i < n
        · rw [if_pos h2, if_pos (by omega)]; omega
        · rw [if_neg h2, if_neg (by omega)]; omega
  rw [this, if_pos hi]
  show 0 + _ = _
  omega
theorem sub_val {t p : Term} {v : List Int} (ht : Small t) (hp : Small p) (hv : Vals v) :
    fSub t [p] = (mkT (lin (subL t [p] t.Coeffs.length) (subM t) Term.Const (t.Coeffs.length + 1)) (fun i => lin (subL t [p] t.Coeffs.length) (subM t) (fun t => coef t.Coeffs i) (t.Coeffs.length + 1)), true) ∧
    vT (mkT (lin (subL t [p] t.Coeffs.length) (subM t) Term.Const (t.Coeffs.length + 1)) (fun i => lin (subL t [p] t.Coeffs.length) (subM t) (fun t => coef t.Coeffs i) (t.Coeffs.length + 1))) = true ∧
    val (mkT (lin (subL t [p] t.Coeffs.length) (subM t) Term.Const (t.Coeffs.length + 1)) (fun i => lin (subL t [p] t.Coeffs.length) (subM t) (fun t => coef t.Coeffs i) (t.Coeffs.length + 1))) v =
      val t v - coef t.Coeffs 0 * coef v 0 + coef t.Coeffs 0 * val p v := by
  have hl := vT_len ht.v
  have hs0 : subT [p] 0 = p := rfl
  have hsn : ∀ i, i ≠ 0 → subT [p] i = unitT i := by
    intro i hi
    unfold subT
    cases i with
    | zero => exact absurd rfl hi
    | succ i => rfl
  have hB : ∀ g : Term → Int, (-7 ≤ g p ∧ g p ≤ 7) → (∀ i, -1 ≤ g (unitT i) ∧ g (unitT i) ≤ 1) → ∀ n : Nat, n ≤ 10 → -280 ≤ sumN (fun i => coef t.Coeffs i * g (subT [p] i)) n ∧ sumN (fun i => coef t.Coeffs i * g (subT [p] i)) n ≤ 280 := by
    intro g h1 h2 n hn
    have := sumN_rng (f := fun i => coef t.Coeffs i * g (subT [p] i)) (B := 28) (fun i => by
      have h3 : -7 ≤ g (subT [p] i) ∧ g (subT [p] i) ≤ 7 := by
        by_cases hi : i = 0
        · subst hi; exact h1
        · rw [hsn i hi]; have := h2 i; omega
      have := prod_small (A := 4) (B := 7) (ht.f i) h3
      omega) n
    omega
  have hC : -1000000 ≤ lin (subL t [p] t.Coeffs.length) (subM t) Term.Const (t.Coeffs.length + 1) ∧ lin (subL t [p] t.Coeffs.length) (subM t) Term.Const (t.Coeffs.length + 1) ≤ 1000000 := by
    rw [sub_form]
    have h1 := hB Term.Const hp.c (fun i => by show -1 ≤ (0 : Int) ∧ (0 : Int) ≤ 1; omega) _ hl
    have h2 := ht.c
    simp only
    omega
  have hF : ∀ i, i < 10 → -1000000 ≤ lin (subL t [p] t.Coeffs.length) (subM t) (fun t => coef t.Coeffs i) (t.Coeffs.length + 1) ∧ lin (subL t [p] t.Coeffs.length) (subM t) (fun t => coef t.Coeffs i) (t.Coeffs.length + 1) ≤ 1000000 := by
    intro i _
    rw [sub_form]
    have h1 := hB (fun t => coef t.Coeffs i) (by have := hp.f i; omega) (fun j => by rw [unit_coef]; split <;> omega) _ hl
    simp only [coef_nil]
    omega
  refine ⟨?_, mkT_valid hC hF, ?_⟩
  · unfold fSub
    rw [ht.v, show [p].all vT = true by simp [hp.v]]
    exact mkT_chk hC hF
  · rw [val_mkT_lin, sub_form]
    have e0 : val (Term.mk t.Const []) v = t.Const := by
      unfold val
      simp only [coef_nil, Int.zero_mul, sumN_zero, Int.add_zero]
    rw [e0]
    by_cases hz : t.Coeffs.length = 0
    · have : t.Coeffs = [] := List.length_eq_zero_iff.1 hz
      unfold val
      rw [this]
      simp only [coef_nil, Int.zero_mul, sumN_zero, List.length_nil, sumN]
      omega
    · have e1 : sumN (fun i => coef t.Coeffs i * val (subT [p] i) v) t.Coeffs.length = sumN (fun i => coef t.Coeffs i * coef v i) t.Coeffs.length + (coef t.Coeffs 0 * val p v - coef t.Coeffs 0 * coef v 0) := by
        obtain ⟨k, hk⟩ : ∃ k, t.Coeffs.length = k + 1 := ⟨t.Coeffs.length - 1, by omega⟩
        rw [hk, sumN_shift, sumN_shift, hs0]
        rw [sumN_congr (f := fun i => coef t.Coeffs (i + 1) * val (subT [p] (i + 1)) v) (g := fun i => coef t.Coeffs (i + 1) * coef v (i + 1)) k (fun i hi => by rw [hsn (i + 1) (by omega), val_unit _ _ (by omega)])]
        omega
      rw [e1]
      unfold val
      rw [sumN_stop (f := fun i => coef t.Coeffs i * coef v i) (n := t.Coeffs.length) (fun i hi => by rw [coef_no hi, Int.zero_mul]) 10 hl]
      omega
structure Fact (t : Term) (c : Nat) : Prop where
  v : vT t = true
  c : -(c : Int) ≤ t.Const ∧ t.Const ≤ c
  f : ∀ i, -3 ≤ coef t.Coeffs i ∧ coef t.Coeffs i ≤ 3
theorem Fact.mono {t : Term} {c c' : Nat} (h : Fact t c) (hc : c ≤ c') : Fact t c' := ⟨h.v, by have := h.c; omega, h.f⟩
theorem make_fact {c : Int} {xs : List Int} (hc : -5 ≤ c ∧ c ≤ 5) (h : ∀ x ∈ xs, -3 ≤ x ∧ x ≤ 3) : Fact (chk (Term.mk c (trim xs))).1 5 := by
  unfold chk
  cases hv : vT (Term.mk c (trim xs)) with
  | false => exact ⟨rfl, by simp only [cond_false]; decide, fun i => by rw [show coef (bif false then (Term.mk c (trim xs), true) else (Term.mk 0 [], false)).1.Coeffs i = 0 from rfl]; omega⟩
  | true =>
    refine ⟨hv, by simp only [cond_true]; omega, fun i => ?_⟩
    simp only [cond_true]
    rw [trim_coef]
    exact list_coef h (by omega) i
def FSt (s : List Int × Int × Int × List Term × Int) : Prop :=
  Src (l00Src.mk s.1 s.2.1 s.2.2.1) (20 * s.2.2.2.1.length + 1) ∧ 0 ≤ s.2.2.2.2 ∧ (s.2.2.2.1.length : Int) + s.2.2.2.2 ≤ 5 ∧ ∀ t ∈ s.2.2.2.1, Fact t (7 * s.2.2.2.1.length + 5)
def allHold (ts : List Term) (v : List Int) : Bool := ts.all fun t => !decide (val t v < 0)
theorem fact_val {t : Term} {v : List Int} (h : Fact t 40) (hv : Vals v) : -220 ≤ val t v ∧ val t v ≤ 220 := by
  have h2 := sumN_rng (f := fun i => coef t.Coeffs i * coef v i) (B := 18) (fun i => by have := prod_small (A := 3) (B := 6) (h.f i) (hv.coef i); omega) 10
  have := h.c
  unfold val
  omega
theorem sumN_nonneg {f : Nat → Int} : ∀ n, (∀ i, i < n → 0 ≤ f i) → 0 ≤ sumN f n := by
  intro n
  induction n with
  | zero => intro _; exact Int.le_refl 0
  | succ n ih => intro h; have := ih (fun i hi => h i (by omega)); have := h n (by omega); unfold sumN; omega
theorem sumN_bnd {f : Nat → Int} {B : Int} : ∀ n : Nat, (∀ i, i < n → -B ≤ f i ∧ f i ≤ B) → -(n * B) ≤ sumN f n ∧ sumN f n ≤ n * B := by
  intro n
  induction n with
  | zero => intro _; simp [sumN]
  | succ n ih =>
    intro h
    have h1 := ih (fun i hi => h i (by omega))
    have h2 := h n (by omega)
    have e : ((n + 1 : Nat) : Int) * B = n * B + B := by rw [Int.natCast_add]; simp [Int.add_mul]
    rw [e]; unfold sumN; omega

end Go.Mod

/- Trivial proofs: contexts and what closes. Plain Lean. -/
namespace Go.Mod
open Go.AM
set_option linter.unusedVariables false
set_option linter.unusedSimpArgs false

theorem spec_seq {s : Sequent} (hl : cSeq s ≤ 1048576) : m_spec_l02Sequent s = some (vSeq s) := by
  unfold cSeq at hl
  unfold m_spec_l02Sequent vSeq
  rw [show (13 : Int) = ((13 : Nat) : Int) from rfl, spec_all (by omega), Option.bind_some, spec_is (by omega)]
  cases s.Facts.all vT && decide (s.Facts.length ≤ 13) <;> rfl
theorem spec_context {s : Sequent} (hl : cSeq s ≤ 1048576) (hv : vSeq s = true) : m_spec_l02Context s = some (fCtx s) := by
  unfold cSeq at hl
  have hlen : s.Facts.length ≤ 1048576 := by have : s.Facts.length ≤ cTermS s.Facts := by { unfold cTermS; omega }; omega
  have h2 : vT s.Goal = true := by unfold vSeq at hv; simp only [Bool.and_eq_true] at hv; exact hv.2
  unfold m_spec_l02Context fCtx
  rw [hv, spec_opposite h2, Option.bind_some, spec_ownAll (by omega)]
  unfold chk
  cases h3 : vT (opp s.Goal) with
  | false => rfl
  | true =>
    simp only [cond_true, Bool.not_true, cond_false, Option.bind_some, Bool.true_and]
    rw [capI_some (by simp; omega)]; rfl
theorem trim_nil {xs : List Int} : trim xs = [] ↔ ∀ x ∈ xs, x = 0 := by
  constructor
  · intro h x hx
    obtain ⟨i, hi⟩ := List.getElem?_of_mem hx
    have := trim_coef xs i
    rw [h, coef_get hi] at this
    exact this.symm
  · intro h
    refine coef_ext (trim_last xs) rfl (fun i => ?_)
    rw [trim_coef]
    unfold coef
    cases hx : xs[i]? with
    | none => rfl
    | some x => rw [h x (List.mem_of_getElem? hx)]; rfl
/-- Whether the multiples close: no coefficient, a negative constant. -/
def closesB (ts : List Term) (ms : List Int) : Bool := decide (ms.length = ts.length) && (decide (trim (tab fun i => lin ts ms (fun t => coef t.Coeffs i) ts.length) = []) && decide (lin ts ms Term.Const ts.length < 0))
theorem dec_eqN' {a b : Nat} : decide ((a : Int) = (b : Int)) = decide (a = b) := by by_cases h : a = b <;> simp [h]; omega
theorem impl_closes {ts : List Term} {ms : List Int} (h : Lin ts ms) : m_impl_closes ts ms = some (closesB ts ms) := by
  unfold m_impl_closes closesB
  rw [dec_eqN', decide_eq_true h.2.2.2, Bool.not_true, cond_false, impl_combined h, Option.bind_some, Bool.true_and]
  congr 2
  by_cases e : trim (tab fun i => lin ts ms (fun t => coef t.Coeffs i) ts.length) = []
  · rw [decide_eq_true e, e]; rfl
  · rw [decide_eq_false e]
    apply decide_eq_false
    intro h0
    exact e (List.length_eq_zero_iff.1 (by simp only at h0; omega))
theorem close_inner {m : Int} {t : Term} (hl : t.Coeffs.length ≤ 1048576) (s : List Int) :
    iter (m_spec_l05Closes_L1 m t) (s, 0) = forL (m_impl_combined_L1 m) (fun s1 => s1) 0 t.Coeffs s :=
  iter_for (step := m_spec_l05Closes_L1 m t) t.Coeffs (fun n (s : List Int) => (s, (n : Int))) (m_impl_combined_L1 m) (fun s1 => s1)
    (fun n x r hx => by
      unfold m_spec_l05Closes_L1 m_impl_combined_L1
      simp only
      rw [dec_lt (get_lt hx), cond_true]
      cases getI r (n : Int) with
      | none => rfl
      | some y =>
        simp only [Option.bind_some]
        rw [getI_some hx, Option.bind_some, w64_succ (by have := get_lt hx; omega)]; rfl)
    (fun r => by unfold m_spec_l05Closes_L1; simp only; rw [dec_self]; rfl) s
theorem close_loop {ts : List Term} {ms : List Int} (h1 : ∀ t ∈ ts, t.Coeffs.length ≤ 1048576) (h2 : ts.length ≤ 1048576) (s : Int × List Int) :
    iter (m_spec_l05Closes_L0 ts ms) (s.1, s.2, 0) = forL (m_impl_combined_L0 ms) (fun s0 => (s0.1, s0.2)) 0 ts s :=
  iter_for (step := m_spec_l05Closes_L0 ts ms) ts (fun n (s : Int × List Int) => (s.1, s.2, (n : Int))) (m_impl_combined_L0 ms) (fun s0 => (s0.1, s0.2))
    (fun n x r hx => by
      unfold m_spec_l05Closes_L0 m_impl_combined_L0
      simp only
      rw [dec_lt (get_lt hx), cond_true]
      cases getI ms (n : Int) with
      | none => rfl
      | some y =>
        simp only [Option.bind_some]
        rw [getI_some hx, Option.bind_some, close_inner (h1 x (List.mem_of_getElem? hx))]
        cases forL (m_impl_combined_L1 y) (fun s1 => s1) 0 x.Coeffs r.2 with
        | none => rfl
        | some u =>
          simp only [Option.bind_some]
          unfold m_spec_l05Closes_A1 m_impl_combined_A1
          simp only
          rw [w64_succ (by have := get_lt hx; omega)]; rfl)
    (fun r => by unfold m_spec_l05Closes_L0; simp only; rw [dec_self]; rfl) s
theorem zeros_ok (u : Int × List Int) (hl : u.2.length ≤ 1048576) : iter (m_spec_l05Closes_L2 u) 0 = some (bif u.2.all (fun x => decide (x = 0)) then .inl () else .inr false) := by
  have h := iter_for (step := m_spec_l05Closes_L2 u) u.2 (fun n (_ : Unit) => (n : Int)) (fun _ x _ => bif decide (x = 0) then some (.next ()) else some (.out (.inr false))) (fun _ => .inl ())
    (fun n x r hx => by
      unfold m_spec_l05Closes_L2
      rw [dec_lt (get_lt hx), cond_true, getI_some hx, Option.bind_some]
      have hw : w64 ((n : Int) + 1) = ((n + 1 : Nat) : Int) := w64_succ (by have := get_lt hx; omega)
      cases decide (x = 0)
      · rfl
      · rw [hw]; rfl)
    (fun r => by unfold m_spec_l05Closes_L2; rw [dec_self]; rfl) ()
  rw [forL_all (fun x => decide (x = 0)) _ _ (fun n x _ => rfl)] at h
  exact h
theorem spec_closes {ts : List Term} {ms : List Int} (h : Lin ts ms) : m_spec_l05Closes ts ms = some (closesB ts ms) := by
  unfold m_spec_l05Closes closesB
  rw [dec_eqN', decide_eq_true h.2.2.2, decide_eq_true h.2.2.2.symm, Bool.not_true, cond_false, show makeI 10 8 = some 10 from rfl, Option.bind_some, tab_zero,
    show iter (m_spec_l05Closes_L0 ts ms) (0, tab (fun _ => 0), 0) = _ from close_loop (fun t ht => by have := vT_len (h.1 t ht); omega) (by have := h.2.2.1; omega) (0, tab fun _ => 0),
    comb_loop h, Option.bind_some]
  unfold m_spec_l05Closes_A0
  rw [zeros_ok _ (by simp only [tab_len]; omega), Option.bind_some]
  have e : decide (trim (tab fun i => lin ts ms (fun t => coef t.Coeffs i) ts.length) = []) = (tab fun i => lin ts ms (fun t => coef t.Coeffs i) ts.length).all (fun x => decide (x = 0)) := by
    cases ha : (tab fun i => lin ts ms (fun t => coef t.Coeffs i) ts.length).all (fun x => decide (x = 0)) with
    | true => exact decide_eq_true (trim_nil.2 (fun x hx => of_decide_eq_true (List.all_eq_true.1 ha x hx)))
    | false =>
      apply decide_eq_false
      intro ht
      rw [List.all_eq_true.2 (fun x hx => decide_eq_true (trim_nil.1 ht x hx))] at ha
      cases ha
  rw [e]
  cases (tab fun i => lin ts ms (fun t => coef t.Coeffs i) ts.length).all (fun x => decide (x = 0)) <;> rfl
end Go.Mod

/- Trivial proofs: the candidates. Plain Lean. -/
namespace Go.Mod
open Go.AM
set_option linter.unusedVariables false
set_option linter.unusedSimpArgs false

def zer (n : Nat) : List Int := List.replicate n 0
def nodeOf (v : List Int) : Node := Node.mk 1 0 (Term.mk 0 []) v
theorem zer_get {n i : Nat} (h : i < n) : (zer n)[i]? = some 0 := by unfold zer; rw [List.getElem?_replicate, if_pos h]
theorem close_one {n i : Nat} (hn : n ≤ 1000) (h : i < n) : m_spec_l05Close (n : Int) (-1) (i : Int) = some (nodeOf ((zer n).set i 1)) := by
  unfold m_spec_l05Close
  rw [makeI_some (by omega), Option.bind_some, decide_eq_false (by omega), cond_false]
  unfold m_spec_l05Close_J0
  rw [decide_eq_true (by omega), cond_true, getI_some (show (List.replicate n (0 : Int))[i]? = some 0 from zer_get h), Option.bind_some, Int.toNat_natCast]; rfl
theorem close_last {n i : Nat} (hn : n ≤ 1000) (h : i < n) : m_spec_l05Close (n : Int) (i : Int) (-1) = some (nodeOf ((zer n).set i 1)) := by
  unfold m_spec_l05Close
  rw [makeI_some (by omega), Option.bind_some, decide_eq_true (by omega), cond_true, getI_some (show (List.replicate n (0 : Int))[i]? = some 0 from zer_get h), Option.bind_some, Int.toNat_natCast]
  unfold m_spec_l05Close_J0
  rw [decide_eq_false (by omega), cond_false]; rfl
theorem close_two {n i j : Nat} (hn : n ≤ 1000) (hi : i < n) (hj : j < n) (hij : i ≠ j) : m_spec_l05Close (n : Int) (i : Int) (j : Int) = some (nodeOf (((zer n).set i 1).set j 1)) := by
  unfold m_spec_l05Close
  rw [makeI_some (by omega), Option.bind_some, decide_eq_true (by omega), cond_true, getI_some (show (List.replicate n (0 : Int))[i]? = some 0 from zer_get hi), Option.bind_some, Int.toNat_natCast]
  unfold m_spec_l05Close_J0
  rw [decide_eq_true (by omega), cond_true, getI_some (show ((List.replicate n (0 : Int)).set i 1)[j]? = some 0 by rw [List.getElem?_set, if_neg hij]; exact zer_get hj), Option.bind_some, Int.toNat_natCast]; rfl
theorem spec_singles {r : List Term × Bool} {n : Nat} (hr : r.1.length = n + 1) (hn : n ≤ 100) {xs : List Node} (hx : xs.length ≤ 1000) :
    iter (m_spec_TrivialProof_L0 r) (xs, 0) = some (xs ++ (List.range n).map fun i => nodeOf ((zer (n + 1)).set i 1)) := by
  have key : ∀ (q k : Nat), k + q = n → iter (m_spec_TrivialProof_L0 r) (xs ++ (List.range k).map (fun i => nodeOf ((zer (n + 1)).set i 1)), (k : Int)) = some (xs ++ (List.range n).map fun i => nodeOf ((zer (n + 1)).set i 1)) := by
    intro q
    induction q with
    | zero =>
      intro k hk
      obtain rfl : k = n := by omega
      refine iter_out ?_
      unfold m_spec_TrivialProof_L0
      simp only
      rw [hr, w64_eq (by omega), decide_eq_false (by omega)]; rfl
    | succ q ih =>
      intro k hk
      rw [iter_next (s' := (xs ++ (List.range (k + 1)).map (fun i => nodeOf ((zer (n + 1)).set i 1)), ((k + 1 : Nat) : Int)))]
      · exact ih (k + 1) (by omega)
      · unfold m_spec_TrivialProof_L0
        simp only
        rw [hr, w64_eq (n := ((n + 1 : Nat) : Int) - 1) (by omega), decide_eq_true (by omega), cond_true, close_one (n := n + 1) (by omega) (by omega), Option.bind_some, capI_some (by simp; omega), Option.bind_some, w64_succ (by omega), List.range_succ, List.map_append, ← List.append_assoc]
        rfl
  have := key n 0 (by omega)
  simpa using this
theorem spec_pairs {r : List Term × Bool} {n : Nat} (hr : r.1.length = n + 1) (hn : n ≤ 100) {xs : List Node} (hx : xs.length ≤ 1000) :
    iter (m_spec_TrivialProof_L1 r) (xs, 0) = some (xs ++ (List.range n).map fun i => nodeOf (((zer (n + 1)).set n 1).set i 1)) := by
  have key : ∀ (q k : Nat), k + q = n → iter (m_spec_TrivialProof_L1 r) (xs ++ (List.range k).map (fun i => nodeOf (((zer (n + 1)).set n 1).set i 1)), (k : Int)) = some (xs ++ (List.range n).map fun i => nodeOf (((zer (n + 1)).set n 1).set i 1)) := by
    intro q
    induction q with
    | zero =>
      intro k hk
      obtain rfl : k = n := by omega
      refine iter_out ?_
      unfold m_spec_TrivialProof_L1
      simp only
      rw [hr, w64_eq (by omega), decide_eq_false (by omega)]; rfl
    | succ q ih =>
      intro k hk
      rw [iter_next (s' := (xs ++ (List.range (k + 1)).map (fun i => nodeOf (((zer (n + 1)).set n 1).set i 1)), ((k + 1 : Nat) : Int)))]
      · exact ih (k + 1) (by omega)
      · unfold m_spec_TrivialProof_L1
        simp only
        rw [hr, w64_eq (n := ((n + 1 : Nat) : Int) - 1) (by omega), decide_eq_true (by omega), cond_true, show ((n + 1 : Nat) : Int) - 1 = (n : Int) by omega, close_two (n := n + 1) (by omega) (by omega) (by omega) (by omega), Option.bind_some, capI_some (by simp; omega), Option.bind_some, w64_succ (by omega), List.range_succ, List.map_append, ← List.append_assoc]
        rfl
  have := key n 0 (by omega)
  simpa using this
theorem impl_singles {r : List Term × Bool} {n : Nat} (hr : r.1.length = n + 1) (hn : n ≤ 100) {xs : List (List Int)} (hx : xs.length ≤ 1000) :
    iter (m_impl_TrivialProof_L0 r) (xs, 0) = some (xs ++ (List.range n).map fun (i : Nat) => [(i : Int)]) := by
  have key : ∀ (q k : Nat), k + q = n → iter (m_impl_TrivialProof_L0 r) (xs ++ (List.range k).map (fun (i : Nat) => [(i : Int)]), (k : Int)) = some (xs ++ (List.range n).map fun (i : Nat) => [(i : Int)]) := by
    intro q
    induction q with
    | zero =>
      intro k hk
      obtain rfl : k = n := by omega
      refine iter_out ?_
      unfold m_impl_TrivialProof_L0
      simp only
      rw [hr, w64_eq (by omega), decide_eq_false (by omega)]; rfl
    | succ q ih =>
      intro k hk
      rw [iter_next (s' := (xs ++ (List.range (k + 1)).map (fun (i : Nat) => [((i : Nat) : Int)]), ((k + 1 : Nat) : Int)))]
      · exact ih (k + 1) (by omega)
      · unfold m_impl_TrivialProof_L0
        simp only
        rw [hr, w64_eq (n := ((n + 1 : Nat) : Int) - 1) (by omega), decide_eq_true (by omega), cond_true, capI_some (by simp; omega), Option.bind_some, w64_succ (by omega), List.range_succ, List.map_append, ← List.append_assoc]
        rfl
  have := key n 0 (by omega)
  simpa using this
theorem impl_pairs {r : List Term × Bool} {n : Nat} (hr : r.1.length = n + 1) (hn : n ≤ 100) {xs : List (List Int)} (hx : xs.length ≤ 1000) :
    iter (m_impl_TrivialProof_L1 r) (xs, 0) = some (xs ++ (List.range n).map fun (i : Nat) => [(i : Int), (n : Int)]) := by
  have key : ∀ (q k : Nat), k + q = n → iter (m_impl_TrivialProof_L1 r) (xs ++ (List.range k).map (fun (i : Nat) => [(i : Int), (n : Int)]), (k : Int)) = some (xs ++ (List.range n).map fun (i : Nat) => [(i : Int), (n : Int)]) := by
    intro q
    induction q with
    | zero =>
      intro k hk
      obtain rfl : k = n := by omega
      refine iter_out ?_
      unfold m_impl_TrivialProof_L1
      simp only
      rw [hr, w64_eq (by omega), decide_eq_false (by omega)]; rfl
    | succ q ih =>
      intro k hk
      rw [iter_next (s' := (xs ++ (List.range (k + 1)).map (fun (i : Nat) => [((i : Nat) : Int), (n : Int)]), ((k + 1 : Nat) : Int)))]
      · exact ih (k + 1) (by omega)
      · unfold m_impl_TrivialProof_L1
        simp only
        rw [hr, w64_eq (n := ((n + 1 : Nat) : Int) - 1) (by omega), decide_eq_true (by omega), cond_true, show ((n + 1 : Nat) : Int) - 1 = (n : Int) by omega, capI_some (by simp; omega), Option.bind_some, w64_succ (by omega), List.range_succ, List.map_append, ← List.append_assoc]
        rfl
  have := key n 0 (by omega)
  simpa using this
end Go.Mod

/- Trivial proofs: the search, and the law. Plain Lean. -/
namespace Go.Mod
open Go.AM
set_option linter.unusedVariables false
set_option linter.unusedSimpArgs false

/-- The first vector that closes. -/
def firstB (ts : List Term) : List (List Int) → List Node × Bool
  | [] => ([], false)
  | v :: r => bif closesB ts v then ([nodeOf v], true) else firstB ts r
theorem spec_search {r : List Term × Bool} {vs : List (List Int)} (h : ∀ v ∈ vs, Lin r.1 v) (hl : vs.length ≤ 1000) : m_spec_TrivialProof_A1 r (vs.map nodeOf) = some (firstB r.1 vs) := by
  have key : ∀ (q k : Nat), k + q = vs.length → (iter (m_spec_TrivialProof_L2 r (vs.map nodeOf)) (k : Int)).bind m_spec_TrivialProof_A2 = some (firstB r.1 (vs.drop k)) := by
    intro q
    induction q with
    | zero =>
      intro k hk
      obtain rfl : k = vs.length := by omega
      rw [iter_out (t := .inl ())]
      · rw [List.drop_length]; rfl
      · unfold m_spec_TrivialProof_L2
        rw [List.length_map, dec_self]; rfl
    | succ q ih =>
      intro k hk
      have hlt : k < vs.length := by omega
      have hx : (vs.map nodeOf)[k]? = some (nodeOf vs[k]) := by simp [hlt]
      have hs : m_spec_TrivialProof_L2 r (vs.map nodeOf) (k : Int) = bif closesB r.1 vs[k] then some (.out (.inr ([nodeOf vs[k]], true))) else some (.next ((k + 1 : Nat) : Int)) := by
        unfold m_spec_TrivialProof_L2
        rw [List.length_map, dec_lt hlt, cond_true, getI_some hx, Option.bind_some, show (nodeOf vs[k]).Multipliers = vs[k] from rfl, spec_closes (h _ (List.getElem_mem hlt)), Option.bind_some, w64_succ (by omega)]
      rw [List.drop_eq_getElem_cons hlt]
      unfold firstB
      cases hc : closesB r.1 vs[k] with
      | true => rw [hc] at hs; rw [iter_out hs]; rfl
      | false => rw [hc] at hs; rw [iter_next hs]; exact ih (k + 1) (by omega)
  exact key vs.length 0 (by omega)
def vecOf (n : Nat) (idx : List Int) : List Int := idx.foldl (fun v i => v.set i.toNat 1) (zer n)
theorem impl_vec {n : Nat} {idx : List Int} (h : ∀ i ∈ idx, 0 ≤ i ∧ i < n) : forL m_impl_TrivialProof_L3 (fun s3 => s3) 0 idx (zer n) = some (vecOf n idx) := by
  refine forL_fold (fun v i => v.set i.toNat 1) (fun _ v => v.length = n) idx 0 (zer n) (by simp [zer]) (fun k x v hx hv => ?_)
  have hr := h x (List.mem_of_getElem? hx)
  have hlt : x.toNat < v.length := by omega
  unfold m_impl_TrivialProof_L3
  have hg : getI v x = some v[x.toNat] := by unfold getI; rw [decide_eq_true hr.1, cond_true]; simp [hlt]
  rw [hg]
  exact ⟨rfl, by simpa using hv⟩
theorem impl_search {r : List Term × Bool} {n : Nat} (hr : r.1.length = n) (hn : n ≤ 1000) : ∀ (is : List (List Int)) (k : Nat), (∀ idx ∈ is, (∀ i ∈ idx, 0 ≤ i ∧ i < n) ∧ Lin r.1 (vecOf n idx)) →
    (forL (m_impl_TrivialProof_L2 r) (fun s2 => (.inl ())) k is ()).bind m_impl_TrivialProof_A2 = some (firstB r.1 (is.map (vecOf n))) := by
  intro is
  induction is with
  | nil => intro k _; rfl
  | cons idx q ih =>
    intro k h
    obtain ⟨h1, h2⟩ := h idx (by simp)
    have hs : m_impl_TrivialProof_L2 r k idx () = bif closesB r.1 (vecOf n idx) then some (.out (.inr ([nodeOf (vecOf n idx)], true))) else some (.next ()) := by
      unfold m_impl_TrivialProof_L2
      rw [hr, makeI_some (by omega), Option.bind_some]
      rw [show forL m_impl_TrivialProof_L3 (fun s3 => s3) 0 idx (List.replicate n 0) = _ from impl_vec h1, Option.bind_some]
      unfold m_impl_TrivialProof_A3
      rw [impl_closes h2, Option.bind_some]; rfl
    unfold forL
    rw [hs]
    simp only [List.map_cons]
    unfold firstB
    cases closesB r.1 (vecOf n idx) with
    | true => rfl
    | false => exact ih (k + 1) (fun i hi => h i (by simp [hi]))
end Go.Mod

/- Trivial proofs: nodes, and the law. Plain Lean. -/
namespace Go.Mod
open Go.AM
set_option linter.unusedVariables false
set_option linter.unusedSimpArgs false

def cNode (x : Node) : Nat := 3 + (x.Term.Coeffs.length + x.Multipliers.length)
def NodeS (xs : List Node) : Prop := xs.length ≤ 1048576 ∧ ∀ x ∈ xs, cTerm x.Term ≤ 1048576 ∧ x.Multipliers.length ≤ 1048576
theorem eq_Node {x y : Node} (h1 : cTerm x.Term ≤ 1048576) (h2 : x.Multipliers.length ≤ 1048576) : m_laws_eqNode x y = some (decide (x = y)) := by
  unfold m_laws_eqNode
  rw [eq_Term h1, eq_ints (by omega)]
  obtain ⟨a, b, c, d⟩ := x
  obtain ⟨a', b', c', d'⟩ := y
  by_cases h1 : a = a' <;> by_cases h2 : b = b' <;> by_cases h3 : c = c' <;> by_cases h4 : d = d' <;> simp [h1, h2, h3, h4]
theorem eq_NodeS {xs ys : List Node} (hl : NodeS xs) : m_laws_eqNodeS xs ys = some (decide (xs = ys)) := by
  have hlen := hl.1
  unfold m_laws_eqNodeS
  by_cases h : xs.length = ys.length
  · rw [decide_eq_true (by omega), Bool.not_true, cond_false, iter_eq (xs := xs) (ys := ys) (eq := m_laws_eqNode)
      (fun n x y hx hy => by unfold m_laws_eqNodeS_L0; rw [dec_lt (get_lt hx), cond_true, getI_some hx, getI_some hy]; rfl)
      (by unfold m_laws_eqNodeS_L0; rw [dec_self]; rfl) (by omega) h (fun x hx y => eq_Node (hl.2 x hx).1 (hl.2 x hx).2)]
    by_cases e : xs = ys
    · rw [if_pos e, decide_eq_true e]; rfl
    · rw [if_neg e, decide_eq_false e]; rfl
  · rw [decide_eq_false (by omega), decide_eq_false (fun e => h (by rw [e]))]; rfl
noncomputable def mkNd (x : Node) (k : Int) : Option (Int × Node) := (m_laws_markInt64S x.Term.Coeffs (w64 (w64 (w64 (k + 1) + 1) + 1))).bind fun r =>
  (m_laws_markInt64S x.Multipliers r.1).bind fun q => some (q.1, Node.mk k (w64 (k + 1)) (Term.mk (w64 (w64 (k + 1) + 1)) r.2) q.2)
noncomputable def heldNd (x : Node) (k : Int) : Option Int := bif !decide (x.Kind = k) then some (-1) else bif !decide (x.Fact = w64 (k + 1)) then some (-1) else
  bif !decide (x.Term.Const = w64 (w64 (k + 1) + 1)) then some (-1) else (m_laws_heldInt64S x.Term.Coeffs (w64 (w64 (w64 (k + 1) + 1) + 1))).bind fun r =>
  bif decide (r < 0) then some (-1) else m_laws_heldInt64S x.Multipliers r
theorem mk_Nd (x : Node) : MkP mkNd heldNd cNode x := fun k hk => by
  unfold cNode at hk ⊢
  have e1 : w64 ((k : Int) + 1) = ((k + 1 : Nat) : Int) := w64_succ (by omega)
  have e2 : w64 (((k + 1 : Nat) : Int) + 1) = ((k + 2 : Nat) : Int) := w64_succ (by omega)
  have e3 : w64 (((k + 2 : Nat) : Int) + 1) = ((k + 3 : Nat) : Int) := w64_succ (by omega)
  obtain ⟨r, h1, h2⟩ := mk_ints' (xs := x.Term.Coeffs) (k := k + 3) (by omega)
  obtain ⟨q, h3, h4⟩ := mk_ints' (xs := x.Multipliers) (k := k + 3 + x.Term.Coeffs.length) (by omega)
  refine ⟨Node.mk k ((k + 1 : Nat) : Int) (Term.mk ((k + 2 : Nat) : Int) r) q, ?_, ?_⟩
  · unfold mkNd
    rw [e1, e2, e3, h1, Option.bind_some]
    simp only
    rw [h3, Option.bind_some, show k + 3 + x.Term.Coeffs.length + x.Multipliers.length = k + (3 + (x.Term.Coeffs.length + x.Multipliers.length)) by omega]
  · unfold heldNd
    simp only
    rw [e1, e2, e3, h2]
    simp only [decide_true, Bool.not_true, cond_false, Option.bind_some]
    rw [decide_eq_false (by omega), cond_false, h4, show k + 3 + x.Term.Coeffs.length + x.Multipliers.length = k + (3 + (x.Term.Coeffs.length + x.Multipliers.length)) by omega]
theorem nd_c {x y1 y2 y3 : Node} {k0 k1 k2 : Int} (h1 : Node.mk k0 x.Fact x.Term x.Multipliers = y1) (h2 : Node.mk y1.Kind k1 y1.Term y1.Multipliers = y2) (h3 : Node.mk y2.Kind y2.Fact (Term.mk k2 y2.Term.Coeffs) y2.Multipliers = y3) :
    y3.Term.Coeffs = x.Term.Coeffs := by subst h3 h2 h1; rfl
theorem markNd_step (n : Nat) (ys : List Node) (x : Node) (k : Nat) (hx : ys[n]? = some x) : m_laws_markNodeS_L0 (ys, (k : Int), (n : Int)) = (mkNd x k).bind fun r => some (.next (ys.set n r.2, r.1, w64 ((n : Int) + 1))) := by
  have hn := get_lt hx
  have hg : ∀ y : Node, getI (ys.set n y) (n : Int) = some y := fun y => getI_some (by rw [List.getElem?_set_self hn])
  unfold m_laws_markNodeS_L0 mkNd
  generalize w64 (w64 (w64 ((k : Int) + 1) + 1) + 1) = k3
  generalize w64 (w64 ((k : Int) + 1) + 1) = k2
  generalize w64 ((k : Int) + 1) = k1
  generalize (k : Int) = k0
  simp only [Int.toNat_natCast]
  rw [dec_lt hn, cond_true, getI_some hx, Option.bind_some]
  generalize h1 : Node.mk k0 x.Fact x.Term x.Multipliers = y1
  rw [hg, Option.bind_some, List.set_set]
  generalize h2 : Node.mk y1.Kind k1 y1.Term y1.Multipliers = y2
  rw [hg, Option.bind_some, List.set_set]
  generalize h3 : Node.mk y2.Kind y2.Fact (Term.mk k2 y2.Term.Coeffs) y2.Multipliers = y3
  rw [hg, Option.bind_some]
  have c3 : y3.Term.Coeffs = x.Term.Coeffs := nd_c h1 h2 h3
  have e3 : y3.Kind = k0 := by rw [← h3, ← h2, ← h1]
  have f3 : y3.Fact = k1 := by rw [← h3, ← h2]
  have t3 : y3.Term.Const = k2 := by rw [← h3]
  have m3 : y3.Multipliers = x.Multipliers := by rw [← h3, ← h2, ← h1]
  clear h1 h2 h3
  rw [c3, e3, f3, t3, m3]
  cases m_laws_markInt64S x.Term.Coeffs k3 with
  | none => rw [Option.bind_none, Option.bind_none, Option.bind_none]
  | some r =>
    rw [Option.bind_some, Option.bind_some, List.set_set]
    generalize h4 : Node.mk k0 k1 (Term.mk k2 r.2) x.Multipliers = y4
    rw [hg, Option.bind_some]
    have m4 : y4.Multipliers = x.Multipliers := by rw [← h4]
    have e4 : y4.Kind = k0 := by rw [← h4]
    have f4 : y4.Fact = k1 := by rw [← h4]
    have t4 : y4.Term = Term.mk k2 r.2 := by rw [← h4]
    clear h4
    rw [m4, e4, f4, t4]
    cases m_laws_markInt64S x.Multipliers r.1 with
    | none => rw [Option.bind_none, Option.bind_none, Option.bind_none]
    | some q => rw [Option.bind_some, Option.bind_some, Option.bind_some, List.set_set]
theorem heldNd_step (n : Nat) (ys : List Node) (x : Node) (k : Nat) (hx : ys[n]? = some x) : m_laws_heldNodeS_L0 ys ((k : Int), (n : Int)) = (heldNd x k).bind fun r => bif decide (r < 0) then some (.out (.inr (-1))) else some (.next (r, w64 ((n : Int) + 1))) := by
  have hneg : decide ((-1 : Int) < 0) = true := by decide
  unfold m_laws_heldNodeS_L0 heldNd
  simp only [dec_lt (get_lt hx), cond_true, getI_some hx, Option.bind_some]
  generalize w64 (w64 (w64 ((k : Int) + 1) + 1) + 1) = k3
  generalize w64 (w64 ((k : Int) + 1) + 1) = k2
  generalize w64 ((k : Int) + 1) = k1
  cases decide (x.Kind = k) with
  | false => simp only [Bool.not_false, cond_true, Option.bind_some, hneg]
  | true =>
    cases decide (x.Fact = k1) with
    | false => simp only [Bool.not_true, Bool.not_false, cond_true, cond_false, Option.bind_some, hneg]
    | true =>
      cases decide (x.Term.Const = k2) with
      | false => simp only [Bool.not_true, Bool.not_false, cond_true, cond_false, Option.bind_some, hneg]
      | true =>
        simp only [Bool.not_true, cond_false]
        cases m_laws_heldInt64S x.Term.Coeffs k3 with
        | none => simp only [Option.bind_none]
        | some r =>
          simp only [Option.bind_some]
          cases decide (r < 0) with
          | true => simp only [cond_true, Option.bind_some, hneg]
          | false => simp only [cond_false]
theorem mkh_NodeS {xs : List Node} {k : Nat} (hl : xs.length ≤ 1048576) (hk : k + (xs.map cNode).sum ≤ 4611686018427387904) :
    ∃ r, m_laws_markNodeS xs k = some (((k + (xs.map cNode).sum : Nat) : Int), r) ∧ m_laws_heldNodeS r k = some ((k + (xs.map cNode).sum : Nat) : Int) := by
  obtain ⟨xs', h1, h2, h3⟩ := iter_mark (xs := xs) (m := cNode) (mk := mkNd) (held := heldNd)
    (step := m_laws_markNodeS_L0) (hstep := m_laws_heldNodeS_L0)
    (fun n ys x k _ hx => markNd_step n ys x k hx)
    (fun ys k => by unfold m_laws_markNodeS_L0; simp only; rw [dec_self]; rfl)
    (fun n ys x k _ hx => heldNd_step n ys x k hx)
    (fun ys k => by unfold m_laws_heldNodeS_L0; simp only; rw [dec_self]; rfl)
    (by omega) (fun x _ => mk_Nd x) hk
  exact ⟨xs', by unfold m_laws_markNodeS; rw [h1]; rfl, by unfold m_laws_heldNodeS; rw [h3]; rfl⟩

noncomputable def heldT_L0 (p0 : List Term) (s0 : Int × Int) : Option (Ctl (Int × Int) (Int ⊕ Int)) :=
  bif decide (s0.2 < (p0.length : Int)) then (getI p0 s0.2).bind fun x => (heldEl x s0.1).bind fun r => bif decide (r < 0) then some (.out (.inr (-1))) else some (.next (r, w64 (s0.2 + 1))) else some (.out (.inl s0.1))
theorem mkP_TermS {ts : List Term} {k : Nat} (hk : k + cTermS ts ≤ 4611686018427387904) : ∃ ts', m_laws_markTermS ts k = some (((k + cTermS ts : Nat) : Int), ts') := by
  unfold cTermS at hk ⊢
  obtain ⟨xs', h1, h2, h3⟩ := iter_mark (xs := ts) (m := fun x => 1 + cTerm x) (mk := mkEl) (held := heldEl)
    (step := m_laws_markTermS_L0) (hstep := heldT_L0)
    (fun n ys x k hk hx => by
      unfold m_laws_markTermS_L0 mkEl
      have hn := get_lt hx
      simp only
      rw [dec_lt hn, cond_true, getI_some hx, Option.bind_some, Int.toNat_natCast, getI_some (x := Term.mk k x.Coeffs) (by rw [List.getElem?_set_self hn]), Option.bind_some]
      cases m_laws_markInt64S x.Coeffs (w64 ((k : Int) + 1)) with
      | none => rfl
      | some r => simp only [Option.bind_some, List.set_set])
    (fun ys k => by unfold m_laws_markTermS_L0; simp only; rw [dec_self]; rfl)
    (fun n ys x k hk hx => by
      unfold heldT_L0
      simp only
      rw [dec_lt (get_lt hx), cond_true, getI_some hx, Option.bind_some])
    (fun ys k => by unfold heldT_L0; simp only; rw [dec_self]; rfl)
    (by omega) (fun x _ => mk_El x) (k := k) (by rw [sum_add]; omega)
  rw [sum_add] at h1
  exact ⟨xs', by unfold m_laws_markTermS; rw [h1]; rfl⟩
theorem mk_SeqP {s : Sequent} {k : Nat} (hk : k + cSeq s ≤ 4611686018427387904) : ∃ r, m_laws_markSequent s k = some (((k + cSeq s : Nat) : Int), r) := by
  unfold cSeq at hk ⊢
  obtain ⟨r1, a1⟩ := mkP_TermS (ts := s.Facts) (k := k) (by omega)
  obtain ⟨r2, a2, _⟩ := mk_ints' (xs := s.Goal.Coeffs) (k := k + cTermS s.Facts) (by unfold cTerm at hk; omega)
  refine ⟨(r1, r2), ?_⟩
  unfold m_laws_markSequent
  rw [a1, Option.bind_some]
  simp only
  rw [show m_laws_markTerm s.Goal ((k + cTermS s.Facts : Nat) : Int) = some (((k + cTermS s.Facts + cTerm s.Goal : Nat) : Int), r2) by unfold m_laws_markTerm; rw [a2]; rfl, Option.bind_some, Nat.add_assoc]

/-! ### The tries -/
def vecs (n : Nat) : List (List Int) := (zer (n + 1)).set n 1 :: ((List.range n).map (fun i => (zer (n + 1)).set i 1) ++ (List.range n).map fun i => ((zer (n + 1)).set n 1).set i 1)
def idxs (n : Nat) : List (List Int) := [(n : Int)] :: ((List.range n).map (fun (i : Nat) => [(i : Int)]) ++ (List.range n).map fun (i : Nat) => [(i : Int), (n : Int)])
theorem idx_vec (n : Nat) : (idxs n).map (vecOf (n + 1)) = vecs n := by
  unfold idxs vecs
  rw [List.map_cons, List.map_append, List.map_map, List.map_map]
  congr 1
  congr 1
  refine List.map_congr_left (fun i hi => ?_)
  have := List.mem_range.1 hi
  simp only [Function.comp_apply, vecOf, List.foldl_cons, List.foldl_nil, Int.toNat_natCast]
  exact List.set_comm _ _ (by omega)
theorem vec_shape {n : Nat} {v : List Int} (h : v ∈ vecs n) : v.length = n + 1 ∧ ∀ x ∈ v, x = 0 ∨ x = 1 := by
  have hz : (zer (n + 1)).length = n + 1 ∧ ∀ x ∈ zer (n + 1), x = 0 ∨ x = 1 := ⟨by simp [zer], fun x hx => .inl (List.eq_of_mem_replicate hx)⟩
  have hs : ∀ (v : List Int) (i : Nat), (v.length = n + 1 ∧ ∀ x ∈ v, x = 0 ∨ x = 1) → ((v.set i 1).length = n + 1 ∧ ∀ x ∈ v.set i 1, x = 0 ∨ x = 1) := fun v i hv => ⟨by simp [hv.1], fun x hx => by
    rcases List.mem_or_eq_of_mem_set hx with h | h
    · exact hv.2 x h
    · exact .inr h⟩
  unfold vecs at h
  simp only [List.mem_cons, List.mem_append, List.mem_map] at h
  rcases h with rfl | ⟨i, _, rfl⟩ | ⟨i, _, rfl⟩
  · exact hs _ _ hz
  · exact hs _ _ hz
  · exact hs _ _ (hs _ _ hz)
def fTriv (s : Sequent) : List Node × Bool := bif (fCtx s).2 then firstB (fCtx s).1 (vecs s.Facts.length) else ([], false)
theorem ctx_lin {s : Sequent} (h : (fCtx s).2 = true) : vSeq s = true ∧ (fCtx s).1 = s.Facts ++ [opp s.Goal] ∧ s.Facts.length ≤ 13 ∧ ∀ t ∈ (fCtx s).1, vT t = true := by
  unfold fCtx at h ⊢
  cases hv : vSeq s && vT (opp s.Goal) with
  | false => rw [hv] at h; cases h
  | true =>
    simp only [Bool.and_eq_true] at hv
    have h1 := hv.1
    simp only [vSeq, Bool.and_eq_true, List.all_eq_true, decide_eq_true_eq] at h1
    refine ⟨hv.1, rfl, h1.1.2, fun t ht => ?_⟩
    simp only [cond_true, List.mem_append, List.mem_singleton] at ht
    rcases ht with ht | rfl
    · exact h1.1.1 t ht
    · exact hv.2
theorem vec_lin {s : Sequent} (h : (fCtx s).2 = true) {v : List Int} (hv : v ∈ vecs s.Facts.length) : Lin (fCtx s).1 v := by
  obtain ⟨h1, h2, h3, h4⟩ := ctx_lin h
  obtain ⟨g1, g2⟩ := vec_shape hv
  refine ⟨h4, fun m hm => ?_, by rw [h2]; simp; omega, by rw [h2, g1]; simp⟩
  unfold mOK
  rcases g2 m hm with rfl | rfl <;> omega
theorem spec_trivial {s : Sequent} (hl : cSeq s ≤ 1048576) : m_spec_TrivialProof s = some (fTriv s) := by
  unfold m_spec_TrivialProof fTriv
  rw [spec_seq hl, Option.bind_some]
  cases hv : vSeq s with
  | false => rw [show (fCtx s).2 = false by unfold fCtx; rw [hv]; rfl]; rfl
  | true =>
    rw [Bool.not_true, cond_false, spec_context hl hv, Option.bind_some]
    cases h : (fCtx s).2 with
    | false => rfl
    | true =>
      obtain ⟨h1, h2, h3, h4⟩ := ctx_lin h
      have hlen : (fCtx s).1.length = s.Facts.length + 1 := by rw [h2]; simp
      rw [Bool.not_true, cond_false, cond_true, hlen, w64_eq (by omega), show ((s.Facts.length + 1 : Nat) : Int) - 1 = (s.Facts.length : Int) by omega, close_last (by omega) (by omega), Option.bind_some]
      rw [spec_singles hlen (by omega) (by simp), Option.bind_some]
      unfold m_spec_TrivialProof_A0
      rw [spec_pairs hlen (by omega) (by simp; omega), Option.bind_some]
      have e : ([Node.mk (nodeOf ((zer (s.Facts.length + 1)).set s.Facts.length 1)).Kind (nodeOf ((zer (s.Facts.length + 1)).set s.Facts.length 1)).Fact (Term.mk (nodeOf ((zer (s.Facts.length + 1)).set s.Facts.length 1)).Term.Const []) (nodeOf ((zer (s.Facts.length + 1)).set s.Facts.length 1)).Multipliers] ++
          (List.range s.Facts.length).map (fun i => nodeOf ((zer (s.Facts.length + 1)).set i 1)) ++ (List.range s.Facts.length).map (fun i => nodeOf (((zer (s.Facts.length + 1)).set s.Facts.length 1).set i 1))) = (vecs s.Facts.length).map nodeOf := by
        unfold vecs
        rw [List.map_cons, List.map_append, List.map_map, List.map_map, List.append_assoc]; rfl
      rw [e, spec_search (fun v hv => vec_lin h hv) (by unfold vecs; simp; omega)]
theorem impl_trivial {s : Sequent} (hl : cSeq s ≤ 1048576) : m_impl_TrivialProof s = some (fTriv s) := by
  unfold m_impl_TrivialProof fTriv
  rw [impl_ctx hl, Option.bind_some]
  cases h : (fCtx s).2 with
  | false => rfl
  | true =>
    obtain ⟨h1, h2, h3, h4⟩ := ctx_lin h
    have hlen : (fCtx s).1.length = s.Facts.length + 1 := by rw [h2]; simp
    rw [Bool.not_true, cond_false, cond_true, hlen, w64_eq (by omega), show ((s.Facts.length + 1 : Nat) : Int) - 1 = (s.Facts.length : Int) by omega]
    rw [impl_singles hlen (by omega) (by simp), Option.bind_some]
    unfold m_impl_TrivialProof_A0
    rw [impl_pairs hlen (by omega) (by simp; omega), Option.bind_some]
    unfold m_impl_TrivialProof_A1
    rw [List.append_assoc, show ([[(s.Facts.length : Int)]] ++ ((List.range s.Facts.length).map (fun (i : Nat) => [(i : Int)]) ++ (List.range s.Facts.length).map (fun (i : Nat) => [(i : Int), (s.Facts.length : Int)]))) = idxs s.Facts.length from rfl]
    have hi : ∀ idx ∈ idxs s.Facts.length, ∀ i ∈ idx, 0 ≤ i ∧ i < ((s.Facts.length + 1 : Nat) : Int) := by
      intro idx hidx i hi
      unfold idxs at hidx
      simp only [List.mem_cons, List.mem_append, List.mem_map, List.mem_range] at hidx
      rcases hidx with rfl | ⟨j, hj, rfl⟩ | ⟨j, hj, rfl⟩ <;> simp only [List.mem_cons, List.not_mem_nil, or_false] at hi
      · omega
      · omega
      · omega
    rw [impl_search (n := s.Facts.length + 1) hlen (by omega) (idxs s.Facts.length) 0 (fun idx hidx => ⟨hi idx hidx, vec_lin h (by rw [← idx_vec]; exact List.mem_map_of_mem hidx)⟩), idx_vec]
theorem firstB_small (ts : List Term) : ∀ (vs : List (List Int)), (∀ v ∈ vs, v.length ≤ 1000) → NodeS (firstB ts vs).1 ∧ ((firstB ts vs).1.map cNode).sum ≤ 2000
  | [], _ => ⟨⟨by simp [firstB], fun x hx => by cases hx⟩, by simp [firstB]⟩
  | v :: r, h => by
    unfold firstB
    have hv := h v (by simp)
    cases closesB ts v with
    | false => exact firstB_small ts r (fun w hw => h w (by simp [hw]))
    | true =>
      simp only [cond_true]
      refine ⟨⟨by simp, fun x hx => ?_⟩, ?_⟩
      · rw [List.mem_singleton.1 hx]; exact ⟨Nat.zero_le _, Nat.le_trans hv (by omega)⟩
      · simp only [List.map_cons, List.map_nil, List.sum_cons, List.sum_nil, cNode, nodeOf, List.length_nil]; omega
theorem fTriv_small (s : Sequent) : NodeS (fTriv s).1 ∧ ((fTriv s).1.map cNode).sum ≤ 2000 := by
  unfold fTriv
  cases h : (fCtx s).2 with
  | false => exact ⟨⟨by simp, fun x hx => by cases hx⟩, by simp⟩
  | true =>
    have := (ctx_lin h).2.2.1
    exact firstB_small _ _ (fun v hv => by rw [(vec_shape hv).1]; omega)
theorem law_TrivialProof {s : Sequent} (ks : k_Sequent s) : m_laws_FnExactTrivialProof s = some true := by
  unfold m_laws_FnExactTrivialProof
  rw [show (1048576 : Int) = ((1048576 : Nat) : Int) from rfl, sz_Seq ks _ (Nat.le_refl _), Option.bind_some]
  by_cases h1 : cSeq s ≤ 1048576
  · obtain ⟨hs, hb⟩ := fTriv_small s
    obtain ⟨r1, a1⟩ := mk_SeqP (s := s) (k := 1) (by omega)
    obtain ⟨r3, a3, b3⟩ := mkh_NodeS (xs := (fTriv s).1) (k := 1) hs.1 (by omega)
    replace a1 : m_laws_markSequent s 1 = _ := a1
    replace a3 : m_laws_markNodeS (fTriv s).1 1 = _ := a3
    replace b3 : m_laws_heldNodeS r3 1 = _ := b3
    simp only [szOut_ok h1, dec_neg, cond_false, Option.bind_some, to_Seq h1, spec_trivial h1, impl_trivial h1, eq_NodeS hs, eq_Seq h1, decide_true, bool_beq, Bool.not_true, Bool.or_false, a1, a3, b3]
  · rw [szOut_no h1]; rfl
end Go.Mod
