import Derived.Test.YtmbbpabjdalfaaaGc
namespace Go.Mod
open Go.AM
set_option linter.unusedVariables false
structure Term where
  Const : Int
  Coeffs : List Int
  deriving DecidableEq, Inhabited
structure Node where
  Kind : Int
  Fact : Int
  Term : Term
  Multipliers : List Int
  deriving DecidableEq, Inhabited
structure Sequent where
  Facts : List Term
  Goal : Term
  deriving DecidableEq, Inhabited
structure l00Src where
  code : List Int
  at_ : Int
  seed : Int
  deriving DecidableEq, Inhabited
structure checking where
  proof : List Node
  contexts : List (Int × (List Term))
  flaw : Int
  deriving DecidableEq, Inhabited
def k_i64 (x : Int) : Prop := -9223372036854775808 ≤ x ∧ x ≤ 9223372036854775807
def kLa_i64 (x : List Int) : Prop := x.length ≤ 9223372036854775807 ∧ ∀ y ∈ x, k_i64 y
def k_Term (x : Term) : Prop := k_i64 x.Const ∧ kLa_i64 x.Coeffs
def k_Node (x : Node) : Prop := k_i64 x.Kind ∧ k_i64 x.Fact ∧ k_Term x.Term ∧ kLa_i64 x.Multipliers
def kLa_Node (x : List Node) : Prop := x.length ≤ 9223372036854775807 ∧ ∀ y ∈ x, k_Node y
def kLa_Term (x : List Term) : Prop := x.length ≤ 9223372036854775807 ∧ ∀ y ∈ x, k_Term y
def k_Sequent (x : Sequent) : Prop := kLa_Term x.Facts ∧ k_Term x.Goal
noncomputable def m_laws_szInt64S (p0 : List Int) (p1 : Int) : Option Int :=
  bif (decide ((w64 (p1 - (p0.length : Int))) < (0 : Int))) then
    some (-1 : Int)
  else
    some (w64 (p1 - (p0.length : Int)))
noncomputable def m_laws_szTerm (p0 : Term) (p1 : Int) : Option Int :=
  (m_laws_szInt64S p0.Coeffs p1).bind fun (r8 : Int) =>
  bif (decide (r8 < (0 : Int))) then
    some (-1 : Int)
  else
    some r8
noncomputable def m_laws_szNode (p0 : Node) (p1 : Int) : Option Int :=
  (m_laws_szTerm p0.Term p1).bind fun (r8 : Int) =>
  bif (decide (r8 < (0 : Int))) then
    some (-1 : Int)
  else
    (m_laws_szInt64S p0.Multipliers r8).bind fun (r14 : Int) =>
    bif (decide (r14 < (0 : Int))) then
      some (-1 : Int)
    else
      some r14
noncomputable def m_laws_szNodeS_L0 (p0 : List Node) (s0 : Int × Int) : Option (Ctl (Int × Int) (Int ⊕ Int)) :=
  bif (decide (s0.2 < (p0.length : Int))) then
    (getI p0 s0.2).bind fun (x20 : Node) =>
    (m_laws_szNode x20 s0.1).bind fun (r23 : Int) =>
    bif (decide (r23 < (0 : Int))) then
      some (.out (.inr (-1 : Int)))
    else
      some (.next (r23, (w64 (s0.2 + (1 : Int)))))
  else
    some (.out (.inl s0.1))
noncomputable def m_laws_szNodeS_A0 (u0 : Int ⊕ Int) : Option Int :=
  match u0 with
  | .inl u0 =>
    some u0
  | .inr u0 =>
    some u0
noncomputable def m_laws_szNodeS (p0 : List Node) (p1 : Int) : Option Int :=
  bif (decide ((w64 (p1 - (p0.length : Int))) < (0 : Int))) then
    some (-1 : Int)
  else
    (iter (m_laws_szNodeS_L0 p0) ((w64 (p1 - (p0.length : Int))), (0 : Int))).bind fun (u0 : Int ⊕ Int) =>
    m_laws_szNodeS_A0 u0
noncomputable def m_laws_toInt64S_L0 (p0 : List Int) (s0 : (List Int) × Int) : Option (Ctl ((List Int) × Int) ((List Int))) :=
  bif (decide (s0.2 < (p0.length : Int))) then
    (getI p0 s0.2).bind fun (x18 : Int) =>
    (getI s0.1 s0.2).bind fun (x20 : Int) =>
    some (.next ((s0.1.set ((s0.2).toNat) x18), (w64 (s0.2 + (1 : Int)))))
  else
    some (.out s0.1)
noncomputable def m_laws_toInt64S_A0 (u0 : (List Int)) : Option (List Int) :=
  some u0
noncomputable def m_laws_toInt64S (p0 : List Int) : Option (List Int) :=
  (makeI (p0.length : Int) 8).bind fun (k7 : Nat) =>
  (iter (m_laws_toInt64S_L0 p0) ((List.replicate k7 (0 : Int)), (0 : Int))).bind fun (u0 : (List Int)) =>
  m_laws_toInt64S_A0 u0
noncomputable def m_laws_toTerm (p0 : Term) : Option Term :=
  (m_laws_toInt64S p0.Coeffs).bind fun (r9 : List Int) =>
  some (Term.mk p0.Const r9)
noncomputable def m_laws_toNode (p0 : Node) : Option Node :=
  (m_laws_toTerm p0.Term).bind fun (r12 : Term) =>
  (m_laws_toInt64S p0.Multipliers).bind fun (r16 : List Int) =>
  some (Node.mk p0.Kind p0.Fact r12 r16)
noncomputable def m_laws_toNodeS_L0 (p0 : List Node) (s0 : (List Node) × Int) : Option (Ctl ((List Node) × Int) ((List Node))) :=
  bif (decide (s0.2 < (p0.length : Int))) then
    (getI p0 s0.2).bind fun (x18 : Node) =>
    (m_laws_toNode x18).bind fun (r20 : Node) =>
    (getI s0.1 s0.2).bind fun (x21 : Node) =>
    some (.next ((s0.1.set ((s0.2).toNat) r20), (w64 (s0.2 + (1 : Int)))))
  else
    some (.out s0.1)
noncomputable def m_laws_toNodeS_A0 (u0 : (List Node)) : Option (List Node) :=
  some u0
noncomputable def m_laws_toNodeS (p0 : List Node) : Option (List Node) :=
  (makeI (p0.length : Int) 72).bind fun (k7 : Nat) =>
  (iter (m_laws_toNodeS_L0 p0) ((List.replicate k7 (Node.mk (0 : Int) (0 : Int) (Term.mk (0 : Int) ([] : List Int)) ([] : List Int))), (0 : Int))).bind fun (u0 : (List Node)) =>
  m_laws_toNodeS_A0 u0
noncomputable def m_spec_l00In (p0 : Int) (p1 : Int) (p2 : Int) : Option Bool :=
  some ((decide (p1 ≤ p0)) && (decide (p0 ≤ p2)))
noncomputable def m_spec_l05Zero (p0 : Term) : Option Bool :=
  some ((decide (p0.Const = (0 : Int))) && (decide ((p0.Coeffs.length : Int) = (0 : Int))))
noncomputable def m_spec_l05Multipliers_L0 (p0 : List Int) (s0 : Int) : Option (Ctl Int (Unit ⊕ Bool)) :=
  bif (decide (s0 < (p0.length : Int))) then
    (getI p0 s0).bind fun (x12 : Int) =>
    (m_spec_l00In x12 (0 : Int) (1000000 : Int)).bind fun (r14 : Bool) =>
    bif (!r14) then
      some (.out (.inr false))
    else
      some (.next (w64 (s0 + (1 : Int))))
  else
    some (.out (.inl ()))
noncomputable def m_spec_l05Multipliers_A0 (p0 : List Int) (u0 : Unit ⊕ Bool) : Option Bool :=
  match u0 with
  | .inl u0 =>
    some (decide ((p0.length : Int) ≤ (20 : Int)))
  | .inr u0 =>
    some u0
noncomputable def m_spec_l05Multipliers (p0 : List Int) : Option Bool :=
  (iter (m_spec_l05Multipliers_L0 p0) (0 : Int)).bind fun (u0 : Unit ⊕ Bool) =>
  m_spec_l05Multipliers_A0 p0 u0
noncomputable def m_spec_l02Number (p0 : Int) : Option Bool :=
  (m_spec_l00In p0 (-1000000 : Int) (1000000 : Int)).bind fun (r4 : Bool) =>
  some r4
noncomputable def m_spec_l02Is_L0 (p0 : Term) (s0 : Int) : Option (Ctl Int (Unit ⊕ Bool)) :=
  bif (decide (s0 < (p0.Coeffs.length : Int))) then
    (getI p0.Coeffs s0).bind fun (x45 : Int) =>
    (m_spec_l02Number x45).bind fun (r47 : Bool) =>
    bif (!r47) then
      some (.out (.inr false))
    else
      some (.next (w64 (s0 + (1 : Int))))
  else
    some (.out (.inl ()))
noncomputable def m_spec_l02Is_A0 (u0 : Unit ⊕ Bool) : Option Bool :=
  match u0 with
  | .inl u0 =>
    some true
  | .inr u0 =>
    some u0
noncomputable def m_spec_l02Is_J0 (p0 : Term) (j0 : Unit) : Option Bool :=
  (iter (m_spec_l02Is_L0 p0) (0 : Int)).bind fun (u0 : Unit ⊕ Bool) =>
  m_spec_l02Is_A0 u0
noncomputable def m_spec_l02Is (p0 : Term) : Option Bool :=
  (m_spec_l02Number p0.Const).bind fun (r14 : Bool) =>
  bif ((!r14) || (decide ((10 : Int) < (p0.Coeffs.length : Int)))) then
    some false
  else
    bif (decide ((0 : Int) < (p0.Coeffs.length : Int))) then
      (getI p0.Coeffs (w64 ((p0.Coeffs.length : Int) - (1 : Int)))).bind fun (x30 : Int) =>
      bif (decide (x30 = (0 : Int))) then
        some false
      else
        m_spec_l02Is_J0 p0 ()
    else
      m_spec_l02Is_J0 p0 ()
noncomputable def m_spec_l05Node (p0 : Node) : Option Bool :=
  bif (decide (p0.Kind = (1 : Int))) then
    bif (decide (p0.Fact = (0 : Int))) then
      (m_spec_l05Zero p0.Term).bind fun (r18 : Bool) =>
      bif r18 then
        (m_spec_l05Multipliers p0.Multipliers).bind fun (r25 : Bool) =>
        some r25
      else
        some false
    else
      some false
  else
    bif (decide (p0.Kind = (2 : Int))) then
      bif (decide (p0.Fact = (0 : Int))) then
        (m_spec_l02Is p0.Term).bind fun (r38 : Bool) =>
        some (r38 && (decide ((p0.Multipliers.length : Int) = (0 : Int))))
      else
        some false
    else
      bif (decide (p0.Kind = (3 : Int))) then
        (m_spec_l00In p0.Fact (0 : Int) (19 : Int)).bind fun (r54 : Bool) =>
        bif r54 then
          (m_spec_l05Zero p0.Term).bind fun (r59 : Bool) =>
          some (r59 && (decide ((p0.Multipliers.length : Int) = (0 : Int))))
        else
          some false
      else
        some false
noncomputable def m_spec_l05End_L0 (p0 : List Node) (s0 : Int × Int) : Option (Ctl (Int × Int) (Int ⊕ Int)) :=
  bif (decide ((0 : Int) < s0.2)) then
    bif (decide (s0.1 = (p0.length : Int))) then
      some (.out (.inr (-1 : Int)))
    else
      (getI p0 s0.1).bind fun (x14 : Node) =>
      bif (decide (x14.Kind = (1 : Int))) then
        some (.next ((w64 (s0.1 + (1 : Int))), (w64 (s0.2 - (1 : Int)))))
      else
        bif (decide (x14.Kind = (2 : Int))) then
          some (.next ((w64 (s0.1 + (1 : Int))), (w64 (s0.2 + (1 : Int)))))
        else
          some (.next ((w64 (s0.1 + (1 : Int))), s0.2))
  else
    some (.out (.inl s0.1))
noncomputable def m_spec_l05End_A0 (u0 : Int ⊕ Int) : Option Int :=
  match u0 with
  | .inl u0 =>
    some u0
  | .inr u0 =>
    some u0
noncomputable def m_spec_l05End (p0 : List Node) (p1 : Int) : Option Int :=
  (iter (m_spec_l05End_L0 p0) (p1, (1 : Int))).bind fun (u0 : Int ⊕ Int) =>
  m_spec_l05End_A0 u0
noncomputable def m_spec_l05Is_L0 (p0 : List Node) (s0 : Int) : Option (Ctl Int (Unit ⊕ Bool)) :=
  bif (decide (s0 < (p0.length : Int))) then
    (getI p0 s0).bind fun (x16 : Node) =>
    (m_spec_l05Node x16).bind fun (r17 : Bool) =>
    bif (!r17) then
      some (.out (.inr false))
    else
      some (.next (w64 (s0 + (1 : Int))))
  else
    some (.out (.inl ()))
noncomputable def m_spec_l05Is_A0 (p0 : List Node) (u0 : Unit ⊕ Bool) : Option Bool :=
  match u0 with
  | .inl u0 =>
    (m_spec_l05End p0 (0 : Int)).bind fun (r20 : Int) =>
    some (decide (r20 = (p0.length : Int)))
  | .inr u0 =>
    some u0
noncomputable def m_spec_l05Is (p0 : List Node) : Option Bool :=
  (m_spec_l00In (p0.length : Int) (1 : Int) (60 : Int)).bind fun (r6 : Bool) =>
  bif (!r6) then
    some false
  else
    (iter (m_spec_l05Is_L0 p0) (0 : Int)).bind fun (u0 : Unit ⊕ Bool) =>
    m_spec_l05Is_A0 p0 u0
noncomputable def m_spec_l00Own (p0 : List Int) : Option (List Int) :=
  (capI (([] : List Int).length + p0.length) 8).bind fun (q5 : Unit) =>
  some (([] : List Int) ++ p0)
noncomputable def m_spec_l02Own (p0 : Term) : Option Term :=
  (m_spec_l00Own p0.Coeffs).bind fun (r11 : List Int) =>
  some (Term.mk p0.Const r11)
noncomputable def m_impl_Term_isZero (p0 : Term) : Option Bool :=
  some ((decide (p0.Const = (0 : Int))) && (decide ((p0.Coeffs.length : Int) = (0 : Int))))
noncomputable def m_impl_within (p0 : Int) (p1 : Int) (p2 : Int) : Option Bool :=
  some ((decide (p1 ≤ p0)) && (decide (p0 ≤ p2)))
noncomputable def m_impl_allWithin_L0 (p1 : Int) (p2 : Int) (n0 : Nat) (x0 : Int) (s0 : Unit) : Option (Ctl Unit (Unit ⊕ Bool)) :=
  (m_impl_within x0 p1 p2).bind fun (r18 : Bool) =>
  bif (!r18) then
    some (.out (.inr false))
  else
    some (.next ())
noncomputable def m_impl_allWithin_A0 (u0 : Unit ⊕ Bool) : Option Bool :=
  match u0 with
  | .inl u0 =>
    some true
  | .inr u0 =>
    some u0
noncomputable def m_impl_allWithin (p0 : List Int) (p1 : Int) (p2 : Int) : Option Bool :=
  (forL (m_impl_allWithin_L0 p1 p2) (fun s0 => (.inl ())) 0 p0 ()).bind fun (u0 : Unit ⊕ Bool) =>
  m_impl_allWithin_A0 u0
noncomputable def m_impl_isCoeff (p0 : Int) : Option Bool :=
  (m_impl_within p0 (-1000000 : Int) (1000000 : Int)).bind fun (r4 : Bool) =>
  some r4
noncomputable def m_impl_ValidTerm (p0 : Term) : Option Bool :=
  bif (decide ((p0.Coeffs.length : Int) ≤ (10 : Int))) then
    (m_impl_isCoeff p0.Const).bind fun (r12 : Bool) =>
    bif r12 then
      (m_impl_allWithin p0.Coeffs (-1000000 : Int) (1000000 : Int)).bind fun (r17 : Bool) =>
      bif r17 then
        bif (decide ((p0.Coeffs.length : Int) = (0 : Int))) then
          some true
        else
          (getI p0.Coeffs (w64 ((p0.Coeffs.length : Int) - (1 : Int)))).bind fun (x27 : Int) =>
          some (!decide (x27 = (0 : Int)))
      else
        some false
    else
      some false
  else
    some false
noncomputable def m_impl_subproofs (p0 : Node) : Option Int :=
  (m_impl_Term_isZero p0.Term).bind fun (r12 : Bool) =>
  bif (decide (p0.Kind = (1 : Int))) then
    bif (((decide (p0.Fact = (0 : Int))) && r12) && (decide ((p0.Multipliers.length : Int) ≤ (20 : Int)))) then
      (m_impl_allWithin p0.Multipliers (0 : Int) (1000000 : Int)).bind fun (r34 : Bool) =>
      bif r34 then
        some (0 : Int)
      else
        some (-1 : Int)
    else
      some (-1 : Int)
  else
    bif (decide (p0.Kind = (2 : Int))) then
      bif ((decide (p0.Fact = (0 : Int))) && (decide ((p0.Multipliers.length : Int) = (0 : Int)))) then
        (m_impl_ValidTerm p0.Term).bind fun (r45 : Bool) =>
        bif r45 then
          some (2 : Int)
        else
          some (-1 : Int)
      else
        some (-1 : Int)
    else
      bif (decide (p0.Kind = (3 : Int))) then
        (m_impl_within p0.Fact (0 : Int) (19 : Int)).bind fun (r51 : Bool) =>
        bif ((r51 && r12) && (decide ((p0.Multipliers.length : Int) = (0 : Int)))) then
          some (1 : Int)
        else
          some (-1 : Int)
      else
        some (-1 : Int)
noncomputable def m_impl_behindProof_F_L0 (rec_impl_behindProof : (List Node) → Int → Option (Int × Int × Bool)) (p0 : List Node) (s0 : Int × Int × Int) : Option (Ctl (Int × Int × Int) ((Int × Int) ⊕ (Int × Int × Bool))) :=
  bif (decide ((0 : Int) < s0.2.1)) then
    (rec_impl_behindProof p0 s0.1).bind fun (r32 : Int × Int × Bool) =>
    bif (!r32.2.2) then
      some (.out (.inr ((0 : Int), (0 : Int), false)))
    else
      some (.next (r32.1, (w64 (s0.2.1 - (1 : Int))), (max s0.2.2 r32.2.1)))
  else
    some (.out (.inl (s0.1, s0.2.2)))
noncomputable def m_impl_behindProof_F_A0 (u0 : (Int × Int) ⊕ (Int × Int × Bool)) : Option (Int × Int × Bool) :=
  match u0 with
  | .inl u0 =>
    some (u0.1, (w64 (u0.2 + (1 : Int))), true)
  | .inr u0 =>
    some (u0.1, u0.2.1, u0.2.2)
noncomputable def m_impl_behindProof_F (rec_impl_behindProof : (List Node) → Int → Option (Int × Int × Bool)) (p0 : List Node) (p1 : Int) : Option (Int × Int × Bool) :=
  bif (decide ((p0.length : Int) ≤ p1)) then
    some ((0 : Int), (0 : Int), false)
  else
    (getI p0 p1).bind fun (x18 : Node) =>
    (m_impl_subproofs x18).bind fun (r20 : Int) =>
    bif (decide (r20 < (0 : Int))) then
      some ((0 : Int), (0 : Int), false)
    else
      (iter (m_impl_behindProof_F_L0 rec_impl_behindProof p0) ((w64 (p1 + (1 : Int))), r20, (0 : Int))).bind fun (u0 : (Int × Int) ⊕ (Int × Int × Bool)) =>
      m_impl_behindProof_F_A0 u0
noncomputable def m_impl_behindProof : Nat → (List Node) → Int → Option (Int × Int × Bool)
  | 0, _, _ => none
  | n + 1, p0, p1 => m_impl_behindProof_F (m_impl_behindProof n) p0 p1
noncomputable def m_impl_IsProof (p0 : List Node) : Option Bool :=
  bif (decide ((60 : Int) < (p0.length : Int))) then
    some false
  else
    (m_impl_behindProof 1000 p0 (0 : Int)).bind fun (r11 : Int × Int × Bool) =>
    some (r11.2.2 && (decide (r11.1 = (p0.length : Int))))
noncomputable def m_impl_size (p0 : Int) : Option Int :=
  some p0
noncomputable def m_impl_isIndex (p0 : Int) (p1 : Int) : Option Bool :=
  (m_impl_size p1).bind fun (r7 : Int) =>
  (m_impl_within p0 (0 : Int) (w64 (r7 - (1 : Int)))).bind fun (r9 : Bool) =>
  some r9
noncomputable def m_impl_copyInts (p0 : List Int) : Option (List Int) :=
  (capI (([] : List Int).length + p0.length) 8).bind fun (q5 : Unit) =>
  some (([] : List Int) ++ p0)
noncomputable def m_impl_Term_own (p0 : Term) : Option Term :=
  (m_impl_copyInts p0.Coeffs).bind fun (r7 : List Int) =>
  some (Term.mk p0.Const r7)
noncomputable def m_laws_eqInt64S_L0 (p0 : List Int) (p1 : List Int) (s0 : Int) : Option (Ctl Int (Unit ⊕ Bool)) :=
  bif (decide (s0 < (p0.length : Int))) then
    (getI p0 s0).bind fun (x19 : Int) =>
    (getI p1 s0).bind fun (x23 : Int) =>
    bif (!decide (x19 = x23)) then
      some (.out (.inr false))
    else
      some (.next (w64 (s0 + (1 : Int))))
  else
    some (.out (.inl ()))
noncomputable def m_laws_eqInt64S_A0 (u0 : Unit ⊕ Bool) : Option Bool :=
  match u0 with
  | .inl u0 =>
    some true
  | .inr u0 =>
    some u0
noncomputable def m_laws_eqInt64S (p0 : List Int) (p1 : List Int) : Option Bool :=
  bif (!decide ((p0.length : Int) = (p1.length : Int))) then
    some false
  else
    (iter (m_laws_eqInt64S_L0 p0 p1) (0 : Int)).bind fun (u0 : Unit ⊕ Bool) =>
    m_laws_eqInt64S_A0 u0
noncomputable def m_laws_eqTerm (p0 : Term) (p1 : Term) : Option Bool :=
  bif (!decide (p0.Const = p1.Const)) then
    some false
  else
    (m_laws_eqInt64S p0.Coeffs p1.Coeffs).bind fun (r14 : Bool) =>
    bif (!r14) then
      some false
    else
      some true
noncomputable def m_laws_eqNode (p0 : Node) (p1 : Node) : Option Bool :=
  bif (!decide (p0.Kind = p1.Kind)) then
    some false
  else
    bif (!decide (p0.Fact = p1.Fact)) then
      some false
    else
      (m_laws_eqTerm p0.Term p1.Term).bind fun (r19 : Bool) =>
      bif (!r19) then
        some false
      else
        (m_laws_eqInt64S p0.Multipliers p1.Multipliers).bind fun (r25 : Bool) =>
        bif (!r25) then
          some false
        else
          some true
noncomputable def m_laws_eqNodeS_L0 (p0 : List Node) (p1 : List Node) (s0 : Int) : Option (Ctl Int (Unit ⊕ Bool)) :=
  bif (decide (s0 < (p0.length : Int))) then
    (getI p0 s0).bind fun (x19 : Node) =>
    (getI p1 s0).bind fun (x23 : Node) =>
    (m_laws_eqNode x19 x23).bind fun (r25 : Bool) =>
    bif (!r25) then
      some (.out (.inr false))
    else
      some (.next (w64 (s0 + (1 : Int))))
  else
    some (.out (.inl ()))
noncomputable def m_laws_eqNodeS_A0 (u0 : Unit ⊕ Bool) : Option Bool :=
  match u0 with
  | .inl u0 =>
    some true
  | .inr u0 =>
    some u0
noncomputable def m_laws_eqNodeS (p0 : List Node) (p1 : List Node) : Option Bool :=
  bif (!decide ((p0.length : Int) = (p1.length : Int))) then
    some false
  else
    (iter (m_laws_eqNodeS_L0 p0 p1) (0 : Int)).bind fun (u0 : Unit ⊕ Bool) =>
    m_laws_eqNodeS_A0 u0
noncomputable def m_laws_markInt64S_L0 (s0 : (List Int) × Int × Int) : Option (Ctl ((List Int) × Int × Int) ((Int × (List Int)))) :=
  bif (decide (s0.2.2 < (s0.1.length : Int))) then
    (getI s0.1 s0.2.2).bind fun (x15 : Int) =>
    some (.next ((s0.1.set ((s0.2.2).toNat) s0.2.1), (w64 (s0.2.1 + (1 : Int))), (w64 (s0.2.2 + (1 : Int)))))
  else
    some (.out (s0.2.1, s0.1))
noncomputable def m_laws_markInt64S_A0 (u0 : (Int × (List Int))) : Option (Int × (List Int)) :=
  some (u0.1, u0.2)
noncomputable def m_laws_markInt64S (p0 : List Int) (p1 : Int) : Option (Int × (List Int)) :=
  (iter (m_laws_markInt64S_L0) (p0, p1, (0 : Int))).bind fun (u0 : (Int × (List Int))) =>
  m_laws_markInt64S_A0 u0
noncomputable def m_laws_markNodeS_L0 (s0 : (List Node) × Int × Int) : Option (Ctl ((List Node) × Int × Int) ((Int × (List Node)))) :=
  bif (decide (s0.2.2 < (s0.1.length : Int))) then
    (getI s0.1 s0.2.2).bind fun (x15 : Node) =>
    (getI (s0.1.set ((s0.2.2).toNat) (Node.mk s0.2.1 x15.Fact x15.Term x15.Multipliers)) s0.2.2).bind fun (x22 : Node) =>
    (getI ((s0.1.set ((s0.2.2).toNat) (Node.mk s0.2.1 x15.Fact x15.Term x15.Multipliers)).set ((s0.2.2).toNat) (Node.mk x22.Kind (w64 (s0.2.1 + (1 : Int))) x22.Term x22.Multipliers)) s0.2.2).bind fun (x29 : Node) =>
    (getI (((s0.1.set ((s0.2.2).toNat) (Node.mk s0.2.1 x15.Fact x15.Term x15.Multipliers)).set ((s0.2.2).toNat) (Node.mk x22.Kind (w64 (s0.2.1 + (1 : Int))) x22.Term x22.Multipliers)).set ((s0.2.2).toNat) (Node.mk x29.Kind x29.Fact (Term.mk (w64 ((w64 (s0.2.1 + (1 : Int))) + (1 : Int))) x29.Term.Coeffs) x29.Multipliers)) s0.2.2).bind fun (x36 : Node) =>
    (m_laws_markInt64S x36.Term.Coeffs (w64 ((w64 ((w64 (s0.2.1 + (1 : Int))) + (1 : Int))) + (1 : Int)))).bind fun (r41 : Int × (List Int)) =>
    (getI ((((s0.1.set ((s0.2.2).toNat) (Node.mk s0.2.1 x15.Fact x15.Term x15.Multipliers)).set ((s0.2.2).toNat) (Node.mk x22.Kind (w64 (s0.2.1 + (1 : Int))) x22.Term x22.Multipliers)).set ((s0.2.2).toNat) (Node.mk x29.Kind x29.Fact (Term.mk (w64 ((w64 (s0.2.1 + (1 : Int))) + (1 : Int))) x29.Term.Coeffs) x29.Multipliers)).set ((s0.2.2).toNat) (Node.mk x36.Kind x36.Fact (Term.mk x36.Term.Const r41.2) x36.Multipliers)) s0.2.2).bind fun (x44 : Node) =>
    (m_laws_markInt64S x44.Multipliers r41.1).bind fun (r48 : Int × (List Int)) =>
    some (.next ((((((s0.1.set ((s0.2.2).toNat) (Node.mk s0.2.1 x15.Fact x15.Term x15.Multipliers)).set ((s0.2.2).toNat) (Node.mk x22.Kind (w64 (s0.2.1 + (1 : Int))) x22.Term x22.Multipliers)).set ((s0.2.2).toNat) (Node.mk x29.Kind x29.Fact (Term.mk (w64 ((w64 (s0.2.1 + (1 : Int))) + (1 : Int))) x29.Term.Coeffs) x29.Multipliers)).set ((s0.2.2).toNat) (Node.mk x36.Kind x36.Fact (Term.mk x36.Term.Const r41.2) x36.Multipliers)).set ((s0.2.2).toNat) (Node.mk x44.Kind x44.Fact x44.Term r48.2)), r48.1, (w64 (s0.2.2 + (1 : Int)))))
  else
    some (.out (s0.2.1, s0.1))
noncomputable def m_laws_markNodeS_A0 (u0 : (Int × (List Node))) : Option (Int × (List Node)) :=
  some (u0.1, u0.2)
noncomputable def m_laws_markNodeS (p0 : List Node) (p1 : Int) : Option (Int × (List Node)) :=
  (iter (m_laws_markNodeS_L0) (p0, p1, (0 : Int))).bind fun (u0 : (Int × (List Node))) =>
  m_laws_markNodeS_A0 u0
noncomputable def m_laws_heldInt64S_L0 (p0 : List Int) (s0 : Int × Int) : Option (Ctl (Int × Int) (Int ⊕ Int)) :=
  bif (decide (s0.2 < (p0.length : Int))) then
    (getI p0 s0.2).bind fun (x14 : Int) =>
    bif (!decide (x14 = s0.1)) then
      some (.out (.inr (-1 : Int)))
    else
      some (.next ((w64 (s0.1 + (1 : Int))), (w64 (s0.2 + (1 : Int)))))
  else
    some (.out (.inl s0.1))
noncomputable def m_laws_heldInt64S_A0 (u0 : Int ⊕ Int) : Option Int :=
  match u0 with
  | .inl u0 =>
    some u0
  | .inr u0 =>
    some u0
noncomputable def m_laws_heldInt64S (p0 : List Int) (p1 : Int) : Option Int :=
  (iter (m_laws_heldInt64S_L0 p0) (p1, (0 : Int))).bind fun (u0 : Int ⊕ Int) =>
  m_laws_heldInt64S_A0 u0
noncomputable def m_laws_heldNodeS_L0 (p0 : List Node) (s0 : Int × Int) : Option (Ctl (Int × Int) (Int ⊕ Int)) :=
  bif (decide (s0.2 < (p0.length : Int))) then
    (getI p0 s0.2).bind fun (x14 : Node) =>
    bif (!decide (x14.Kind = s0.1)) then
      some (.out (.inr (-1 : Int)))
    else
      bif (!decide (x14.Fact = (w64 (s0.1 + (1 : Int))))) then
        some (.out (.inr (-1 : Int)))
      else
        bif (!decide (x14.Term.Const = (w64 ((w64 (s0.1 + (1 : Int))) + (1 : Int))))) then
          some (.out (.inr (-1 : Int)))
        else
          (m_laws_heldInt64S x14.Term.Coeffs (w64 ((w64 ((w64 (s0.1 + (1 : Int))) + (1 : Int))) + (1 : Int)))).bind fun (r47 : Int) =>
          bif (decide (r47 < (0 : Int))) then
            some (.out (.inr (-1 : Int)))
          else
            (m_laws_heldInt64S x14.Multipliers r47).bind fun (r56 : Int) =>
            bif (decide (r56 < (0 : Int))) then
              some (.out (.inr (-1 : Int)))
            else
              some (.next (r56, (w64 (s0.2 + (1 : Int)))))
  else
    some (.out (.inl s0.1))
noncomputable def m_laws_heldNodeS_A0 (u0 : Int ⊕ Int) : Option Int :=
  match u0 with
  | .inl u0 =>
    some u0
  | .inr u0 =>
    some u0
noncomputable def m_laws_heldNodeS (p0 : List Node) (p1 : Int) : Option Int :=
  (iter (m_laws_heldNodeS_L0 p0) (p1, (0 : Int))).bind fun (u0 : Int ⊕ Int) =>
  m_laws_heldNodeS_A0 u0
noncomputable def m_laws_szTermS_L0 (p0 : List Term) (s0 : Int × Int) : Option (Ctl (Int × Int) (Int ⊕ Int)) :=
  bif (decide (s0.2 < (p0.length : Int))) then
    (getI p0 s0.2).bind fun (x20 : Term) =>
    (m_laws_szTerm x20 s0.1).bind fun (r23 : Int) =>
    bif (decide (r23 < (0 : Int))) then
      some (.out (.inr (-1 : Int)))
    else
      some (.next (r23, (w64 (s0.2 + (1 : Int)))))
  else
    some (.out (.inl s0.1))
noncomputable def m_laws_szTermS_A0 (u0 : Int ⊕ Int) : Option Int :=
  match u0 with
  | .inl u0 =>
    some u0
  | .inr u0 =>
    some u0
noncomputable def m_laws_szTermS (p0 : List Term) (p1 : Int) : Option Int :=
  bif (decide ((w64 (p1 - (p0.length : Int))) < (0 : Int))) then
    some (-1 : Int)
  else
    (iter (m_laws_szTermS_L0 p0) ((w64 (p1 - (p0.length : Int))), (0 : Int))).bind fun (u0 : Int ⊕ Int) =>
    m_laws_szTermS_A0 u0
noncomputable def m_laws_szSequent (p0 : Sequent) (p1 : Int) : Option Int :=
  (m_laws_szTermS p0.Facts p1).bind fun (r8 : Int) =>
  bif (decide (r8 < (0 : Int))) then
    some (-1 : Int)
  else
    (m_laws_szTerm p0.Goal r8).bind fun (r14 : Int) =>
    bif (decide (r14 < (0 : Int))) then
      some (-1 : Int)
    else
      some r14
noncomputable def m_laws_toTermS_L0 (p0 : List Term) (s0 : (List Term) × Int) : Option (Ctl ((List Term) × Int) ((List Term))) :=
  bif (decide (s0.2 < (p0.length : Int))) then
    (getI p0 s0.2).bind fun (x18 : Term) =>
    (m_laws_toTerm x18).bind fun (r20 : Term) =>
    (getI s0.1 s0.2).bind fun (x21 : Term) =>
    some (.next ((s0.1.set ((s0.2).toNat) r20), (w64 (s0.2 + (1 : Int)))))
  else
    some (.out s0.1)
noncomputable def m_laws_toTermS_A0 (u0 : (List Term)) : Option (List Term) :=
  some u0
noncomputable def m_laws_toTermS (p0 : List Term) : Option (List Term) :=
  (makeI (p0.length : Int) 32).bind fun (k7 : Nat) =>
  (iter (m_laws_toTermS_L0 p0) ((List.replicate k7 (Term.mk (0 : Int) ([] : List Int))), (0 : Int))).bind fun (u0 : (List Term)) =>
  m_laws_toTermS_A0 u0
noncomputable def m_laws_toSequent (p0 : Sequent) : Option Sequent :=
  (m_laws_toTermS p0.Facts).bind fun (r6 : List Term) =>
  (m_laws_toTerm p0.Goal).bind fun (r10 : Term) =>
  some (Sequent.mk r6 r10)
noncomputable def m_spec_l02All_L0 (p0 : List Term) (s0 : Int) : Option (Ctl Int (Unit ⊕ Bool)) :=
  bif (decide (s0 < (p0.length : Int))) then
    (getI p0 s0).bind fun (x14 : Term) =>
    (m_spec_l02Is x14).bind fun (r15 : Bool) =>
    bif (!r15) then
      some (.out (.inr false))
    else
      some (.next (w64 (s0 + (1 : Int))))
  else
    some (.out (.inl ()))
noncomputable def m_spec_l02All_A0 (p0 : List Term) (p1 : Int) (u0 : Unit ⊕ Bool) : Option Bool :=
  match u0 with
  | .inl u0 =>
    some (decide ((p0.length : Int) ≤ p1))
  | .inr u0 =>
    some u0
noncomputable def m_spec_l02All (p0 : List Term) (p1 : Int) : Option Bool :=
  (iter (m_spec_l02All_L0 p0) (0 : Int)).bind fun (u0 : Unit ⊕ Bool) =>
  m_spec_l02All_A0 p0 p1 u0
noncomputable def m_spec_l02Sequent (p0 : Sequent) : Option Bool :=
  (m_spec_l02All p0.Facts (13 : Int)).bind fun (r7 : Bool) =>
  bif r7 then
    (m_spec_l02Is p0.Goal).bind fun (r12 : Bool) =>
    some r12
  else
    some false
noncomputable def m_spec_l02Coeff (p0 : Term) (p1 : Int) : Option Int :=
  bif (decide (p1 < (p0.Coeffs.length : Int))) then
    (getI p0.Coeffs p1).bind fun (x17 : Int) =>
    some x17
  else
    some (0 : Int)
noncomputable def m_spec_l02Make_L0 (p1 : List Int) (s0 : Int) : Option (Ctl Int Int) :=
  bif (decide ((0 : Int) < s0)) then
    (getI p1 (w64 (s0 - (1 : Int)))).bind fun (x16 : Int) =>
    bif (decide (x16 = (0 : Int))) then
      some (.next (w64 (s0 - (1 : Int))))
    else
      some (.out s0)
  else
    some (.out s0)
noncomputable def m_spec_l02Make_A0 (p0 : Int) (p1 : List Int) (u0 : Int) : Option (Term × Bool) :=
  (sliceI p1 (0 : Int) u0).bind fun (y25 : List Int) =>
  (m_spec_l00Own y25).bind fun (r26 : List Int) =>
  (m_spec_l02Is (Term.mk p0 r26)).bind fun (r28 : Bool) =>
  bif (!r28) then
    some ((Term.mk (0 : Int) ([] : List Int)), false)
  else
    some ((Term.mk p0 r26), true)
noncomputable def m_spec_l02Make (p0 : Int) (p1 : List Int) : Option (Term × Bool) :=
  (iter (m_spec_l02Make_L0 p1) (p1.length : Int)).bind fun (u0 : Int) =>
  m_spec_l02Make_A0 p0 p1 u0
noncomputable def m_spec_l02Sum_L0 (p0 : Term) (p1 : Int) (p2 : Term) (p3 : Int) (s0 : (List Int) × Int) : Option (Ctl ((List Int) × Int) ((List Int))) :=
  bif (decide (s0.2 < (10 : Int))) then
    (m_spec_l02Coeff p0 s0.2).bind fun (r21 : Int) =>
    (m_spec_l02Coeff p2 s0.2).bind fun (r26 : Int) =>
    (capI (s0.1.length + [(w64 ((w64 (p1 * r21)) + (w64 (p3 * r26))))].length) 8).bind fun (q30 : Unit) =>
    some (.next ((s0.1 ++ [(w64 ((w64 (p1 * r21)) + (w64 (p3 * r26))))]), (w64 (s0.2 + (1 : Int)))))
  else
    some (.out s0.1)
noncomputable def m_spec_l02Sum_A0 (p0 : Term) (p1 : Int) (p2 : Term) (p3 : Int) (u0 : (List Int)) : Option (Term × Bool) :=
  (m_spec_l02Make (w64 ((w64 (p1 * p0.Const)) + (w64 (p3 * p2.Const)))) u0).bind fun (r45 : Term × Bool) =>
  some (r45.1, r45.2)
noncomputable def m_spec_l02Sum (p0 : Term) (p1 : Int) (p2 : Term) (p3 : Int) : Option (Term × Bool) :=
  (iter (m_spec_l02Sum_L0 p0 p1 p2 p3) (([] : List Int), (0 : Int))).bind fun (u0 : (List Int)) =>
  m_spec_l02Sum_A0 p0 p1 p2 p3 u0
noncomputable def m_spec_l02Opposite (p0 : Term) : Option (Term × Bool) :=
  (m_spec_l02Sum p0 (-1 : Int) (Term.mk (1 : Int) ([] : List Int)) (-1 : Int)).bind fun (r7 : Term × Bool) =>
  some (r7.1, r7.2)
noncomputable def m_spec_l02OwnAll_L0 (p0 : List Term) (s0 : (List Term) × Int) : Option (Ctl ((List Term) × Int) ((List Term))) :=
  bif (decide (s0.2 < (p0.length : Int))) then
    (getI p0 s0.2).bind fun (x15 : Term) =>
    (m_spec_l02Own x15).bind fun (r16 : Term) =>
    (capI (s0.1.length + [r16].length) 32).bind fun (q18 : Unit) =>
    some (.next ((s0.1 ++ [r16]), (w64 (s0.2 + (1 : Int)))))
  else
    some (.out s0.1)
noncomputable def m_spec_l02OwnAll_A0 (u0 : (List Term)) : Option (List Term) :=
  some u0
noncomputable def m_spec_l02OwnAll (p0 : List Term) : Option (List Term) :=
  (iter (m_spec_l02OwnAll_L0 p0) (([] : List Term), (0 : Int))).bind fun (u0 : (List Term)) =>
  m_spec_l02OwnAll_A0 u0
noncomputable def m_spec_l02Context (p0 : Sequent) : Option ((List Term) × Bool) :=
  (m_spec_l02Opposite p0.Goal).bind fun (r10 : Term × Bool) =>
  bif (!r10.2) then
    some (([] : List Term), false)
  else
    (m_spec_l02OwnAll p0.Facts).bind fun (r19 : List Term) =>
    (capI (r19.length + [r10.1].length) 32).bind fun (q22 : Unit) =>
    some ((r19 ++ [r10.1]), true)
noncomputable def m_spec_l05Closes_L1 (x25 : Int) (x29 : Term) (s1 : (List Int) × Int) : Option (Ctl ((List Int) × Int) ((List Int))) :=
  bif (decide (s1.2 < (x29.Coeffs.length : Int))) then
    (getI s1.1 s1.2).bind fun (x46 : Int) =>
    (getI x29.Coeffs s1.2).bind fun (x58 : Int) =>
    some (.next ((s1.1.set ((s1.2).toNat) (w64 (x46 + (w64 (x25 * x58))))), (w64 (s1.2 + (1 : Int)))))
  else
    some (.out s1.1)
noncomputable def m_spec_l05Closes_A1 (s0 : Int × (List Int) × Int) (x25 : Int) (x29 : Term) (u1 : (List Int)) : Option (Ctl (Int × (List Int) × Int) ((Int × (List Int)))) :=
  some (.next ((w64 (s0.1 + (w64 (x25 * x29.Const)))), u1, (w64 (s0.2.2 + (1 : Int)))))
noncomputable def m_spec_l05Closes_L0 (p0 : List Term) (p1 : List Int) (s0 : Int × (List Int) × Int) : Option (Ctl (Int × (List Int) × Int) ((Int × (List Int)))) :=
  bif (decide (s0.2.2 < (p0.length : Int))) then
    (getI p1 s0.2.2).bind fun (x25 : Int) =>
    (getI p0 s0.2.2).bind fun (x29 : Term) =>
    (iter (m_spec_l05Closes_L1 x25 x29) (s0.2.1, (0 : Int))).bind fun (u1 : (List Int)) =>
    m_spec_l05Closes_A1 s0 x25 x29 u1
  else
    some (.out (s0.1, s0.2.1))
noncomputable def m_spec_l05Closes_L2 (u0 : Int × (List Int)) (s2 : Int) : Option (Ctl Int (Unit ⊕ Bool)) :=
  bif (decide (s2 < (u0.2.length : Int))) then
    (getI u0.2 s2).bind fun (x71 : Int) =>
    bif (!decide (x71 = (0 : Int))) then
      some (.out (.inr false))
    else
      some (.next (w64 (s2 + (1 : Int))))
  else
    some (.out (.inl ()))
noncomputable def m_spec_l05Closes_A2 (u0 : Int × (List Int)) (u2 : Unit ⊕ Bool) : Option Bool :=
  match u2 with
  | .inl u2 =>
    some (decide (u0.1 < (0 : Int)))
  | .inr u2 =>
    some u2
noncomputable def m_spec_l05Closes_A0 (u0 : (Int × (List Int))) : Option Bool :=
  (iter (m_spec_l05Closes_L2 u0) (0 : Int)).bind fun (u2 : Unit ⊕ Bool) =>
  m_spec_l05Closes_A2 u0 u2
noncomputable def m_spec_l05Closes (p0 : List Term) (p1 : List Int) : Option Bool :=
  bif (!decide ((p0.length : Int) = (p1.length : Int))) then
    some false
  else
    (makeI (10 : Int) 8).bind fun (k15 : Nat) =>
    (iter (m_spec_l05Closes_L0 p0 p1) ((0 : Int), (List.replicate k15 (0 : Int)), (0 : Int))).bind fun (u0 : (Int × (List Int))) =>
    m_spec_l05Closes_A0 u0
noncomputable def m_impl_areTerms_L0 (n0 : Nat) (x0 : Term) (s0 : Unit) : Option (Ctl Unit (Unit ⊕ Bool)) :=
  (m_impl_ValidTerm x0).bind fun (r18 : Bool) =>
  bif (!r18) then
    some (.out (.inr false))
  else
    some (.next ())
noncomputable def m_impl_areTerms_A0 (u0 : Unit ⊕ Bool) : Option Bool :=
  match u0 with
  | .inl u0 =>
    some true
  | .inr u0 =>
    some u0
noncomputable def m_impl_areTerms (p0 : List Term) (p1 : Int) : Option Bool :=
  bif (decide (p1 < (p0.length : Int))) then
    some false
  else
    (forL (m_impl_areTerms_L0) (fun s0 => (.inl ())) 0 p0 ()).bind fun (u0 : Unit ⊕ Bool) =>
    m_impl_areTerms_A0 u0
noncomputable def m_impl_ValidSequent (p0 : Sequent) : Option Bool :=
  (m_impl_areTerms p0.Facts (13 : Int)).bind fun (r5 : Bool) =>
  bif r5 then
    (m_impl_ValidTerm p0.Goal).bind fun (r9 : Bool) =>
    some r9
  else
    some false
noncomputable def m_impl_Term_trimmed_L0 (p0 : Term) (s0 : Int) : Option (Ctl Int Int) :=
  bif (decide ((0 : Int) < s0)) then
    (getI p0.Coeffs (w64 (s0 - (1 : Int)))).bind fun (x14 : Int) =>
    bif (decide (x14 = (0 : Int))) then
      some (.next (w64 (s0 - (1 : Int))))
    else
      some (.out s0)
  else
    some (.out s0)
noncomputable def m_impl_Term_trimmed_A0 (p0 : Term) (u0 : Int) : Option Term :=
  (sliceI p0.Coeffs (0 : Int) u0).bind fun (y23 : List Int) =>
  some (Term.mk p0.Const y23)
noncomputable def m_impl_Term_trimmed (p0 : Term) : Option Term :=
  (iter (m_impl_Term_trimmed_L0 p0) (p0.Coeffs.length : Int)).bind fun (u0 : Int) =>
  m_impl_Term_trimmed_A0 p0 u0
noncomputable def m_impl_combined_L1 (x23 : Int) (n1 : Nat) (x1 : Int) (s1 : List Int) : Option (Ctl (List Int) ((List Int))) :=
  (getI s1 (n1 : Int)).bind fun (x41 : Int) =>
  some (.next (s1.set (((n1 : Int)).toNat) (w64 (x41 + (w64 (x23 * x1))))))
noncomputable def m_impl_combined_A1 (s0 : Int × (List Int)) (x0 : Term) (x23 : Int) (u1 : (List Int)) : Option (Ctl (Int × (List Int)) ((Int × (List Int)))) :=
  some (.next ((w64 (s0.1 + (w64 (x23 * x0.Const)))), u1))
noncomputable def m_impl_combined_L0 (p1 : List Int) (n0 : Nat) (x0 : Term) (s0 : Int × (List Int)) : Option (Ctl (Int × (List Int)) ((Int × (List Int)))) :=
  (getI p1 (n0 : Int)).bind fun (x23 : Int) =>
  (forL (m_impl_combined_L1 x23) (fun s1 => s1) 0 x0.Coeffs s0.2).bind fun (u1 : (List Int)) =>
  m_impl_combined_A1 s0 x0 x23 u1
noncomputable def m_impl_combined_A0 (u0 : (Int × (List Int))) : Option Term :=
  (m_impl_Term_trimmed (Term.mk u0.1 u0.2)).bind fun (r54 : Term) =>
  some r54
noncomputable def m_impl_combined (p0 : List Term) (p1 : List Int) : Option Term :=
  (makeI (10 : Int) 8).bind fun (k10 : Nat) =>
  (forL (m_impl_combined_L0 p1) (fun s0 => (s0.1, s0.2)) 0 p0 ((0 : Int), (List.replicate k10 (0 : Int)))).bind fun (u0 : (Int × (List Int))) =>
  m_impl_combined_A0 u0
noncomputable def m_impl_Term_opposite (p0 : Term) : Option Term :=
  (m_impl_combined [p0] [(-1 : Int)]).bind fun (r7 : Term) =>
  some (Term.mk (w64 (r7.Const - (1 : Int))) r7.Coeffs)
noncomputable def m_impl_ownTerms_L0 (n0 : Nat) (x0 : Term) (s0 : List Term) : Option (Ctl (List Term) ((List Term))) :=
  (m_impl_Term_own x0).bind fun (r14 : Term) =>
  (capI (s0.length + [r14].length) 32).bind fun (q16 : Unit) =>
  some (.next (s0 ++ [r14]))
noncomputable def m_impl_ownTerms_A0 (u0 : (List Term)) : Option (List Term) :=
  some u0
noncomputable def m_impl_ownTerms (p0 : List Term) : Option (List Term) :=
  (forL (m_impl_ownTerms_L0) (fun s0 => s0) 0 p0 ([] : List Term)).bind fun (u0 : (List Term)) =>
  m_impl_ownTerms_A0 u0
noncomputable def m_impl_ContextOf (p0 : Sequent) : Option ((List Term) × Bool) :=
  (m_impl_ValidSequent p0).bind fun (r5 : Bool) =>
  bif (!r5) then
    some (([] : List Term), false)
  else
    (m_impl_Term_opposite p0.Goal).bind fun (r10 : Term) =>
    (m_impl_ValidTerm r10).bind fun (r11 : Bool) =>
    bif (!r11) then
      some (([] : List Term), false)
    else
      (m_impl_ownTerms p0.Facts).bind fun (r16 : List Term) =>
      (m_impl_Term_opposite p0.Goal).bind fun (r19 : Term) =>
      (m_impl_Term_own r19).bind fun (r20 : Term) =>
      (capI (r16.length + [r20].length) 32).bind fun (q22 : Unit) =>
      some ((r16 ++ [r20]), true)
noncomputable def m_impl_closes (p0 : List Term) (p1 : List Int) : Option Bool :=
  bif (!decide ((p1.length : Int) = (p0.length : Int))) then
    some false
  else
    (m_impl_combined p0 p1).bind fun (r13 : Term) =>
    some ((decide ((r13.Coeffs.length : Int) = (0 : Int))) && (decide (r13.Const < (0 : Int))))
noncomputable def m_laws_eqTermS_L0 (p0 : List Term) (p1 : List Term) (s0 : Int) : Option (Ctl Int (Unit ⊕ Bool)) :=
  bif (decide (s0 < (p0.length : Int))) then
    (getI p0 s0).bind fun (x19 : Term) =>
    (getI p1 s0).bind fun (x23 : Term) =>
    (m_laws_eqTerm x19 x23).bind fun (r25 : Bool) =>
    bif (!r25) then
      some (.out (.inr false))
    else
      some (.next (w64 (s0 + (1 : Int))))
  else
    some (.out (.inl ()))
noncomputable def m_laws_eqTermS_A0 (u0 : Unit ⊕ Bool) : Option Bool :=
  match u0 with
  | .inl u0 =>
    some true
  | .inr u0 =>
    some u0
noncomputable def m_laws_eqTermS (p0 : List Term) (p1 : List Term) : Option Bool :=
  bif (!decide ((p0.length : Int) = (p1.length : Int))) then
    some false
  else
    (iter (m_laws_eqTermS_L0 p0 p1) (0 : Int)).bind fun (u0 : Unit ⊕ Bool) =>
    m_laws_eqTermS_A0 u0
noncomputable def m_laws_eqSequent (p0 : Sequent) (p1 : Sequent) : Option Bool :=
  (m_laws_eqTermS p0.Facts p1.Facts).bind fun (r9 : Bool) =>
  bif (!r9) then
    some false
  else
    (m_laws_eqTerm p0.Goal p1.Goal).bind fun (r15 : Bool) =>
    bif (!r15) then
      some false
    else
      some true
noncomputable def m_laws_markTermS_L0 (s0 : (List Term) × Int × Int) : Option (Ctl ((List Term) × Int × Int) ((Int × (List Term)))) :=
  bif (decide (s0.2.2 < (s0.1.length : Int))) then
    (getI s0.1 s0.2.2).bind fun (x15 : Term) =>
    (getI (s0.1.set ((s0.2.2).toNat) (Term.mk s0.2.1 x15.Coeffs)) s0.2.2).bind fun (x21 : Term) =>
    (m_laws_markInt64S x21.Coeffs (w64 (s0.2.1 + (1 : Int)))).bind fun (r25 : Int × (List Int)) =>
    some (.next (((s0.1.set ((s0.2.2).toNat) (Term.mk s0.2.1 x15.Coeffs)).set ((s0.2.2).toNat) (Term.mk x21.Const r25.2)), r25.1, (w64 (s0.2.2 + (1 : Int)))))
  else
    some (.out (s0.2.1, s0.1))
noncomputable def m_laws_markTermS_A0 (u0 : (Int × (List Term))) : Option (Int × (List Term)) :=
  some (u0.1, u0.2)
noncomputable def m_laws_markTermS (p0 : List Term) (p1 : Int) : Option (Int × (List Term)) :=
  (iter (m_laws_markTermS_L0) (p0, p1, (0 : Int))).bind fun (u0 : (Int × (List Term))) =>
  m_laws_markTermS_A0 u0
noncomputable def m_laws_markTerm (p0 : Term) (p1 : Int) : Option (Int × (List Int)) :=
  (m_laws_markInt64S p0.Coeffs p1).bind fun (r8 : Int × (List Int)) =>
  some (r8.1, r8.2)
noncomputable def m_laws_markSequent (p0 : Sequent) (p1 : Int) : Option (Int × (List Term) × (List Int)) :=
  (m_laws_markTermS p0.Facts p1).bind fun (r8 : Int × (List Term)) =>
  (m_laws_markTerm p0.Goal r8.1).bind fun (r12 : Int × (List Int)) =>
  some (r12.1, r8.2, r12.2)
noncomputable def m_spec_l00Max (p0 : Int) (p1 : Int) : Option Int :=
  bif (decide (p1 < p0)) then
    some p0
  else
    some p1
noncomputable def m_spec_l02Divisor_L1 (s1 : Int × Int) : Option (Ctl (Int × Int) Int) :=
  bif (decide ((0 : Int) < s1.2)) then
    (remI s1.1 s1.2).bind fun (q36 : Int) =>
    some (.next (s1.2, q36))
  else
    some (.out s1.1)
noncomputable def m_spec_l02Divisor_A1 (s0 : Int × Int) (u1 : Int) : Option (Ctl (Int × Int) Int) :=
  some (.next (u1, (w64 (s0.2 + (1 : Int)))))
noncomputable def m_spec_l02Divisor_L0 (p0 : Term) (s0 : Int × Int) : Option (Ctl (Int × Int) Int) :=
  bif (decide (s0.2 < (p0.Coeffs.length : Int))) then
    (getI p0.Coeffs s0.2).bind fun (x21 : Int) =>
    (m_spec_l00Max x21 (w64 (0 - x21))).bind fun (r31 : Int) =>
    (iter (m_spec_l02Divisor_L1) (s0.1, r31)).bind fun (u1 : Int) =>
    m_spec_l02Divisor_A1 s0 u1
  else
    some (.out s0.1)
noncomputable def m_spec_l02Divisor_A0 (u0 : Int) : Option Int :=
  some u0
noncomputable def m_spec_l02Divisor (p0 : Term) : Option Int :=
  (iter (m_spec_l02Divisor_L0 p0) ((0 : Int), (0 : Int))).bind fun (u0 : Int) =>
  m_spec_l02Divisor_A0 u0
noncomputable def m_spec_l02Tight_L0 (p0 : Term) (r9 : Int) (s0 : (List Int) × Int) : Option (Ctl ((List Int) × Int) ((List Int))) :=
  bif (decide (s0.2 < (p0.Coeffs.length : Int))) then
    (getI p0.Coeffs s0.2).bind fun (x29 : Int) =>
    (quoI x29 r9).bind fun (q32 : Int) =>
    (capI (s0.1.length + [q32].length) 8).bind fun (q34 : Unit) =>
    some (.next ((s0.1 ++ [q32]), (w64 (s0.2 + (1 : Int)))))
  else
    some (.out s0.1)
noncomputable def m_spec_l02Tight_J0 (u0 : List Int) (j0 : Int) : Option (Term × Bool) :=
  (m_spec_l02Make j0 u0).bind fun (r52 : Term × Bool) =>
  some (r52.1, r52.2)
noncomputable def m_spec_l02Tight_A0 (p0 : Term) (r9 : Int) (u0 : (List Int)) : Option (Term × Bool) :=
  (quoI p0.Const r9).bind fun (q40 : Int) =>
  (remI p0.Const r9).bind fun (q46 : Int) =>
  bif (decide (q46 < (0 : Int))) then
    m_spec_l02Tight_J0 u0 (w64 (q40 - (1 : Int)))
  else
    m_spec_l02Tight_J0 u0 q40
noncomputable def m_spec_l02Tight (p0 : Term) : Option (Term × Bool) :=
  (m_spec_l02Divisor p0).bind fun (r9 : Int) =>
  bif (decide (r9 < (2 : Int))) then
    some ((Term.mk (0 : Int) ([] : List Int)), false)
  else
    (iter (m_spec_l02Tight_L0 p0 r9) (([] : List Int), (0 : Int))).bind fun (u0 : (List Int)) =>
    m_spec_l02Tight_A0 p0 r9 u0
noncomputable def m_slices_Clone_impl_Term_impl_Term (p0 : List Term) : Option (List Term) :=
  (capI (([] : List Term).length + p0.length) 32).bind fun (q7 : Unit) =>
  some (([] : List Term) ++ p0)
noncomputable def m_impl_with (p0 : List Term) (p1 : Term) : Option (List Term) :=
  (m_slices_Clone_impl_Term_impl_Term p0).bind fun (r6 : List Term) =>
  (capI (r6.length + [p1].length) 32).bind fun (q9 : Unit) =>
  some (r6 ++ [p1])
noncomputable def m_impl_absolute (p0 : Int) : Option Int :=
  some (max p0 (w64 (0 - p0)))
noncomputable def m_impl_gcd_L1 (s1 : Int × Int) : Option (Ctl (Int × Int) Int) :=
  bif (!decide (s1.2 = (0 : Int))) then
    (remI s1.1 s1.2).bind fun (q22 : Int) =>
    some (.next (s1.2, q22))
  else
    some (.out s1.1)
noncomputable def m_impl_gcd_A1 (u1 : Int) : Option (Ctl Int Int) :=
  some (.next u1)
noncomputable def m_impl_gcd_L0 (n0 : Nat) (x0 : Int) (s0 : Int) : Option (Ctl Int Int) :=
  (m_impl_absolute x0).bind fun (r16 : Int) =>
  (iter (m_impl_gcd_L1) (s0, r16)).bind fun (u1 : Int) =>
  m_impl_gcd_A1 u1
noncomputable def m_impl_gcd_A0 (u0 : Int) : Option Int :=
  some u0
noncomputable def m_impl_gcd (p0 : List Int) : Option Int :=
  (forL (m_impl_gcd_L0) (fun s0 => s0) 0 p0 (0 : Int)).bind fun (u0 : Int) =>
  m_impl_gcd_A0 u0
noncomputable def m_impl_divFloor (p0 : Int) (p1 : Int) : Option Int :=
  (quoI p0 p1).bind fun (q8 : Int) =>
  (remI p0 p1).bind fun (q11 : Int) =>
  bif (decide (q11 < (0 : Int))) then
    some (w64 (q8 - (1 : Int)))
  else
    some q8
noncomputable def m_impl_Term_tightened_L0 (r9 : Int) (r14 : Term) (s0 : (List Int) × Int) : Option (Ctl ((List Int) × Int) ((List Int))) :=
  bif (decide (s0.2 < (r14.Coeffs.length : Int))) then
    (getI s0.1 s0.2).bind fun (x29 : Int) =>
    (quoI x29 r9).bind fun (q32 : Int) =>
    some (.next ((s0.1.set ((s0.2).toNat) q32), (w64 (s0.2 + (1 : Int)))))
  else
    some (.out s0.1)
noncomputable def m_impl_Term_tightened_A0 (r18 : Int) (u0 : (List Int)) : Option (Term × Bool) :=
  some ((Term.mk r18 u0), true)
noncomputable def m_impl_Term_tightened (p0 : Term) : Option (Term × Bool) :=
  (m_impl_gcd p0.Coeffs).bind fun (r9 : Int) =>
  bif (decide (r9 ≤ (1 : Int))) then
    some ((Term.mk (0 : Int) ([] : List Int)), false)
  else
    (m_impl_Term_own p0).bind fun (r14 : Term) =>
    (m_impl_divFloor p0.Const r9).bind fun (r18 : Int) =>
    (iter (m_impl_Term_tightened_L0 r9 r14) (r14.Coeffs, (0 : Int))).bind fun (u0 : (List Int)) =>
    m_impl_Term_tightened_A0 r18 u0
noncomputable def m_impl_checking_examine_F_J2 (p0 : checking) (p1 : Int) (p2 : List Term) (r22 : Int × Int × Bool) (j2 : Unit) : Option (Int × checking) :=
  bif (decide (p0.flaw < (0 : Int))) then
    some (r22.1, (checking.mk p0.proof (mput p0.contexts p1 p2) p1))
  else
    some (r22.1, (checking.mk p0.proof (mput p0.contexts p1 p2) p0.flaw))
noncomputable def m_impl_checking_examine_F_J0 (rec_impl_checking_examine : checking → Int → (List Term) → Option (Int × checking)) (p0 : checking) (p1 : Int) (p2 : List Term) (r22 : Int × Int × Bool) (x31 : Node) (r55 : Term) (j0 : Bool) : Option (Int × checking) :=
  bif j0 then
    (m_impl_with p2 x31.Term).bind fun (r67 : List Term) =>
    (rec_impl_checking_examine (checking.mk p0.proof (mput p0.contexts p1 p2) p0.flaw) (w64 (p1 + (1 : Int))) r67).bind fun (r68 : Int × checking) =>
    (m_impl_with p2 r55).bind fun (r73 : List Term) =>
    (rec_impl_checking_examine r68.2 r68.1 r73).bind fun (r74 : Int × checking) =>
    some (r74.1, r74.2)
  else
    m_impl_checking_examine_F_J2 p0 p1 p2 r22 ()
noncomputable def m_impl_checking_examine_F_J1 (rec_impl_checking_examine : checking → Int → (List Term) → Option (Int × checking)) (p0 : checking) (p1 : Int) (p2 : List Term) (r22 : Int × Int × Bool) (x31 : Node) (j1 : Bool) : Option (Int × checking) :=
  bif j1 then
    (getI p2 x31.Fact).bind fun (x89 : Term) =>
    (m_impl_Term_tightened x89).bind fun (r91 : Term × Bool) =>
    bif r91.2 then
      (m_impl_with p2 r91.1).bind fun (r100 : List Term) =>
      (rec_impl_checking_examine (checking.mk p0.proof (mput p0.contexts p1 p2) p0.flaw) (w64 (p1 + (1 : Int))) r100).bind fun (r101 : Int × checking) =>
      some (r101.1, r101.2)
    else
      m_impl_checking_examine_F_J2 p0 p1 p2 r22 ()
  else
    m_impl_checking_examine_F_J2 p0 p1 p2 r22 ()
noncomputable def m_impl_checking_examine_F (rec_impl_checking_examine : checking → Int → (List Term) → Option (Int × checking)) (p0 : checking) (p1 : Int) (p2 : List Term) : Option (Int × checking) :=
  (m_impl_behindProof 1000 p0.proof p1).bind fun (r22 : Int × Int × Bool) =>
  (getI p0.proof p1).bind fun (x31 : Node) =>
  bif (decide (x31.Kind = (1 : Int))) then
    (m_impl_closes p2 x31.Multipliers).bind fun (r49 : Bool) =>
    bif r49 then
      some (r22.1, (checking.mk p0.proof (mput p0.contexts p1 p2) p0.flaw))
    else
      m_impl_checking_examine_F_J2 p0 p1 p2 r22 ()
  else
    bif (decide (x31.Kind = (2 : Int))) then
      (m_impl_Term_opposite x31.Term).bind fun (r55 : Term) =>
      bif (decide ((p2.length : Int) < (20 : Int))) then
        (m_impl_ValidTerm r55).bind fun (r59 : Bool) =>
        m_impl_checking_examine_F_J0 rec_impl_checking_examine p0 p1 p2 r22 x31 r55 r59
      else
        m_impl_checking_examine_F_J0 rec_impl_checking_examine p0 p1 p2 r22 x31 r55 false
    else
      bif (decide (x31.Kind = (3 : Int))) then
        bif (decide ((p2.length : Int) < (20 : Int))) then
          (m_impl_isIndex x31.Fact (p2.length : Int)).bind fun (r83 : Bool) =>
          m_impl_checking_examine_F_J1 rec_impl_checking_examine p0 p1 p2 r22 x31 r83
        else
          m_impl_checking_examine_F_J1 rec_impl_checking_examine p0 p1 p2 r22 x31 false
      else
        m_impl_checking_examine_F_J2 p0 p1 p2 r22 ()
noncomputable def m_impl_checking_examine : Nat → checking → Int → (List Term) → Option (Int × checking)
  | 0, _, _, _ => none
  | n + 1, p0, p1, p2 => m_impl_checking_examine_F (m_impl_checking_examine n) p0 p1 p2
noncomputable def m_impl_examined (p0 : Sequent) (p1 : List Node) : Option (checking × Bool) :=
  (m_impl_ContextOf p0).bind fun (r11 : (List Term) × Bool) =>
  bif (!r11.2) then
    some (default, false)
  else
    (m_impl_IsProof p1).bind fun (r18 : Bool) =>
    bif (!r18) then
      some (default, false)
    else
      (m_impl_checking_examine 1000 (checking.mk p1 ([] : List (Int × (List Term))) (-1 : Int)) (0 : Int) r11.1).bind fun (r27 : Int × checking) =>
      some (r27.2, true)
noncomputable def m_impl_FirstFlaw (p0 : Sequent) (p1 : List Node) : Option (Int × Bool) :=
  (m_impl_examined p0 p1).bind fun (r11 : checking × Bool) =>
  bif r11.2 then
    bif (decide (r11.1.flaw < (0 : Int))) then
      some ((0 : Int), false)
    else
      some (r11.1.flaw, true)
  else
    some ((0 : Int), false)
noncomputable def m_impl_CheckProof (p0 : Sequent) (p1 : List Node) : Option Bool :=
  (m_impl_examined p0 p1).bind fun (r10 : checking × Bool) =>
  bif r10.2 then
    some (decide (r10.1.flaw < (0 : Int)))
  else
    some false
noncomputable def m_spec_l05Parent_L0 (p0 : List Node) (p1 : Int) (s0 : Int) : Option (Ctl Int (Unit ⊕ (Int × Bool))) :=
  bif (decide ((0 : Int) ≤ s0)) then
    (getI p0 s0).bind fun (x15 : Node) =>
    bif (decide (x15.Kind = (1 : Int))) then
      some (.next (w64 (s0 - (1 : Int))))
    else
      (m_spec_l05End p0 s0).bind fun (r22 : Int) =>
      bif (decide (r22 ≤ p1)) then
        some (.next (w64 (s0 - (1 : Int))))
      else
        some (.out (.inr (s0, (decide ((w64 (s0 + (1 : Int))) = p1)))))
  else
    some (.out (.inl ()))
noncomputable def m_spec_l05Parent_A0 (u0 : Unit ⊕ (Int × Bool)) : Option (Int × Bool) :=
  match u0 with
  | .inl u0 =>
    some ((-1 : Int), false)
  | .inr u0 =>
    some (u0.1, u0.2)
noncomputable def m_spec_l05Parent (p0 : List Node) (p1 : Int) : Option (Int × Bool) :=
  (iter (m_spec_l05Parent_L0 p0 p1) (w64 (p1 - (1 : Int)))).bind fun (u0 : Unit ⊕ (Int × Bool)) =>
  m_spec_l05Parent_A0 u0
noncomputable def m_spec_l05Below (p0 : Node) (p1 : List Term) (p2 : Bool) : Option (List Term) :=
  (capI (([] : List Term).length + p1.length) 32).bind fun (q14 : Unit) =>
  bif (decide (p0.Kind = (3 : Int))) then
    (getI p1 p0.Fact).bind fun (x26 : Term) =>
    (m_spec_l02Tight x26).bind fun (r27 : Term × Bool) =>
    (capI ((([] : List Term) ++ p1).length + [r27.1].length) 32).bind fun (q33 : Unit) =>
    some ((([] : List Term) ++ p1) ++ [r27.1])
  else
    bif p2 then
      (capI ((([] : List Term) ++ p1).length + [p0.Term].length) 32).bind fun (q41 : Unit) =>
      some ((([] : List Term) ++ p1) ++ [p0.Term])
    else
      (m_spec_l02Opposite p0.Term).bind fun (r46 : Term × Bool) =>
      (capI ((([] : List Term) ++ p1).length + [r46.1].length) 32).bind fun (q52 : Unit) =>
      some ((([] : List Term) ++ p1) ++ [r46.1])
noncomputable def m_spec_l05Right (p0 : Node) (p1 : List Term) : Option Bool :=
  bif (decide (p0.Kind = (1 : Int))) then
    (m_spec_l05Closes p1 p0.Multipliers).bind fun (r19 : Bool) =>
    some r19
  else
    bif (decide ((20 : Int) ≤ (p1.length : Int))) then
      some false
    else
      bif (decide (p0.Kind = (2 : Int))) then
        (m_spec_l02Opposite p0.Term).bind fun (r32 : Term × Bool) =>
        some r32.2
      else
        bif (decide ((p1.length : Int) ≤ p0.Fact)) then
          some false
        else
          (getI p1 p0.Fact).bind fun (x49 : Term) =>
          (m_spec_l02Tight x49).bind fun (r50 : Term × Bool) =>
          some r50.2
noncomputable def m_spec_l05Contexts_J1 (s0 : (List (List Term)) × (List Bool) × (List Bool) × Int × Int) (j0 : (List Term) × Bool) (j1 : List Bool) : Option (Ctl ((List (List Term)) × (List Bool) × (List Bool) × Int × Int) (((List (List Term)) × (List Bool) × Int))) :=
  bif j0.2 then
    (getI j1 s0.2.2.2.2).bind fun (x82 : Bool) =>
    bif ((!x82) && (decide (s0.2.2.2.1 < (0 : Int)))) then
      some (.next ((s0.1 ++ [j0.1]), (s0.2.1 ++ [j0.2]), j1, s0.2.2.2.2, (w64 (s0.2.2.2.2 + (1 : Int)))))
    else
      some (.next ((s0.1 ++ [j0.1]), (s0.2.1 ++ [j0.2]), j1, s0.2.2.2.1, (w64 (s0.2.2.2.2 + (1 : Int)))))
  else
    some (.next ((s0.1 ++ [j0.1]), (s0.2.1 ++ [j0.2]), j1, s0.2.2.2.1, (w64 (s0.2.2.2.2 + (1 : Int)))))
noncomputable def m_spec_l05Contexts_J0 (p1 : List Node) (s0 : (List (List Term)) × (List Bool) × (List Bool) × Int × Int) (j0 : (List Term) × Bool) : Option (Ctl ((List (List Term)) × (List Bool) × (List Bool) × Int × Int) (((List (List Term)) × (List Bool) × Int))) :=
  (capI (s0.1.length + [j0.1].length) 24).bind fun (q62 : Unit) =>
  (capI (s0.2.1.length + [j0.2].length) 1).bind fun (q66 : Unit) =>
  bif j0.2 then
    (getI p1 s0.2.2.2.2).bind fun (x72 : Node) =>
    (m_spec_l05Right x72 j0.1).bind fun (r74 : Bool) =>
    (capI (s0.2.2.1.length + [r74].length) 1).bind fun (q77 : Unit) =>
    m_spec_l05Contexts_J1 s0 j0 (s0.2.2.1 ++ [r74])
  else
    (capI (s0.2.2.1.length + [false].length) 1).bind fun (q77 : Unit) =>
    m_spec_l05Contexts_J1 s0 j0 (s0.2.2.1 ++ [false])
noncomputable def m_spec_l05Contexts_L0 (p1 : List Node) (r21 : (List Term) × Bool) (s0 : (List (List Term)) × (List Bool) × (List Bool) × Int × Int) : Option (Ctl ((List (List Term)) × (List Bool) × (List Bool) × Int × Int) (((List (List Term)) × (List Bool) × Int))) :=
  bif (decide (s0.2.2.2.2 < (p1.length : Int))) then
    bif (decide ((0 : Int) < s0.2.2.2.2)) then
      (m_spec_l05Parent p1 s0.2.2.2.2).bind fun (r41 : Int × Bool) =>
      (getI s0.2.2.1 r41.1).bind fun (x46 : Bool) =>
      bif x46 then
        (getI p1 r41.1).bind fun (x52 : Node) =>
        (getI s0.1 r41.1).bind fun (x55 : List Term) =>
        (m_spec_l05Below x52 x55 r41.2).bind fun (r58 : List Term) =>
        m_spec_l05Contexts_J0 p1 s0 (r58, x46)
      else
        m_spec_l05Contexts_J0 p1 s0 (([] : List Term), x46)
    else
      m_spec_l05Contexts_J0 p1 s0 (r21.1, true)
  else
    some (.out (s0.1, s0.2.1, s0.2.2.2.1))
noncomputable def m_spec_l05Contexts_A0 (u0 : ((List (List Term)) × (List Bool) × Int)) : Option ((List (List Term)) × (List Bool) × Int × Bool) :=
  some (u0.1, u0.2.1, u0.2.2, true)
noncomputable def m_spec_l05Contexts (p0 : Sequent) (p1 : List Node) : Option ((List (List Term)) × (List Bool) × Int × Bool) :=
  (m_spec_l02Context p0).bind fun (r21 : (List Term) × Bool) =>
  bif (!r21.2) then
    some (([] : List (List Term)), ([] : List Bool), (0 : Int), false)
  else
    (iter (m_spec_l05Contexts_L0 p1 r21) (([] : List (List Term)), ([] : List Bool), ([] : List Bool), (-1 : Int), (0 : Int))).bind fun (u0 : ((List (List Term)) × (List Bool) × Int)) =>
    m_spec_l05Contexts_A0 u0
noncomputable def m_spec_l05Check (p0 : Sequent) (p1 : List Node) : Option Bool :=
  (m_spec_l02Sequent p0).bind fun (r10 : Bool) =>
  bif (!r10) then
    some false
  else
    (m_spec_l05Is p1).bind fun (r14 : Bool) =>
    bif (!r14) then
      some false
    else
      (m_spec_l05Contexts p0 p1).bind fun (r20 : (List (List Term)) × (List Bool) × Int × Bool) =>
      some (r20.2.2.2 && (decide (r20.2.2.1 < (0 : Int))))
noncomputable def m_spec_CheckProof (p0 : Sequent) (p1 : List Node) : Option Bool :=
  (m_spec_l05Check p0 p1).bind fun (r6 : Bool) =>
  some r6
noncomputable def m_spec_FirstFlaw (p0 : Sequent) (p1 : List Node) : Option (Int × Bool) :=
  (m_spec_l02Sequent p0).bind fun (r10 : Bool) =>
  bif (!r10) then
    some ((0 : Int), false)
  else
    (m_spec_l05Is p1).bind fun (r14 : Bool) =>
    bif (!r14) then
      some ((0 : Int), false)
    else
      (m_spec_l05Contexts p0 p1).bind fun (r19 : (List (List Term)) × (List Bool) × Int × Bool) =>
      bif ((!r19.2.2.2) || (decide (r19.2.2.1 < (0 : Int)))) then
        some ((0 : Int), false)
      else
        some (r19.2.2.1, true)
noncomputable def m_laws_FnExactFirstFlaw (p0 : Sequent) (p1 : List Node) : Option Bool :=
  (m_laws_szSequent p0 (1048576 : Int)).bind fun (r14 : Int) =>
  bif (decide (r14 < (0 : Int))) then
    some true
  else
    (m_laws_szNodeS p1 r14).bind fun (r19 : Int) =>
    bif (decide (r19 < (0 : Int))) then
      some true
    else
      (m_laws_toSequent p0).bind fun (r24 : Sequent) =>
      (m_laws_toNodeS p1).bind fun (r26 : List Node) =>
      (m_spec_FirstFlaw r24 r26).bind fun (r27 : Int × Bool) =>
      (m_laws_toSequent p0).bind fun (r31 : Sequent) =>
      (m_laws_toNodeS p1).bind fun (r33 : List Node) =>
      (m_impl_FirstFlaw r31 r33).bind fun (r37 : Int × Bool) =>
      bif ((!decide (r37.1 = r27.1)) || (!(r37.2 == r27.2))) then
        some false
      else
        (m_laws_toSequent p0).bind fun (r50 : Sequent) =>
        (m_laws_eqSequent r31 r50).bind fun (r51 : Bool) =>
        bif (!r51) then
          some false
        else
          (m_laws_toNodeS p1).bind fun (r55 : List Node) =>
          (m_laws_eqNodeS r33 r55).bind fun (r56 : Bool) =>
          bif (!r56) then
            some false
          else
            some true
end Go.Mod

namespace Go.Mod
open Go.AM
set_option linter.unusedVariables false
set_option linter.unusedSimpArgs false
theorem pl_mem_sum {α : Type} {c : α → Nat} {xs : List α} {x : α} (h : x ∈ xs) : c x ≤ (xs.map c).sum := by
  induction xs with
  | nil => cases h
  | cons y r ih =>
    simp only [List.map_cons, List.sum_cons]
    rcases List.mem_cons.1 h with rfl | h
    · omega
    · have := ih h; omega
theorem pl_sum_len {α : Type} {q : α → Nat} {xs : List α} (h : ∀ x, q x ≤ 8 + 8 * 0) : (xs.map q).sum ≤ 8 * xs.length := by
  induction xs with
  | nil => simp
  | cons y r ih => have := h y; simp only [List.map_cons, List.sum_cons, List.length_cons]; omega
theorem pl_sum_le {α : Type} {q c : α → Nat} {xs : List α} (h : ∀ x, q x ≤ 8 + 8 * c x) : (xs.map q).sum ≤ 8 * (xs.length + (xs.map c).sum) := by
  induction xs with
  | nil => simp
  | cons y r ih => have := h y; simp only [List.map_cons, List.sum_cons, List.length_cons]; omega
theorem pl_szB {m : Option Int} {c d b : Nat} {F : Int → Option Int} (h : m = some (szOut c b)) (g : c ≤ b → F ((b - c : Nat) : Int) = some (szOut d (b - c))) :
    (m.bind fun r => bif decide (r < 0) then some (-1) else F r) = some (szOut (c + d) b) := by
  rw [h, Option.bind_some]
  by_cases hc : c ≤ b
  · rw [szOut_ok hc, decide_eq_false (by omega), cond_false, g hc]
    unfold szOut
    by_cases h2 : d ≤ b - c
    · rw [if_pos h2, if_pos (by omega)]; congr 2; omega
    · rw [if_neg h2, if_neg (by omega)]
  · rw [szOut_no hc, szOut_no (by omega)]; rfl
theorem pl_szL {m : Option Int} {c b : Nat} (h : m = some (szOut c b)) : (m.bind fun r => bif decide (r < 0) then some (-1) else some r) = some (szOut c b) := by
  have := pl_szB (d := 0) (F := fun r => some r) h (fun hc => by rw [szOut_ok (Nat.zero_le _)]; rfl)
  simpa using this
theorem pl_eqB {p q : Prop} [Decidable p] [Decidable q] {F : Option Bool} (h : F = some (decide q)) : (bif !decide p then some false else F) = some (decide (p ∧ q)) := by
  by_cases hp : p <;> by_cases hq : q <;> simp [h, hp, hq]
theorem pl_eqL {p : Prop} [Decidable p] : (bif !decide p then some false else some true) = some (decide p) := by
  by_cases hp : p <;> simp [hp]
theorem pl_eqM {m : Option Bool} {p q : Prop} [Decidable p] [Decidable q] {F : Option Bool} (hm : m = some (decide p)) (h : F = some (decide q)) : (m.bind fun r => bif !r then some false else F) = some (decide (p ∧ q)) := by
  rw [hm, Option.bind_some]; exact pl_eqB h
theorem pl_eqML {m : Option Bool} {p : Prop} [Decidable p] (hm : m = some (decide p)) : (m.bind fun r => bif !r then some false else some true) = some (decide p) := by
  rw [hm, Option.bind_some]; exact pl_eqL
theorem pl_neg1 : decide ((-1 : Int) < 0) = true := rfl
theorem pl_condB {α β : Type} {b : Bool} {x y : Option α} {f : α → Option β} : (cond b x y).bind f = cond b (x.bind f) (y.bind f) := by cases b <;> rfl
theorem pl_cond2 {α : Type} {b : Bool} {x y z : α} : cond b x (cond b y z) = cond b x z := by cases b <;> rfl
section
variable {α : Type} {ys : List α} {n : Nat} {a b c d e f g : α} (h : n < ys.length)
include h
theorem pl_get_set : getI (ys.set n a) (n : Int) = some a := getI_some (by rw [List.getElem?_set_self h])
theorem pl_get_set2 : getI ((ys.set n a).set n b) (n : Int) = some b := getI_some (by rw [List.set_set, List.getElem?_set_self h])
theorem pl_get_set3 : getI (((ys.set n a).set n b).set n c) (n : Int) = some c := getI_some (by rw [List.set_set, List.set_set, List.getElem?_set_self h])
theorem pl_get_set4 : getI ((((ys.set n a).set n b).set n c).set n d) (n : Int) = some d := getI_some (by simp only [List.set_set]; rw [List.getElem?_set_self h])
theorem pl_get_set5 : getI (((((ys.set n a).set n b).set n c).set n d).set n e) (n : Int) = some e := getI_some (by simp only [List.set_set]; rw [List.getElem?_set_self h])
theorem pl_get_set6 : getI ((((((ys.set n a).set n b).set n c).set n d).set n e).set n f) (n : Int) = some f := getI_some (by simp only [List.set_set]; rw [List.getElem?_set_self h])
theorem pl_get_set7 : getI (((((((ys.set n a).set n b).set n c).set n d).set n e).set n f).set n g) (n : Int) = some g := getI_some (by simp only [List.set_set]; rw [List.getElem?_set_self h])
end
theorem pl_mark0 {α : Type} {xs : List α} {m : α → Nat} {mk : α → Int → Option (Int × α)} {step : List α × Int × Int → Option (Ctl (List α × Int × Int) (Int × List α))}
    (hs : ∀ (n : Nat) ys x (k : Nat), k ≤ 4611686018427387904 → ys[n]? = some x → step (ys, (k : Int), (n : Int)) = (mk x k).bind fun r => some (.next (ys.set n r.2, r.1, w64 ((n : Int) + 1))))
    (he : ∀ ys k, step (ys, k, (ys.length : Int)) = some (.out (k, ys))) (hl : xs.length ≤ 9223372036854775807)
    (hm : ∀ x ∈ xs, ∀ k : Nat, k + m x ≤ 4611686018427387904 → ∃ x', mk x k = some (((k + m x : Nat) : Int), x')) {k : Nat} (hk : k + (xs.map m).sum ≤ 4611686018427387904) :
    ∃ xs', iter step (xs, (k : Int), 0) = some (((k + (xs.map m).sum : Nat) : Int), xs') := by
  have key : ∀ (q n : Nat) (ys : List α) (k : Nat), n + q = xs.length → ys.length = xs.length → ys.drop n = xs.drop n → k + ((xs.drop n).map m).sum ≤ 4611686018427387904 →
      ∃ xs', iter step (ys, (k : Int), (n : Int)) = some (((k + ((xs.drop n).map m).sum : Nat) : Int), xs') := by
    intro q
    induction q with
    | zero =>
      intro n ys k hn hy _ hk
      obtain rfl : n = xs.length := by omega
      have h1 := he ys k
      rw [hy] at h1
      exact ⟨ys, by rw [iter_out h1]; simp⟩
    | succ q ih =>
      intro n ys k hn hy hd hk
      have hlt : n < xs.length := by omega
      have hyn : ys[n]? = some xs[n] := by
        have := congrArg (fun l => l[0]?) hd
        simpa [List.getElem?_drop, hlt] using this
      rw [List.drop_eq_getElem_cons hlt] at hk ⊢
      simp only [List.map_cons, List.sum_cons] at hk ⊢
      obtain ⟨x', m1⟩ := hm _ (List.getElem_mem hlt) k (by omega)
      have h := hs n ys _ k (by omega) hyn
      rw [m1, Option.bind_some, w64_succ (by omega)] at h
      obtain ⟨xs', e1⟩ := ih (n + 1) (ys.set n x') (k + m xs[n]) (by omega) (by simpa using hy)
        (by
          have := congrArg (fun l => l.drop 1) hd
          simp only [List.drop_drop] at this
          rw [List.drop_set_of_lt (by omega)]; exact this) (by omega)
      exact ⟨xs', by rw [iter_next h, e1]; congr 2; omega⟩
  obtain ⟨xs', e1⟩ := key xs.length 0 xs k (by omega) rfl rfl (by simpa using hk)
  exact ⟨xs', by simpa using e1⟩
def pc_Int64S (xs : List Int) : Nat := xs.length
theorem pc_Int64S_len {xs : List Int} : xs.length ≤ pc_Int64S xs := by unfold pc_Int64S; omega
theorem pz_Int64S {xs : List Int} (k : kLa_i64 xs) : SzP m_laws_szInt64S pc_Int64S xs := fun _ hb => sz_flat k.1 hb
theorem pt_Int64S {xs : List Int} (hl : pc_Int64S xs ≤ 1048576) : m_laws_toInt64S xs = some xs := by
  have hlen : xs.length ≤ 1048576 := Nat.le_trans pc_Int64S_len hl
  unfold m_laws_toInt64S
  rw [makeI_some (by omega), Option.bind_some, iter_to (xs := xs) (z := (0 : Int)) (cp := some)
    (fun n x ys hx => by unfold m_laws_toInt64S_L0; rw [dec_lt (get_lt hx), cond_true, getI_some hx]; rfl)
    (fun ys => by unfold m_laws_toInt64S_L0; rw [dec_self]; rfl) hlen (fun x hx => rfl)]
  rfl
theorem pe_Int64S {xs ys : List Int} (hl : pc_Int64S xs ≤ 1048576) : m_laws_eqInt64S xs ys = some (decide (xs = ys)) := by
  have hlen : xs.length ≤ 1048576 := Nat.le_trans pc_Int64S_len hl
  unfold m_laws_eqInt64S
  by_cases h : xs.length = ys.length
  · rw [decide_eq_true (by omega), Bool.not_true, cond_false, iter_eq (xs := xs) (ys := ys) (eq := fun x y => some (decide (x = y)))
      (fun n x y hx hy => by unfold m_laws_eqInt64S_L0; rw [dec_lt (get_lt hx), cond_true, getI_some hx, getI_some hy]; rfl)
      (by unfold m_laws_eqInt64S_L0; rw [dec_self]; rfl) (by omega) h (fun x hx y => rfl)]
    by_cases e : xs = ys
    · rw [if_pos e, decide_eq_true e]; rfl
    · rw [if_neg e, decide_eq_false e]; rfl
  · rw [decide_eq_false (by omega), decide_eq_false (fun e => h (by rw [e]))]; rfl
def pqE_Int64S (x : Int) : Nat := 1
def pq_Int64S (xs : List Int) : Nat := (xs.map pqE_Int64S).sum
theorem pqE_Int64S_le (x : Int) : pqE_Int64S x ≤ 8 + 8 * 0 := by
  unfold pqE_Int64S
  omega
theorem pq_Int64S_le (xs : List Int) : pq_Int64S xs ≤ 8 * pc_Int64S xs := by
  unfold pq_Int64S pc_Int64S
  exact pl_sum_len (fun x => pqE_Int64S_le x)
noncomputable def pmk_Int64S (x : Int) (k : Int) : Option (Int × Int) := some ((w64 (k + 1)), k)
noncomputable def phe_Int64S (x : Int) (k : Int) : Option Int := bif !decide (x = k) then some (-1) else some (w64 (k + 1))
theorem pmE_Int64S (x : Int) : ∀ k : Nat, k + pqE_Int64S x ≤ 4611686018427387904 → ∃ x', pmk_Int64S x k = some (((k + pqE_Int64S x : Nat) : Int), x') ∧ phe_Int64S x' k = some ((k + pqE_Int64S x : Nat) : Int) := fun k hk => by
  unfold pqE_Int64S at hk ⊢
  have tot : ((k + 1 : Nat) : Int) = ((k + (1) : Nat) : Int) := by omega
  have w0 : w64 (((k : Nat) : Int) + 1) = ((k + 1 : Nat) : Int) := w64_succ (by omega)
  refine ⟨((k : Nat) : Int), ?_, ?_⟩
  · unfold pmk_Int64S; simp only [w0, Option.bind_some] <;> rw [← tot]
  · unfold phe_Int64S; simp only [w0, Option.bind_some, decide_true, Bool.not_true, cond_false] <;> rw [← tot]
theorem pm_Int64S {xs : List Int} (hl : pc_Int64S xs ≤ 1048576) {k : Nat} (hk : k + pq_Int64S xs ≤ 4611686018427387904) : ∃ xs', m_laws_markInt64S xs k = some (((k + pq_Int64S xs : Nat) : Int), xs') ∧ m_laws_heldInt64S xs' k = some ((k + pq_Int64S xs : Nat) : Int) := by
  obtain ⟨xs', h1, h2, h3⟩ := iter_mark (xs := xs) (m := pqE_Int64S) (mk := pmk_Int64S) (held := phe_Int64S) (step := m_laws_markInt64S_L0) (hstep := m_laws_heldInt64S_L0)
    (fun n ys x k hk hx => by
      have hn := get_lt hx
      have gen : ∀ k1 : Int, w64 ((k : Int) + 1) = k1 → m_laws_markInt64S_L0 (ys, (k : Int), (n : Int)) = (pmk_Int64S x k).bind fun r => some (.next (ys.set n r.2, r.1, w64 ((n : Int) + 1))) := by
        intro k1 h1
        unfold m_laws_markInt64S_L0 pmk_Int64S
        simp only [h1, dec_lt hn, cond_true, getI_some hx, Option.bind_some, Int.toNat_natCast, pl_get_set hn, pl_get_set2 hn, pl_get_set3 hn, pl_get_set4 hn, pl_get_set5 hn, pl_get_set6 hn, pl_get_set7 hn, List.set_set, Option.bind_assoc]
      exact gen _ rfl)
    (fun ys k => by unfold m_laws_markInt64S_L0; rw [dec_self]; rfl)
    (fun n ys x k hk hx => by
      unfold m_laws_heldInt64S_L0 phe_Int64S
      rw [dec_lt (get_lt hx), cond_true, getI_some hx]
      have w0 : w64 (((k : Nat) : Int) + 1) = ((k + 1 : Nat) : Int) := w64_succ (by omega)
      simp only [Option.bind_some, pl_condB, pl_cond2, Option.bind_assoc, pl_neg1, cond_true, cond_false, dec_neg, w0])
    (fun ys k => by unfold m_laws_heldInt64S_L0; rw [dec_self]; rfl)
    (by have := pc_Int64S_len (xs := xs); omega) (fun x hx => pmE_Int64S x) (k := k) hk
  exact ⟨xs', by unfold m_laws_markInt64S; rw [h1]; rfl, by unfold m_laws_heldInt64S; rw [h3]; rfl⟩
def pc_Term (x : Term) : Nat := pc_Int64S x.Coeffs
theorem pi_Term (x y : Term) : (x.Const = y.Const ∧ x.Coeffs = y.Coeffs) ↔ x = y := by cases x; cases y; simp
theorem pz_Term {x : Term} (k : k_Term x) : SzP m_laws_szTerm pc_Term x := fun b hb => by
  unfold m_laws_szTerm pc_Term
  rw [show pc_Int64S x.Coeffs = pc_Int64S x.Coeffs by omega]
  exact pl_szL (pz_Int64S k.2 (b) (by omega))
theorem pt_Term {x : Term} (hl : pc_Term x ≤ 1048576) : m_laws_toTerm x = some x := by
  unfold pc_Term at hl
  unfold m_laws_toTerm
  simp only [pt_Int64S (xs := x.Coeffs) (by omega), Option.bind_some]
theorem pe_Term {x y : Term} (hl : pc_Term x ≤ 1048576) : m_laws_eqTerm x y = some (decide (x = y)) := by
  unfold pc_Term at hl
  unfold m_laws_eqTerm
  rw [← decide_eq_decide.2 (pi_Term x y)]
  exact pl_eqB (pl_eqML (pe_Int64S (by omega)))
def pq_Term (x : Term) : Nat := pq_Int64S x.Coeffs
theorem pq_Term_le (x : Term) : pq_Term x ≤ 8 * pc_Term x := by
  unfold pq_Term pc_Term
  have h0 := pq_Int64S_le x.Coeffs
  omega
theorem pm_Term {x : Term} (hl : pc_Term x ≤ 1048576) {k : Nat} (hk : k + pq_Term x ≤ 4611686018427387904) : ∃ (a0 : (List Int)), m_laws_markTerm x k = some (((k + pq_Term x : Nat) : Int), a0) ∧ True := by
  unfold pq_Term at hk ⊢
  unfold pc_Term at hl
  have l0 : x.Coeffs.length ≤ pc_Int64S x.Coeffs := pc_Int64S_len
  obtain ⟨a0, m0, g0⟩ := pm_Int64S (xs := x.Coeffs) (by omega) (k := k) (by omega)
  have n0 : decide ((((k) + pq_Int64S x.Coeffs : Nat) : Int) < 0) = false := decide_eq_false (by omega)
  have tot : ((k + pq_Int64S x.Coeffs : Nat) : Int) = ((k + (pq_Int64S x.Coeffs) : Nat) : Int) := by omega
  refine ⟨a0, ?_, trivial⟩
  · unfold m_laws_markTerm; simp only [m0, Option.bind_some] <;> rw [← tot]
def pc_Node (x : Node) : Nat := pc_Term x.Term + pc_Int64S x.Multipliers
theorem pi_Node (x y : Node) : (x.Kind = y.Kind ∧ x.Fact = y.Fact ∧ x.Term = y.Term ∧ x.Multipliers = y.Multipliers) ↔ x = y := by cases x; cases y; simp
theorem pz_Node {x : Node} (k : k_Node x) : SzP m_laws_szNode pc_Node x := fun b hb => by
  unfold m_laws_szNode pc_Node
  rw [show pc_Term x.Term + pc_Int64S x.Multipliers = pc_Term x.Term + (pc_Int64S x.Multipliers) by omega]
  exact pl_szB (pz_Term k.2.2.1 (b) (by omega)) fun h0 => pl_szL (pz_Int64S k.2.2.2 (b - pc_Term x.Term) (by omega))
theorem pt_Node {x : Node} (hl : pc_Node x ≤ 1048576) : m_laws_toNode x = some x := by
  unfold pc_Node at hl
  unfold m_laws_toNode
  simp only [pt_Term (x := x.Term) (by omega), pt_Int64S (xs := x.Multipliers) (by omega), Option.bind_some]
theorem pe_Node {x y : Node} (hl : pc_Node x ≤ 1048576) : m_laws_eqNode x y = some (decide (x = y)) := by
  unfold pc_Node at hl
  unfold m_laws_eqNode
  rw [← decide_eq_decide.2 (pi_Node x y)]
  exact pl_eqB (pl_eqB (pl_eqM (pe_Term (by omega)) (pl_eqML (pe_Int64S (by omega)))))
def pc_NodeS (xs : List Node) : Nat := xs.length + (xs.map pc_Node).sum
theorem pc_NodeS_mem {xs : List Node} {x : Node} (h : x ∈ xs) : pc_Node x ≤ pc_NodeS xs := by have := pl_mem_sum (c := pc_Node) h; unfold pc_NodeS; omega
theorem pc_NodeS_len {xs : List Node} : xs.length ≤ pc_NodeS xs := by unfold pc_NodeS; omega
theorem pz_NodeS {xs : List Node} (k : kLa_Node xs) : SzP m_laws_szNodeS pc_NodeS xs := fun b hb => by
  unfold m_laws_szNodeS pc_NodeS
  rw [szW k.1 hb]
  by_cases h : xs.length ≤ b
  · rw [decide_eq_false (by omega), cond_false, show (b : Int) - (xs.length : Int) = ((b - xs.length : Nat) : Int) by omega,
      iter_sz (xs := xs) (c := pc_Node) (sz := m_laws_szNode)
        (fun n x b hx => by unfold m_laws_szNodeS_L0; rw [dec_lt (get_lt hx), cond_true, getI_some hx]; rfl)
        (fun b => by unfold m_laws_szNodeS_L0; rw [dec_self]; rfl) k.1 (fun x hx => pz_Node (k.2 x hx)) (by omega), Option.bind_some]
    by_cases h2 : (xs.map pc_Node).sum ≤ b - xs.length
    · rw [if_pos h2, szOut_ok (by omega)]
      unfold m_laws_szNodeS_A0; simp only; congr 2; omega
    · rw [if_neg h2, szOut_no (by omega)]; rfl
  · rw [decide_eq_true (by omega), szOut_no (by omega)]; rfl
theorem pt_NodeS {xs : List Node} (hl : pc_NodeS xs ≤ 1048576) : m_laws_toNodeS xs = some xs := by
  have hlen : xs.length ≤ 1048576 := Nat.le_trans pc_NodeS_len hl
  unfold m_laws_toNodeS
  rw [makeI_some (by omega), Option.bind_some, iter_to (xs := xs) (z := (Node.mk (0 : Int) (0 : Int) (Term.mk (0 : Int) ([] : List Int)) ([] : List Int))) (cp := m_laws_toNode)
    (fun n x ys hx => by unfold m_laws_toNodeS_L0; rw [dec_lt (get_lt hx), cond_true, getI_some hx]; rfl)
    (fun ys => by unfold m_laws_toNodeS_L0; rw [dec_self]; rfl) hlen (fun x hx => pt_Node (by have := pc_NodeS_mem hx; omega))]
  rfl
theorem pe_NodeS {xs ys : List Node} (hl : pc_NodeS xs ≤ 1048576) : m_laws_eqNodeS xs ys = some (decide (xs = ys)) := by
  have hlen : xs.length ≤ 1048576 := Nat.le_trans pc_NodeS_len hl
  unfold m_laws_eqNodeS
  by_cases h : xs.length = ys.length
  · rw [decide_eq_true (by omega), Bool.not_true, cond_false, iter_eq (xs := xs) (ys := ys) (eq := m_laws_eqNode)
      (fun n x y hx hy => by unfold m_laws_eqNodeS_L0; rw [dec_lt (get_lt hx), cond_true, getI_some hx, getI_some hy]; rfl)
      (by unfold m_laws_eqNodeS_L0; rw [dec_self]; rfl) (by omega) h (fun x hx y => pe_Node (by have := pc_NodeS_mem hx; omega))]
    by_cases e : xs = ys
    · rw [if_pos e, decide_eq_true e]; rfl
    · rw [if_neg e, decide_eq_false e]; rfl
  · rw [decide_eq_false (by omega), decide_eq_false (fun e => h (by rw [e]))]; rfl
def pqE_NodeS (x : Node) : Nat := 3 + pq_Int64S x.Term.Coeffs + pq_Int64S x.Multipliers
def pq_NodeS (xs : List Node) : Nat := (xs.map pqE_NodeS).sum
theorem pqE_NodeS_le (x : Node) : pqE_NodeS x ≤ 8 + 8 * pc_Node x := by
  unfold pqE_NodeS
  have h0 := pq_Int64S_le x.Term.Coeffs
  have h1 := pq_Int64S_le x.Multipliers
  unfold pc_Node
  unfold pc_Term
  omega
theorem pq_NodeS_le (xs : List Node) : pq_NodeS xs ≤ 8 * pc_NodeS xs := by
  unfold pq_NodeS pc_NodeS
  exact pl_sum_le (fun x => pqE_NodeS_le x)
noncomputable def pmk_NodeS (x : Node) (k : Int) : Option (Int × Node) := (m_laws_markInt64S x.Term.Coeffs (w64 ((w64 ((w64 (k + 1)) + 1)) + 1))).bind fun r0 => (m_laws_markInt64S x.Multipliers r0.1).bind fun r1 => some (r1.1, (Node.mk k (w64 (k + 1)) (Term.mk (w64 ((w64 (k + 1)) + 1)) r0.2) r1.2))
noncomputable def phe_NodeS (x : Node) (k : Int) : Option Int := bif !decide (x.Kind = k) then some (-1) else bif !decide (x.Fact = (w64 (k + 1))) then some (-1) else bif !decide (x.Term.Const = (w64 ((w64 (k + 1)) + 1))) then some (-1) else (m_laws_heldInt64S x.Term.Coeffs (w64 ((w64 ((w64 (k + 1)) + 1)) + 1))).bind fun r3 => bif decide (r3 < 0) then some (-1) else (m_laws_heldInt64S x.Multipliers r3).bind fun r4 => bif decide (r4 < 0) then some (-1) else some r4
theorem pmE_NodeS (x : Node) (hc : pc_Node x ≤ 1048576) : ∀ k : Nat, k + pqE_NodeS x ≤ 4611686018427387904 → ∃ x', pmk_NodeS x k = some (((k + pqE_NodeS x : Nat) : Int), x') ∧ phe_NodeS x' k = some ((k + pqE_NodeS x : Nat) : Int) := fun k hk => by
  unfold pqE_NodeS at hk ⊢
  unfold pc_Node at hc
  unfold pc_Term at hc
  obtain ⟨a0, m0, g0⟩ := pm_Int64S (xs := x.Term.Coeffs) (by omega) (k := k + 1 + 1 + 1) (by omega)
  have n0 : decide ((((k + 1 + 1 + 1) + pq_Int64S x.Term.Coeffs : Nat) : Int) < 0) = false := decide_eq_false (by omega)
  obtain ⟨a1, m1, g1⟩ := pm_Int64S (xs := x.Multipliers) (by omega) (k := k + 1 + 1 + 1 + pq_Int64S x.Term.Coeffs) (by omega)
  have n1 : decide ((((k + 1 + 1 + 1 + pq_Int64S x.Term.Coeffs) + pq_Int64S x.Multipliers : Nat) : Int) < 0) = false := decide_eq_false (by omega)
  have tot : ((k + 1 + 1 + 1 + pq_Int64S x.Term.Coeffs + pq_Int64S x.Multipliers : Nat) : Int) = ((k + (3 + pq_Int64S x.Term.Coeffs + pq_Int64S x.Multipliers) : Nat) : Int) := by omega
  obtain ⟨w0, w1, w2⟩ : w64 (((k : Nat) : Int) + 1) = ((k + 1 : Nat) : Int) ∧ w64 (((k + 1 : Nat) : Int) + 1) = ((k + 1 + 1 : Nat) : Int) ∧ w64 (((k + 1 + 1 : Nat) : Int) + 1) = ((k + 1 + 1 + 1 : Nat) : Int) := ⟨w64_succ (by omega), w64_succ (by omega), w64_succ (by omega)⟩
  refine ⟨(Node.mk ((k : Nat) : Int) ((k + 1 : Nat) : Int) (Term.mk ((k + 1 + 1 : Nat) : Int) a0) a1), ?_, ?_⟩
  · unfold pmk_NodeS; simp only [w0, w1, w2, m0, m1, Option.bind_some] <;> rw [← tot]
  · unfold phe_NodeS; simp only [w0, w1, w2, g0, g1, n0, n1, Option.bind_some, decide_true, Bool.not_true, cond_false] <;> rw [← tot]
theorem pm_NodeS {xs : List Node} (hl : pc_NodeS xs ≤ 1048576) {k : Nat} (hk : k + pq_NodeS xs ≤ 4611686018427387904) : ∃ xs', m_laws_markNodeS xs k = some (((k + pq_NodeS xs : Nat) : Int), xs') ∧ m_laws_heldNodeS xs' k = some ((k + pq_NodeS xs : Nat) : Int) := by
  obtain ⟨xs', h1, h2, h3⟩ := iter_mark (xs := xs) (m := pqE_NodeS) (mk := pmk_NodeS) (held := phe_NodeS) (step := m_laws_markNodeS_L0) (hstep := m_laws_heldNodeS_L0)
    (fun n ys x k hk hx => by
      have hn := get_lt hx
      have gen : ∀ k1 k2 k3 : Int, w64 ((k : Int) + 1) = k1 → w64 (k1 + 1) = k2 → w64 (k2 + 1) = k3 → m_laws_markNodeS_L0 (ys, (k : Int), (n : Int)) = (pmk_NodeS x k).bind fun r => some (.next (ys.set n r.2, r.1, w64 ((n : Int) + 1))) := by
        intro k1 k2 k3 h1 h2 h3
        unfold m_laws_markNodeS_L0 pmk_NodeS
        simp only [h1, h2, h3, dec_lt hn, cond_true, getI_some hx, Option.bind_some, Int.toNat_natCast, pl_get_set hn, pl_get_set2 hn, pl_get_set3 hn, pl_get_set4 hn, pl_get_set5 hn, pl_get_set6 hn, pl_get_set7 hn, List.set_set, Option.bind_assoc]
      exact gen _ _ _ rfl rfl rfl)
    (fun ys k => by unfold m_laws_markNodeS_L0; rw [dec_self]; rfl)
    (fun n ys x k hk hx => by
      unfold m_laws_heldNodeS_L0 phe_NodeS
      rw [dec_lt (get_lt hx), cond_true, getI_some hx]
      obtain ⟨w0, w1, w2⟩ : w64 (((k : Nat) : Int) + 1) = ((k + 1 : Nat) : Int) ∧ w64 (((k + 1 : Nat) : Int) + 1) = ((k + 1 + 1 : Nat) : Int) ∧ w64 (((k + 1 + 1 : Nat) : Int) + 1) = ((k + 1 + 1 + 1 : Nat) : Int) := ⟨w64_succ (by omega), w64_succ (by omega), w64_succ (by omega)⟩
      simp only [Option.bind_some, pl_condB, pl_cond2, Option.bind_assoc, pl_neg1, cond_true, cond_false, dec_neg, w0, w1, w2])
    (fun ys k => by unfold m_laws_heldNodeS_L0; rw [dec_self]; rfl)
    (by have := pc_NodeS_len (xs := xs); omega) (fun x hx => pmE_NodeS x (by have := pc_NodeS_mem hx; omega)) (k := k) hk
  exact ⟨xs', by unfold m_laws_markNodeS; rw [h1]; rfl, by unfold m_laws_heldNodeS; rw [h3]; rfl⟩
def pc_TermS (xs : List Term) : Nat := xs.length + (xs.map pc_Term).sum
theorem pc_TermS_mem {xs : List Term} {x : Term} (h : x ∈ xs) : pc_Term x ≤ pc_TermS xs := by have := pl_mem_sum (c := pc_Term) h; unfold pc_TermS; omega
theorem pc_TermS_len {xs : List Term} : xs.length ≤ pc_TermS xs := by unfold pc_TermS; omega
theorem pz_TermS {xs : List Term} (k : kLa_Term xs) : SzP m_laws_szTermS pc_TermS xs := fun b hb => by
  unfold m_laws_szTermS pc_TermS
  rw [szW k.1 hb]
  by_cases h : xs.length ≤ b
  · rw [decide_eq_false (by omega), cond_false, show (b : Int) - (xs.length : Int) = ((b - xs.length : Nat) : Int) by omega,
      iter_sz (xs := xs) (c := pc_Term) (sz := m_laws_szTerm)
        (fun n x b hx => by unfold m_laws_szTermS_L0; rw [dec_lt (get_lt hx), cond_true, getI_some hx]; rfl)
        (fun b => by unfold m_laws_szTermS_L0; rw [dec_self]; rfl) k.1 (fun x hx => pz_Term (k.2 x hx)) (by omega), Option.bind_some]
    by_cases h2 : (xs.map pc_Term).sum ≤ b - xs.length
    · rw [if_pos h2, szOut_ok (by omega)]
      unfold m_laws_szTermS_A0; simp only; congr 2; omega
    · rw [if_neg h2, szOut_no (by omega)]; rfl
  · rw [decide_eq_true (by omega), szOut_no (by omega)]; rfl
theorem pt_TermS {xs : List Term} (hl : pc_TermS xs ≤ 1048576) : m_laws_toTermS xs = some xs := by
  have hlen : xs.length ≤ 1048576 := Nat.le_trans pc_TermS_len hl
  unfold m_laws_toTermS
  rw [makeI_some (by omega), Option.bind_some, iter_to (xs := xs) (z := (Term.mk (0 : Int) ([] : List Int))) (cp := m_laws_toTerm)
    (fun n x ys hx => by unfold m_laws_toTermS_L0; rw [dec_lt (get_lt hx), cond_true, getI_some hx]; rfl)
    (fun ys => by unfold m_laws_toTermS_L0; rw [dec_self]; rfl) hlen (fun x hx => pt_Term (by have := pc_TermS_mem hx; omega))]
  rfl
theorem pe_TermS {xs ys : List Term} (hl : pc_TermS xs ≤ 1048576) : m_laws_eqTermS xs ys = some (decide (xs = ys)) := by
  have hlen : xs.length ≤ 1048576 := Nat.le_trans pc_TermS_len hl
  unfold m_laws_eqTermS
  by_cases h : xs.length = ys.length
  · rw [decide_eq_true (by omega), Bool.not_true, cond_false, iter_eq (xs := xs) (ys := ys) (eq := m_laws_eqTerm)
      (fun n x y hx hy => by unfold m_laws_eqTermS_L0; rw [dec_lt (get_lt hx), cond_true, getI_some hx, getI_some hy]; rfl)
      (by unfold m_laws_eqTermS_L0; rw [dec_self]; rfl) (by omega) h (fun x hx y => pe_Term (by have := pc_TermS_mem hx; omega))]
    by_cases e : xs = ys
    · rw [if_pos e, decide_eq_true e]; rfl
    · rw [if_neg e, decide_eq_false e]; rfl
  · rw [decide_eq_false (by omega), decide_eq_false (fun e => h (by rw [e]))]; rfl
def pqE_TermS (x : Term) : Nat := 1 + pq_Int64S x.Coeffs
def pq_TermS (xs : List Term) : Nat := (xs.map pqE_TermS).sum
theorem pqE_TermS_le (x : Term) : pqE_TermS x ≤ 8 + 8 * pc_Term x := by
  unfold pqE_TermS
  have h0 := pq_Int64S_le x.Coeffs
  unfold pc_Term
  omega
theorem pq_TermS_le (xs : List Term) : pq_TermS xs ≤ 8 * pc_TermS xs := by
  unfold pq_TermS pc_TermS
  exact pl_sum_le (fun x => pqE_TermS_le x)
noncomputable def pmk_TermS (x : Term) (k : Int) : Option (Int × Term) := (m_laws_markInt64S x.Coeffs (w64 (k + 1))).bind fun r0 => some (r0.1, (Term.mk k r0.2))
theorem pmE_TermS (x : Term) (hc : pc_Term x ≤ 1048576) : ∀ k : Nat, k + pqE_TermS x ≤ 4611686018427387904 → ∃ x', pmk_TermS x k = some (((k + pqE_TermS x : Nat) : Int), x') := fun k hk => by
  unfold pqE_TermS at hk ⊢
  unfold pc_Term at hc
  obtain ⟨a0, m0, g0⟩ := pm_Int64S (xs := x.Coeffs) (by omega) (k := k + 1) (by omega)
  have n0 : decide ((((k + 1) + pq_Int64S x.Coeffs : Nat) : Int) < 0) = false := decide_eq_false (by omega)
  have tot : ((k + 1 + pq_Int64S x.Coeffs : Nat) : Int) = ((k + (1 + pq_Int64S x.Coeffs) : Nat) : Int) := by omega
  have w0 : w64 (((k : Nat) : Int) + 1) = ((k + 1 : Nat) : Int) := w64_succ (by omega)
  refine ⟨(Term.mk ((k : Nat) : Int) a0), ?_⟩
  unfold pmk_TermS; simp only [w0, m0, Option.bind_some] <;> rw [← tot]
theorem pm_TermS {xs : List Term} (hl : pc_TermS xs ≤ 1048576) {k : Nat} (hk : k + pq_TermS xs ≤ 4611686018427387904) : ∃ xs', m_laws_markTermS xs k = some (((k + pq_TermS xs : Nat) : Int), xs') ∧ True := by
  obtain ⟨xs', h1⟩ := pl_mark0 (xs := xs) (m := pqE_TermS) (mk := pmk_TermS) (step := m_laws_markTermS_L0)
    (fun n ys x k hk hx => by
      have hn := get_lt hx
      have gen : ∀ k1 : Int, w64 ((k : Int) + 1) = k1 → m_laws_markTermS_L0 (ys, (k : Int), (n : Int)) = (pmk_TermS x k).bind fun r => some (.next (ys.set n r.2, r.1, w64 ((n : Int) + 1))) := by
        intro k1 h1
        unfold m_laws_markTermS_L0 pmk_TermS
        simp only [h1, dec_lt hn, cond_true, getI_some hx, Option.bind_some, Int.toNat_natCast, pl_get_set hn, pl_get_set2 hn, pl_get_set3 hn, pl_get_set4 hn, pl_get_set5 hn, pl_get_set6 hn, pl_get_set7 hn, List.set_set, Option.bind_assoc]
      exact gen _ rfl)
    (fun ys k => by unfold m_laws_markTermS_L0; rw [dec_self]; rfl)
    (by have := pc_TermS_len (xs := xs); omega) (fun x hx => pmE_TermS x (by have := pc_TermS_mem hx; omega)) (k := k) hk
  exact ⟨xs', by unfold m_laws_markTermS; rw [h1]; rfl, trivial⟩
def pc_Sequent (x : Sequent) : Nat := pc_TermS x.Facts + pc_Term x.Goal
theorem pi_Sequent (x y : Sequent) : (x.Facts = y.Facts ∧ x.Goal = y.Goal) ↔ x = y := by cases x; cases y; simp
theorem pz_Sequent {x : Sequent} (k : k_Sequent x) : SzP m_laws_szSequent pc_Sequent x := fun b hb => by
  unfold m_laws_szSequent pc_Sequent
  rw [show pc_TermS x.Facts + pc_Term x.Goal = pc_TermS x.Facts + (pc_Term x.Goal) by omega]
  exact pl_szB (pz_TermS k.1 (b) (by omega)) fun h0 => pl_szL (pz_Term k.2 (b - pc_TermS x.Facts) (by omega))
theorem pt_Sequent {x : Sequent} (hl : pc_Sequent x ≤ 1048576) : m_laws_toSequent x = some x := by
  unfold pc_Sequent at hl
  unfold m_laws_toSequent
  simp only [pt_TermS (xs := x.Facts) (by omega), pt_Term (x := x.Goal) (by omega), Option.bind_some]
theorem pe_Sequent {x y : Sequent} (hl : pc_Sequent x ≤ 1048576) : m_laws_eqSequent x y = some (decide (x = y)) := by
  unfold pc_Sequent at hl
  unfold m_laws_eqSequent
  rw [← decide_eq_decide.2 (pi_Sequent x y)]
  exact pl_eqM (pe_TermS (by omega)) (pl_eqML (pe_Term (by omega)))
def pq_Sequent (x : Sequent) : Nat := pq_TermS x.Facts + pq_Term x.Goal
theorem pq_Sequent_le (x : Sequent) : pq_Sequent x ≤ 8 * pc_Sequent x := by
  unfold pq_Sequent pc_Sequent
  have h0 := pq_TermS_le x.Facts
  have h1 := pq_Term_le x.Goal
  omega
theorem pm_Sequent {x : Sequent} (hl : pc_Sequent x ≤ 1048576) {k : Nat} (hk : k + pq_Sequent x ≤ 4611686018427387904) : ∃ (a0 : (List Term)) (a1 : (List Int)), m_laws_markSequent x k = some (((k + pq_Sequent x : Nat) : Int), a0, a1) ∧ True := by
  unfold pq_Sequent at hk ⊢
  unfold pc_Sequent at hl
  have l0 : x.Facts.length ≤ pc_TermS x.Facts := pc_TermS_len
  obtain ⟨a0, m0, g0⟩ := pm_TermS (xs := x.Facts) (by omega) (k := k) (by omega)
  have n0 : decide ((((k) + pq_TermS x.Facts : Nat) : Int) < 0) = false := decide_eq_false (by omega)
  obtain ⟨a1, m1, g1⟩ := pm_Term (x := x.Goal) (by omega) (k := k + pq_TermS x.Facts) (by omega)
  have n1 : decide ((((k + pq_TermS x.Facts) + pq_Term x.Goal : Nat) : Int) < 0) = false := decide_eq_false (by omega)
  have tot : ((k + pq_TermS x.Facts + pq_Term x.Goal : Nat) : Int) = ((k + (pq_TermS x.Facts + pq_Term x.Goal) : Nat) : Int) := by omega
  refine ⟨a0, a1, ?_, trivial⟩
  · unfold m_laws_markSequent; simp only [m0, m1, Option.bind_some] <;> rw [← tot]
end Go.Mod

namespace Go.Mod
open Go.AM
set_option linter.unusedVariables false
set_option linter.unusedSimpArgs false
def cTerm (t : Term) : Nat := t.Coeffs.length
def inR (c : Int) : Bool := decide (-1000000 ≤ c) && decide (c ≤ 1000000)
theorem inR_iff {c : Int} : inR c = true ↔ -1000000 ≤ c ∧ c ≤ 1000000 := by simp [inR]
def lastOK (xs : List Int) : Bool := match xs.getLast? with | none => true | some x => !decide (x = 0)
def vT (t : Term) : Bool := inR t.Const && decide (t.Coeffs.length ≤ 10) && lastOK t.Coeffs && t.Coeffs.all inR
theorem vT_len {t : Term} (h : vT t = true) : t.Coeffs.length ≤ 10 := by simp [vT] at h; omega
theorem vT_const {t : Term} (h : vT t = true) : inR t.Const = true := by simp [vT] at h; exact h.1.1.1
theorem vT_coef {t : Term} (h : vT t = true) : ∀ x ∈ t.Coeffs, inR x = true := by simp [vT] at h; exact h.2
theorem getI_last {xs : List Int} (h0 : 0 < xs.length) (hl : xs.length ≤ 9223372036854775807) : getI xs (w64 ((xs.length : Int) - 1)) = xs.getLast? := by
  rw [w64_pred h0 hl, getI_nat, List.getLast?_eq_getElem?]
theorem spec_number (c : Int) : m_spec_l02Number c = some (inR c) := rfl
theorem spec_is_loop {t : Term} (hl : t.Coeffs.length ≤ 1048576) : iter (m_spec_l02Is_L0 t) 0 = some (bif t.Coeffs.all inR then .inl () else .inr false) := by
  have h := iter_for (step := m_spec_l02Is_L0 t) t.Coeffs (fun n (_ : Unit) => (n : Int)) (fun _ x _ => bif inR x then some (.next ()) else some (.out (.inr false))) (fun _ => .inl ())
    (fun n x r hx => by
      unfold m_spec_l02Is_L0
      rw [dec_lt (get_lt hx), cond_true, getI_some hx, Option.bind_some, spec_number, Option.bind_some]
      have hw : w64 ((n : Int) + 1) = ((n + 1 : Nat) : Int) := w64_succ (by have := get_lt hx; omega)
      cases inR x
      · rfl
      · rw [hw]; rfl)
    (fun r => by unfold m_spec_l02Is_L0; rw [dec_self]; rfl) ()
  rw [forL_all inR _ _ (fun n x _ => rfl)] at h
  exact h
theorem spec_is {t : Term} (hl : cTerm t ≤ 1048576) : m_spec_l02Is t = some (vT t) := by
  unfold cTerm at hl
  have hJ : m_spec_l02Is_J0 t () = some (t.Coeffs.all inR) := by
    unfold m_spec_l02Is_J0
    rw [spec_is_loop hl, Option.bind_some]
    cases t.Coeffs.all inR <;> rfl
  unfold m_spec_l02Is
  rw [spec_number, Option.bind_some]
  unfold vT
  cases h1 : inR t.Const with
  | false => rfl
  | true =>
    by_cases h2 : t.Coeffs.length ≤ 10
    · rw [decide_eq_true h2, decide_eq_false (show ¬ (10 : Int) < (t.Coeffs.length : Int) by omega)]
      simp only [Bool.not_true, Bool.false_or, cond_false, Bool.true_and]
      by_cases h3 : 0 < t.Coeffs.length
      · rw [decide_eq_true (show (0 : Int) < (t.Coeffs.length : Int) by omega), cond_true, getI_last h3 (by omega)]
        unfold lastOK
        cases h4 : t.Coeffs.getLast? with
        | none => rw [List.getLast?_eq_none_iff] at h4; rw [h4] at h3; exact absurd h3 (by simp)
        | some x =>
          simp only [Option.bind_some]
          by_cases h5 : x = 0
          · rw [decide_eq_true h5]; rfl
          · rw [decide_eq_false h5, cond_false, hJ]; rfl
      · rw [decide_eq_false (show ¬ (0 : Int) < (t.Coeffs.length : Int) by omega), cond_false, hJ]
        have : t.Coeffs = [] := List.length_eq_zero_iff.1 (by omega)
        rw [this]; rfl
    · rw [decide_eq_false h2, decide_eq_true (show (10 : Int) < (t.Coeffs.length : Int) by omega)]; rfl
theorem impl_all {xs : List Int} {a b : Int} : m_impl_allWithin xs a b = some (xs.all fun x => decide (a ≤ x) && decide (x ≤ b)) := by
  unfold m_impl_allWithin
  rw [forL_all (fun x => decide (a ≤ x) && decide (x ≤ b)) (f := .inr false) xs 0 (fun n x _ => by
    unfold m_impl_allWithin_L0 m_impl_within
    rw [Option.bind_some]
    cases (decide (a ≤ x) && decide (x ≤ b)) <;> rfl), Option.bind_some]
  cases xs.all fun x => decide (a ≤ x) && decide (x ≤ b) <;> rfl
theorem impl_valid (t : Term) : m_impl_ValidTerm t = some (vT t) := by
  unfold m_impl_ValidTerm vT
  by_cases h2 : t.Coeffs.length ≤ 10
  · rw [decide_eq_true h2, decide_eq_true (show (t.Coeffs.length : Int) ≤ (10 : Int) by omega), cond_true]
    rw [show m_impl_isCoeff t.Const = some (inR t.Const) from rfl, Option.bind_some]
    cases h1 : inR t.Const with
    | false => rfl
    | true =>
      rw [cond_true, impl_all, Option.bind_some]
      change (bif t.Coeffs.all inR then _ else _) = _
      cases h3 : t.Coeffs.all inR with
      | false => simp
      | true =>
        rw [cond_true]
        by_cases h4 : t.Coeffs.length = 0
        · rw [decide_eq_true (by omega), cond_true]
          rw [List.length_eq_zero_iff.1 h4]; rfl
        · rw [decide_eq_false (by omega), cond_false, getI_last (by omega) (by omega)]
          unfold lastOK
          cases h5 : t.Coeffs.getLast? with
          | none => rw [List.getLast?_eq_none_iff] at h5; rw [h5] at h4; exact absurd rfl h4
          | some x => simp
  · rw [decide_eq_false h2, decide_eq_false (show ¬ (t.Coeffs.length : Int) ≤ (10 : Int) by omega)]; simp
def tl (xs : List Int) : Nat → Nat
  | 0 => 0
  | n + 1 => if xs[n]? = some 0 then tl xs n else n + 1
theorem tl_le (xs : List Int) : ∀ n, tl xs n ≤ n := by
  intro n
  induction n with
  | zero => exact Nat.le_refl _
  | succ n ih => unfold tl; split <;> omega
def trim (xs : List Int) : List Int := xs.take (tl xs xs.length)
theorem trim_len (xs : List Int) : (trim xs).length ≤ xs.length := by unfold trim; simp; omega
theorem tl_iter {xs : List Int} {step : Int → Option (Ctl Int Int)}
    (hs : ∀ n : Int, step n = bif decide ((0 : Int) < n) then (getI xs (w64 (n - 1))).bind fun x => bif decide (x = 0) then some (.next (w64 (n - 1))) else some (.out n) else some (.out n))
    (hl : xs.length ≤ 1048576) : ∀ n : Nat, n ≤ xs.length → iter step (n : Int) = some ((tl xs n : Nat) : Int) := by
  intro n
  induction n with
  | zero => intro _; exact iter_out (by rw [hs]; rfl)
  | succ n ih =>
    intro hn
    have h := hs ((n + 1 : Nat) : Int)
    have hx : xs[n]? = some xs[n] := by simp
    rw [decide_eq_true (by omega), cond_true, w64_pred (by omega) (by omega), show n + 1 - 1 = n from rfl, getI_some hx, Option.bind_some] at h
    unfold tl
    by_cases h0 : xs[n] = 0
    · rw [decide_eq_true h0, cond_true] at h
      rw [iter_next h, ih (by omega), if_pos (by rw [hx, h0])]
    · rw [decide_eq_false h0, cond_false] at h
      rw [iter_out h, if_neg (by rw [hx]; simpa using h0)]
theorem slice_trim (xs : List Int) : sliceI xs 0 ((tl xs xs.length : Nat) : Int) = some (trim xs) := by
  rw [show (0 : Int) = ((0 : Nat) : Int) from rfl, sliceI_some (by omega) (tl_le _ _)]; rfl
def chk (t : Term) : Term × Bool := bif vT t then (t, true) else (Term.mk 0 [], false)
theorem spec_own {xs : List Int} (h : xs.length ≤ 1048576) : m_spec_l00Own xs = some xs := by
  unfold m_spec_l00Own; rw [capI_some (by simp; omega)]; simp
theorem spec_make {c : Int} {xs : List Int} (hl : xs.length ≤ 1048576) : m_spec_l02Make c xs = some (chk (Term.mk c (trim xs))) := by
  unfold m_spec_l02Make m_spec_l02Make_A0
  have h2 := trim_len xs
  rw [tl_iter (step := m_spec_l02Make_L0 xs) (fun n => rfl) hl _ (Nat.le_refl _), Option.bind_some, slice_trim, Option.bind_some, spec_own (by omega), Option.bind_some, spec_is (by unfold cTerm; simp only; omega), Option.bind_some]
  unfold chk
  cases vT (Term.mk c (trim xs)) <;> rfl
theorem impl_copy {xs : List Int} (h : xs.length ≤ 1048576) : m_impl_copyInts xs = some xs := by
  unfold m_impl_copyInts; rw [capI_some (by simp; omega)]; simp
theorem impl_own {t : Term} (h : t.Coeffs.length ≤ 1048576) : m_impl_Term_own t = some t := by
  unfold m_impl_Term_own; rw [impl_copy h]; rfl
theorem impl_trimmed {t : Term} (hl : t.Coeffs.length ≤ 1048576) : m_impl_Term_trimmed t = some (Term.mk t.Const (trim t.Coeffs)) := by
  unfold m_impl_Term_trimmed m_impl_Term_trimmed_A0
  rw [tl_iter (step := m_impl_Term_trimmed_L0 t) (fun n => rfl) hl _ (Nat.le_refl _), Option.bind_some, slice_trim, Option.bind_some]
def tab (f : Nat → Int) : List Int := (List.range 10).map f
theorem tab_len (f : Nat → Int) : (tab f).length = 10 := rfl
theorem tab_get {f : Nat → Int} {n : Nat} (h : n < 10) : (tab f)[n]? = some (f n) := by simp [tab, h]
theorem tab_set {f : Nat → Int} {n : Nat} {v : Int} (h : n < 10) : (tab f).set n v = tab fun i => if i = n then v else f i := by
  unfold tab
  apply List.ext_getElem?
  intro i
  rw [List.getElem?_set]
  by_cases hi : n = i
  · subst hi; simp [h]
  · rw [if_neg hi]
    have hi' : i ≠ n := Ne.symm hi
    by_cases h10 : i < 10
    · simp [h10, hi']
    · simp [h10]
theorem tab_zero : List.replicate 10 (0 : Int) = tab fun _ => 0 := rfl
def coef (xs : List Int) (i : Nat) : Int := xs[i]?.getD 0
theorem coef_get {xs : List Int} {i : Nat} {x : Int} (h : xs[i]? = some x) : coef xs i = x := by simp [coef, h]
theorem coef_no {xs : List Int} {i : Nat} (h : xs.length ≤ i) : coef xs i = 0 := by simp [coef, h]
theorem coef_rng {t : Term} (h : vT t = true) (i : Nat) : -1000000 ≤ coef t.Coeffs i ∧ coef t.Coeffs i ≤ 1000000 := by
  unfold coef
  cases hx : t.Coeffs[i]? with
  | none => simp
  | some x => exact inR_iff.1 (vT_coef h x (List.mem_of_getElem? hx))
theorem const_rng {t : Term} (h : vT t = true) : -1000000 ≤ t.Const ∧ t.Const ≤ 1000000 := inR_iff.1 (vT_const h)
theorem prod_rng {a b A B : Int} (h1 : -A ≤ a) (h2 : a ≤ A) (h3 : -B ≤ b) (h4 : b ≤ B) : -(A * B) ≤ a * b ∧ a * b ≤ A * B := by
  have hA : 0 ≤ A := by omega
  have hB : 0 ≤ B := by omega
  have p1 : 0 ≤ (A - a) * (B - b) := Int.mul_nonneg (by omega) (by omega)
  have p2 : 0 ≤ (A + a) * (B + b) := Int.mul_nonneg (by omega) (by omega)
  have p3 : 0 ≤ (A - a) * (B + b) := Int.mul_nonneg (by omega) (by omega)
  have p4 : 0 ≤ (A + a) * (B - b) := Int.mul_nonneg (by omega) (by omega)
  simp only [Int.sub_mul, Int.add_mul, Int.mul_sub, Int.mul_add] at p1 p2 p3 p4
  omega
theorem spec_coeff {t : Term} {i : Nat} (hl : i < 10) : m_spec_l02Coeff t (i : Int) = some (coef t.Coeffs i) := by
  unfold m_spec_l02Coeff
  by_cases h : i < t.Coeffs.length
  · have hx : t.Coeffs[i]? = some t.Coeffs[i] := by simp [h]
    rw [dec_lt h, cond_true, getI_some hx, coef_get hx]; rfl
  · rw [dec_not_lt h, cond_false, coef_no (by omega)]
def sumN (f : Nat → Int) : Nat → Int
  | 0 => 0
  | n + 1 => sumN f n + f n
theorem sumN_rng {f : Nat → Int} {B : Int} (h : ∀ i, -B ≤ f i ∧ f i ≤ B) : ∀ n : Nat, -(n * B) ≤ sumN f n ∧ sumN f n ≤ n * B := by
  intro n
  induction n with
  | zero => simp [sumN]
  | succ n ih =>
    have := h n
    have e : ((n + 1 : Nat) : Int) * B = n * B + B := by rw [Int.natCast_add]; simp [Int.add_mul]
    rw [e]
    unfold sumN
    omega
def tAt (ts : List Term) (k : Nat) : Term := ts[k]?.getD ⟨0, []⟩
def lin (ts : List Term) (ms : List Int) (g : Term → Int) (n : Nat) : Int := sumN (fun k => coef ms k * g (tAt ts k)) n
def mOK (m : Int) : Prop := -1000000 ≤ m ∧ m ≤ 1000000
def Lin (ts : List Term) (ms : List Int) : Prop := (∀ t ∈ ts, vT t = true) ∧ (∀ m ∈ ms, mOK m) ∧ ts.length ≤ 20 ∧ ms.length = ts.length
theorem tAt_valid {ts : List Term} (h : ∀ t ∈ ts, vT t = true) (k : Nat) : vT (tAt ts k) = true := by
  unfold tAt
  cases hx : ts[k]? with
  | none => rfl
  | some t => exact h t (List.mem_of_getElem? hx)
theorem coef_m {ms : List Int} (h : ∀ m ∈ ms, mOK m) (k : Nat) : -1000000 ≤ coef ms k ∧ coef ms k ≤ 1000000 := by
  unfold coef
  cases hx : ms[k]? with
  | none => simp
  | some m => exact h m (List.mem_of_getElem? hx)
theorem mul_rng {a b : Int} (h1 : -1000000 ≤ a ∧ a ≤ 1000000) (h2 : -1000000 ≤ b ∧ b ≤ 1000000) : -1000000000000 ≤ a * b ∧ a * b ≤ 1000000000000 := by
  have := prod_rng h1.1 h1.2 h2.1 h2.2
  omega
theorem lin_rng {ts : List Term} {ms : List Int} (h : Lin ts ms) {g : Term → Int} (hg : ∀ t, vT t = true → -1000000 ≤ g t ∧ g t ≤ 1000000) {n : Nat} (hn : n ≤ 20) :
    -20000000000000 ≤ lin ts ms g n ∧ lin ts ms g n ≤ 20000000000000 := by
  have := sumN_rng (f := fun k => coef ms k * g (tAt ts k)) (B := 1000000000000) (fun i => mul_rng (coef_m h.2.1 i) (hg _ (tAt_valid h.1 i))) n
  unfold lin
  omega
theorem inner {f : Nat → Int} {m : Int} {xs : List Int} (hm : mOK m) (hl : xs.length ≤ 10) (hx : ∀ x ∈ xs, inR x = true) (hf : ∀ i, -100000000000000 ≤ f i ∧ f i ≤ 100000000000000) :
    forL (m_impl_combined_L1 m) (fun s1 => s1) 0 xs (tab f) = some (tab fun i => f i + m * coef xs i) := by
  obtain ⟨t, h1, h2⟩ := forL_inv (step := m_impl_combined_L1 m) (fin := fun s1 => s1) (xs := xs) (fun n s => s = tab fun i => if i < n then f i + m * coef xs i else f i) (fun t => t = tab fun i => f i + m * coef xs i)
    (fun n x s hxn hs => by
      subst hs
      have hn := get_lt hxn
      refine .inl ⟨_, ?_, rfl⟩
      unfold m_impl_combined_L1
      rw [getI_some (tab_get (by omega)), Option.bind_some, if_neg (by omega)]
      have hp := mul_rng hm (inR_iff.1 (hx x (List.mem_of_getElem? hxn)))
      have := hf n
      rw [w64_eq (n := m * x) (by omega), w64_eq (by omega), Int.toNat_natCast, tab_set (by omega)]
      congr 2
      unfold tab
      apply List.map_congr_left
      intro i hi
      by_cases h1 : i = n
      · subst h1; rw [if_pos rfl, if_pos (by omega), coef_get hxn]
      · rw [if_neg h1]
        by_cases h2 : i < n
        · rw [if_pos h2, if_pos (by omega)]
        · rw [if_neg h2, if_neg (by omega)])
    (fun s hs => by
      subst hs
      unfold tab
      apply List.map_congr_left
      intro i hi
      by_cases h2 : i < xs.length
      · rw [if_pos h2]
      · rw [if_neg h2, coef_no (by omega)]; omega)
    (s := tab f) (by simp)
  rw [h1, h2]
theorem impl_combined {ts : List Term} {ms : List Int} (h : Lin ts ms) :
    m_impl_combined ts ms = some (Term.mk (lin ts ms Term.Const ts.length) (trim (tab fun i => lin ts ms (fun t => coef t.Coeffs i) ts.length))) := by
  unfold m_impl_combined
  rw [show (10 : Int) = ((10 : Nat) : Int) from rfl, makeI_some (by omega), Option.bind_some, tab_zero]
  obtain ⟨t, h1, h2⟩ := forL_inv (step := m_impl_combined_L0 ms) (fin := fun s0 => (s0.1, s0.2)) (xs := ts) (fun n s => s = (lin ts ms Term.Const n, tab fun i => lin ts ms (fun t => coef t.Coeffs i) n))
    (fun t => t = (lin ts ms Term.Const ts.length, tab fun i => lin ts ms (fun t => coef t.Coeffs i) ts.length))
    (fun n x s hxn hs => by
      subst hs
      have hn := get_lt hxn
      refine .inl ⟨_, ?_, rfl⟩
      unfold m_impl_combined_L0
      have hmn : n < ms.length := by rw [h.2.2.2]; exact hn
      have hm : ms[n]? = some ms[n] := by simp [hmn]
      have hv := h.1 x (List.mem_of_getElem? hxn)
      have hmo := h.2.1 _ (List.mem_of_getElem? hm)
      rw [getI_some hm, Option.bind_some, inner hmo (vT_len hv) (vT_coef hv)
        (fun i => by have := lin_rng h (g := fun t => coef t.Coeffs i) (fun t ht => coef_rng ht i) (n := n) (by have := h.2.2.1; omega); omega), Option.bind_some]
      unfold m_impl_combined_A1
      have hp := mul_rng hmo (const_rng hv)
      have hq := lin_rng h (g := Term.Const) (fun t ht => const_rng ht) (n := n) (by have := h.2.2.1; omega)
      simp only
      rw [w64_eq (n := ms[n] * x.Const) (by omega), w64_eq (by omega)]
      have e : ∀ g : Term → Int, lin ts ms g (n + 1) = lin ts ms g n + ms[n] * g x := by
        intro g
        unfold lin
        rw [show sumN (fun k => coef ms k * g (tAt ts k)) (n + 1) = sumN (fun k => coef ms k * g (tAt ts k)) n + coef ms n * g (tAt ts n) from rfl, coef_get hm]
        unfold tAt
        rw [hxn]; rfl
      simp only [e])
    (fun s hs => hs) rfl
  change (forL (m_impl_combined_L0 ms) (fun s0 => (s0.1, s0.2)) 0 ts (lin ts ms Term.Const 0, tab fun i => lin ts ms (fun t => coef t.Coeffs i) 0)).bind _ = _
  rw [h1, h2, Option.bind_some]
  unfold m_impl_combined_A0
  rw [impl_trimmed (by simp only [tab_len]; omega)]; rfl
theorem spec_sum_loop {p q : Term} {a b : Int} (hp : vT p = true) (hq : vT q = true) (ha : mOK a) (hb : mOK b) :
    iter (m_spec_l02Sum_L0 p a q b) ([], 0) = some (tab fun i => a * coef p.Coeffs i + b * coef q.Coeffs i) := by
  have key : ∀ (m n : Nat), n + m = 10 → iter (m_spec_l02Sum_L0 p a q b) ((tab fun i => a * coef p.Coeffs i + b * coef q.Coeffs i).take n, (n : Int)) = some (tab fun i => a * coef p.Coeffs i + b * coef q.Coeffs i) := by
    intro m
    induction m with
    | zero =>
      intro n hn
      obtain rfl : n = 10 := by omega
      exact iter_out rfl
    | succ m ih =>
      intro n hn
      rw [iter_next (s' := ((tab fun i => a * coef p.Coeffs i + b * coef q.Coeffs i).take (n + 1), ((n + 1 : Nat) : Int)))]
      · exact ih (n + 1) (by omega)
      · unfold m_spec_l02Sum_L0
        have h1 := mul_rng ha (coef_rng hp n)
        have h2 := mul_rng hb (coef_rng hq n)
        rw [decide_eq_true (by omega), cond_true, spec_coeff (by omega), Option.bind_some, spec_coeff (by omega), Option.bind_some, capI_some (by simp [tab_len]; omega), Option.bind_some]
        rw [w64_succ (by omega), w64_eq (n := a * coef p.Coeffs n) (by omega), w64_eq (n := b * coef q.Coeffs n) (by omega), w64_eq (by omega), List.take_add_one, tab_get (by omega)]
        rfl
  exact key 10 0 rfl
theorem spec_sum {p q : Term} {a b : Int} (hp : vT p = true) (hq : vT q = true) (ha : mOK a) (hb : mOK b) :
    m_spec_l02Sum p a q b = some (chk (Term.mk (a * p.Const + b * q.Const) (trim (tab fun i => a * coef p.Coeffs i + b * coef q.Coeffs i)))) := by
  unfold m_spec_l02Sum
  rw [spec_sum_loop hp hq ha hb, Option.bind_some]
  unfold m_spec_l02Sum_A0
  have h1 := mul_rng ha (const_rng hp)
  have h2 := mul_rng hb (const_rng hq)
  rw [w64_eq (n := a * p.Const) (by omega), w64_eq (n := b * q.Const) (by omega), w64_eq (by omega), spec_make (by rw [tab_len]; omega)]
  rfl
theorem vT_one (c : Int) (h : inR c = true) : vT (Term.mk c []) = true := by unfold vT; simp only [h]; rfl
theorem coef_nil (i : Nat) : coef [] i = 0 := rfl
theorem lin_one (p : Term) (m : Int) (g : Term → Int) : lin [p] [m] g 1 = m * g p := by
  unfold lin
  simp [sumN, coef, tAt]
def cTermS (ts : List Term) : Nat := ts.length + (ts.map cTerm).sum
theorem mem_sum {α : Type} {c : α → Nat} {xs : List α} {x : α} (h : x ∈ xs) : c x ≤ (xs.map c).sum := by
  induction xs with
  | nil => cases h
  | cons y r ih =>
    simp only [List.map_cons, List.sum_cons]
    rcases List.mem_cons.1 h with rfl | h
    · omega
    · have := ih h; omega
theorem cTermS_mem {ts : List Term} {t : Term} (h : t ∈ ts) : cTerm t ≤ cTermS ts := by have := mem_sum (c := cTerm) h; unfold cTermS; omega
theorem comb_loop {ts : List Term} {ms : List Int} (h : Lin ts ms) :
    forL (m_impl_combined_L0 ms) (fun s0 => (s0.1, s0.2)) 0 ts (0, tab fun _ => 0) = some (lin ts ms Term.Const ts.length, tab fun i => lin ts ms (fun t => coef t.Coeffs i) ts.length) := by
  obtain ⟨t, h1, h2⟩ := forL_inv (step := m_impl_combined_L0 ms) (fin := fun s0 => (s0.1, s0.2)) (xs := ts) (fun n s => s = (lin ts ms Term.Const n, tab fun i => lin ts ms (fun t => coef t.Coeffs i) n))
    (fun t => t = (lin ts ms Term.Const ts.length, tab fun i => lin ts ms (fun t => coef t.Coeffs i) ts.length))
    (fun n x s hxn hs => by
      subst hs
      have hn := get_lt hxn
      refine .inl ⟨_, ?_, rfl⟩
      unfold m_impl_combined_L0
      have hmn : n < ms.length := by rw [h.2.2.2]; exact hn
      have hm : ms[n]? = some ms[n] := by simp [hmn]
      have hv := h.1 x (List.mem_of_getElem? hxn)
      have hmo := h.2.1 _ (List.mem_of_getElem? hm)
      rw [getI_some hm, Option.bind_some, inner hmo (vT_len hv) (vT_coef hv)
        (fun i => by have := lin_rng h (g := fun t => coef t.Coeffs i) (fun t ht => coef_rng ht i) (n := n) (by have := h.2.2.1; omega); omega), Option.bind_some]
      unfold m_impl_combined_A1
      have hp := mul_rng hmo (const_rng hv)
      have hq := lin_rng h (g := Term.Const) (fun t ht => const_rng ht) (n := n) (by have := h.2.2.1; omega)
      simp only
      rw [w64_eq (n := ms[n] * x.Const) (by omega), w64_eq (by omega)]
      have e : ∀ g : Term → Int, lin ts ms g (n + 1) = lin ts ms g n + ms[n] * g x := by
        intro g
        unfold lin
        rw [show sumN (fun k => coef ms k * g (tAt ts k)) (n + 1) = sumN (fun k => coef ms k * g (tAt ts k)) n + coef ms n * g (tAt ts n) from rfl, coef_get hm]
        unfold tAt
        rw [hxn]; rfl
      simp only [e])
    (fun s hs => hs) rfl
  change forL (m_impl_combined_L0 ms) (fun s0 => (s0.1, s0.2)) 0 ts (lin ts ms Term.Const 0, tab fun i => lin ts ms (fun t => coef t.Coeffs i) 0) = _
  rw [h1, h2]
theorem dec_eqN {a b : Nat} : decide ((a : Int) = (b : Int)) = decide (a = b) := by by_cases h : a = b <;> simp [h]; omega
theorem dec_leN {a b : Nat} : decide ((a : Int) ≤ (b : Int)) = decide (a ≤ b) := by by_cases h : a ≤ b <;> simp [h]
theorem spec_all {ts : List Term} {k : Nat} (hl : cTermS ts ≤ 1048576) : m_spec_l02All ts (k : Int) = some (ts.all vT && decide (ts.length ≤ k)) := by
  have hlen : ts.length ≤ 1048576 := by unfold cTermS at hl; omega
  have h := iter_for (step := m_spec_l02All_L0 ts) ts (fun n (_ : Unit) => (n : Int)) (fun _ x _ => bif vT x then some (.next ()) else some (.out (.inr false))) (fun _ => .inl ())
    (fun n x r hx => by
      unfold m_spec_l02All_L0
      rw [dec_lt (get_lt hx), cond_true, getI_some hx, Option.bind_some, spec_is (by have := cTermS_mem (List.mem_of_getElem? hx); omega), Option.bind_some]
      have hw : w64 ((n : Int) + 1) = ((n + 1 : Nat) : Int) := w64_succ (by have := get_lt hx; omega)
      cases vT x
      · rfl
      · rw [hw]; rfl)
    (fun r => by unfold m_spec_l02All_L0; rw [dec_self]; rfl) ()
  rw [forL_all vT _ _ (fun n x _ => rfl)] at h
  unfold m_spec_l02All
  rw [show (0 : Int) = ((0 : Nat) : Int) from rfl, h, Option.bind_some]
  cases ts.all vT
  · rfl
  · change some (decide ((ts.length : Int) ≤ (k : Int))) = _
    rw [dec_leN]; rfl
theorem impl_terms {ts : List Term} {k : Nat} : m_impl_areTerms ts (k : Int) = some (decide (ts.length ≤ k) && ts.all vT) := by
  unfold m_impl_areTerms
  by_cases h : ts.length ≤ k
  · rw [decide_eq_false (by omega), cond_false, decide_eq_true h, Bool.true_and, forL_all vT (f := .inr false) ts 0 (fun n x _ => by
      unfold m_impl_areTerms_L0
      rw [impl_valid, Option.bind_some]
      cases vT x <;> rfl), Option.bind_some]
    cases ts.all vT <;> rfl
  · rw [decide_eq_true (by omega), decide_eq_false h]; rfl
def cSeq (s : Sequent) : Nat := cTermS s.Facts + cTerm s.Goal
theorem foldl_snoc {α : Type} (xs s : List α) : xs.foldl (fun s x => s ++ [x]) s = s ++ xs := by
  induction xs generalizing s with
  | nil => simp
  | cons x r ih => simp [ih]
theorem impl_ownTerms {ts : List Term} (hl : cTermS ts ≤ 1048576) : m_impl_ownTerms ts = some ts := by
  have hlen : ts.length ≤ 1048576 := by unfold cTermS at hl; omega
  unfold m_impl_ownTerms
  rw [forL_fold (fun s x => s ++ [x]) (fun k s => s.length = k) ts 0 [] rfl (fun n x s hx hs => by
    have := get_lt hx
    unfold m_impl_ownTerms_L0
    rw [impl_own (by have := cTermS_mem (List.mem_of_getElem? hx); unfold cTerm at this; omega), Option.bind_some, capI_some (by simp; omega), Option.bind_some]
    exact ⟨rfl, by simp [hs]⟩), Option.bind_some, foldl_snoc]
  rfl
theorem spec_ownAll {ts : List Term} (hl : cTermS ts ≤ 1048576) : m_spec_l02OwnAll ts = some ts := by
  have hlen : ts.length ≤ 1048576 := by unfold cTermS at hl; omega
  have h := iter_for (step := m_spec_l02OwnAll_L0 ts) ts (fun n (s : List Term) => (s, (n : Int))) m_impl_ownTerms_L0 (fun s0 => s0)
    (fun n x r hx => by
      unfold m_spec_l02OwnAll_L0 m_impl_ownTerms_L0 m_spec_l02Own
      have hc := cTermS_mem (List.mem_of_getElem? hx)
      unfold cTerm at hc
      simp only
      rw [dec_lt (get_lt hx), cond_true, getI_some hx, Option.bind_some, spec_own (by omega), Option.bind_some, Option.bind_some, impl_own (by omega), Option.bind_some]
      simp only [List.length_cons, List.length_nil, Nat.zero_add]
      cases capI (r.length + 1) 32 with
      | none => rfl
      | some u => simp only [Option.bind_some]; rw [w64_succ (by have := get_lt hx; omega)]; rfl)
    (fun r => by unfold m_spec_l02OwnAll_L0; simp only; rw [dec_self]; rfl) ([] : List Term)
  have h2 := impl_ownTerms hl
  unfold m_impl_ownTerms at h2
  unfold m_spec_l02OwnAll
  rw [show (0 : Int) = ((0 : Nat) : Int) from rfl, h]
  exact h2
def opp (t : Term) : Term := Term.mk (-t.Const - 1) (trim (tab fun i => -coef t.Coeffs i))
theorem spec_opposite {t : Term} (h : vT t = true) : m_spec_l02Opposite t = some (chk (opp t)) := by
  unfold m_spec_l02Opposite
  rw [spec_sum h (vT_one 1 rfl) (by unfold mOK; omega) (by unfold mOK; omega)]
  simp only [coef_nil, Int.mul_zero, Int.add_zero, Int.neg_mul, Int.one_mul]; rfl
theorem impl_opposite {t : Term} (h : vT t = true) : m_impl_Term_opposite t = some (opp t) := by
  unfold m_impl_Term_opposite
  have := const_rng h
  rw [impl_combined ⟨by simp [h], by simp [mOK], by simp, rfl⟩]
  simp only [List.length_cons, List.length_nil, Nat.zero_add, lin_one, Option.bind_some, Int.neg_mul, Int.one_mul]
  rw [w64_eq (by omega)]; rfl
theorem opp_len (t : Term) : (opp t).Coeffs.length ≤ 10 := by unfold opp; have := trim_len (tab fun i => -coef t.Coeffs i); rw [tab_len] at this; exact this
def vSeq (s : Sequent) : Bool := s.Facts.all vT && decide (s.Facts.length ≤ 13) && vT s.Goal
def fCtx (s : Sequent) : List Term × Bool := bif vSeq s && vT (opp s.Goal) then (s.Facts ++ [opp s.Goal], true) else ([], false)
theorem impl_ctx {s : Sequent} (hl : cSeq s ≤ 1048576) : m_impl_ContextOf s = some (fCtx s) := by
  unfold cSeq at hl
  have hlen : s.Facts.length ≤ 1048576 := by have : s.Facts.length ≤ cTermS s.Facts := by { unfold cTermS; omega }; omega
  unfold m_impl_ContextOf m_impl_ValidSequent fCtx vSeq
  rw [show (13 : Int) = ((13 : Nat) : Int) from rfl, impl_terms, Option.bind_some, impl_valid, Bool.and_comm (decide (s.Facts.length ≤ 13))]
  cases h1 : s.Facts.all vT && decide (s.Facts.length ≤ 13) with
  | false => rfl
  | true =>
    cases h2 : vT s.Goal with
    | false => rfl
    | true =>
      simp only [cond_true, Option.bind_some, Bool.not_true, cond_false, Bool.true_and]
      rw [impl_opposite h2, Option.bind_some, impl_valid, Option.bind_some, impl_ownTerms (by omega), Option.bind_some, Option.bind_some, impl_own (by have := opp_len s.Goal; omega), Option.bind_some]
      cases h3 : vT (opp s.Goal) with
      | false => rfl
      | true =>
        simp only [cond_true, Bool.not_true, cond_false]
        rw [capI_some (by simp; omega)]; rfl
theorem euclid {step : Int × Int → Option (Ctl (Int × Int) Int)}
    (h0 : ∀ a : Nat, step ((a : Int), ((0 : Nat) : Int)) = some (.out (a : Int)))
    (hs : ∀ a b : Nat, 0 < b → step ((a : Int), (b : Int)) = some (.next ((b : Int), ((a % b : Nat) : Int)))) : ∀ (n b a : Nat), b < n → iter step ((a : Int), (b : Int)) = some ((Nat.gcd a b : Nat) : Int) := by
  intro n
  induction n with
  | zero => intro b a h; omega
  | succ n ih =>
    intro b a h
    by_cases hb : b = 0
    · subst hb; rw [iter_out (h0 a), Nat.gcd_zero_right]
    · rw [iter_next (hs a b (by omega)), ih (a % b) b (by have := Nat.mod_lt a (Nat.pos_of_ne_zero hb); omega)]
      congr 2
      rw [Nat.gcd_comm a b, Nat.gcd_rec b a, Nat.gcd_comm]
theorem rem_nat {a b : Nat} (hb : 0 < b) : remI (a : Int) (b : Int) = some ((a % b : Nat) : Int) := by
  unfold remI
  rw [decide_eq_false (by omega), cond_false]
  rfl
theorem spec_euclid (a b : Nat) : iter m_spec_l02Divisor_L1 ((a : Int), (b : Int)) = some ((Nat.gcd a b : Nat) : Int) :=
  euclid (fun a => rfl) (fun a b hb => by
    unfold m_spec_l02Divisor_L1
    simp only
    rw [decide_eq_true (by omega), cond_true, rem_nat hb]; rfl) (b + 1) b a (Nat.lt_succ_self _)
theorem impl_euclid (a b : Nat) : iter m_impl_gcd_L1 ((a : Int), (b : Int)) = some ((Nat.gcd a b : Nat) : Int) :=
  euclid (fun a => rfl) (fun a b hb => by
    unfold m_impl_gcd_L1
    simp only
    rw [decide_eq_false (by omega), Bool.not_false, cond_true, rem_nat hb]; rfl) (b + 1) b a (Nat.lt_succ_self _)
def gcdL (xs : List Int) : Nat := xs.foldl (fun d x => Nat.gcd d x.natAbs) 0
theorem foldl_cast (xs : List Int) : ∀ (d : Nat), xs.foldl (fun (d : Int) x => ((Nat.gcd d.toNat x.natAbs : Nat) : Int)) (d : Int) = ((xs.foldl (fun d x => Nat.gcd d x.natAbs) d : Nat) : Int) := by
  induction xs with
  | nil => intro d; rfl
  | cons x r ih => intro d; simp only [List.foldl_cons, Int.toNat_natCast]; exact ih _
theorem impl_gcd {xs : List Int} (h : ∀ x ∈ xs, inR x = true) : m_impl_gcd xs = some ((gcdL xs : Nat) : Int) := by
  unfold m_impl_gcd
  rw [forL_fold (fun (d : Int) x => ((Nat.gcd d.toNat x.natAbs : Nat) : Int)) (fun _ d => 0 ≤ d) xs 0 0 (Int.le_refl 0) (fun n x d hx hd => by
    have hr := inR_iff.1 (h x (List.mem_of_getElem? hx))
    unfold m_impl_gcd_L0 m_impl_absolute
    rw [Option.bind_some, w64_eq (by omega), show max x (0 - x) = ((x.natAbs : Nat) : Int) by omega, show d = ((d.toNat : Nat) : Int) by omega, impl_euclid, Option.bind_some]
    exact ⟨by rw [Int.toNat_natCast]; rfl, by omega⟩), Option.bind_some]
  have := foldl_cast xs 0
  exact congrArg some this
theorem spec_gcd {t : Term} (h : ∀ x ∈ t.Coeffs, inR x = true) (hl : t.Coeffs.length ≤ 1048576) : m_spec_l02Divisor t = some ((gcdL t.Coeffs : Nat) : Int) := by
  have h2 := iter_for (step := m_spec_l02Divisor_L0 t) t.Coeffs (fun n (d : Nat) => ((d : Int), (n : Int))) (fun n x d => some (.next (Nat.gcd d x.natAbs))) (fun d => ((d : Nat) : Int))
    (fun n x d hx => by
      have hr := inR_iff.1 (h x (List.mem_of_getElem? hx))
      unfold m_spec_l02Divisor_L0 m_spec_l00Max
      simp only
      rw [dec_lt (get_lt hx), cond_true, getI_some hx, Option.bind_some, w64_eq (n := 0 - x) (by omega)]
      have e : (bif decide (0 - x < x) then some x else some (0 - x)) = some ((x.natAbs : Nat) : Int) := by
        by_cases h : 0 - x < x
        · rw [decide_eq_true h, cond_true, show ((x.natAbs : Nat) : Int) = x by omega]
        · rw [decide_eq_false h, cond_false, show ((x.natAbs : Nat) : Int) = 0 - x by omega]
      rw [e, Option.bind_some, spec_euclid, Option.bind_some]
      unfold m_spec_l02Divisor_A1
      simp only
      rw [w64_succ (by have := get_lt hx; omega)]; rfl)
    (fun r => by unfold m_spec_l02Divisor_L0; simp only; rw [dec_self]; rfl) 0
  rw [forL_fold (fun (d : Nat) x => Nat.gcd d x.natAbs) (fun _ _ => True) t.Coeffs 0 0 trivial (fun n x d hx _ => ⟨rfl, trivial⟩)] at h2
  unfold m_spec_l02Divisor
  rw [show ((0 : Int), (0 : Int)) = (((0 : Nat) : Int), ((0 : Nat) : Int)) from rfl, h2]
  rfl
theorem foldl_dvd (xs : List Int) : ∀ (d : Nat), (xs.foldl (fun d x => Nat.gcd d x.natAbs) d) ∣ d ∧ ∀ x ∈ xs, (xs.foldl (fun d x => Nat.gcd d x.natAbs) d) ∣ x.natAbs := by
  induction xs with
  | nil => intro d; exact ⟨Nat.dvd_refl d, fun x h => by cases h⟩
  | cons y r ih =>
    intro d
    obtain ⟨h1, h2⟩ := ih (Nat.gcd d y.natAbs)
    simp only [List.foldl_cons]
    refine ⟨Nat.dvd_trans h1 (Nat.gcd_dvd_left _ _), fun x hx => ?_⟩
    rcases List.mem_cons.1 hx with rfl | hx
    · exact Nat.dvd_trans h1 (Nat.gcd_dvd_right _ _)
    · exact h2 x hx
theorem gcdL_dvd {xs : List Int} {x : Int} (h : x ∈ xs) : gcdL xs ∣ x.natAbs := (foldl_dvd xs 0).2 x h
theorem tdiv_rng {x : Int} {d : Nat} (hd : 2 ≤ d) (h : inR x = true) : inR (x.tdiv d) = true ∧ -500000 ≤ x.tdiv d ∧ x.tdiv d ≤ 500000 := by
  have hr := inR_iff.1 h
  have key : ∀ n : Nat, n ≤ 1000000 → n / d ≤ 500000 := by
    intro n hn
    rw [Nat.div_le_iff_le_mul_add_pred (by omega)]
    have : d * 500000 ≥ 2 * 500000 := Nat.mul_le_mul_right _ hd
    omega
  have : -500000 ≤ x.tdiv d ∧ x.tdiv d ≤ 500000 := by
    rcases Int.le_total 0 x with h0 | h0
    · obtain ⟨n, rfl⟩ := Int.eq_ofNat_of_zero_le h0
      have := key n (by omega)
      rw [show ((n : Int).tdiv (d : Int)) = ((n / d : Nat) : Int) from rfl]
      generalize n / d = q at this ⊢
      omega
    · obtain ⟨n, hn⟩ := Int.eq_ofNat_of_zero_le (show 0 ≤ -x by omega)
      have := key n (by omega)
      have e : x.tdiv d = -((n / d : Nat) : Int) := by
        rw [show x = -(n : Int) by omega, Int.neg_tdiv]; rfl
      rw [e]
      generalize n / d = q at this ⊢
      omega
  exact ⟨inR_iff.2 (by omega), this⟩
theorem tdiv_ne {x : Int} {d : Nat} (hd : 0 < d) (hx : x ≠ 0) (h : d ∣ x.natAbs) : x.tdiv d ≠ 0 := by
  obtain ⟨k, hk⟩ := h
  intro h0
  have h1 : (x.tdiv d) * d = x := Int.tdiv_mul_cancel (Int.natAbs_dvd_natAbs.1 (by simpa using ⟨k, hk⟩))
  rw [h0, Int.zero_mul] at h1
  exact hx h1.symm
theorem quo_nat {x : Int} {d : Nat} (hd : 2 ≤ d) (h : inR x = true) : quoI x (d : Int) = some (x.tdiv d) := by
  have := (tdiv_rng hd h).2
  unfold quoI
  rw [decide_eq_false (by omega), cond_false, w64_eq (by omega)]
def quos (xs : List Int) (d : Nat) : List Int := xs.map fun x => x.tdiv d
def flo (c : Int) (d : Nat) : Int := if c.tmod d < 0 then c.tdiv d - 1 else c.tdiv d
theorem flo_rng {c : Int} {d : Nat} (hd : 2 ≤ d) (h : inR c = true) : inR (flo c d) = true := by
  have := (tdiv_rng hd h).2
  unfold flo
  split <;> exact inR_iff.2 (by omega)
theorem trim_id {xs : List Int} (h : lastOK xs = true) : trim xs = xs := by
  unfold trim
  cases hn : xs.length with
  | zero => rw [List.length_eq_zero_iff.1 hn]; rfl
  | succ n =>
    have hl : xs.getLast? = xs[n]? := by rw [List.getLast?_eq_getElem?, hn]; rfl
    have hx : xs[n]? = some xs[n] := by simp
    unfold lastOK at h
    rw [hl, hx] at h
    simp at h
    unfold tl
    rw [if_neg (by rw [hx]; simpa using h), ← hn, List.take_length]
theorem quos_last {xs : List Int} {d : Nat} (hd : 0 < d) (h : lastOK xs = true) (hv : ∀ x ∈ xs, d ∣ x.natAbs) : lastOK (quos xs d) = true := by
  unfold lastOK quos at *
  rw [List.getLast?_map]
  cases hx : xs.getLast? with
  | none => rfl
  | some x =>
    rw [hx] at h
    simp at h
    have := tdiv_ne hd h (hv x (List.mem_of_getLast? hx))
    simpa using this
theorem vT_last {t : Term} (h : vT t = true) : lastOK t.Coeffs = true := by simp [vT] at h; exact h.1.2
theorem tight_valid {t : Term} (h : vT t = true) (hd : 2 ≤ gcdL t.Coeffs) : vT (Term.mk (flo t.Const (gcdL t.Coeffs)) (quos t.Coeffs (gcdL t.Coeffs))) = true := by
  have h1 := vT_len h
  have h2 := quos_last (d := gcdL t.Coeffs) (by omega) (vT_last h) (fun x hx => gcdL_dvd hx)
  have h3 := flo_rng hd (vT_const h)
  have h4 : (quos t.Coeffs (gcdL t.Coeffs)).all inR = true := by
    rw [List.all_eq_true]
    intro y hy
    obtain ⟨x, hx, rfl⟩ := List.mem_map.1 hy
    exact (tdiv_rng hd (vT_coef h x hx)).1
  unfold vT
  rw [h2, h3, h4]
  simp [quos, h1]
def fTight (t : Term) : Term × Bool :=
  bif vT t && decide (2 ≤ gcdL t.Coeffs) then (Term.mk (flo t.Const (gcdL t.Coeffs)) (quos t.Coeffs (gcdL t.Coeffs)), true) else (Term.mk 0 [], false)
theorem spec_quos {t : Term} {d : Nat} (hd : 2 ≤ d) (h : ∀ x ∈ t.Coeffs, inR x = true) (hl : t.Coeffs.length ≤ 1048576) : iter (m_spec_l02Tight_L0 t (d : Int)) ([], 0) = some (quos t.Coeffs d) := by
  have h2 := iter_for (step := m_spec_l02Tight_L0 t (d : Int)) t.Coeffs (fun n (s : List Int) => (s, (n : Int))) (fun n x s => (capI (s.length + 1) 8).bind fun _ => some (.next (s ++ [x.tdiv d]))) (fun s => s)
    (fun n x s hx => by
      unfold m_spec_l02Tight_L0
      simp only
      rw [dec_lt (get_lt hx), cond_true, getI_some hx, Option.bind_some, quo_nat hd (h x (List.mem_of_getElem? hx)), Option.bind_some]
      simp only [List.length_cons, List.length_nil, Nat.zero_add]
      cases capI (s.length + 1) 8 with
      | none => rfl
      | some u => simp only [Option.bind_some]; rw [w64_succ (by have := get_lt hx; omega)]; rfl)
    (fun r => by unfold m_spec_l02Tight_L0; simp only; rw [dec_self]; rfl) []
  rw [forL_fold (fun s x => s ++ [x.tdiv d]) (fun k s => s.length = k) t.Coeffs 0 [] rfl (fun n x s hx hs => by
    have := get_lt hx
    rw [capI_some (by omega), Option.bind_some]
    exact ⟨rfl, by simp [hs]⟩)] at h2
  rw [show (([] : List Int), (0 : Int)) = ([], ((0 : Nat) : Int)) from rfl, h2]
  congr 1
  have : ∀ (xs s : List Int), xs.foldl (fun s x => s ++ [x.tdiv d]) s = s ++ xs.map fun x => x.tdiv d := by
    intro xs
    induction xs with
    | nil => intro s; simp
    | cons x r ih => intro s; simp [ih]
  exact this t.Coeffs []
theorem impl_quos {t : Term} {d : Nat} (hd : 2 ≤ d) (h : ∀ x ∈ t.Coeffs, inR x = true) (hl : t.Coeffs.length ≤ 1048576) : iter (m_impl_Term_tightened_L0 (d : Int) t) (t.Coeffs, 0) = some (quos t.Coeffs d) := by
  have key : ∀ (m n : Nat), n + m = t.Coeffs.length → iter (m_impl_Term_tightened_L0 (d : Int) t) (quos (t.Coeffs.take n) d ++ t.Coeffs.drop n, (n : Int)) = some (quos t.Coeffs d) := by
    intro m
    induction m with
    | zero =>
      intro n hn
      obtain rfl : n = t.Coeffs.length := by omega
      rw [iter_out (t := quos t.Coeffs d)]
      unfold m_impl_Term_tightened_L0
      simp only
      rw [dec_self, cond_false]
      simp
    | succ m ih =>
      intro n hn
      have hlt : n < t.Coeffs.length := by omega
      have hx : t.Coeffs[n]? = some t.Coeffs[n] := by simp
      have hql : (quos (t.Coeffs.take n) d).length = n := by unfold quos; simp; omega
      have hg : (quos (t.Coeffs.take n) d ++ t.Coeffs.drop n)[n]? = some t.Coeffs[n] := by
        rw [List.getElem?_append_right (by omega), hql, Nat.sub_self]; simp
      rw [iter_next (s' := (quos (t.Coeffs.take (n + 1)) d ++ t.Coeffs.drop (n + 1), ((n + 1 : Nat) : Int)))]
      · exact ih (n + 1) (by omega)
      · unfold m_impl_Term_tightened_L0
        simp only
        rw [dec_lt hlt, cond_true, getI_some hg, Option.bind_some, quo_nat hd (h _ (List.mem_of_getElem? hx)), Option.bind_some, w64_succ (by omega), Int.toNat_natCast]
        congr 3
        rw [List.set_append_right _ _ (by omega), hql, Nat.sub_self, List.drop_eq_getElem_cons hlt, List.set_cons_zero, List.take_add_one, hx, Option.toList_some, show ∀ ys, quos (ys ++ [t.Coeffs[n]]) d = quos ys d ++ [t.Coeffs[n].tdiv d] by intro ys; simp [quos], List.append_assoc]
        rfl
  have := key t.Coeffs.length 0 (by omega)
  simpa [quos] using this
def Src (s : l00Src) (k : Nat) : Prop := (∀ x ∈ s.code, 0 ≤ x ∧ x ≤ 255) ∧ s.code.length ≤ 1048576 ∧ 0 ≤ s.at_ ∧ s.at_ ≤ k
theorem Src.mono {s : l00Src} {k k' : Nat} (h : Src s k) (hk : k ≤ k') : Src s k' := ⟨h.1, h.2.1, h.2.2.1, by have := h.2.2.2; omega⟩
theorem tl_last {xs : List Int} : ∀ n, n ≤ xs.length → lastOK (xs.take (tl xs n)) = true := by
  intro n
  induction n with
  | zero => intro _; rfl
  | succ n ih =>
    intro hn
    unfold tl
    split
    · exact ih (by omega)
    · rename_i h
      have hx : xs[n]? = some xs[n] := by simp
      unfold lastOK
      rw [List.getLast?_eq_getElem?]
      have hl : (xs.take (n + 1)).length = n + 1 := by simp; omega
      rw [hl, show n + 1 - 1 = n from rfl, List.getElem?_take, if_pos (by omega), hx]
      rw [hx] at h
      simpa using h
theorem trim_last (xs : List Int) : lastOK (trim xs) = true := tl_last _ (Nat.le_refl _)
theorem tl_zero {xs : List Int} : ∀ n, n ≤ xs.length → ∀ i, tl xs n ≤ i → i < n → coef xs i = 0 := by
  intro n
  induction n with
  | zero => intro _ i _ h; omega
  | succ n ih =>
    intro hn i h1 h2
    unfold tl at h1
    split at h1
    · rename_i h
      by_cases hi : i = n
      · subst hi; exact coef_get h
      · exact ih (by omega) i h1 (by omega)
    · omega
theorem trim_coef (xs : List Int) (i : Nat) : coef (trim xs) i = coef xs i := by
  unfold trim
  by_cases h : i < tl xs xs.length
  · unfold coef; rw [List.getElem?_take, if_pos h]
  · rw [coef_no (by simp; omega)]
    by_cases h2 : i < xs.length
    · rw [tl_zero xs.length (Nat.le_refl _) i (by omega) h2]
    · rw [coef_no (by omega)]
theorem last_coef {xs : List Int} (h : lastOK xs = true) (h0 : 0 < xs.length) : coef xs (xs.length - 1) ≠ 0 := by
  unfold lastOK at h
  rw [List.getLast?_eq_getElem?] at h
  have hx : xs[xs.length - 1]? = some (xs[xs.length - 1]'(by omega)) := by simp
  rw [hx] at h
  rw [coef_get hx]
  simpa using h
theorem coef_ext {xs ys : List Int} (hx : lastOK xs = true) (hy : lastOK ys = true) (h : ∀ i, coef xs i = coef ys i) : xs = ys := by
  have key : ∀ (xs ys : List Int), lastOK xs = true → (∀ i, coef xs i = coef ys i) → xs.length ≤ ys.length := by
    intro xs ys hx h
    apply Nat.le_of_not_lt
    intro hlt
    have := last_coef hx (by omega)
    rw [h, coef_no (by omega)] at this
    exact this rfl
  have hl : xs.length = ys.length := Nat.le_antisymm (key xs ys hx h) (key ys xs hy (fun i => (h i).symm))
  apply List.ext_getElem hl
  intro i h1 h2
  have := h i
  rw [coef_get (show xs[i]? = some xs[i] by simp), coef_get (show ys[i]? = some ys[i] by simp)] at this
  exact this
def val (t : Term) (v : List Int) : Int := t.Const + sumN (fun i => coef t.Coeffs i * coef v i) 10
def Vals (v : List Int) : Prop := v.length = 10 ∧ ∀ x ∈ v, -6 ≤ x ∧ x ≤ 6
theorem Vals.coef {v : List Int} (h : Vals v) (i : Nat) : -6 ≤ coef v i ∧ coef v i ≤ 6 := by
  unfold Mod.coef
  cases hx : v[i]? with
  | none => simp
  | some x => exact h.2 x (List.mem_of_getElem? hx)
structure Small (t : Term) : Prop where
  v : vT t = true
  c : -7 ≤ t.Const ∧ t.Const ≤ 7
  f : ∀ i, -4 ≤ coef t.Coeffs i ∧ coef t.Coeffs i ≤ 4
structure Fact (t : Term) (c : Nat) : Prop where
  v : vT t = true
  c : -(c : Int) ≤ t.Const ∧ t.Const ≤ c
  f : ∀ i, -3 ≤ coef t.Coeffs i ∧ coef t.Coeffs i ≤ 3
theorem Fact.mono {t : Term} {c c' : Nat} (h : Fact t c) (hc : c ≤ c') : Fact t c' := ⟨h.v, by have := h.c; omega, h.f⟩
def over (t : Term) : Bool := vT t && decide (t.Coeffs.length ≤ 4)
end Go.Mod

namespace Go.Mod
open Go.AM
set_option linter.unusedVariables false
set_option linter.unusedSimpArgs false
theorem spec_seq {s : Sequent} (hl : cSeq s ≤ 1048576) : m_spec_l02Sequent s = some (vSeq s) := by
  unfold cSeq at hl
  unfold m_spec_l02Sequent vSeq
  rw [show (13 : Int) = ((13 : Nat) : Int) from rfl, spec_all (by omega), Option.bind_some, spec_is (by omega)]
  cases s.Facts.all vT && decide (s.Facts.length ≤ 13) <;> rfl
theorem spec_context {s : Sequent} (hl : cSeq s ≤ 1048576) (hv : vSeq s = true) : m_spec_l02Context s = some (fCtx s) := by
  unfold cSeq at hl
  have hlen : s.Facts.length ≤ 1048576 := by have : s.Facts.length ≤ cTermS s.Facts := by { unfold cTermS; omega }; omega
  have h2 : vT s.Goal = true := by unfold vSeq at hv; simp only [Bool.and_eq_true] at hv; exact hv.2
  unfold m_spec_l02Context fCtx
  rw [hv, spec_opposite h2, Option.bind_some, spec_ownAll (by omega)]
  unfold chk
  cases h3 : vT (opp s.Goal) with
  | false => rfl
  | true =>
    simp only [cond_true, Bool.not_true, cond_false, Option.bind_some, Bool.true_and]
    rw [capI_some (by simp; omega)]; rfl
theorem trim_nil {xs : List Int} : trim xs = [] ↔ ∀ x ∈ xs, x = 0 := by
  constructor
  · intro h x hx
    obtain ⟨i, hi⟩ := List.getElem?_of_mem hx
    have := trim_coef xs i
    rw [h, coef_get hi] at this
    exact this.symm
  · intro h
    refine coef_ext (trim_last xs) rfl (fun i => ?_)
    rw [trim_coef]
    unfold coef
    cases hx : xs[i]? with
    | none => rfl
    | some x => rw [h x (List.mem_of_getElem? hx)]; rfl
def closesB (ts : List Term) (ms : List Int) : Bool := decide (ms.length = ts.length) && (decide (trim (tab fun i => lin ts ms (fun t => coef t.Coeffs i) ts.length) = []) && decide (lin ts ms Term.Const ts.length < 0))
theorem dec_eqN' {a b : Nat} : decide ((a : Int) = (b : Int)) = decide (a = b) := by by_cases h : a = b <;> simp [h]; omega
theorem impl_closes {ts : List Term} {ms : List Int} (h : Lin ts ms) : m_impl_closes ts ms = some (closesB ts ms) := by
  unfold m_impl_closes closesB
  rw [dec_eqN', decide_eq_true h.2.2.2, Bool.not_true, cond_false, impl_combined h, Option.bind_some, Bool.true_and]
  congr 2
  by_cases e : trim (tab fun i => lin ts ms (fun t => coef t.Coeffs i) ts.length) = []
  · rw [decide_eq_true e, e]; rfl
  · rw [decide_eq_false e]
    apply decide_eq_false
    intro h0
    exact e (List.length_eq_zero_iff.1 (by simp only at h0; omega))
theorem close_inner {m : Int} {t : Term} (hl : t.Coeffs.length ≤ 1048576) (s : List Int) :
    iter (m_spec_l05Closes_L1 m t) (s, 0) = forL (m_impl_combined_L1 m) (fun s1 => s1) 0 t.Coeffs s :=
  iter_for (step := m_spec_l05Closes_L1 m t) t.Coeffs (fun n (s : List Int) => (s, (n : Int))) (m_impl_combined_L1 m) (fun s1 => s1)
    (fun n x r hx => by
      unfold m_spec_l05Closes_L1 m_impl_combined_L1
      simp only
      rw [dec_lt (get_lt hx), cond_true]
      cases getI r (n : Int) with
      | none => rfl
      | some y =>
        simp only [Option.bind_some]
        rw [getI_some hx, Option.bind_some, w64_succ (by have := get_lt hx; omega)]; rfl)
    (fun r => by unfold m_spec_l05Closes_L1; simp only; rw [dec_self]; rfl) s
theorem close_loop {ts : List Term} {ms : List Int} (h1 : ∀ t ∈ ts, t.Coeffs.length ≤ 1048576) (h2 : ts.length ≤ 1048576) (s : Int × List Int) :
    iter (m_spec_l05Closes_L0 ts ms) (s.1, s.2, 0) = forL (m_impl_combined_L0 ms) (fun s0 => (s0.1, s0.2)) 0 ts s :=
  iter_for (step := m_spec_l05Closes_L0 ts ms) ts (fun n (s : Int × List Int) => (s.1, s.2, (n : Int))) (m_impl_combined_L0 ms) (fun s0 => (s0.1, s0.2))
    (fun n x r hx => by
      unfold m_spec_l05Closes_L0 m_impl_combined_L0
      simp only
      rw [dec_lt (get_lt hx), cond_true]
      cases getI ms (n : Int) with
      | none => rfl
      | some y =>
        simp only [Option.bind_some]
        rw [getI_some hx, Option.bind_some, close_inner (h1 x (List.mem_of_getElem? hx))]
        cases forL (m_impl_combined_L1 y) (fun s1 => s1) 0 x.Coeffs r.2 with
        | none => rfl
        | some u =>
          simp only [Option.bind_some]
          unfold m_spec_l05Closes_A1 m_impl_combined_A1
          simp only
          rw [w64_succ (by have := get_lt hx; omega)]; rfl)
    (fun r => by unfold m_spec_l05Closes_L0; simp only; rw [dec_self]; rfl) s
theorem zeros_ok (u : Int × List Int) (hl : u.2.length ≤ 1048576) : iter (m_spec_l05Closes_L2 u) 0 = some (bif u.2.all (fun x => decide (x = 0)) then .inl () else .inr false) := by
  have h := iter_for (step := m_spec_l05Closes_L2 u) u.2 (fun n (_ : Unit) => (n : Int)) (fun _ x _ => bif decide (x = 0) then some (.next ()) else some (.out (.inr false))) (fun _ => .inl ())
    (fun n x r hx => by
      unfold m_spec_l05Closes_L2
      rw [dec_lt (get_lt hx), cond_true, getI_some hx, Option.bind_some]
      have hw : w64 ((n : Int) + 1) = ((n + 1 : Nat) : Int) := w64_succ (by have := get_lt hx; omega)
      cases decide (x = 0)
      · rfl
      · rw [hw]; rfl)
    (fun r => by unfold m_spec_l05Closes_L2; rw [dec_self]; rfl) ()
  rw [forL_all (fun x => decide (x = 0)) _ _ (fun n x _ => rfl)] at h
  exact h
theorem spec_closes {ts : List Term} {ms : List Int} (h : Lin ts ms) : m_spec_l05Closes ts ms = some (closesB ts ms) := by
  unfold m_spec_l05Closes closesB
  rw [dec_eqN', decide_eq_true h.2.2.2, decide_eq_true h.2.2.2.symm, Bool.not_true, cond_false, show makeI 10 8 = some 10 from rfl, Option.bind_some, tab_zero,
    show iter (m_spec_l05Closes_L0 ts ms) (0, tab (fun _ => 0), 0) = _ from close_loop (fun t ht => by have := vT_len (h.1 t ht); omega) (by have := h.2.2.1; omega) (0, tab fun _ => 0),
    comb_loop h, Option.bind_some]
  unfold m_spec_l05Closes_A0
  rw [zeros_ok _ (by simp only [tab_len]; omega), Option.bind_some]
  have e : decide (trim (tab fun i => lin ts ms (fun t => coef t.Coeffs i) ts.length) = []) = (tab fun i => lin ts ms (fun t => coef t.Coeffs i) ts.length).all (fun x => decide (x = 0)) := by
    cases ha : (tab fun i => lin ts ms (fun t => coef t.Coeffs i) ts.length).all (fun x => decide (x = 0)) with
    | true => exact decide_eq_true (trim_nil.2 (fun x hx => of_decide_eq_true (List.all_eq_true.1 ha x hx)))
    | false =>
      apply decide_eq_false
      intro ht
      rw [List.all_eq_true.2 (fun x hx => decide_eq_true (trim_nil.1 ht x hx))] at ha
      cases ha
  rw [e]
  cases (tab fun i => lin ts ms (fun t => coef t.Coeffs i) ts.length).all (fun x => decide (x = 0)) <;> rfl
end Go.Mod

namespace Go.Mod
open Go.AM
set_option linter.unusedVariables false
set_option linter.unusedSimpArgs false
end Go.Mod

namespace Go.Mod
open Go.AM
set_option linter.unusedVariables false
set_option linter.unusedSimpArgs false
end Go.Mod

namespace Go.Mod
open Go.AM
set_option linter.unusedVariables false
set_option linter.unusedSimpArgs false
theorem ctx_lin {s : Sequent} (h : (fCtx s).2 = true) : vSeq s = true ∧ (fCtx s).1 = s.Facts ++ [opp s.Goal] ∧ s.Facts.length ≤ 13 ∧ ∀ t ∈ (fCtx s).1, vT t = true := by
  unfold fCtx at h ⊢
  cases hv : vSeq s && vT (opp s.Goal) with
  | false => rw [hv] at h; cases h
  | true =>
    simp only [Bool.and_eq_true] at hv
    have h1 := hv.1
    simp only [vSeq, Bool.and_eq_true, List.all_eq_true, decide_eq_true_eq] at h1
    refine ⟨hv.1, rfl, h1.1.2, fun t ht => ?_⟩
    simp only [cond_true, List.mem_append, List.mem_singleton] at ht
    rcases ht with ht | rfl
    · exact h1.1.1 t ht
    · exact hv.2
end Go.Mod

namespace Go.Mod
open Go.AM
set_option linter.unusedVariables false
set_option linter.unusedSimpArgs false
def zT (t : Term) : Bool := decide (t.Const = 0) && decide (t.Coeffs.length = 0)
def okMs (ms : List Int) : Bool := ms.all (fun m => decide (0 ≤ m) && decide (m ≤ 1000000)) && decide (ms.length ≤ 20)
def ar (x : Node) : Option Nat :=
  bif decide (x.Kind = 1) then (bif decide (x.Fact = 0) && zT x.Term && okMs x.Multipliers then some 0 else none)
  else bif decide (x.Kind = 2) then (bif decide (x.Fact = 0) && decide (x.Multipliers.length = 0) && vT x.Term then some 2 else none)
  else bif decide (x.Kind = 3) then (bif (decide (0 ≤ x.Fact) && decide (x.Fact ≤ 19)) && zT x.Term && decide (x.Multipliers.length = 0) then some 1 else none)
  else none
def arI : Option Nat → Int
  | some n => n
  | none => -1
theorem ar_le {x : Node} {n : Nat} (h : ar x = some n) : n ≤ 2 := by
  unfold ar at h
  revert h
  cases decide (x.Kind = 1) with
  | true => rw [cond_true]; cases decide (x.Fact = 0) && zT x.Term && okMs x.Multipliers <;> intro h <;> cases h; omega
  | false =>
    rw [cond_false]
    cases decide (x.Kind = 2) with
    | true => rw [cond_true]; cases decide (x.Fact = 0) && decide (x.Multipliers.length = 0) && vT x.Term <;> intro h <;> cases h; omega
    | false =>
      rw [cond_false]
      cases decide (x.Kind = 3) with
      | true => rw [cond_true]; cases (decide (0 ≤ x.Fact) && decide (x.Fact ≤ 19)) && zT x.Term && decide (x.Multipliers.length = 0) <;> intro h <;> cases h; omega
      | false => intro h; cases h
theorem dec_len0 {α : Type} (xs : List α) : decide ((xs.length : Int) = 0) = decide (xs.length = 0) := by
  by_cases h : xs.length = 0
  · rw [decide_eq_true h, decide_eq_true (by omega)]
  · rw [decide_eq_false h, decide_eq_false (by omega)]
theorem dec_len20 {α : Type} (xs : List α) : decide ((xs.length : Int) ≤ 20) = decide (xs.length ≤ 20) := by
  by_cases h : xs.length ≤ 20
  · rw [decide_eq_true h, decide_eq_true (by omega)]
  · rw [decide_eq_false h, decide_eq_false (by omega)]
theorem impl_zero (t : Term) : m_impl_Term_isZero t = some (zT t) := by unfold m_impl_Term_isZero zT; rw [dec_len0]
theorem spec_zero (t : Term) : m_spec_l05Zero t = some (zT t) := by unfold m_spec_l05Zero zT; rw [dec_len0]
theorem impl_sub (x : Node) : m_impl_subproofs x = some (arI (ar x)) := by
  unfold m_impl_subproofs ar
  rw [impl_zero, Option.bind_some]
  cases decide (x.Kind = 1) with
  | true =>
    rw [cond_true, cond_true, impl_all, Option.bind_some, dec_len20]
    unfold okMs
    cases decide (x.Fact = 0) <;> cases zT x.Term <;> cases decide (x.Multipliers.length ≤ 20) <;> cases x.Multipliers.all (fun m => decide (0 ≤ m) && decide (m ≤ 1000000)) <;> rfl
  | false =>
    rw [cond_false, cond_false]
    cases decide (x.Kind = 2) with
    | true =>
      rw [cond_true, cond_true, impl_valid, Option.bind_some, dec_len0]
      cases decide (x.Fact = 0) <;> cases decide (x.Multipliers.length = 0) <;> cases vT x.Term <;> rfl
    | false =>
      rw [cond_false, cond_false]
      cases decide (x.Kind = 3) with
      | true =>
        rw [cond_true, cond_true, show m_impl_within x.Fact 0 19 = some (decide (0 ≤ x.Fact) && decide (x.Fact ≤ 19)) from rfl, Option.bind_some, dec_len0]
        cases (decide (0 ≤ x.Fact) && decide (x.Fact ≤ 19)) <;> cases zT x.Term <;> cases decide (x.Multipliers.length = 0) <;> rfl
      | false => rfl
theorem spec_mults {ms : List Int} (hl : ms.length ≤ 1048576) : m_spec_l05Multipliers ms = some (okMs ms) := by
  have h := iter_for (step := m_spec_l05Multipliers_L0 ms) ms (fun n (_ : Unit) => (n : Int)) (fun _ x _ => bif decide (0 ≤ x) && decide (x ≤ 1000000) then some (.next ()) else some (.out (.inr false))) (fun _ => .inl ())
    (fun n x r hx => by
      have hn := get_lt hx
      unfold m_spec_l05Multipliers_L0
      rw [dec_lt hn, cond_true, getI_some hx, Option.bind_some, show m_spec_l00In x 0 1000000 = some (decide (0 ≤ x) && decide (x ≤ 1000000)) from rfl, Option.bind_some, w64_succ (by omega)]
      cases decide (0 ≤ x) && decide (x ≤ 1000000) <;> rfl)
    (fun r => by unfold m_spec_l05Multipliers_L0; rw [dec_self]; rfl) ()
  unfold m_spec_l05Multipliers
  rw [show (0 : Int) = ((0 : Nat) : Int) from rfl, h, forL_all (fun x => decide (0 ≤ x) && decide (x ≤ 1000000)) ms 0 (fun _ _ _ => rfl), Option.bind_some]
  unfold okMs m_spec_l05Multipliers_A0
  cases ms.all (fun x => decide (0 ≤ x) && decide (x ≤ 1000000)) with
  | true => simp only [cond_true, Bool.true_and, dec_len20]
  | false => rfl
theorem spec_node {x : Node} (h1 : x.Term.Coeffs.length ≤ 1048576) (h2 : x.Multipliers.length ≤ 1048576) : m_spec_l05Node x = some (ar x).isSome := by
  unfold m_spec_l05Node ar
  cases decide (x.Kind = 1) with
  | true =>
    rw [cond_true, cond_true, spec_zero, Option.bind_some, spec_mults h2, Option.bind_some]
    cases decide (x.Fact = 0) <;> cases zT x.Term <;> cases okMs x.Multipliers <;> rfl
  | false =>
    rw [cond_false, cond_false]
    cases decide (x.Kind = 2) with
    | true =>
      rw [cond_true, cond_true, spec_is h1, Option.bind_some, dec_len0]
      cases decide (x.Fact = 0) <;> cases decide (x.Multipliers.length = 0) <;> cases vT x.Term <;> rfl
    | false =>
      rw [cond_false, cond_false]
      cases decide (x.Kind = 3) with
      | true =>
        rw [cond_true, cond_true, show m_spec_l00In x.Fact 0 19 = some (decide (0 ≤ x.Fact) && decide (x.Fact ≤ 19)) from rfl, Option.bind_some, spec_zero, Option.bind_some, dec_len0]
        cases (decide (0 ≤ x.Fact) && decide (x.Fact ≤ 19)) <;> cases zT x.Term <;> cases decide (x.Multipliers.length = 0) <;> rfl
      | false => rfl
def goL : List Node → Nat → Option (List Node)
  | p, 0 => some p
  | [], _ + 1 => none
  | x :: r, n + 1 => (ar x).bind fun a => goL r (n + a)
theorem goL_zero (p : List Node) : goL p 0 = some p := by cases p <;> rfl
theorem goL_add : ∀ (p : List Node) (a b : Nat), goL p (a + b) = (goL p a).bind fun r => goL r b := by
  intro p
  induction p with
  | nil =>
    intro a b
    cases a with
    | zero => rw [Nat.zero_add, goL_zero, Option.bind_some]
    | succ a => rw [show a + 1 + b = (a + b) + 1 by omega]; rfl
  | cons x r ih =>
    intro a b
    cases a with
    | zero => rw [Nat.zero_add, goL_zero, Option.bind_some]
    | succ a =>
      rw [show a + 1 + b = (a + b) + 1 by omega]
      show (ar x).bind (fun c => goL r (a + b + c)) = ((ar x).bind fun c => goL r (a + c)).bind fun r => goL r b
      cases ar x with
      | none => rfl
      | some c => simp only [Option.bind_some]; rw [show a + b + c = (a + c) + b by omega]; exact ih _ _
theorem goL_pre : ∀ (p : List Node) (n : Nat) {r : List Node}, goL p n = some r → ∃ q, p = q ++ r ∧ (∀ x ∈ q, (ar x).isSome = true) ∧ (0 < n → q ≠ []) := by
  intro p
  induction p with
  | nil =>
    intro n r h
    cases n with
    | zero => cases h; exact ⟨[], rfl, by simp, by omega⟩
    | succ n => cases h
  | cons x r ih =>
    intro n s h
    cases n with
    | zero => cases h; exact ⟨[], rfl, by simp, by omega⟩
    | succ n =>
      unfold goL at h
      cases ha : ar x with
      | none => rw [ha] at h; cases h
      | some a =>
        rw [ha, Option.bind_some] at h
        obtain ⟨q, rfl, h1, _⟩ := ih _ h
        refine ⟨x :: q, rfl, ?_, by simp⟩
        intro y hy
        rcases List.mem_cons.1 hy with rfl | hy
        · rw [ha]; rfl
        · exact h1 y hy
theorem goL_len {p r : List Node} {n : Nat} (h : goL p n = some r) : r.length + min n 1 ≤ p.length := by
  obtain ⟨q, rfl, _, h2⟩ := goL_pre p n h
  rw [List.length_append]
  cases n with
  | zero => simp
  | succ n =>
    have := List.length_pos_iff.2 (h2 (by omega))
    omega
theorem goL_drop {p r : List Node} {n : Nat} (h : goL p n = some r) : r = p.drop (p.length - r.length) := by
  obtain ⟨q, rfl, _, _⟩ := goL_pre p n h
  rw [List.length_append, Nat.add_sub_cancel, List.drop_left]
section
variable {p : List Node}
theorem sub1 {n : Nat} (h : n ≤ 3) : w64 (((n + 1 : Nat) : Int) - 1) = (n : Int) := by rw [w64_eq (by omega)]; omega
theorem behind_ok (hl : p.length ≤ 1048576) : ∀ (fu k : Nat), k ≤ p.length → p.length - k < fu →
    ∃ d : Nat, d ≤ p.length - k ∧ m_impl_behindProof fu p (k : Int) = some (match goL (p.drop k) 1 with | some r => (((p.length - r.length : Nat) : Int), (d : Int), true) | none => (0, 0, false)) := by
  intro fu
  induction fu with
  | zero => intro k _ h; omega
  | succ fu ih =>
    intro k hk hf
    have loop : ∀ (b c k d : Nat), b ≤ k → k ≤ p.length → c ≤ 2 → d ≤ p.length - b → p.length - k < fu → ∃ d' : Nat, d' ≤ p.length - b ∧
        iter (m_impl_behindProof_F_L0 (m_impl_behindProof fu) p) ((k : Int), (c : Int), (d : Int)) = some (match goL (p.drop k) c with | some r => .inl (((p.length - r.length : Nat) : Int), (d' : Int)) | none => .inr (0, 0, false)) := by
      intro b c
      induction c with
      | zero =>
        intro k d hb hk hc hd hf
        refine ⟨d, hd, ?_⟩
        rw [goL_zero, iter_out (t := .inl ((k : Int), (d : Int)))]
        · simp only [List.length_drop]; rw [show p.length - (p.length - k) = k by omega]
        · rfl
      | succ c ihc =>
        intro k d hb hk hc hd hf
        obtain ⟨d1, hd1, e1⟩ := ih k hk hf
        rw [show c + 1 = 1 + c by omega, goL_add]
        have hstep : ∀ y, m_impl_behindProof fu p (k : Int) = some y → m_impl_behindProof_F_L0 (m_impl_behindProof fu) p ((k : Int), ((1 + c : Nat) : Int), (d : Int)) = (bif !y.2.2 then some (.out (.inr ((0 : Int), (0 : Int), false))) else some (.next (y.1, (c : Int), max (d : Int) y.2.1))) := by
          intro y hy
          unfold m_impl_behindProof_F_L0
          simp only
          rw [decide_eq_true (by omega), cond_true, hy, Option.bind_some, show 1 + c = c + 1 by omega, sub1 (by omega)]
        cases hg : goL (p.drop k) 1 with
        | none =>
          rw [hg] at e1
          exact ⟨0, by omega, iter_out (hstep _ e1)⟩
        | some r =>
          rw [hg] at e1
          have h1 := goL_len hg
          have h2 := goL_drop hg
          simp only [List.length_drop, Nat.min_self] at h1
          rw [List.drop_drop, List.length_drop] at h2
          have hlt : k < p.length := by omega
          have h3 : m_impl_behindProof_F_L0 (m_impl_behindProof fu) p ((k : Int), ((1 + c : Nat) : Int), (d : Int)) = some (.next (((p.length - r.length : Nat) : Int), (c : Int), ((max d d1 : Nat) : Int))) := by
            rw [hstep _ e1]
            simp only [Bool.not_true, cond_false]
            rw [show max (d : Int) (d1 : Int) = ((max d d1 : Nat) : Int) by omega]
          rw [iter_next h3, Option.bind_some]
          obtain ⟨d', hd', e2⟩ := ihc (p.length - r.length) (max d d1) (by omega) (by omega) (by omega) (by omega) (by omega)
          refine ⟨d', hd', ?_⟩
          rw [e2, ← show r = p.drop (p.length - r.length) from h2.trans (by congr 1; omega)]
    unfold m_impl_behindProof m_impl_behindProof_F
    by_cases h : p.length ≤ k
    · refine ⟨0, by omega, ?_⟩
      rw [decide_eq_true (by omega), cond_true, List.drop_eq_nil_iff.2 h]; rfl
    · have hlt : k < p.length := by omega
      rw [decide_eq_false (by omega), cond_false, getI_some (List.getElem?_eq_getElem hlt), Option.bind_some, impl_sub, Option.bind_some, List.drop_eq_getElem_cons hlt]
      unfold goL
      cases ha : ar p[k] with
      | none => exact ⟨0, by omega, rfl⟩
      | some a =>
        have ha2 := ar_le ha
        obtain ⟨d', h1, h2⟩ := loop (k + 1) a (k + 1) 0 (Nat.le_refl _) (by omega) ha2 (by omega) (by omega)
        refine ⟨d' + 1, by omega, ?_⟩
        unfold arI
        simp only [Option.bind_some, Nat.zero_add]
        rw [dec_neg, cond_false, w64_succ (by omega)]
        rw [show ((0 : Nat) : Int) = (0 : Int) from rfl] at h2
        rw [h2, Option.bind_some]
        unfold m_impl_behindProof_F_A0
        cases goL (p.drop (k + 1)) a with
        | none => rfl
        | some r => simp only; rw [w64_succ (by omega)]
end
def isP (p : List Node) : Bool := decide (p.length ≤ 60) && (match goL p 1 with | some [] => true | _ => false)
theorem impl_isP (p : List Node) : m_impl_IsProof p = some (isP p) := by
  unfold m_impl_IsProof isP
  by_cases h : p.length ≤ 60
  · rw [decide_eq_false (by omega), cond_false, decide_eq_true h, Bool.true_and]
    obtain ⟨d, _, e⟩ := behind_ok (p := p) (by omega) 1000 0 (by omega) (by omega)
    rw [show ((0 : Nat) : Int) = (0 : Int) from rfl] at e
    rw [e, List.drop_zero, Option.bind_some]
    cases hg : goL p 1 with
    | none => rfl
    | some r =>
      have := goL_len hg
      cases r with
      | nil => simp only [List.length_nil, Nat.sub_zero, decide_true, Bool.and_self]
      | cons x r => simp only [Bool.true_and]; rw [decide_eq_false (by simp at this; simp; omega)]
  · rw [decide_eq_true (by omega), cond_true, decide_eq_false h]; rfl
theorem spec_end_step {p : List Node} {k need : Nat} {x : Node} {a : Nat} (hx : p[k]? = some x) (ha : ar x = some a) (hl : p.length ≤ 1048576) (hn : need ≤ 1048576) :
    m_spec_l05End_L0 p ((k : Int), ((need + 1 : Nat) : Int)) = some (.next (((k + 1 : Nat) : Int), ((need + a : Nat) : Int))) := by
  have hk := get_lt hx
  unfold m_spec_l05End_L0
  simp only
  rw [decide_eq_true (by omega), cond_true, decide_eq_false (by omega), cond_false, getI_some hx, Option.bind_some]
  have w1 : w64 ((k : Int) + 1) = ((k + 1 : Nat) : Int) := w64_succ (by omega)
  rw [w1]
  clear w1
  unfold ar at ha
  revert ha
  cases decide (x.Kind = 1) with
  | true =>
    rw [cond_true, cond_true]
    cases decide (x.Fact = 0) && zT x.Term && okMs x.Multipliers <;> intro ha <;> cases ha
    have w2 : w64 (((need + 1 : Nat) : Int) - 1) = (need : Int) := by rw [w64_eq (by omega)]; omega
    rw [w2]; rfl
  | false =>
    rw [cond_false, cond_false]
    cases decide (x.Kind = 2) with
    | true =>
      rw [cond_true, cond_true]
      cases decide (x.Fact = 0) && decide (x.Multipliers.length = 0) && vT x.Term <;> intro ha <;> cases ha
      have w2 : w64 (((need + 1 : Nat) : Int) + 1) = ((need + 2 : Nat) : Int) := w64_succ (by omega)
      rw [w2]
    | false =>
      rw [cond_false, cond_false]
      cases decide (x.Kind = 3) with
      | true =>
        rw [cond_true]
        cases (decide (0 ≤ x.Fact) && decide (x.Fact ≤ 19)) && zT x.Term && decide (x.Multipliers.length = 0) <;> intro ha <;> cases ha
        rfl
      | false => intro ha; cases ha
theorem spec_end {p : List Node} (hl : p.length ≤ 60) (hv : ∀ x ∈ p, (ar x).isSome = true) : ∀ (q k need : Nat), k + q = p.length → need + 2 * q ≤ 1000 →
    iter (m_spec_l05End_L0 p) ((k : Int), (need : Int)) = some (match goL (p.drop k) need with | some r => .inl ((p.length - r.length : Nat) : Int) | none => .inr (-1)) := by
  intro q
  induction q with
  | zero =>
    intro k need hk hn
    obtain rfl : k = p.length := by omega
    rw [List.drop_length]
    cases need with
    | zero => rw [goL_zero]; exact iter_out rfl
    | succ n =>
      exact iter_out (by unfold m_spec_l05End_L0; simp only; rw [decide_eq_true (by omega), cond_true, decide_true]; rfl)
  | succ q ih =>
    intro k need hk hn
    have hlt : k < p.length := by omega
    cases need with
    | zero =>
      rw [goL_zero, iter_out (t := .inl (k : Int)) rfl]
      simp only [List.length_drop]
      rw [show p.length - (p.length - k) = k by omega]
    | succ n =>
      obtain ⟨a, ha⟩ := Option.isSome_iff_exists.1 (hv _ (List.getElem_mem hlt))
      have ha2 := ar_le ha
      rw [iter_next (spec_end_step (List.getElem?_eq_getElem hlt) ha (by omega) (by omega)), ih (k + 1) (n + a) (by omega) (by omega), List.drop_eq_getElem_cons hlt]
      have e : goL (p[k] :: p.drop (k + 1)) (n + 1) = (ar p[k]).bind fun a => goL (p.drop (k + 1)) (n + a) := rfl
      rw [e, ha, Option.bind_some]
theorem spec_l05End {p : List Node} (hl : p.length ≤ 60) (hv : ∀ x ∈ p, (ar x).isSome = true) {k : Nat} (hk : k ≤ p.length) :
    m_spec_l05End p (k : Int) = some (match goL (p.drop k) 1 with | some r => ((p.length - r.length : Nat) : Int) | none => -1) := by
  unfold m_spec_l05End
  rw [show (1 : Int) = ((1 : Nat) : Int) from rfl, spec_end hl hv (p.length - k) k 1 (by omega) (by omega), Option.bind_some]
  unfold m_spec_l05End_A0
  cases goL (p.drop k) 1 <;> rfl
theorem spec_isP {p : List Node} (hc : pc_NodeS p ≤ 1048576) : m_spec_l05Is p = some (isP p) := by
  have hl : p.length ≤ 1048576 := Nat.le_trans pc_NodeS_len hc
  have h := iter_for (step := m_spec_l05Is_L0 p) p (fun n (_ : Unit) => (n : Int)) (fun _ x _ => bif (ar x).isSome then some (.next ()) else some (.out (.inr false))) (fun _ => .inl ())
    (fun n x r hx => by
      have hn := get_lt hx
      have hm := pc_NodeS_mem (List.mem_of_getElem? hx)
      unfold pc_Node pc_Term pc_Int64S at hm
      unfold m_spec_l05Is_L0
      rw [dec_lt hn, cond_true, getI_some hx, Option.bind_some, spec_node (by omega) (by omega), Option.bind_some, w64_succ (by omega)]
      cases (ar x).isSome <;> rfl)
    (fun r => by unfold m_spec_l05Is_L0; rw [dec_self]; rfl) ()
  unfold m_spec_l05Is isP
  rw [show m_spec_l00In (p.length : Int) 1 60 = some (decide (1 ≤ (p.length : Int)) && decide ((p.length : Int) ≤ 60)) from rfl, Option.bind_some]
  by_cases h60 : p.length ≤ 60
  · by_cases h1 : 1 ≤ p.length
    · rw [decide_eq_true (by omega), decide_eq_true (by omega), Bool.true_and, Bool.not_true, cond_false, decide_eq_true h60, Bool.true_and]
      rw [show (0 : Int) = ((0 : Nat) : Int) from rfl, h, forL_all (fun x => (ar x).isSome) p 0 (fun _ _ _ => rfl), Option.bind_some]
      cases hv : p.all (fun x => (ar x).isSome) with
      | true =>
        rw [cond_true]
        unfold m_spec_l05Is_A0
        simp only
        rw [show (0 : Int) = ((0 : Nat) : Int) from rfl, spec_l05End h60 (by simpa using hv) (Nat.zero_le _), Option.bind_some, List.drop_zero]
        cases hg : goL p 1 with
        | none => simp only; rw [decide_eq_false (by omega)]
        | some r =>
          have := goL_len hg
          cases r with
          | nil => simp only [List.length_nil, Nat.sub_zero, decide_true]
          | cons x r => simp only; rw [decide_eq_false (by simp at this; simp; omega)]
      | false =>
        rw [cond_false]
        unfold m_spec_l05Is_A0
        simp only
        cases hg : goL p 1 with
        | none => rfl
        | some r =>
          obtain ⟨q, hq, h2, _⟩ := goL_pre p 1 hg
          cases r with
          | cons x r => rfl
          | nil =>
            rw [List.append_nil] at hq
            subst hq
            have : p.all (fun x => (ar x).isSome) = true := by simpa using h2
            rw [this] at hv; cases hv
    · have : p = [] := List.eq_nil_of_length_eq_zero (by omega)
      subst this
      rfl
  · rw [decide_eq_false (p := (p.length : Int) ≤ 60) (by omega), Bool.and_false, decide_eq_false h60]; rfl
theorem goL_at : ∀ (p : List Node) (n k : Nat), goL p n = some [] → k < p.length → ∃ m, goL (p.drop k) (m + 1) = some [] := by
  intro p
  induction p with
  | nil => intro n k _ h; simp at h
  | cons x r ih =>
    intro n k h hk
    cases n with
    | zero => cases h
    | succ n =>
      cases k with
      | zero => exact ⟨n, h⟩
      | succ k =>
        rw [show goL (x :: r) (n + 1) = (ar x).bind (fun a => goL r (n + a)) from rfl] at h
        cases ha : ar x with
        | none => rw [ha] at h; cases h
        | some a =>
          rw [ha, Option.bind_some] at h
          exact ih _ k h (by simpa using hk)
theorem isP_iff {p : List Node} : isP p = true ↔ p.length ≤ 60 ∧ goL p 1 = some [] := by
  unfold isP
  rw [Bool.and_eq_true, decide_eq_true_eq]
  cases hg : goL p 1 with
  | none => simp
  | some r => cases r <;> simp
theorem isP_sub {p : List Node} (h : isP p = true) {k : Nat} (hk : k < p.length) : ∃ r, goL (p.drop k) 1 = some r := by
  obtain ⟨_, h1⟩ := isP_iff.1 h
  obtain ⟨m, h2⟩ := goL_at p 1 k h1 hk
  rw [show m + 1 = 1 + m by omega, goL_add] at h2
  cases hg : goL (p.drop k) 1 with
  | none => rw [hg] at h2; cases h2
  | some r => exact ⟨r, rfl⟩
theorem isP_valid {p : List Node} (h : isP p = true) : ∀ x ∈ p, (ar x).isSome = true := by
  obtain ⟨_, h1⟩ := isP_iff.1 h
  obtain ⟨q, hq, h2, _⟩ := goL_pre p 1 h1
  rw [List.append_nil] at hq
  subst hq
  exact h2
end Go.Mod

namespace Go.Mod
open Go.AM
set_option linter.unusedVariables false
set_option linter.unusedSimpArgs false
end Go.Mod

namespace Go.Mod
open Go.AM
set_option linter.unusedVariables false
set_option linter.unusedSimpArgs false
theorem goL_in : ∀ (p : List Node) (n i : Nat) {r : List Node}, goL p n = some r → i < p.length - r.length → ∃ m, goL (p.drop i) (m + 1) = some r := by
  intro p
  induction p with
  | nil => intro n i r _ h; simp at h
  | cons x s ih =>
    intro n i r h hi
    cases n with
    | zero => cases h; simp at hi
    | succ n =>
      cases i with
      | zero => exact ⟨n, h⟩
      | succ i =>
        rw [show goL (x :: s) (n + 1) = (ar x).bind (fun a => goL s (n + a)) from rfl] at h
        cases ha : ar x with
        | none => rw [ha] at h; cases h
        | some a =>
          rw [ha, Option.bind_some] at h
          have := goL_len h
          exact ih _ i h (by simp only [List.length_cons] at hi; omega)
def endN (p : List Node) (k : Nat) : Nat := match goL (p.drop k) 1 with | some r => p.length - r.length | none => 0
theorem endN_of {p r : List Node} {k : Nat} (h : goL (p.drop k) 1 = some r) : endN p k = p.length - r.length := by unfold endN; rw [h]
theorem end_spec {p : List Node} (hP : isP p = true) {k : Nat} (hk : k < p.length) : ∃ r, goL (p.drop k) 1 = some r ∧ endN p k = p.length - r.length ∧ k < endN p k ∧ endN p k ≤ p.length ∧ r = p.drop (endN p k) ∧ r.length ≤ p.length := by
  obtain ⟨r, hr⟩ := isP_sub hP hk
  have h1 := goL_len hr
  simp only [List.length_drop, Nat.min_self] at h1
  have h2 : endN p k = p.length - r.length := by unfold endN; rw [hr]
  refine ⟨r, hr, h2, by omega, by omega, ?_, by omega⟩
  have h3 := goL_drop hr
  rw [List.drop_drop, List.length_drop] at h3
  rw [h2, h3]
  congr 1
  simp only [List.length_drop]
  omega
theorem end_step {p : List Node} (hP : isP p = true) {k : Nat} {x : Node} {a : Nat} (hx : p[k]? = some x) (ha : ar x = some a) :
    (a = 0 → endN p k = k + 1) ∧ (a = 1 → k + 1 < p.length ∧ endN p k = endN p (k + 1)) ∧ (a = 2 → k + 1 < p.length ∧ endN p (k + 1) < p.length ∧ endN p k = endN p (endN p (k + 1))) := by
  have hk := (List.getElem?_eq_some_iff.1 hx).1
  obtain ⟨r, hr, h2, h3, h4, h5, h6⟩ := end_spec hP hk
  rw [List.drop_eq_getElem_cons hk, show p[k] = x from Option.some.inj ((List.getElem?_eq_getElem hk).symm.trans hx)] at hr
  rw [show goL (x :: p.drop (k + 1)) 1 = (ar x).bind (fun a => goL (p.drop (k + 1)) (0 + a)) from rfl, ha, Option.bind_some, Nat.zero_add] at hr
  refine ⟨fun e => ?_, fun e => ?_, fun e => ?_⟩
  · subst e
    rw [goL_zero] at hr
    cases hr
    rw [h2, List.length_drop]; omega
  · subst e
    have hl := goL_len hr
    simp only [List.length_drop, Nat.min_self] at hl
    refine ⟨by omega, ?_⟩
    unfold endN
    rw [hr]
    rw [show goL (p.drop k) 1 = some r by rw [List.drop_eq_getElem_cons hk, show p[k] = x from Option.some.inj ((List.getElem?_eq_getElem hk).symm.trans hx)]; rw [show goL (x :: p.drop (k + 1)) 1 = (ar x).bind (fun a => goL (p.drop (k + 1)) (0 + a)) from rfl, ha]; exact hr]
  · subst e
    have hl := goL_len hr
    simp only [List.length_drop] at hl
    have hk1 : k + 1 < p.length := by omega
    obtain ⟨r1, g1, g2, g3, g4, g5, g6⟩ := end_spec hP hk1
    rw [show (2 : Nat) = 1 + 1 from rfl, goL_add, g1, Option.bind_some] at hr
    have hl2 := goL_len hr
    have he : endN p (k + 1) < p.length := by
      rw [g2]
      cases r1 with
      | nil => cases hr
      | cons y s => simp only [List.length_cons] at g6 ⊢; omega
    refine ⟨hk1, he, ?_⟩
    rw [h2, endN_of (k := endN p (k + 1)) (by rw [← g5]; exact hr)]
theorem end_nest {p : List Node} (hP : isP p = true) {k i : Nat} (h1 : k < i) (h2 : i < endN p k) : endN p i ≤ endN p k := by
  have hk : k < p.length := by
    by_cases h : k < p.length
    · exact h
    · have : endN p k = 0 ∨ True := .inr trivial
      exfalso
      unfold endN at h2
      rw [List.drop_eq_nil_of_le (by omega)] at h2
      simp [goL] at h2
  obtain ⟨r, hr, g2, g3, g4, _, g6⟩ := end_spec hP hk
  have hi : i < p.length := by omega
  obtain ⟨r', hr', q2, q3, q4, _, q6⟩ := end_spec hP hi
  obtain ⟨m, hm⟩ := goL_in _ _ (i - k) hr (by rw [List.length_drop]; omega)
  rw [List.drop_drop, show k + (i - k) = i by omega, Nat.add_comm m 1, goL_add, hr', Option.bind_some] at hm
  have := goL_len hm
  omega
theorem end_zero {p : List Node} (hP : isP p = true) : endN p 0 = p.length := by
  unfold endN
  rw [List.drop_zero, (isP_iff.1 hP).2]; rfl
theorem isP_pos {p : List Node} (hP : isP p = true) : 0 < p.length := by
  cases p with
  | nil => have := (isP_iff.1 hP).2; cases this
  | cons _ _ => simp
def parGo (p : List Node) (k : Nat) : Nat → Option Nat
  | 0 => none
  | i + 1 => if k < endN p i then some i else parGo p k i
theorem parGo_prop {p : List Node} {k : Nat} : ∀ {i a : Nat}, parGo p k i = some a → a < i ∧ k < endN p a ∧ ∀ j, a < j → j < i → endN p j ≤ k := by
  intro i
  induction i with
  | zero => intro a h; cases h
  | succ i ih =>
    intro a h
    unfold parGo at h
    split at h
    · rename_i hk; cases h; exact ⟨by omega, hk, fun j h1 h2 => by omega⟩
    · rename_i hk
      obtain ⟨h1, h2, h3⟩ := ih h
      refine ⟨by omega, h2, fun j g1 g2 => ?_⟩
      by_cases hj : j = i
      · subst hj; omega
      · exact h3 j g1 (by omega)
theorem parGo_ge {p : List Node} {k j : Nat} (hj : k < endN p j) : ∀ {i : Nat}, j < i → ∃ a, parGo p k i = some a ∧ j ≤ a := by
  intro i
  induction i with
  | zero => intro h; omega
  | succ i ih =>
    intro h
    unfold parGo
    split
    · exact ⟨i, rfl, by omega⟩
    · rename_i hk
      exact ih (by
        by_cases e : j = i
        · subst e; omega
        · omega)
theorem parGo_is {p : List Node} {k a : Nat} (h1 : a < k) (h2 : k < endN p a) (h3 : ∀ j, a < j → j < k → endN p j ≤ k) : parGo p k k = some a := by
  obtain ⟨b, hb, hab⟩ := parGo_ge h2 h1
  obtain ⟨g1, g2, g3⟩ := parGo_prop hb
  by_cases e : a = b
  · rw [hb, e]
  · have := h3 b (by omega) g1; omega
theorem par_some {p : List Node} (hP : isP p = true) {k : Nat} (h0 : 0 < k) (hk : k < p.length) : ∃ a, parGo p k k = some a ∧ a < k ∧ k < endN p a := by
  obtain ⟨a, ha, _⟩ := parGo_ge (p := p) (k := k) (j := 0) (by rw [end_zero hP]; exact hk) h0
  obtain ⟨h1, h2, _⟩ := parGo_prop ha
  exact ⟨a, ha, h1, h2⟩
theorem ar_cases {x : Node} {a : Nat} (h : ar x = some a) : (x.Kind = 1 ∧ a = 0 ∧ okMs x.Multipliers = true) ∨ (x.Kind = 2 ∧ a = 2 ∧ vT x.Term = true) ∨ (x.Kind = 3 ∧ a = 1 ∧ 0 ≤ x.Fact ∧ x.Fact ≤ 19) := by
  unfold ar at h
  by_cases h1 : x.Kind = 1
  · rw [decide_eq_true h1, cond_true] at h
    cases hc : decide (x.Fact = 0) && zT x.Term && okMs x.Multipliers with
    | false => rw [hc] at h; cases h
    | true => rw [hc] at h; cases h; simp only [Bool.and_eq_true] at hc; exact .inl ⟨h1, rfl, hc.2⟩
  · rw [decide_eq_false h1, cond_false] at h
    by_cases h2 : x.Kind = 2
    · rw [decide_eq_true h2, cond_true] at h
      cases hc : decide (x.Fact = 0) && decide (x.Multipliers.length = 0) && vT x.Term with
      | false => rw [hc] at h; cases h
      | true => rw [hc] at h; cases h; simp only [Bool.and_eq_true] at hc; exact .inr (.inl ⟨h2, rfl, hc.2⟩)
    · rw [decide_eq_false h2, cond_false] at h
      by_cases h3 : x.Kind = 3
      · rw [decide_eq_true h3, cond_true] at h
        cases hc : (decide (0 ≤ x.Fact) && decide (x.Fact ≤ 19)) && zT x.Term && decide (x.Multipliers.length = 0) with
        | false => rw [hc] at h; cases h
        | true => rw [hc] at h; cases h; simp only [Bool.and_eq_true, decide_eq_true_eq] at hc; exact .inr (.inr ⟨h3, rfl, hc.1.1.1, hc.1.1.2⟩)
      · rw [decide_eq_false h3, cond_false] at h; cases h
theorem node_at {p : List Node} (hP : isP p = true) {k : Nat} (hk : k < p.length) : ∃ x a, p[k]? = some x ∧ ar x = some a ∧ x ∈ p := by
  have hx : p[k]? = some p[k] := List.getElem?_eq_getElem hk
  obtain ⟨a, ha⟩ := Option.isSome_iff_exists.1 (isP_valid hP _ (List.mem_of_getElem? hx))
  exact ⟨_, a, hx, ha, List.mem_of_getElem? hx⟩
theorem spec_parent {p : List Node} (hP : isP p = true) {k : Nat} (h0 : 0 < k) (hk : k < p.length) :
    ∃ a, parGo p k k = some a ∧ m_spec_l05Parent p (k : Int) = some ((a : Int), decide (a + 1 = k)) := by
  have h60 := (isP_iff.1 hP).1
  have loop : ∀ i, i ≤ k → iter (m_spec_l05Parent_L0 p (k : Int)) ((i : Int) - 1) = some (match parGo p k i with | some a => .inr ((a : Int), decide (a + 1 = k)) | none => .inl ()) := by
    intro i
    induction i with
    | zero =>
      intro _
      rw [iter_out (t := .inl ())]
      · rfl
      · unfold m_spec_l05Parent_L0; rw [decide_eq_false (by omega)]; rfl
    | succ i ih =>
      intro hi
      obtain ⟨x, a, hx, ha, hmem⟩ := node_at hP (show i < p.length by omega)
      obtain ⟨r, hr, e2, e3, e4, _, _⟩ := end_spec hP (show i < p.length by omega)
      have hend : m_spec_l05End p (i : Int) = some (endN p i : Int) := by
        rw [spec_l05End h60 (isP_valid hP) (by omega), hr, e2]
      have hstep : m_spec_l05Parent_L0 p (k : Int) (((i + 1 : Nat) : Int) - 1) = if k < endN p i then some (.out (.inr ((i : Int), decide (i + 1 = k)))) else some (.next ((i : Int) - 1)) := by
        unfold m_spec_l05Parent_L0
        rw [show ((i + 1 : Nat) : Int) - 1 = (i : Int) by omega, decide_eq_true (by omega), cond_true, getI_some hx, Option.bind_some]
        by_cases h1 : x.Kind = 1
        · rcases ar_cases ha with ⟨_, rfl, _⟩ | ⟨h2, _⟩ | ⟨h2, _⟩
          · have := (end_step hP hx ha).1 rfl
            rw [decide_eq_true h1, cond_true, if_neg (by omega), w64_eq (by omega)]
          · omega
          · omega
        · rw [decide_eq_false h1, cond_false, hend, Option.bind_some]
          by_cases h2 : k < endN p i
          · rw [decide_eq_false (by omega), cond_false, if_pos h2, w64_succ (by omega), dec_eqN]
          · rw [decide_eq_true (by omega), cond_true, if_neg h2, w64_eq (by omega)]
      unfold parGo
      by_cases h2 : k < endN p i
      · rw [if_pos h2] at hstep ⊢
        rw [iter_out hstep]
      · rw [if_neg h2] at hstep ⊢
        rw [iter_next hstep]; exact ih (by omega)
  obtain ⟨a, ha, h1, h2⟩ := par_some hP h0 hk
  refine ⟨a, ha, ?_⟩
  unfold m_spec_l05Parent
  rw [w64_eq (by omega), loop k (Nat.le_refl _), ha, Option.bind_some]; rfl
def GoodC (c : List Term) : Prop := (∀ t ∈ c, vT t = true) ∧ c.length ≤ 20
def rightB (x : Node) (c : List Term) : Bool :=
  bif decide (x.Kind = 1) then closesB c x.Multipliers else
  bif decide (20 ≤ c.length) then false else
  bif decide (x.Kind = 2) then vT (opp x.Term) else
  match c[x.Fact.toNat]? with | some t => (fTight t).2 | none => false
def belowB (x : Node) (c : List Term) (first : Bool) : List Term :=
  bif decide (x.Kind = 3) then c ++ [(fTight (tAt c x.Fact.toNat)).1] else bif first then c ++ [x.Term] else c ++ [opp x.Term]
theorem fTight_valid {t : Term} (h : (fTight t).2 = true) : vT (fTight t).1 = true := by
  unfold fTight at h ⊢
  cases hc : vT t && decide (2 ≤ gcdL t.Coeffs) with
  | false => rw [hc] at h; cases h
  | true =>
    simp only [Bool.and_eq_true, decide_eq_true_eq] at hc
    exact tight_valid hc.1 hc.2
theorem below_good {x : Node} {c : List Term} {a : Nat} (hc : GoodC c) (ha : ar x = some a) (h0 : a ≠ 0) (hr : rightB x c = true) (f : Bool) : GoodC (belowB x c f) := by
  unfold rightB at hr
  unfold belowB
  rcases ar_cases ha with ⟨_, e, _⟩ | ⟨hk, _, hv⟩ | ⟨hk, _, hf⟩
  · exact absurd e h0
  · rw [decide_eq_false (show ¬ x.Kind = 1 by omega), cond_false] at hr
    rw [decide_eq_false (show ¬ x.Kind = 3 by omega), cond_false]
    by_cases hl : 20 ≤ c.length
    · rw [decide_eq_true hl] at hr; cases hr
    · rw [decide_eq_false hl, cond_false, decide_eq_true hk, cond_true] at hr
      cases f with
      | true => exact ⟨fun t ht => by
          rcases List.mem_append.1 ht with ht | ht
          · exact hc.1 t ht
          · rw [List.mem_singleton.1 ht]; exact hv, by simp; omega⟩
      | false => exact ⟨fun t ht => by
          rcases List.mem_append.1 ht with ht | ht
          · exact hc.1 t ht
          · rw [List.mem_singleton.1 ht]; exact hr, by simp; omega⟩
  · rw [decide_eq_false (show ¬ x.Kind = 1 by omega), cond_false] at hr
    rw [decide_eq_true hk, cond_true]
    by_cases hl : 20 ≤ c.length
    · rw [decide_eq_true hl] at hr; cases hr
    · rw [decide_eq_false hl, cond_false, decide_eq_false (show ¬ x.Kind = 2 by omega), cond_false] at hr
      cases hg : c[x.Fact.toNat]? with
      | none => rw [hg] at hr; cases hr
      | some t =>
        rw [hg] at hr
        have ht' : tAt c x.Fact.toNat = t := by unfold tAt; rw [hg]; rfl
        exact ⟨fun u hu => by
          rcases List.mem_append.1 hu with hu | hu
          · exact hc.1 u hu
          · rw [List.mem_singleton.1 hu, ht']; exact fTight_valid hr, by simp; omega⟩
theorem closes_len {ts : List Term} {ms : List Int} (h : ms.length ≠ ts.length) : closesB ts ms = false := by
  unfold closesB; rw [decide_eq_false h]; rfl
theorem okMs_m {ms : List Int} (h : okMs ms = true) : ∀ m ∈ ms, mOK m := by
  intro m hm
  simp only [okMs, Bool.and_eq_true, List.all_eq_true, decide_eq_true_eq] at h
  have := h.1 m hm
  unfold mOK; omega
theorem spec_closes' {c : List Term} {ms : List Int} (hc : GoodC c) (hm : okMs ms = true) : m_spec_l05Closes c ms = some (closesB c ms) := by
  by_cases h : ms.length = c.length
  · exact spec_closes ⟨hc.1, okMs_m hm, hc.2, h⟩
  · rw [closes_len h]
    unfold m_spec_l05Closes
    rw [dec_eqN', decide_eq_false (fun e => h e.symm)]; rfl
theorem impl_closes' {c : List Term} {ms : List Int} (hc : GoodC c) (hm : okMs ms = true) : m_impl_closes c ms = some (closesB c ms) := by
  by_cases h : ms.length = c.length
  · exact impl_closes ⟨hc.1, okMs_m hm, hc.2, h⟩
  · rw [closes_len h]
    unfold m_impl_closes
    rw [dec_eqN', decide_eq_false h]; rfl
theorem chk_2 (t : Term) : (chk t).2 = vT t := by unfold chk; cases vT t <;> rfl
theorem chk_1 {t : Term} (h : vT t = true) : chk t = (t, true) := by unfold chk; rw [h]; rfl
theorem spec_tight' {t : Term} (h1 : vT t = true) : m_spec_l02Tight t = some (fTight t) := by
  have hl : t.Coeffs.length ≤ 1048576 := by have := vT_len h1; omega
  unfold m_spec_l02Tight fTight
  rw [spec_gcd (vT_coef h1) hl, Option.bind_some, h1, Bool.true_and]
  by_cases h2 : 2 ≤ gcdL t.Coeffs
  · have hv := tight_valid h1 h2
    rw [decide_eq_false (by omega), cond_false, spec_quos h2 (vT_coef h1) hl, decide_eq_true h2]
    simp only [Option.bind_some, cond_true]
    unfold m_spec_l02Tight_A0 m_spec_l02Tight_J0
    have hr := (tdiv_rng h2 (vT_const h1)).2
    have hm : ∀ c, m_spec_l02Make c (quos t.Coeffs (gcdL t.Coeffs)) = some (chk (Term.mk c (quos t.Coeffs (gcdL t.Coeffs)))) := by
      intro c
      rw [spec_make (by unfold quos; simp; have := vT_len h1; omega), trim_id (vT_last hv)]
    rw [quo_nat h2 (vT_const h1), Option.bind_some, show remI t.Const (gcdL t.Coeffs : Int) = some (t.Const.tmod (gcdL t.Coeffs)) by unfold remI; rw [decide_eq_false (by omega)]; rfl, Option.bind_some, hm, hm, w64_eq (by omega)]
    have e : ∀ c, c = flo t.Const (gcdL t.Coeffs) → (chk (Term.mk c (quos t.Coeffs (gcdL t.Coeffs)))) = (Term.mk (flo t.Const (gcdL t.Coeffs)) (quos t.Coeffs (gcdL t.Coeffs)), true) := by
      rintro c rfl
      unfold chk; rw [hv]; rfl
    by_cases h3 : t.Const.tmod (gcdL t.Coeffs) < 0
    · rw [decide_eq_true h3, cond_true, e _ (by unfold flo; rw [if_pos h3])]; rfl
    · rw [decide_eq_false h3, cond_false, e _ (by unfold flo; rw [if_neg h3])]; rfl
  · rw [decide_eq_true (show ((gcdL t.Coeffs : Nat) : Int) < 2 by omega), decide_eq_false h2]; rfl
theorem impl_tight' {t : Term} (h1 : vT t = true) : m_impl_Term_tightened t = some (fTight t) := by
  have hl := vT_len h1
  unfold m_impl_Term_tightened fTight
  rw [impl_gcd (vT_coef h1), Option.bind_some, h1, Bool.true_and]
  by_cases h2 : 2 ≤ gcdL t.Coeffs
  · have hr := (tdiv_rng h2 (vT_const h1)).2
    rw [decide_eq_false (by omega), cond_false, impl_own (by omega), decide_eq_true h2]
    simp only [Option.bind_some, cond_true]
    unfold m_impl_divFloor
    rw [quo_nat h2 (vT_const h1), Option.bind_some, show remI t.Const (gcdL t.Coeffs : Int) = some (t.Const.tmod (gcdL t.Coeffs)) by unfold remI; rw [decide_eq_false (by omega)]; rfl, Option.bind_some, w64_eq (by omega)]
    have e : (bif decide (t.Const.tmod (gcdL t.Coeffs) < 0) then some (t.Const.tdiv (gcdL t.Coeffs) - 1) else some (t.Const.tdiv (gcdL t.Coeffs))) = some (flo t.Const (gcdL t.Coeffs)) := by
      unfold flo
      by_cases h3 : t.Const.tmod (gcdL t.Coeffs) < 0
      · rw [decide_eq_true h3, if_pos h3]; rfl
      · rw [decide_eq_false h3, if_neg h3]; rfl
    rw [e, Option.bind_some, impl_quos h2 (vT_coef h1) (by omega)]; rfl
  · rw [decide_eq_true (show ((gcdL t.Coeffs : Nat) : Int) ≤ 1 by omega), decide_eq_false h2]; rfl
theorem dec_len20' {α : Type} (xs : List α) : decide ((20 : Int) ≤ (xs.length : Int)) = decide (20 ≤ xs.length) := by
  by_cases h : 20 ≤ xs.length
  · rw [decide_eq_true h, decide_eq_true (by omega)]
  · rw [decide_eq_false h, decide_eq_false (by omega)]
theorem spec_right {x : Node} {c : List Term} {a : Nat} (hc : GoodC c) (ha : ar x = some a) : m_spec_l05Right x c = some (rightB x c) := by
  unfold m_spec_l05Right rightB
  rcases ar_cases ha with ⟨hk, _, hm⟩ | ⟨hk, _, hv⟩ | ⟨hk, _, hf⟩
  · rw [decide_eq_true hk, cond_true, cond_true, spec_closes' hc hm]; rfl
  · rw [decide_eq_false (show ¬ x.Kind = 1 by omega), cond_false, cond_false, dec_len20']
    by_cases hl : 20 ≤ c.length
    · rw [decide_eq_true hl]; rfl
    · rw [decide_eq_false hl, cond_false, cond_false, decide_eq_true hk, cond_true, cond_true, spec_opposite hv, Option.bind_some, chk_2]
  · rw [decide_eq_false (show ¬ x.Kind = 1 by omega), cond_false, cond_false, dec_len20']
    by_cases hl : 20 ≤ c.length
    · rw [decide_eq_true hl]; rfl
    · rw [decide_eq_false hl, cond_false, cond_false, decide_eq_false (show ¬ x.Kind = 2 by omega), cond_false, cond_false]
      obtain ⟨n, hn⟩ := Int.eq_ofNat_of_zero_le hf.1
      rw [hn, Int.toNat_natCast]
      cases hg : c[n]? with
      | none => rw [decide_eq_true (by have := List.getElem?_eq_none_iff.1 hg; omega)]; rfl
      | some t =>
        rw [decide_eq_false (by have := (List.getElem?_eq_some_iff.1 hg).1; omega), cond_false, getI_some hg, Option.bind_some, spec_tight' (hc.1 t (List.mem_of_getElem? hg))]; rfl
theorem spec_below {x : Node} {c : List Term} {a : Nat} (hc : GoodC c) (ha : ar x = some a) (h0 : a ≠ 0) (hr : rightB x c = true) (f : Bool) : m_spec_l05Below x c f = some (belowB x c f) := by
  have hl := hc.2
  unfold m_spec_l05Below belowB
  rw [capI_some (by simp; omega), Option.bind_some]
  unfold rightB at hr
  rcases ar_cases ha with ⟨_, e, _⟩ | ⟨hk, _, hv⟩ | ⟨hk, _, hf⟩
  · exact absurd e h0
  · rw [decide_eq_false (show ¬ x.Kind = 3 by omega), cond_false, cond_false]
    rw [decide_eq_false (show ¬ x.Kind = 1 by omega), cond_false] at hr
    by_cases hl20 : 20 ≤ c.length
    · rw [decide_eq_true hl20] at hr; cases hr
    · rw [decide_eq_false hl20, cond_false, decide_eq_true hk, cond_true] at hr
      cases f with
      | true => rw [cond_true, cond_true, capI_some (by simp; omega)]; rfl
      | false => rw [cond_false, cond_false, spec_opposite hv, Option.bind_some, chk_1 hr, capI_some (by simp; omega)]; rfl
  · rw [decide_eq_true hk, cond_true, cond_true]
    rw [decide_eq_false (show ¬ x.Kind = 1 by omega), cond_false] at hr
    by_cases hl20 : 20 ≤ c.length
    · rw [decide_eq_true hl20] at hr; cases hr
    · rw [decide_eq_false hl20, cond_false, decide_eq_false (show ¬ x.Kind = 2 by omega), cond_false] at hr
      obtain ⟨n, hn⟩ := Int.eq_ofNat_of_zero_le hf.1
      rw [hn, Int.toNat_natCast] at hr ⊢
      cases hg : c[n]? with
      | none => rw [hg] at hr; cases hr
      | some t =>
        have ht' : tAt c n = t := by unfold tAt; rw [hg]; rfl
        rw [getI_some hg, Option.bind_some, spec_tight' (hc.1 t (List.mem_of_getElem? hg)), Option.bind_some, capI_some (by simp; omega), ht']; rfl
end Go.Mod
