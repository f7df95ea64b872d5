import Derived.Test.YtmbbpabjdalfaaaGc
namespace Go.Mod
open Go.AM
set_option linter.unusedVariables false
structure Term where
  Const : Int
  Coeffs : List Int
  deriving DecidableEq, Inhabited
structure Node where
  Kind : Int
  Fact : Int
  Term : Term
  Multipliers : List Int
  deriving DecidableEq, Inhabited
structure Sequent where
  Facts : List Term
  Goal : Term
  deriving DecidableEq, Inhabited
structure l00Src where
  code : List Int
  at_ : Int
  seed : Int
  deriving DecidableEq, Inhabited
def k_i64 (x : Int) : Prop := -9223372036854775808 ≤ x ∧ x ≤ 9223372036854775807
def kLa_i64 (x : List Int) : Prop := x.length ≤ 9223372036854775807 ∧ ∀ y ∈ x, k_i64 y
def k_Term (x : Term) : Prop := k_i64 x.Const ∧ kLa_i64 x.Coeffs
def k_Node (x : Node) : Prop := k_i64 x.Kind ∧ k_i64 x.Fact ∧ k_Term x.Term ∧ kLa_i64 x.Multipliers
def kLa_Node (x : List Node) : Prop := x.length ≤ 9223372036854775807 ∧ ∀ y ∈ x, k_Node y
noncomputable def m_laws_szInt64S (p0 : List Int) (p1 : Int) : Option Int :=
  bif (decide ((w64 (p1 - (p0.length : Int))) < (0 : Int))) then
    some (-1 : Int)
  else
    some (w64 (p1 - (p0.length : Int)))
noncomputable def m_laws_szTerm (p0 : Term) (p1 : Int) : Option Int :=
  (m_laws_szInt64S p0.Coeffs p1).bind fun (r8 : Int) =>
  bif (decide (r8 < (0 : Int))) then
    some (-1 : Int)
  else
    some r8
noncomputable def m_laws_szNode (p0 : Node) (p1 : Int) : Option Int :=
  (m_laws_szTerm p0.Term p1).bind fun (r8 : Int) =>
  bif (decide (r8 < (0 : Int))) then
    some (-1 : Int)
  else
    (m_laws_szInt64S p0.Multipliers r8).bind fun (r14 : Int) =>
    bif (decide (r14 < (0 : Int))) then
      some (-1 : Int)
    else
      some r14
noncomputable def m_laws_szNodeS_L0 (p0 : List Node) (s0 : Int × Int) : Option (Ctl (Int × Int) (Int ⊕ Int)) :=
  bif (decide (s0.2 < (p0.length : Int))) then
    (getI p0 s0.2).bind fun (x20 : Node) =>
    (m_laws_szNode x20 s0.1).bind fun (r23 : Int) =>
    bif (decide (r23 < (0 : Int))) then
      some (.out (.inr (-1 : Int)))
    else
      some (.next (r23, (w64 (s0.2 + (1 : Int)))))
  else
    some (.out (.inl s0.1))
noncomputable def m_laws_szNodeS_A0 (u0 : Int ⊕ Int) : Option Int :=
  match u0 with
  | .inl u0 =>
    some u0
  | .inr u0 =>
    some u0
noncomputable def m_laws_szNodeS (p0 : List Node) (p1 : Int) : Option Int :=
  bif (decide ((w64 (p1 - (p0.length : Int))) < (0 : Int))) then
    some (-1 : Int)
  else
    (iter (m_laws_szNodeS_L0 p0) ((w64 (p1 - (p0.length : Int))), (0 : Int))).bind fun (u0 : Int ⊕ Int) =>
    m_laws_szNodeS_A0 u0
noncomputable def m_laws_toInt64S_L0 (p0 : List Int) (s0 : (List Int) × Int) : Option (Ctl ((List Int) × Int) ((List Int))) :=
  bif (decide (s0.2 < (p0.length : Int))) then
    (getI p0 s0.2).bind fun (x18 : Int) =>
    (getI s0.1 s0.2).bind fun (x20 : Int) =>
    some (.next ((s0.1.set ((s0.2).toNat) x18), (w64 (s0.2 + (1 : Int)))))
  else
    some (.out s0.1)
noncomputable def m_laws_toInt64S_A0 (u0 : (List Int)) : Option (List Int) :=
  some u0
noncomputable def m_laws_toInt64S (p0 : List Int) : Option (List Int) :=
  (makeI (p0.length : Int) 8).bind fun (k7 : Nat) =>
  (iter (m_laws_toInt64S_L0 p0) ((List.replicate k7 (0 : Int)), (0 : Int))).bind fun (u0 : (List Int)) =>
  m_laws_toInt64S_A0 u0
noncomputable def m_laws_toTerm (p0 : Term) : Option Term :=
  (m_laws_toInt64S p0.Coeffs).bind fun (r9 : List Int) =>
  some (Term.mk p0.Const r9)
noncomputable def m_laws_toNode (p0 : Node) : Option Node :=
  (m_laws_toTerm p0.Term).bind fun (r12 : Term) =>
  (m_laws_toInt64S p0.Multipliers).bind fun (r16 : List Int) =>
  some (Node.mk p0.Kind p0.Fact r12 r16)
noncomputable def m_laws_toNodeS_L0 (p0 : List Node) (s0 : (List Node) × Int) : Option (Ctl ((List Node) × Int) ((List Node))) :=
  bif (decide (s0.2 < (p0.length : Int))) then
    (getI p0 s0.2).bind fun (x18 : Node) =>
    (m_laws_toNode x18).bind fun (r20 : Node) =>
    (getI s0.1 s0.2).bind fun (x21 : Node) =>
    some (.next ((s0.1.set ((s0.2).toNat) r20), (w64 (s0.2 + (1 : Int)))))
  else
    some (.out s0.1)
noncomputable def m_laws_toNodeS_A0 (u0 : (List Node)) : Option (List Node) :=
  some u0
noncomputable def m_laws_toNodeS (p0 : List Node) : Option (List Node) :=
  (makeI (p0.length : Int) 72).bind fun (k7 : Nat) =>
  (iter (m_laws_toNodeS_L0 p0) ((List.replicate k7 (Node.mk (0 : Int) (0 : Int) (Term.mk (0 : Int) ([] : List Int)) ([] : List Int))), (0 : Int))).bind fun (u0 : (List Node)) =>
  m_laws_toNodeS_A0 u0
noncomputable def m_spec_l00In (p0 : Int) (p1 : Int) (p2 : Int) : Option Bool :=
  some ((decide (p1 ≤ p0)) && (decide (p0 ≤ p2)))
noncomputable def m_spec_l05Zero (p0 : Term) : Option Bool :=
  some ((decide (p0.Const = (0 : Int))) && (decide ((p0.Coeffs.length : Int) = (0 : Int))))
noncomputable def m_spec_l05Multipliers_L0 (p0 : List Int) (s0 : Int) : Option (Ctl Int (Unit ⊕ Bool)) :=
  bif (decide (s0 < (p0.length : Int))) then
    (getI p0 s0).bind fun (x12 : Int) =>
    (m_spec_l00In x12 (0 : Int) (1000000 : Int)).bind fun (r14 : Bool) =>
    bif (!r14) then
      some (.out (.inr false))
    else
      some (.next (w64 (s0 + (1 : Int))))
  else
    some (.out (.inl ()))
noncomputable def m_spec_l05Multipliers_A0 (p0 : List Int) (u0 : Unit ⊕ Bool) : Option Bool :=
  match u0 with
  | .inl u0 =>
    some (decide ((p0.length : Int) ≤ (20 : Int)))
  | .inr u0 =>
    some u0
noncomputable def m_spec_l05Multipliers (p0 : List Int) : Option Bool :=
  (iter (m_spec_l05Multipliers_L0 p0) (0 : Int)).bind fun (u0 : Unit ⊕ Bool) =>
  m_spec_l05Multipliers_A0 p0 u0
noncomputable def m_spec_l02Number (p0 : Int) : Option Bool :=
  (m_spec_l00In p0 (-1000000 : Int) (1000000 : Int)).bind fun (r4 : Bool) =>
  some r4
noncomputable def m_spec_l02Is_L0 (p0 : Term) (s0 : Int) : Option (Ctl Int (Unit ⊕ Bool)) :=
  bif (decide (s0 < (p0.Coeffs.length : Int))) then
    (getI p0.Coeffs s0).bind fun (x45 : Int) =>
    (m_spec_l02Number x45).bind fun (r47 : Bool) =>
    bif (!r47) then
      some (.out (.inr false))
    else
      some (.next (w64 (s0 + (1 : Int))))
  else
    some (.out (.inl ()))
noncomputable def m_spec_l02Is_A0 (u0 : Unit ⊕ Bool) : Option Bool :=
  match u0 with
  | .inl u0 =>
    some true
  | .inr u0 =>
    some u0
noncomputable def m_spec_l02Is_J0 (p0 : Term) (j0 : Unit) : Option Bool :=
  (iter (m_spec_l02Is_L0 p0) (0 : Int)).bind fun (u0 : Unit ⊕ Bool) =>
  m_spec_l02Is_A0 u0
noncomputable def m_spec_l02Is (p0 : Term) : Option Bool :=
  (m_spec_l02Number p0.Const).bind fun (r14 : Bool) =>
  bif ((!r14) || (decide ((10 : Int) < (p0.Coeffs.length : Int)))) then
    some false
  else
    bif (decide ((0 : Int) < (p0.Coeffs.length : Int))) then
      (getI p0.Coeffs (w64 ((p0.Coeffs.length : Int) - (1 : Int)))).bind fun (x30 : Int) =>
      bif (decide (x30 = (0 : Int))) then
        some false
      else
        m_spec_l02Is_J0 p0 ()
    else
      m_spec_l02Is_J0 p0 ()
noncomputable def m_spec_l05Node (p0 : Node) : Option Bool :=
  bif (decide (p0.Kind = (1 : Int))) then
    bif (decide (p0.Fact = (0 : Int))) then
      (m_spec_l05Zero p0.Term).bind fun (r18 : Bool) =>
      bif r18 then
        (m_spec_l05Multipliers p0.Multipliers).bind fun (r25 : Bool) =>
        some r25
      else
        some false
    else
      some false
  else
    bif (decide (p0.Kind = (2 : Int))) then
      bif (decide (p0.Fact = (0 : Int))) then
        (m_spec_l02Is p0.Term).bind fun (r38 : Bool) =>
        some (r38 && (decide ((p0.Multipliers.length : Int) = (0 : Int))))
      else
        some false
    else
      bif (decide (p0.Kind = (3 : Int))) then
        (m_spec_l00In p0.Fact (0 : Int) (19 : Int)).bind fun (r54 : Bool) =>
        bif r54 then
          (m_spec_l05Zero p0.Term).bind fun (r59 : Bool) =>
          some (r59 && (decide ((p0.Multipliers.length : Int) = (0 : Int))))
        else
          some false
      else
        some false
noncomputable def m_spec_l05End_L0 (p0 : List Node) (s0 : Int × Int) : Option (Ctl (Int × Int) (Int ⊕ Int)) :=
  bif (decide ((0 : Int) < s0.2)) then
    bif (decide (s0.1 = (p0.length : Int))) then
      some (.out (.inr (-1 : Int)))
    else
      (getI p0 s0.1).bind fun (x14 : Node) =>
      bif (decide (x14.Kind = (1 : Int))) then
        some (.next ((w64 (s0.1 + (1 : Int))), (w64 (s0.2 - (1 : Int)))))
      else
        bif (decide (x14.Kind = (2 : Int))) then
          some (.next ((w64 (s0.1 + (1 : Int))), (w64 (s0.2 + (1 : Int)))))
        else
          some (.next ((w64 (s0.1 + (1 : Int))), s0.2))
  else
    some (.out (.inl s0.1))
noncomputable def m_spec_l05End_A0 (u0 : Int ⊕ Int) : Option Int :=
  match u0 with
  | .inl u0 =>
    some u0
  | .inr u0 =>
    some u0
noncomputable def m_spec_l05End (p0 : List Node) (p1 : Int) : Option Int :=
  (iter (m_spec_l05End_L0 p0) (p1, (1 : Int))).bind fun (u0 : Int ⊕ Int) =>
  m_spec_l05End_A0 u0
noncomputable def m_spec_l05Is_L0 (p0 : List Node) (s0 : Int) : Option (Ctl Int (Unit ⊕ Bool)) :=
  bif (decide (s0 < (p0.length : Int))) then
    (getI p0 s0).bind fun (x16 : Node) =>
    (m_spec_l05Node x16).bind fun (r17 : Bool) =>
    bif (!r17) then
      some (.out (.inr false))
    else
      some (.next (w64 (s0 + (1 : Int))))
  else
    some (.out (.inl ()))
noncomputable def m_spec_l05Is_A0 (p0 : List Node) (u0 : Unit ⊕ Bool) : Option Bool :=
  match u0 with
  | .inl u0 =>
    (m_spec_l05End p0 (0 : Int)).bind fun (r20 : Int) =>
    some (decide (r20 = (p0.length : Int)))
  | .inr u0 =>
    some u0
noncomputable def m_spec_l05Is (p0 : List Node) : Option Bool :=
  (m_spec_l00In (p0.length : Int) (1 : Int) (60 : Int)).bind fun (r6 : Bool) =>
  bif (!r6) then
    some false
  else
    (iter (m_spec_l05Is_L0 p0) (0 : Int)).bind fun (u0 : Unit ⊕ Bool) =>
    m_spec_l05Is_A0 p0 u0
noncomputable def m_spec_l00Own (p0 : List Int) : Option (List Int) :=
  (capI (([] : List Int).length + p0.length) 8).bind fun (q5 : Unit) =>
  some (([] : List Int) ++ p0)
noncomputable def m_spec_l02Own (p0 : Term) : Option Term :=
  (m_spec_l00Own p0.Coeffs).bind fun (r11 : List Int) =>
  some (Term.mk p0.Const r11)
noncomputable def m_spec_l05Own (p0 : Node) : Option Node :=
  (m_spec_l02Own p0.Term).bind fun (r14 : Term) =>
  (m_spec_l00Own p0.Multipliers).bind fun (r19 : List Int) =>
  some (Node.mk p0.Kind p0.Fact r14 r19)
noncomputable def m_spec_l05OwnAll_L0 (p0 : List Node) (s0 : (List Node) × Int) : Option (Ctl ((List Node) × Int) ((List Node))) :=
  bif (decide (s0.2 < (p0.length : Int))) then
    (getI p0 s0.2).bind fun (x15 : Node) =>
    (m_spec_l05Own x15).bind fun (r16 : Node) =>
    (capI (s0.1.length + [r16].length) 72).bind fun (q18 : Unit) =>
    some (.next ((s0.1 ++ [r16]), (w64 (s0.2 + (1 : Int)))))
  else
    some (.out s0.1)
noncomputable def m_spec_l05OwnAll_A0 (u0 : (List Node)) : Option (List Node) :=
  some u0
noncomputable def m_spec_l05OwnAll (p0 : List Node) : Option (List Node) :=
  (iter (m_spec_l05OwnAll_L0 p0) (([] : List Node), (0 : Int))).bind fun (u0 : (List Node)) =>
  m_spec_l05OwnAll_A0 u0
noncomputable def m_spec_SubproofAt (p0 : List Node) (p1 : Int) : Option ((List Node) × Bool) :=
  (m_spec_l05Is p0).bind fun (r7 : Bool) =>
  bif (!r7) then
    some (([] : List Node), false)
  else
    (m_spec_l00In p1 (0 : Int) (w64 ((p0.length : Int) - (1 : Int)))).bind fun (r14 : Bool) =>
    bif (!r14) then
      some (([] : List Node), false)
    else
      (m_spec_l05End p0 p1).bind fun (r21 : Int) =>
      (sliceI p0 p1 r21).bind fun (y22 : List Node) =>
      (m_spec_l05OwnAll y22).bind fun (r23 : List Node) =>
      some (r23, true)
noncomputable def m_impl_Term_isZero (p0 : Term) : Option Bool :=
  some ((decide (p0.Const = (0 : Int))) && (decide ((p0.Coeffs.length : Int) = (0 : Int))))
noncomputable def m_impl_within (p0 : Int) (p1 : Int) (p2 : Int) : Option Bool :=
  some ((decide (p1 ≤ p0)) && (decide (p0 ≤ p2)))
noncomputable def m_impl_allWithin_L0 (p1 : Int) (p2 : Int) (n0 : Nat) (x0 : Int) (s0 : Unit) : Option (Ctl Unit (Unit ⊕ Bool)) :=
  (m_impl_within x0 p1 p2).bind fun (r18 : Bool) =>
  bif (!r18) then
    some (.out (.inr false))
  else
    some (.next ())
noncomputable def m_impl_allWithin_A0 (u0 : Unit ⊕ Bool) : Option Bool :=
  match u0 with
  | .inl u0 =>
    some true
  | .inr u0 =>
    some u0
noncomputable def m_impl_allWithin (p0 : List Int) (p1 : Int) (p2 : Int) : Option Bool :=
  (forL (m_impl_allWithin_L0 p1 p2) (fun s0 => (.inl ())) 0 p0 ()).bind fun (u0 : Unit ⊕ Bool) =>
  m_impl_allWithin_A0 u0
noncomputable def m_impl_isCoeff (p0 : Int) : Option Bool :=
  (m_impl_within p0 (-1000000 : Int) (1000000 : Int)).bind fun (r4 : Bool) =>
  some r4
noncomputable def m_impl_ValidTerm (p0 : Term) : Option Bool :=
  bif (decide ((p0.Coeffs.length : Int) ≤ (10 : Int))) then
    (m_impl_isCoeff p0.Const).bind fun (r12 : Bool) =>
    bif r12 then
      (m_impl_allWithin p0.Coeffs (-1000000 : Int) (1000000 : Int)).bind fun (r17 : Bool) =>
      bif r17 then
        bif (decide ((p0.Coeffs.length : Int) = (0 : Int))) then
          some true
        else
          (getI p0.Coeffs (w64 ((p0.Coeffs.length : Int) - (1 : Int)))).bind fun (x27 : Int) =>
          some (!decide (x27 = (0 : Int)))
      else
        some false
    else
      some false
  else
    some false
noncomputable def m_impl_subproofs (p0 : Node) : Option Int :=
  (m_impl_Term_isZero p0.Term).bind fun (r12 : Bool) =>
  bif (decide (p0.Kind = (1 : Int))) then
    bif (((decide (p0.Fact = (0 : Int))) && r12) && (decide ((p0.Multipliers.length : Int) ≤ (20 : Int)))) then
      (m_impl_allWithin p0.Multipliers (0 : Int) (1000000 : Int)).bind fun (r34 : Bool) =>
      bif r34 then
        some (0 : Int)
      else
        some (-1 : Int)
    else
      some (-1 : Int)
  else
    bif (decide (p0.Kind = (2 : Int))) then
      bif ((decide (p0.Fact = (0 : Int))) && (decide ((p0.Multipliers.length : Int) = (0 : Int)))) then
        (m_impl_ValidTerm p0.Term).bind fun (r45 : Bool) =>
        bif r45 then
          some (2 : Int)
        else
          some (-1 : Int)
      else
        some (-1 : Int)
    else
      bif (decide (p0.Kind = (3 : Int))) then
        (m_impl_within p0.Fact (0 : Int) (19 : Int)).bind fun (r51 : Bool) =>
        bif ((r51 && r12) && (decide ((p0.Multipliers.length : Int) = (0 : Int)))) then
          some (1 : Int)
        else
          some (-1 : Int)
      else
        some (-1 : Int)
noncomputable def m_impl_behindProof_F_L0 (rec_impl_behindProof : (List Node) → Int → Option (Int × Int × Bool)) (p0 : List Node) (s0 : Int × Int × Int) : Option (Ctl (Int × Int × Int) ((Int × Int) ⊕ (Int × Int × Bool))) :=
  bif (decide ((0 : Int) < s0.2.1)) then
    (rec_impl_behindProof p0 s0.1).bind fun (r32 : Int × Int × Bool) =>
    bif (!r32.2.2) then
      some (.out (.inr ((0 : Int), (0 : Int), false)))
    else
      some (.next (r32.1, (w64 (s0.2.1 - (1 : Int))), (max s0.2.2 r32.2.1)))
  else
    some (.out (.inl (s0.1, s0.2.2)))
noncomputable def m_impl_behindProof_F_A0 (u0 : (Int × Int) ⊕ (Int × Int × Bool)) : Option (Int × Int × Bool) :=
  match u0 with
  | .inl u0 =>
    some (u0.1, (w64 (u0.2 + (1 : Int))), true)
  | .inr u0 =>
    some (u0.1, u0.2.1, u0.2.2)
noncomputable def m_impl_behindProof_F (rec_impl_behindProof : (List Node) → Int → Option (Int × Int × Bool)) (p0 : List Node) (p1 : Int) : Option (Int × Int × Bool) :=
  bif (decide ((p0.length : Int) ≤ p1)) then
    some ((0 : Int), (0 : Int), false)
  else
    (getI p0 p1).bind fun (x18 : Node) =>
    (m_impl_subproofs x18).bind fun (r20 : Int) =>
    bif (decide (r20 < (0 : Int))) then
      some ((0 : Int), (0 : Int), false)
    else
      (iter (m_impl_behindProof_F_L0 rec_impl_behindProof p0) ((w64 (p1 + (1 : Int))), r20, (0 : Int))).bind fun (u0 : (Int × Int) ⊕ (Int × Int × Bool)) =>
      m_impl_behindProof_F_A0 u0
noncomputable def m_impl_behindProof : Nat → (List Node) → Int → Option (Int × Int × Bool)
  | 0, _, _ => none
  | n + 1, p0, p1 => m_impl_behindProof_F (m_impl_behindProof n) p0 p1
noncomputable def m_impl_IsProof (p0 : List Node) : Option Bool :=
  bif (decide ((60 : Int) < (p0.length : Int))) then
    some false
  else
    (m_impl_behindProof 1000 p0 (0 : Int)).bind fun (r11 : Int × Int × Bool) =>
    some (r11.2.2 && (decide (r11.1 = (p0.length : Int))))
noncomputable def m_impl_size (p0 : Int) : Option Int :=
  some p0
noncomputable def m_impl_isIndex (p0 : Int) (p1 : Int) : Option Bool :=
  (m_impl_size p1).bind fun (r7 : Int) =>
  (m_impl_within p0 (0 : Int) (w64 (r7 - (1 : Int)))).bind fun (r9 : Bool) =>
  some r9
noncomputable def m_impl_copyInts (p0 : List Int) : Option (List Int) :=
  (capI (([] : List Int).length + p0.length) 8).bind fun (q5 : Unit) =>
  some (([] : List Int) ++ p0)
noncomputable def m_impl_Term_own (p0 : Term) : Option Term :=
  (m_impl_copyInts p0.Coeffs).bind fun (r7 : List Int) =>
  some (Term.mk p0.Const r7)
noncomputable def m_impl_ownNodes_L0 (n0 : Nat) (x0 : Node) (s0 : List Node) : Option (Ctl (List Node) ((List Node))) :=
  (m_impl_Term_own x0.Term).bind fun (r14 : Term) =>
  (m_impl_copyInts x0.Multipliers).bind fun (r17 : List Int) =>
  (capI (s0.length + [(Node.mk x0.Kind x0.Fact r14 r17)].length) 72).bind fun (q23 : Unit) =>
  some (.next (s0 ++ [(Node.mk x0.Kind x0.Fact r14 r17)]))
noncomputable def m_impl_ownNodes_A0 (u0 : (List Node)) : Option (List Node) :=
  some u0
noncomputable def m_impl_ownNodes (p0 : List Node) : Option (List Node) :=
  (forL (m_impl_ownNodes_L0) (fun s0 => s0) 0 p0 ([] : List Node)).bind fun (u0 : (List Node)) =>
  m_impl_ownNodes_A0 u0
noncomputable def m_impl_SubproofAt (p0 : List Node) (p1 : Int) : Option ((List Node) × Bool) :=
  (m_impl_IsProof p0).bind fun (r10 : Bool) =>
  bif (!r10) then
    some (([] : List Node), false)
  else
    (m_impl_isIndex p1 (p0.length : Int)).bind fun (r16 : Bool) =>
    bif (!r16) then
      some (([] : List Node), false)
    else
      (m_impl_behindProof 1000 p0 p1).bind fun (r22 : Int × Int × Bool) =>
      (sliceI p0 p1 r22.1).bind fun (y29 : List Node) =>
      (m_impl_ownNodes y29).bind fun (r30 : List Node) =>
      some (r30, true)
noncomputable def m_laws_eqInt64S_L0 (p0 : List Int) (p1 : List Int) (s0 : Int) : Option (Ctl Int (Unit ⊕ Bool)) :=
  bif (decide (s0 < (p0.length : Int))) then
    (getI p0 s0).bind fun (x19 : Int) =>
    (getI p1 s0).bind fun (x23 : Int) =>
    bif (!decide (x19 = x23)) then
      some (.out (.inr false))
    else
      some (.next (w64 (s0 + (1 : Int))))
  else
    some (.out (.inl ()))
noncomputable def m_laws_eqInt64S_A0 (u0 : Unit ⊕ Bool) : Option Bool :=
  match u0 with
  | .inl u0 =>
    some true
  | .inr u0 =>
    some u0
noncomputable def m_laws_eqInt64S (p0 : List Int) (p1 : List Int) : Option Bool :=
  bif (!decide ((p0.length : Int) = (p1.length : Int))) then
    some false
  else
    (iter (m_laws_eqInt64S_L0 p0 p1) (0 : Int)).bind fun (u0 : Unit ⊕ Bool) =>
    m_laws_eqInt64S_A0 u0
noncomputable def m_laws_eqTerm (p0 : Term) (p1 : Term) : Option Bool :=
  bif (!decide (p0.Const = p1.Const)) then
    some false
  else
    (m_laws_eqInt64S p0.Coeffs p1.Coeffs).bind fun (r14 : Bool) =>
    bif (!r14) then
      some false
    else
      some true
noncomputable def m_laws_eqNode (p0 : Node) (p1 : Node) : Option Bool :=
  bif (!decide (p0.Kind = p1.Kind)) then
    some false
  else
    bif (!decide (p0.Fact = p1.Fact)) then
      some false
    else
      (m_laws_eqTerm p0.Term p1.Term).bind fun (r19 : Bool) =>
      bif (!r19) then
        some false
      else
        (m_laws_eqInt64S p0.Multipliers p1.Multipliers).bind fun (r25 : Bool) =>
        bif (!r25) then
          some false
        else
          some true
noncomputable def m_laws_eqNodeS_L0 (p0 : List Node) (p1 : List Node) (s0 : Int) : Option (Ctl Int (Unit ⊕ Bool)) :=
  bif (decide (s0 < (p0.length : Int))) then
    (getI p0 s0).bind fun (x19 : Node) =>
    (getI p1 s0).bind fun (x23 : Node) =>
    (m_laws_eqNode x19 x23).bind fun (r25 : Bool) =>
    bif (!r25) then
      some (.out (.inr false))
    else
      some (.next (w64 (s0 + (1 : Int))))
  else
    some (.out (.inl ()))
noncomputable def m_laws_eqNodeS_A0 (u0 : Unit ⊕ Bool) : Option Bool :=
  match u0 with
  | .inl u0 =>
    some true
  | .inr u0 =>
    some u0
noncomputable def m_laws_eqNodeS (p0 : List Node) (p1 : List Node) : Option Bool :=
  bif (!decide ((p0.length : Int) = (p1.length : Int))) then
    some false
  else
    (iter (m_laws_eqNodeS_L0 p0 p1) (0 : Int)).bind fun (u0 : Unit ⊕ Bool) =>
    m_laws_eqNodeS_A0 u0
noncomputable def m_laws_markInt64S_L0 (s0 : (List Int) × Int × Int) : Option (Ctl ((List Int) × Int × Int) ((Int × (List Int)))) :=
  bif (decide (s0.2.2 < (s0.1.length : Int))) then
    (getI s0.1 s0.2.2).bind fun (x15 : Int) =>
    some (.next ((s0.1.set ((s0.2.2).toNat) s0.2.1), (w64 (s0.2.1 + (1 : Int))), (w64 (s0.2.2 + (1 : Int)))))
  else
    some (.out (s0.2.1, s0.1))
noncomputable def m_laws_markInt64S_A0 (u0 : (Int × (List Int))) : Option (Int × (List Int)) :=
  some (u0.1, u0.2)
noncomputable def m_laws_markInt64S (p0 : List Int) (p1 : Int) : Option (Int × (List Int)) :=
  (iter (m_laws_markInt64S_L0) (p0, p1, (0 : Int))).bind fun (u0 : (Int × (List Int))) =>
  m_laws_markInt64S_A0 u0
noncomputable def m_laws_markNodeS_L0 (s0 : (List Node) × Int × Int) : Option (Ctl ((List Node) × Int × Int) ((Int × (List Node)))) :=
  bif (decide (s0.2.2 < (s0.1.length : Int))) then
    (getI s0.1 s0.2.2).bind fun (x15 : Node) =>
    (getI (s0.1.set ((s0.2.2).toNat) (Node.mk s0.2.1 x15.Fact x15.Term x15.Multipliers)) s0.2.2).bind fun (x22 : Node) =>
    (getI ((s0.1.set ((s0.2.2).toNat) (Node.mk s0.2.1 x15.Fact x15.Term x15.Multipliers)).set ((s0.2.2).toNat) (Node.mk x22.Kind (w64 (s0.2.1 + (1 : Int))) x22.Term x22.Multipliers)) s0.2.2).bind fun (x29 : Node) =>
    (getI (((s0.1.set ((s0.2.2).toNat) (Node.mk s0.2.1 x15.Fact x15.Term x15.Multipliers)).set ((s0.2.2).toNat) (Node.mk x22.Kind (w64 (s0.2.1 + (1 : Int))) x22.Term x22.Multipliers)).set ((s0.2.2).toNat) (Node.mk x29.Kind x29.Fact (Term.mk (w64 ((w64 (s0.2.1 + (1 : Int))) + (1 : Int))) x29.Term.Coeffs) x29.Multipliers)) s0.2.2).bind fun (x36 : Node) =>
    (m_laws_markInt64S x36.Term.Coeffs (w64 ((w64 ((w64 (s0.2.1 + (1 : Int))) + (1 : Int))) + (1 : Int)))).bind fun (r41 : Int × (List Int)) =>
    (getI ((((s0.1.set ((s0.2.2).toNat) (Node.mk s0.2.1 x15.Fact x15.Term x15.Multipliers)).set ((s0.2.2).toNat) (Node.mk x22.Kind (w64 (s0.2.1 + (1 : Int))) x22.Term x22.Multipliers)).set ((s0.2.2).toNat) (Node.mk x29.Kind x29.Fact (Term.mk (w64 ((w64 (s0.2.1 + (1 : Int))) + (1 : Int))) x29.Term.Coeffs) x29.Multipliers)).set ((s0.2.2).toNat) (Node.mk x36.Kind x36.Fact (Term.mk x36.Term.Const r41.2) x36.Multipliers)) s0.2.2).bind fun (x44 : Node) =>
    (m_laws_markInt64S x44.Multipliers r41.1).bind fun (r48 : Int × (List Int)) =>
    some (.next ((((((s0.1.set ((s0.2.2).toNat) (Node.mk s0.2.1 x15.Fact x15.Term x15.Multipliers)).set ((s0.2.2).toNat) (Node.mk x22.Kind (w64 (s0.2.1 + (1 : Int))) x22.Term x22.Multipliers)).set ((s0.2.2).toNat) (Node.mk x29.Kind x29.Fact (Term.mk (w64 ((w64 (s0.2.1 + (1 : Int))) + (1 : Int))) x29.Term.Coeffs) x29.Multipliers)).set ((s0.2.2).toNat) (Node.mk x36.Kind x36.Fact (Term.mk x36.Term.Const r41.2) x36.Multipliers)).set ((s0.2.2).toNat) (Node.mk x44.Kind x44.Fact x44.Term r48.2)), r48.1, (w64 (s0.2.2 + (1 : Int)))))
  else
    some (.out (s0.2.1, s0.1))
noncomputable def m_laws_markNodeS_A0 (u0 : (Int × (List Node))) : Option (Int × (List Node)) :=
  some (u0.1, u0.2)
noncomputable def m_laws_markNodeS (p0 : List Node) (p1 : Int) : Option (Int × (List Node)) :=
  (iter (m_laws_markNodeS_L0) (p0, p1, (0 : Int))).bind fun (u0 : (Int × (List Node))) =>
  m_laws_markNodeS_A0 u0
noncomputable def m_laws_heldInt64S_L0 (p0 : List Int) (s0 : Int × Int) : Option (Ctl (Int × Int) (Int ⊕ Int)) :=
  bif (decide (s0.2 < (p0.length : Int))) then
    (getI p0 s0.2).bind fun (x14 : Int) =>
    bif (!decide (x14 = s0.1)) then
      some (.out (.inr (-1 : Int)))
    else
      some (.next ((w64 (s0.1 + (1 : Int))), (w64 (s0.2 + (1 : Int)))))
  else
    some (.out (.inl s0.1))
noncomputable def m_laws_heldInt64S_A0 (u0 : Int ⊕ Int) : Option Int :=
  match u0 with
  | .inl u0 =>
    some u0
  | .inr u0 =>
    some u0
noncomputable def m_laws_heldInt64S (p0 : List Int) (p1 : Int) : Option Int :=
  (iter (m_laws_heldInt64S_L0 p0) (p1, (0 : Int))).bind fun (u0 : Int ⊕ Int) =>
  m_laws_heldInt64S_A0 u0
noncomputable def m_laws_heldNodeS_L0 (p0 : List Node) (s0 : Int × Int) : Option (Ctl (Int × Int) (Int ⊕ Int)) :=
  bif (decide (s0.2 < (p0.length : Int))) then
    (getI p0 s0.2).bind fun (x14 : Node) =>
    bif (!decide (x14.Kind = s0.1)) then
      some (.out (.inr (-1 : Int)))
    else
      bif (!decide (x14.Fact = (w64 (s0.1 + (1 : Int))))) then
        some (.out (.inr (-1 : Int)))
      else
        bif (!decide (x14.Term.Const = (w64 ((w64 (s0.1 + (1 : Int))) + (1 : Int))))) then
          some (.out (.inr (-1 : Int)))
        else
          (m_laws_heldInt64S x14.Term.Coeffs (w64 ((w64 ((w64 (s0.1 + (1 : Int))) + (1 : Int))) + (1 : Int)))).bind fun (r47 : Int) =>
          bif (decide (r47 < (0 : Int))) then
            some (.out (.inr (-1 : Int)))
          else
            (m_laws_heldInt64S x14.Multipliers r47).bind fun (r56 : Int) =>
            bif (decide (r56 < (0 : Int))) then
              some (.out (.inr (-1 : Int)))
            else
              some (.next (r56, (w64 (s0.2 + (1 : Int)))))
  else
    some (.out (.inl s0.1))
noncomputable def m_laws_heldNodeS_A0 (u0 : Int ⊕ Int) : Option Int :=
  match u0 with
  | .inl u0 =>
    some u0
  | .inr u0 =>
    some u0
noncomputable def m_laws_heldNodeS (p0 : List Node) (p1 : Int) : Option Int :=
  (iter (m_laws_heldNodeS_L0 p0) (p1, (0 : Int))).bind fun (u0 : Int ⊕ Int) =>
  m_laws_heldNodeS_A0 u0
noncomputable def m_laws_FnExactSubproofAt (p0 : List Node) (p1 : Int) : Option Bool :=
  (m_laws_szNodeS p0 (1048576 : Int)).bind fun (r18 : Int) =>
  bif (decide (r18 < (0 : Int))) then
    some true
  else
    (m_laws_toNodeS p0).bind fun (r23 : List Node) =>
    (m_spec_SubproofAt r23 p1).bind fun (r25 : (List Node) × Bool) =>
    (m_laws_toNodeS p0).bind fun (r29 : List Node) =>
    (m_impl_SubproofAt r29 p1).bind fun (r33 : (List Node) × Bool) =>
    (m_laws_eqNodeS r33.1 r25.1).bind fun (r38 : Bool) =>
    bif ((!r38) || (!(r33.2 == r25.2))) then
      some false
    else
      (m_laws_toNodeS p0).bind fun (r47 : List Node) =>
      (m_laws_eqNodeS r29 r47).bind fun (r48 : Bool) =>
      bif (!r48) then
        some false
      else
        (m_laws_markNodeS r29 (1 : Int)).bind fun (r52 : Int × (List Node)) =>
        bif (decide (r52.1 < (0 : Int))) then
          some false
        else
          (m_laws_eqNodeS r33.1 r25.1).bind fun (r58 : Bool) =>
          bif ((!r58) || (!(r33.2 == r25.2))) then
            some false
          else
            (m_laws_markNodeS r33.1 (1 : Int)).bind fun (r68 : Int × (List Node)) =>
            (m_laws_heldNodeS r68.2 (1 : Int)).bind fun (r71 : Int) =>
            bif (decide (r71 < (0 : Int))) then
              some false
            else
              bif (!decide (r71 = r68.1)) then
                some false
              else
                (m_laws_toNodeS p0).bind fun (r79 : List Node) =>
                (m_impl_SubproofAt r79 p1).bind fun (r81 : (List Node) × Bool) =>
                (m_laws_eqNodeS r81.1 r25.1).bind fun (r86 : Bool) =>
                bif ((!r86) || (!(r81.2 == r25.2))) then
                  some false
                else
                  (m_laws_heldNodeS r68.2 (1 : Int)).bind fun (r95 : Int) =>
                  bif (decide (r95 < (0 : Int))) then
                    some false
                  else
                    bif (!decide (r95 = r68.1)) then
                      some false
                    else
                      some true
end Go.Mod

namespace Go.Mod
open Go.AM
set_option linter.unusedVariables false
set_option linter.unusedSimpArgs false
theorem pl_mem_sum {α : Type} {c : α → Nat} {xs : List α} {x : α} (h : x ∈ xs) : c x ≤ (xs.map c).sum := by
  induction xs with
  | nil => cases h
  | cons y r ih =>
    simp only [List.map_cons, List.sum_cons]
    rcases List.mem_cons.1 h with rfl | h
    · omega
    · have := ih h; omega
theorem pl_sum_len {α : Type} {q : α → Nat} {xs : List α} (h : ∀ x, q x ≤ 8 + 8 * 0) : (xs.map q).sum ≤ 8 * xs.length := by
  induction xs with
  | nil => simp
  | cons y r ih => have := h y; simp only [List.map_cons, List.sum_cons, List.length_cons]; omega
theorem pl_sum_le {α : Type} {q c : α → Nat} {xs : List α} (h : ∀ x, q x ≤ 8 + 8 * c x) : (xs.map q).sum ≤ 8 * (xs.length + (xs.map c).sum) := by
  induction xs with
  | nil => simp
  | cons y r ih => have := h y; simp only [List.map_cons, List.sum_cons, List.length_cons]; omega
theorem pl_szB {m : Option Int} {c d b : Nat} {F : Int → Option Int} (h : m = some (szOut c b)) (g : c ≤ b → F ((b - c : Nat) : Int) = some (szOut d (b - c))) :
    (m.bind fun r => bif decide (r < 0) then some (-1) else F r) = some (szOut (c + d) b) := by
  rw [h, Option.bind_some]
  by_cases hc : c ≤ b
  · rw [szOut_ok hc, decide_eq_false (by omega), cond_false, g hc]
    unfold szOut
    by_cases h2 : d ≤ b - c
    · rw [if_pos h2, if_pos (by omega)]; congr 2; omega
    · rw [if_neg h2, if_neg (by omega)]
  · rw [szOut_no hc, szOut_no (by omega)]; rfl
theorem pl_szL {m : Option Int} {c b : Nat} (h : m = some (szOut c b)) : (m.bind fun r => bif decide (r < 0) then some (-1) else some r) = some (szOut c b) := by
  have := pl_szB (d := 0) (F := fun r => some r) h (fun hc => by rw [szOut_ok (Nat.zero_le _)]; rfl)
  simpa using this
theorem pl_eqB {p q : Prop} [Decidable p] [Decidable q] {F : Option Bool} (h : F = some (decide q)) : (bif !decide p then some false else F) = some (decide (p ∧ q)) := by
  by_cases hp : p <;> by_cases hq : q <;> simp [h, hp, hq]
theorem pl_eqL {p : Prop} [Decidable p] : (bif !decide p then some false else some true) = some (decide p) := by
  by_cases hp : p <;> simp [hp]
theorem pl_eqM {m : Option Bool} {p q : Prop} [Decidable p] [Decidable q] {F : Option Bool} (hm : m = some (decide p)) (h : F = some (decide q)) : (m.bind fun r => bif !r then some false else F) = some (decide (p ∧ q)) := by
  rw [hm, Option.bind_some]; exact pl_eqB h
theorem pl_eqML {m : Option Bool} {p : Prop} [Decidable p] (hm : m = some (decide p)) : (m.bind fun r => bif !r then some false else some true) = some (decide p) := by
  rw [hm, Option.bind_some]; exact pl_eqL
theorem pl_neg1 : decide ((-1 : Int) < 0) = true := rfl
theorem pl_condB {α β : Type} {b : Bool} {x y : Option α} {f : α → Option β} : (cond b x y).bind f = cond b (x.bind f) (y.bind f) := by cases b <;> rfl
theorem pl_cond2 {α : Type} {b : Bool} {x y z : α} : cond b x (cond b y z) = cond b x z := by cases b <;> rfl
section
variable {α : Type} {ys : List α} {n : Nat} {a b c d e f g : α} (h : n < ys.length)
include h
theorem pl_get_set : getI (ys.set n a) (n : Int) = some a := getI_some (by rw [List.getElem?_set_self h])
theorem pl_get_set2 : getI ((ys.set n a).set n b) (n : Int) = some b := getI_some (by rw [List.set_set, List.getElem?_set_self h])
theorem pl_get_set3 : getI (((ys.set n a).set n b).set n c) (n : Int) = some c := getI_some (by rw [List.set_set, List.set_set, List.getElem?_set_self h])
theorem pl_get_set4 : getI ((((ys.set n a).set n b).set n c).set n d) (n : Int) = some d := getI_some (by simp only [List.set_set]; rw [List.getElem?_set_self h])
theorem pl_get_set5 : getI (((((ys.set n a).set n b).set n c).set n d).set n e) (n : Int) = some e := getI_some (by simp only [List.set_set]; rw [List.getElem?_set_self h])
theorem pl_get_set6 : getI ((((((ys.set n a).set n b).set n c).set n d).set n e).set n f) (n : Int) = some f := getI_some (by simp only [List.set_set]; rw [List.getElem?_set_self h])
theorem pl_get_set7 : getI (((((((ys.set n a).set n b).set n c).set n d).set n e).set n f).set n g) (n : Int) = some g := getI_some (by simp only [List.set_set]; rw [List.getElem?_set_self h])
end
def pc_Int64S (xs : List Int) : Nat := xs.length
theorem pc_Int64S_len {xs : List Int} : xs.length ≤ pc_Int64S xs := by unfold pc_Int64S; omega
theorem pz_Int64S {xs : List Int} (k : kLa_i64 xs) : SzP m_laws_szInt64S pc_Int64S xs := fun _ hb => sz_flat k.1 hb
theorem pt_Int64S {xs : List Int} (hl : pc_Int64S xs ≤ 1048576) : m_laws_toInt64S xs = some xs := by
  have hlen : xs.length ≤ 1048576 := Nat.le_trans pc_Int64S_len hl
  unfold m_laws_toInt64S
  rw [makeI_some (by omega), Option.bind_some, iter_to (xs := xs) (z := (0 : Int)) (cp := some)
    (fun n x ys hx => by unfold m_laws_toInt64S_L0; rw [dec_lt (get_lt hx), cond_true, getI_some hx]; rfl)
    (fun ys => by unfold m_laws_toInt64S_L0; rw [dec_self]; rfl) hlen (fun x hx => rfl)]
  rfl
theorem pe_Int64S {xs ys : List Int} (hl : pc_Int64S xs ≤ 1048576) : m_laws_eqInt64S xs ys = some (decide (xs = ys)) := by
  have hlen : xs.length ≤ 1048576 := Nat.le_trans pc_Int64S_len hl
  unfold m_laws_eqInt64S
  by_cases h : xs.length = ys.length
  · rw [decide_eq_true (by omega), Bool.not_true, cond_false, iter_eq (xs := xs) (ys := ys) (eq := fun x y => some (decide (x = y)))
      (fun n x y hx hy => by unfold m_laws_eqInt64S_L0; rw [dec_lt (get_lt hx), cond_true, getI_some hx, getI_some hy]; rfl)
      (by unfold m_laws_eqInt64S_L0; rw [dec_self]; rfl) (by omega) h (fun x hx y => rfl)]
    by_cases e : xs = ys
    · rw [if_pos e, decide_eq_true e]; rfl
    · rw [if_neg e, decide_eq_false e]; rfl
  · rw [decide_eq_false (by omega), decide_eq_false (fun e => h (by rw [e]))]; rfl
def pqE_Int64S (x : Int) : Nat := 1
def pq_Int64S (xs : List Int) : Nat := (xs.map pqE_Int64S).sum
theorem pqE_Int64S_le (x : Int) : pqE_Int64S x ≤ 8 + 8 * 0 := by
  unfold pqE_Int64S
  omega
theorem pq_Int64S_le (xs : List Int) : pq_Int64S xs ≤ 8 * pc_Int64S xs := by
  unfold pq_Int64S pc_Int64S
  exact pl_sum_len (fun x => pqE_Int64S_le x)
noncomputable def pmk_Int64S (x : Int) (k : Int) : Option (Int × Int) := some ((w64 (k + 1)), k)
noncomputable def phe_Int64S (x : Int) (k : Int) : Option Int := bif !decide (x = k) then some (-1) else some (w64 (k + 1))
theorem pmE_Int64S (x : Int) : ∀ k : Nat, k + pqE_Int64S x ≤ 4611686018427387904 → ∃ x', pmk_Int64S x k = some (((k + pqE_Int64S x : Nat) : Int), x') ∧ phe_Int64S x' k = some ((k + pqE_Int64S x : Nat) : Int) := fun k hk => by
  unfold pqE_Int64S at hk ⊢
  have tot : ((k + 1 : Nat) : Int) = ((k + (1) : Nat) : Int) := by omega
  have w0 : w64 (((k : Nat) : Int) + 1) = ((k + 1 : Nat) : Int) := w64_succ (by omega)
  refine ⟨((k : Nat) : Int), ?_, ?_⟩
  · unfold pmk_Int64S; simp only [w0, Option.bind_some] <;> rw [← tot]
  · unfold phe_Int64S; simp only [w0, Option.bind_some, decide_true, Bool.not_true, cond_false] <;> rw [← tot]
theorem pm_Int64S {xs : List Int} (hl : pc_Int64S xs ≤ 1048576) {k : Nat} (hk : k + pq_Int64S xs ≤ 4611686018427387904) : ∃ xs', m_laws_markInt64S xs k = some (((k + pq_Int64S xs : Nat) : Int), xs') ∧ m_laws_heldInt64S xs' k = some ((k + pq_Int64S xs : Nat) : Int) := by
  obtain ⟨xs', h1, h2, h3⟩ := iter_mark (xs := xs) (m := pqE_Int64S) (mk := pmk_Int64S) (held := phe_Int64S) (step := m_laws_markInt64S_L0) (hstep := m_laws_heldInt64S_L0)
    (fun n ys x k hk hx => by
      have hn := get_lt hx
      have gen : ∀ k1 : Int, w64 ((k : Int) + 1) = k1 → m_laws_markInt64S_L0 (ys, (k : Int), (n : Int)) = (pmk_Int64S x k).bind fun r => some (.next (ys.set n r.2, r.1, w64 ((n : Int) + 1))) := by
        intro k1 h1
        unfold m_laws_markInt64S_L0 pmk_Int64S
        simp only [h1, dec_lt hn, cond_true, getI_some hx, Option.bind_some, Int.toNat_natCast, pl_get_set hn, pl_get_set2 hn, pl_get_set3 hn, pl_get_set4 hn, pl_get_set5 hn, pl_get_set6 hn, pl_get_set7 hn, List.set_set, Option.bind_assoc]
      exact gen _ rfl)
    (fun ys k => by unfold m_laws_markInt64S_L0; rw [dec_self]; rfl)
    (fun n ys x k hk hx => by
      unfold m_laws_heldInt64S_L0 phe_Int64S
      rw [dec_lt (get_lt hx), cond_true, getI_some hx]
      have w0 : w64 (((k : Nat) : Int) + 1) = ((k + 1 : Nat) : Int) := w64_succ (by omega)
      simp only [Option.bind_some, pl_condB, pl_cond2, Option.bind_assoc, pl_neg1, cond_true, cond_false, dec_neg, w0])
    (fun ys k => by unfold m_laws_heldInt64S_L0; rw [dec_self]; rfl)
    (by have := pc_Int64S_len (xs := xs); omega) (fun x hx => pmE_Int64S x) (k := k) hk
  exact ⟨xs', by unfold m_laws_markInt64S; rw [h1]; rfl, by unfold m_laws_heldInt64S; rw [h3]; rfl⟩
def pc_Term (x : Term) : Nat := pc_Int64S x.Coeffs
theorem pi_Term (x y : Term) : (x.Const = y.Const ∧ x.Coeffs = y.Coeffs) ↔ x = y := by cases x; cases y; simp
theorem pz_Term {x : Term} (k : k_Term x) : SzP m_laws_szTerm pc_Term x := fun b hb => by
  unfold m_laws_szTerm pc_Term
  rw [show pc_Int64S x.Coeffs = pc_Int64S x.Coeffs by omega]
  exact pl_szL (pz_Int64S k.2 (b) (by omega))
theorem pt_Term {x : Term} (hl : pc_Term x ≤ 1048576) : m_laws_toTerm x = some x := by
  unfold pc_Term at hl
  unfold m_laws_toTerm
  simp only [pt_Int64S (xs := x.Coeffs) (by omega), Option.bind_some]
theorem pe_Term {x y : Term} (hl : pc_Term x ≤ 1048576) : m_laws_eqTerm x y = some (decide (x = y)) := by
  unfold pc_Term at hl
  unfold m_laws_eqTerm
  rw [← decide_eq_decide.2 (pi_Term x y)]
  exact pl_eqB (pl_eqML (pe_Int64S (by omega)))
def pc_Node (x : Node) : Nat := pc_Term x.Term + pc_Int64S x.Multipliers
theorem pi_Node (x y : Node) : (x.Kind = y.Kind ∧ x.Fact = y.Fact ∧ x.Term = y.Term ∧ x.Multipliers = y.Multipliers) ↔ x = y := by cases x; cases y; simp
theorem pz_Node {x : Node} (k : k_Node x) : SzP m_laws_szNode pc_Node x := fun b hb => by
  unfold m_laws_szNode pc_Node
  rw [show pc_Term x.Term + pc_Int64S x.Multipliers = pc_Term x.Term + (pc_Int64S x.Multipliers) by omega]
  exact pl_szB (pz_Term k.2.2.1 (b) (by omega)) fun h0 => pl_szL (pz_Int64S k.2.2.2 (b - pc_Term x.Term) (by omega))
theorem pt_Node {x : Node} (hl : pc_Node x ≤ 1048576) : m_laws_toNode x = some x := by
  unfold pc_Node at hl
  unfold m_laws_toNode
  simp only [pt_Term (x := x.Term) (by omega), pt_Int64S (xs := x.Multipliers) (by omega), Option.bind_some]
theorem pe_Node {x y : Node} (hl : pc_Node x ≤ 1048576) : m_laws_eqNode x y = some (decide (x = y)) := by
  unfold pc_Node at hl
  unfold m_laws_eqNode
  rw [← decide_eq_decide.2 (pi_Node x y)]
  exact pl_eqB (pl_eqB (pl_eqM (pe_Term (by omega)) (pl_eqML (pe_Int64S (by omega)))))
def pc_NodeS (xs : List Node) : Nat := xs.length + (xs.map pc_Node).sum
theorem pc_NodeS_mem {xs : List Node} {x : Node} (h : x ∈ xs) : pc_Node x ≤ pc_NodeS xs := by have := pl_mem_sum (c := pc_Node) h; unfold pc_NodeS; omega
theorem pc_NodeS_len {xs : List Node} : xs.length ≤ pc_NodeS xs := by unfold pc_NodeS; omega
theorem pz_NodeS {xs : List Node} (k : kLa_Node xs) : SzP m_laws_szNodeS pc_NodeS xs := fun b hb => by
  unfold m_laws_szNodeS pc_NodeS
  rw [szW k.1 hb]
  by_cases h : xs.length ≤ b
  · rw [decide_eq_false (by omega), cond_false, show (b : Int) - (xs.length : Int) = ((b - xs.length : Nat) : Int) by omega,
      iter_sz (xs := xs) (c := pc_Node) (sz := m_laws_szNode)
        (fun n x b hx => by unfold m_laws_szNodeS_L0; rw [dec_lt (get_lt hx), cond_true, getI_some hx]; rfl)
        (fun b => by unfold m_laws_szNodeS_L0; rw [dec_self]; rfl) k.1 (fun x hx => pz_Node (k.2 x hx)) (by omega), Option.bind_some]
    by_cases h2 : (xs.map pc_Node).sum ≤ b - xs.length
    · rw [if_pos h2, szOut_ok (by omega)]
      unfold m_laws_szNodeS_A0; simp only; congr 2; omega
    · rw [if_neg h2, szOut_no (by omega)]; rfl
  · rw [decide_eq_true (by omega), szOut_no (by omega)]; rfl
theorem pt_NodeS {xs : List Node} (hl : pc_NodeS xs ≤ 1048576) : m_laws_toNodeS xs = some xs := by
  have hlen : xs.length ≤ 1048576 := Nat.le_trans pc_NodeS_len hl
  unfold m_laws_toNodeS
  rw [makeI_some (by omega), Option.bind_some, iter_to (xs := xs) (z := (Node.mk (0 : Int) (0 : Int) (Term.mk (0 : Int) ([] : List Int)) ([] : List Int))) (cp := m_laws_toNode)
    (fun n x ys hx => by unfold m_laws_toNodeS_L0; rw [dec_lt (get_lt hx), cond_true, getI_some hx]; rfl)
    (fun ys => by unfold m_laws_toNodeS_L0; rw [dec_self]; rfl) hlen (fun x hx => pt_Node (by have := pc_NodeS_mem hx; omega))]
  rfl
theorem pe_NodeS {xs ys : List Node} (hl : pc_NodeS xs ≤ 1048576) : m_laws_eqNodeS xs ys = some (decide (xs = ys)) := by
  have hlen : xs.length ≤ 1048576 := Nat.le_trans pc_NodeS_len hl
  unfold m_laws_eqNodeS
  by_cases h : xs.length = ys.length
  · rw [decide_eq_true (by omega), Bool.not_true, cond_false, iter_eq (xs := xs) (ys := ys) (eq := m_laws_eqNode)
      (fun n x y hx hy => by unfold m_laws_eqNodeS_L0; rw [dec_lt (get_lt hx), cond_true, getI_some hx, getI_some hy]; rfl)
      (by unfold m_laws_eqNodeS_L0; rw [dec_self]; rfl) (by omega) h (fun x hx y => pe_Node (by have := pc_NodeS_mem hx; omega))]
    by_cases e : xs = ys
    · rw [if_pos e, decide_eq_true e]; rfl
    · rw [if_neg e, decide_eq_false e]; rfl
  · rw [decide_eq_false (by omega), decide_eq_false (fun e => h (by rw [e]))]; rfl
def pqE_NodeS (x : Node) : Nat := 3 + pq_Int64S x.Term.Coeffs + pq_Int64S x.Multipliers
def pq_NodeS (xs : List Node) : Nat := (xs.map pqE_NodeS).sum
theorem pqE_NodeS_le (x : Node) : pqE_NodeS x ≤ 8 + 8 * pc_Node x := by
  unfold pqE_NodeS
  have h0 := pq_Int64S_le x.Term.Coeffs
  have h1 := pq_Int64S_le x.Multipliers
  unfold pc_Node
  unfold pc_Term
  omega
theorem pq_NodeS_le (xs : List Node) : pq_NodeS xs ≤ 8 * pc_NodeS xs := by
  unfold pq_NodeS pc_NodeS
  exact pl_sum_le (fun x => pqE_NodeS_le x)
noncomputable def pmk_NodeS (x : Node) (k : Int) : Option (Int × Node) := (m_laws_markInt64S x.Term.Coeffs (w64 ((w64 ((w64 (k + 1)) + 1)) + 1))).bind fun r0 => (m_laws_markInt64S x.Multipliers r0.1).bind fun r1 => some (r1.1, (Node.mk k (w64 (k + 1)) (Term.mk (w64 ((w64 (k + 1)) + 1)) r0.2) r1.2))
noncomputable def phe_NodeS (x : Node) (k : Int) : Option Int := bif !decide (x.Kind = k) then some (-1) else bif !decide (x.Fact = (w64 (k + 1))) then some (-1) else bif !decide (x.Term.Const = (w64 ((w64 (k + 1)) + 1))) then some (-1) else (m_laws_heldInt64S x.Term.Coeffs (w64 ((w64 ((w64 (k + 1)) + 1)) + 1))).bind fun r3 => bif decide (r3 < 0) then some (-1) else (m_laws_heldInt64S x.Multipliers r3).bind fun r4 => bif decide (r4 < 0) then some (-1) else some r4
theorem pmE_NodeS (x : Node) (hc : pc_Node x ≤ 1048576) : ∀ k : Nat, k + pqE_NodeS x ≤ 4611686018427387904 → ∃ x', pmk_NodeS x k = some (((k + pqE_NodeS x : Nat) : Int), x') ∧ phe_NodeS x' k = some ((k + pqE_NodeS x : Nat) : Int) := fun k hk => by
  unfold pqE_NodeS at hk ⊢
  unfold pc_Node at hc
  unfold pc_Term at hc
  obtain ⟨a0, m0, g0⟩ := pm_Int64S (xs := x.Term.Coeffs) (by omega) (k := k + 1 + 1 + 1) (by omega)
  have n0 : decide ((((k + 1 + 1 + 1) + pq_Int64S x.Term.Coeffs : Nat) : Int) < 0) = false := decide_eq_false (by omega)
  obtain ⟨a1, m1, g1⟩ := pm_Int64S (xs := x.Multipliers) (by omega) (k := k + 1 + 1 + 1 + pq_Int64S x.Term.Coeffs) (by omega)
  have n1 : decide ((((k + 1 + 1 + 1 + pq_Int64S x.Term.Coeffs) + pq_Int64S x.Multipliers : Nat) : Int) < 0) = false := decide_eq_false (by omega)
  have tot : ((k + 1 + 1 + 1 + pq_Int64S x.Term.Coeffs + pq_Int64S x.Multipliers : Nat) : Int) = ((k + (3 + pq_Int64S x.Term.Coeffs + pq_Int64S x.Multipliers) : Nat) : Int) := by omega
  obtain ⟨w0, w1, w2⟩ : w64 (((k : Nat) : Int) + 1) = ((k + 1 : Nat) : Int) ∧ w64 (((k + 1 : Nat) : Int) + 1) = ((k + 1 + 1 : Nat) : Int) ∧ w64 (((k + 1 + 1 : Nat) : Int) + 1) = ((k + 1 + 1 + 1 : Nat) : Int) := ⟨w64_succ (by omega), w64_succ (by omega), w64_succ (by omega)⟩
  refine ⟨(Node.mk ((k : Nat) : Int) ((k + 1 : Nat) : Int) (Term.mk ((k + 1 + 1 : Nat) : Int) a0) a1), ?_, ?_⟩
  · unfold pmk_NodeS; simp only [w0, w1, w2, m0, m1, Option.bind_some] <;> rw [← tot]
  · unfold phe_NodeS; simp only [w0, w1, w2, g0, g1, n0, n1, Option.bind_some, decide_true, Bool.not_true, cond_false] <;> rw [← tot]
theorem pm_NodeS {xs : List Node} (hl : pc_NodeS xs ≤ 1048576) {k : Nat} (hk : k + pq_NodeS xs ≤ 4611686018427387904) : ∃ xs', m_laws_markNodeS xs k = some (((k + pq_NodeS xs : Nat) : Int), xs') ∧ m_laws_heldNodeS xs' k = some ((k + pq_NodeS xs : Nat) : Int) := by
  obtain ⟨xs', h1, h2, h3⟩ := iter_mark (xs := xs) (m := pqE_NodeS) (mk := pmk_NodeS) (held := phe_NodeS) (step := m_laws_markNodeS_L0) (hstep := m_laws_heldNodeS_L0)
    (fun n ys x k hk hx => by
      have hn := get_lt hx
      have gen : ∀ k1 k2 k3 : Int, w64 ((k : Int) + 1) = k1 → w64 (k1 + 1) = k2 → w64 (k2 + 1) = k3 → m_laws_markNodeS_L0 (ys, (k : Int), (n : Int)) = (pmk_NodeS x k).bind fun r => some (.next (ys.set n r.2, r.1, w64 ((n : Int) + 1))) := by
        intro k1 k2 k3 h1 h2 h3
        unfold m_laws_markNodeS_L0 pmk_NodeS
        simp only [h1, h2, h3, dec_lt hn, cond_true, getI_some hx, Option.bind_some, Int.toNat_natCast, pl_get_set hn, pl_get_set2 hn, pl_get_set3 hn, pl_get_set4 hn, pl_get_set5 hn, pl_get_set6 hn, pl_get_set7 hn, List.set_set, Option.bind_assoc]
      exact gen _ _ _ rfl rfl rfl)
    (fun ys k => by unfold m_laws_markNodeS_L0; rw [dec_self]; rfl)
    (fun n ys x k hk hx => by
      unfold m_laws_heldNodeS_L0 phe_NodeS
      rw [dec_lt (get_lt hx), cond_true, getI_some hx]
      obtain ⟨w0, w1, w2⟩ : w64 (((k : Nat) : Int) + 1) = ((k + 1 : Nat) : Int) ∧ w64 (((k + 1 : Nat) : Int) + 1) = ((k + 1 + 1 : Nat) : Int) ∧ w64 (((k + 1 + 1 : Nat) : Int) + 1) = ((k + 1 + 1 + 1 : Nat) : Int) := ⟨w64_succ (by omega), w64_succ (by omega), w64_succ (by omega)⟩
      simp only [Option.bind_some, pl_condB, pl_cond2, Option.bind_assoc, pl_neg1, cond_true, cond_false, dec_neg, w0, w1, w2])
    (fun ys k => by unfold m_laws_heldNodeS_L0; rw [dec_self]; rfl)
    (by have := pc_NodeS_len (xs := xs); omega) (fun x hx => pmE_NodeS x (by have := pc_NodeS_mem hx; omega)) (k := k) hk
  exact ⟨xs', by unfold m_laws_markNodeS; rw [h1]; rfl, by unfold m_laws_heldNodeS; rw [h3]; rfl⟩
end Go.Mod

namespace Go.Mod
open Go.AM
set_option linter.unusedVariables false
set_option linter.unusedSimpArgs false
def cTerm (t : Term) : Nat := t.Coeffs.length
def inR (c : Int) : Bool := decide (-1000000 ≤ c) && decide (c ≤ 1000000)
def lastOK (xs : List Int) : Bool := match xs.getLast? with | none => true | some x => !decide (x = 0)
def vT (t : Term) : Bool := inR t.Const && decide (t.Coeffs.length ≤ 10) && lastOK t.Coeffs && t.Coeffs.all inR
theorem getI_last {xs : List Int} (h0 : 0 < xs.length) (hl : xs.length ≤ 9223372036854775807) : getI xs (w64 ((xs.length : Int) - 1)) = xs.getLast? := by
  rw [w64_pred h0 hl, getI_nat, List.getLast?_eq_getElem?]
theorem spec_number (c : Int) : m_spec_l02Number c = some (inR c) := rfl
theorem spec_is_loop {t : Term} (hl : t.Coeffs.length ≤ 1048576) : iter (m_spec_l02Is_L0 t) 0 = some (bif t.Coeffs.all inR then .inl () else .inr false) := by
  have h := iter_for (step := m_spec_l02Is_L0 t) t.Coeffs (fun n (_ : Unit) => (n : Int)) (fun _ x _ => bif inR x then some (.next ()) else some (.out (.inr false))) (fun _ => .inl ())
    (fun n x r hx => by
      unfold m_spec_l02Is_L0
      rw [dec_lt (get_lt hx), cond_true, getI_some hx, Option.bind_some, spec_number, Option.bind_some]
      have hw : w64 ((n : Int) + 1) = ((n + 1 : Nat) : Int) := w64_succ (by have := get_lt hx; omega)
      cases inR x
      · rfl
      · rw [hw]; rfl)
    (fun r => by unfold m_spec_l02Is_L0; rw [dec_self]; rfl) ()
  rw [forL_all inR _ _ (fun n x _ => rfl)] at h
  exact h
theorem spec_is {t : Term} (hl : cTerm t ≤ 1048576) : m_spec_l02Is t = some (vT t) := by
  unfold cTerm at hl
  have hJ : m_spec_l02Is_J0 t () = some (t.Coeffs.all inR) := by
    unfold m_spec_l02Is_J0
    rw [spec_is_loop hl, Option.bind_some]
    cases t.Coeffs.all inR <;> rfl
  unfold m_spec_l02Is
  rw [spec_number, Option.bind_some]
  unfold vT
  cases h1 : inR t.Const with
  | false => rfl
  | true =>
    by_cases h2 : t.Coeffs.length ≤ 10
    · rw [decide_eq_true h2, decide_eq_false (show ¬ (10 : Int) < (t.Coeffs.length : Int) by omega)]
      simp only [Bool.not_true, Bool.false_or, cond_false, Bool.true_and]
      by_cases h3 : 0 < t.Coeffs.length
      · rw [decide_eq_true (show (0 : Int) < (t.Coeffs.length : Int) by omega), cond_true, getI_last h3 (by omega)]
        unfold lastOK
        cases h4 : t.Coeffs.getLast? with
        | none => rw [List.getLast?_eq_none_iff] at h4; rw [h4] at h3; exact absurd h3 (by simp)
        | some x =>
          simp only [Option.bind_some]
          by_cases h5 : x = 0
          · rw [decide_eq_true h5]; rfl
          · rw [decide_eq_false h5, cond_false, hJ]; rfl
      · rw [decide_eq_false (show ¬ (0 : Int) < (t.Coeffs.length : Int) by omega), cond_false, hJ]
        have : t.Coeffs = [] := List.length_eq_zero_iff.1 (by omega)
        rw [this]; rfl
    · rw [decide_eq_false h2, decide_eq_true (show (10 : Int) < (t.Coeffs.length : Int) by omega)]; rfl
theorem impl_all {xs : List Int} {a b : Int} : m_impl_allWithin xs a b = some (xs.all fun x => decide (a ≤ x) && decide (x ≤ b)) := by
  unfold m_impl_allWithin
  rw [forL_all (fun x => decide (a ≤ x) && decide (x ≤ b)) (f := .inr false) xs 0 (fun n x _ => by
    unfold m_impl_allWithin_L0 m_impl_within
    rw [Option.bind_some]
    cases (decide (a ≤ x) && decide (x ≤ b)) <;> rfl), Option.bind_some]
  cases xs.all fun x => decide (a ≤ x) && decide (x ≤ b) <;> rfl
theorem impl_valid (t : Term) : m_impl_ValidTerm t = some (vT t) := by
  unfold m_impl_ValidTerm vT
  by_cases h2 : t.Coeffs.length ≤ 10
  · rw [decide_eq_true h2, decide_eq_true (show (t.Coeffs.length : Int) ≤ (10 : Int) by omega), cond_true]
    rw [show m_impl_isCoeff t.Const = some (inR t.Const) from rfl, Option.bind_some]
    cases h1 : inR t.Const with
    | false => rfl
    | true =>
      rw [cond_true, impl_all, Option.bind_some]
      change (bif t.Coeffs.all inR then _ else _) = _
      cases h3 : t.Coeffs.all inR with
      | false => simp
      | true =>
        rw [cond_true]
        by_cases h4 : t.Coeffs.length = 0
        · rw [decide_eq_true (by omega), cond_true]
          rw [List.length_eq_zero_iff.1 h4]; rfl
        · rw [decide_eq_false (by omega), cond_false, getI_last (by omega) (by omega)]
          unfold lastOK
          cases h5 : t.Coeffs.getLast? with
          | none => rw [List.getLast?_eq_none_iff] at h5; rw [h5] at h4; exact absurd rfl h4
          | some x => simp
  · rw [decide_eq_false h2, decide_eq_false (show ¬ (t.Coeffs.length : Int) ≤ (10 : Int) by omega)]; simp
theorem spec_own {xs : List Int} (h : xs.length ≤ 1048576) : m_spec_l00Own xs = some xs := by
  unfold m_spec_l00Own; rw [capI_some (by simp; omega)]; simp
theorem impl_copy {xs : List Int} (h : xs.length ≤ 1048576) : m_impl_copyInts xs = some xs := by
  unfold m_impl_copyInts; rw [capI_some (by simp; omega)]; simp
theorem impl_own {t : Term} (h : t.Coeffs.length ≤ 1048576) : m_impl_Term_own t = some t := by
  unfold m_impl_Term_own; rw [impl_copy h]; rfl
def coef (xs : List Int) (i : Nat) : Int := xs[i]?.getD 0
def sumN (f : Nat → Int) : Nat → Int
  | 0 => 0
  | n + 1 => sumN f n + f n
def tAt (ts : List Term) (k : Nat) : Term := ts[k]?.getD ⟨0, []⟩
def lin (ts : List Term) (ms : List Int) (g : Term → Int) (n : Nat) : Int := sumN (fun k => coef ms k * g (tAt ts k)) n
def Src (s : l00Src) (k : Nat) : Prop := (∀ x ∈ s.code, 0 ≤ x ∧ x ≤ 255) ∧ s.code.length ≤ 1048576 ∧ 0 ≤ s.at_ ∧ s.at_ ≤ k
theorem Src.mono {s : l00Src} {k k' : Nat} (h : Src s k) (hk : k ≤ k') : Src s k' := ⟨h.1, h.2.1, h.2.2.1, by have := h.2.2.2; omega⟩
def val (t : Term) (v : List Int) : Int := t.Const + sumN (fun i => coef t.Coeffs i * coef v i) 10
def Vals (v : List Int) : Prop := v.length = 10 ∧ ∀ x ∈ v, -6 ≤ x ∧ x ≤ 6
theorem Vals.coef {v : List Int} (h : Vals v) (i : Nat) : -6 ≤ coef v i ∧ coef v i ≤ 6 := by
  unfold Mod.coef
  cases hx : v[i]? with
  | none => simp
  | some x => exact h.2 x (List.mem_of_getElem? hx)
structure Small (t : Term) : Prop where
  v : vT t = true
  c : -7 ≤ t.Const ∧ t.Const ≤ 7
  f : ∀ i, -4 ≤ coef t.Coeffs i ∧ coef t.Coeffs i ≤ 4
structure Fact (t : Term) (c : Nat) : Prop where
  v : vT t = true
  c : -(c : Int) ≤ t.Const ∧ t.Const ≤ c
  f : ∀ i, -3 ≤ coef t.Coeffs i ∧ coef t.Coeffs i ≤ 3
theorem Fact.mono {t : Term} {c c' : Nat} (h : Fact t c) (hc : c ≤ c') : Fact t c' := ⟨h.v, by have := h.c; omega, h.f⟩
end Go.Mod

namespace Go.Mod
open Go.AM
set_option linter.unusedVariables false
set_option linter.unusedSimpArgs false
def zT (t : Term) : Bool := decide (t.Const = 0) && decide (t.Coeffs.length = 0)
def okMs (ms : List Int) : Bool := ms.all (fun m => decide (0 ≤ m) && decide (m ≤ 1000000)) && decide (ms.length ≤ 20)
def ar (x : Node) : Option Nat :=
  bif decide (x.Kind = 1) then (bif decide (x.Fact = 0) && zT x.Term && okMs x.Multipliers then some 0 else none)
  else bif decide (x.Kind = 2) then (bif decide (x.Fact = 0) && decide (x.Multipliers.length = 0) && vT x.Term then some 2 else none)
  else bif decide (x.Kind = 3) then (bif (decide (0 ≤ x.Fact) && decide (x.Fact ≤ 19)) && zT x.Term && decide (x.Multipliers.length = 0) then some 1 else none)
  else none
def arI : Option Nat → Int
  | some n => n
  | none => -1
theorem ar_le {x : Node} {n : Nat} (h : ar x = some n) : n ≤ 2 := by
  unfold ar at h
  revert h
  cases decide (x.Kind = 1) with
  | true => rw [cond_true]; cases decide (x.Fact = 0) && zT x.Term && okMs x.Multipliers <;> intro h <;> cases h; omega
  | false =>
    rw [cond_false]
    cases decide (x.Kind = 2) with
    | true => rw [cond_true]; cases decide (x.Fact = 0) && decide (x.Multipliers.length = 0) && vT x.Term <;> intro h <;> cases h; omega
    | false =>
      rw [cond_false]
      cases decide (x.Kind = 3) with
      | true => rw [cond_true]; cases (decide (0 ≤ x.Fact) && decide (x.Fact ≤ 19)) && zT x.Term && decide (x.Multipliers.length = 0) <;> intro h <;> cases h; omega
      | false => intro h; cases h
theorem dec_len0 {α : Type} (xs : List α) : decide ((xs.length : Int) = 0) = decide (xs.length = 0) := by
  by_cases h : xs.length = 0
  · rw [decide_eq_true h, decide_eq_true (by omega)]
  · rw [decide_eq_false h, decide_eq_false (by omega)]
theorem dec_len20 {α : Type} (xs : List α) : decide ((xs.length : Int) ≤ 20) = decide (xs.length ≤ 20) := by
  by_cases h : xs.length ≤ 20
  · rw [decide_eq_true h, decide_eq_true (by omega)]
  · rw [decide_eq_false h, decide_eq_false (by omega)]
theorem impl_zero (t : Term) : m_impl_Term_isZero t = some (zT t) := by unfold m_impl_Term_isZero zT; rw [dec_len0]
theorem spec_zero (t : Term) : m_spec_l05Zero t = some (zT t) := by unfold m_spec_l05Zero zT; rw [dec_len0]
theorem impl_sub (x : Node) : m_impl_subproofs x = some (arI (ar x)) := by
  unfold m_impl_subproofs ar
  rw [impl_zero, Option.bind_some]
  cases decide (x.Kind = 1) with
  | true =>
    rw [cond_true, cond_true, impl_all, Option.bind_some, dec_len20]
    unfold okMs
    cases decide (x.Fact = 0) <;> cases zT x.Term <;> cases decide (x.Multipliers.length ≤ 20) <;> cases x.Multipliers.all (fun m => decide (0 ≤ m) && decide (m ≤ 1000000)) <;> rfl
  | false =>
    rw [cond_false, cond_false]
    cases decide (x.Kind = 2) with
    | true =>
      rw [cond_true, cond_true, impl_valid, Option.bind_some, dec_len0]
      cases decide (x.Fact = 0) <;> cases decide (x.Multipliers.length = 0) <;> cases vT x.Term <;> rfl
    | false =>
      rw [cond_false, cond_false]
      cases decide (x.Kind = 3) with
      | true =>
        rw [cond_true, cond_true, show m_impl_within x.Fact 0 19 = some (decide (0 ≤ x.Fact) && decide (x.Fact ≤ 19)) from rfl, Option.bind_some, dec_len0]
        cases (decide (0 ≤ x.Fact) && decide (x.Fact ≤ 19)) <;> cases zT x.Term <;> cases decide (x.Multipliers.length = 0) <;> rfl
      | false => rfl
theorem spec_mults {ms : List Int} (hl : ms.length ≤ 1048576) : m_spec_l05Multipliers ms = some (okMs ms) := by
  have h := iter_for (step := m_spec_l05Multipliers_L0 ms) ms (fun n (_ : Unit) => (n : Int)) (fun _ x _ => bif decide (0 ≤ x) && decide (x ≤ 1000000) then some (.next ()) else some (.out (.inr false))) (fun _ => .inl ())
    (fun n x r hx => by
      have hn := get_lt hx
      unfold m_spec_l05Multipliers_L0
      rw [dec_lt hn, cond_true, getI_some hx, Option.bind_some, show m_spec_l00In x 0 1000000 = some (decide (0 ≤ x) && decide (x ≤ 1000000)) from rfl, Option.bind_some, w64_succ (by omega)]
      cases decide (0 ≤ x) && decide (x ≤ 1000000) <;> rfl)
    (fun r => by unfold m_spec_l05Multipliers_L0; rw [dec_self]; rfl) ()
  unfold m_spec_l05Multipliers
  rw [show (0 : Int) = ((0 : Nat) : Int) from rfl, h, forL_all (fun x => decide (0 ≤ x) && decide (x ≤ 1000000)) ms 0 (fun _ _ _ => rfl), Option.bind_some]
  unfold okMs m_spec_l05Multipliers_A0
  cases ms.all (fun x => decide (0 ≤ x) && decide (x ≤ 1000000)) with
  | true => simp only [cond_true, Bool.true_and, dec_len20]
  | false => rfl
theorem spec_node {x : Node} (h1 : x.Term.Coeffs.length ≤ 1048576) (h2 : x.Multipliers.length ≤ 1048576) : m_spec_l05Node x = some (ar x).isSome := by
  unfold m_spec_l05Node ar
  cases decide (x.Kind = 1) with
  | true =>
    rw [cond_true, cond_true, spec_zero, Option.bind_some, spec_mults h2, Option.bind_some]
    cases decide (x.Fact = 0) <;> cases zT x.Term <;> cases okMs x.Multipliers <;> rfl
  | false =>
    rw [cond_false, cond_false]
    cases decide (x.Kind = 2) with
    | true =>
      rw [cond_true, cond_true, spec_is h1, Option.bind_some, dec_len0]
      cases decide (x.Fact = 0) <;> cases decide (x.Multipliers.length = 0) <;> cases vT x.Term <;> rfl
    | false =>
      rw [cond_false, cond_false]
      cases decide (x.Kind = 3) with
      | true =>
        rw [cond_true, cond_true, show m_spec_l00In x.Fact 0 19 = some (decide (0 ≤ x.Fact) && decide (x.Fact ≤ 19)) from rfl, Option.bind_some, spec_zero, Option.bind_some, dec_len0]
        cases (decide (0 ≤ x.Fact) && decide (x.Fact ≤ 19)) <;> cases zT x.Term <;> cases decide (x.Multipliers.length = 0) <;> rfl
      | false => rfl
def goL : List Node → Nat → Option (List Node)
  | p, 0 => some p
  | [], _ + 1 => none
  | x :: r, n + 1 => (ar x).bind fun a => goL r (n + a)
theorem goL_zero (p : List Node) : goL p 0 = some p := by cases p <;> rfl
theorem goL_add : ∀ (p : List Node) (a b : Nat), goL p (a + b) = (goL p a).bind fun r => goL r b := by
  intro p
  induction p with
  | nil =>
    intro a b
    cases a with
    | zero => rw [Nat.zero_add, goL_zero, Option.bind_some]
    | succ a => rw [show a + 1 + b = (a + b) + 1 by omega]; rfl
  | cons x r ih =>
    intro a b
    cases a with
    | zero => rw [Nat.zero_add, goL_zero, Option.bind_some]
    | succ a =>
      rw [show a + 1 + b = (a + b) + 1 by omega]
      show (ar x).bind (fun c => goL r (a + b + c)) = ((ar x).bind fun c => goL r (a + c)).bind fun r => goL r b
      cases ar x with
      | none => rfl
      | some c => simp only [Option.bind_some]; rw [show a + b + c = (a + c) + b by omega]; exact ih _ _
theorem goL_pre : ∀ (p : List Node) (n : Nat) {r : List Node}, goL p n = some r → ∃ q, p = q ++ r ∧ (∀ x ∈ q, (ar x).isSome = true) ∧ (0 < n → q ≠ []) := by
  intro p
  induction p with
  | nil =>
    intro n r h
    cases n with
    | zero => cases h; exact ⟨[], rfl, by simp, by omega⟩
    | succ n => cases h
  | cons x r ih =>
    intro n s h
    cases n with
    | zero => cases h; exact ⟨[], rfl, by simp, by omega⟩
    | succ n =>
      unfold goL at h
      cases ha : ar x with
      | none => rw [ha] at h; cases h
      | some a =>
        rw [ha, Option.bind_some] at h
        obtain ⟨q, rfl, h1, _⟩ := ih _ h
        refine ⟨x :: q, rfl, ?_, by simp⟩
        intro y hy
        rcases List.mem_cons.1 hy with rfl | hy
        · rw [ha]; rfl
        · exact h1 y hy
theorem goL_len {p r : List Node} {n : Nat} (h : goL p n = some r) : r.length + min n 1 ≤ p.length := by
  obtain ⟨q, rfl, _, h2⟩ := goL_pre p n h
  rw [List.length_append]
  cases n with
  | zero => simp
  | succ n =>
    have := List.length_pos_iff.2 (h2 (by omega))
    omega
theorem goL_drop {p r : List Node} {n : Nat} (h : goL p n = some r) : r = p.drop (p.length - r.length) := by
  obtain ⟨q, rfl, _, _⟩ := goL_pre p n h
  rw [List.length_append, Nat.add_sub_cancel, List.drop_left]
section
variable {p : List Node}
theorem sub1 {n : Nat} (h : n ≤ 3) : w64 (((n + 1 : Nat) : Int) - 1) = (n : Int) := by rw [w64_eq (by omega)]; omega
theorem behind_ok (hl : p.length ≤ 1048576) : ∀ (fu k : Nat), k ≤ p.length → p.length - k < fu →
    ∃ d : Nat, d ≤ p.length - k ∧ m_impl_behindProof fu p (k : Int) = some (match goL (p.drop k) 1 with | some r => (((p.length - r.length : Nat) : Int), (d : Int), true) | none => (0, 0, false)) := by
  intro fu
  induction fu with
  | zero => intro k _ h; omega
  | succ fu ih =>
    intro k hk hf
    have loop : ∀ (b c k d : Nat), b ≤ k → k ≤ p.length → c ≤ 2 → d ≤ p.length - b → p.length - k < fu → ∃ d' : Nat, d' ≤ p.length - b ∧
        iter (m_impl_behindProof_F_L0 (m_impl_behindProof fu) p) ((k : Int), (c : Int), (d : Int)) = some (match goL (p.drop k) c with | some r => .inl (((p.length - r.length : Nat) : Int), (d' : Int)) | none => .inr (0, 0, false)) := by
      intro b c
      induction c with
      | zero =>
        intro k d hb hk hc hd hf
        refine ⟨d, hd, ?_⟩
        rw [goL_zero, iter_out (t := .inl ((k : Int), (d : Int)))]
        · simp only [List.length_drop]; rw [show p.length - (p.length - k) = k by omega]
        · rfl
      | succ c ihc =>
        intro k d hb hk hc hd hf
        obtain ⟨d1, hd1, e1⟩ := ih k hk hf
        rw [show c + 1 = 1 + c by omega, goL_add]
        have hstep : ∀ y, m_impl_behindProof fu p (k : Int) = some y → m_impl_behindProof_F_L0 (m_impl_behindProof fu) p ((k : Int), ((1 + c : Nat) : Int), (d : Int)) = (bif !y.2.2 then some (.out (.inr ((0 : Int), (0 : Int), false))) else some (.next (y.1, (c : Int), max (d : Int) y.2.1))) := by
          intro y hy
          unfold m_impl_behindProof_F_L0
          simp only
          rw [decide_eq_true (by omega), cond_true, hy, Option.bind_some, show 1 + c = c + 1 by omega, sub1 (by omega)]
        cases hg : goL (p.drop k) 1 with
        | none =>
          rw [hg] at e1
          exact ⟨0, by omega, iter_out (hstep _ e1)⟩
        | some r =>
          rw [hg] at e1
          have h1 := goL_len hg
          have h2 := goL_drop hg
          simp only [List.length_drop, Nat.min_self] at h1
          rw [List.drop_drop, List.length_drop] at h2
          have hlt : k < p.length := by omega
          have h3 : m_impl_behindProof_F_L0 (m_impl_behindProof fu) p ((k : Int), ((1 + c : Nat) : Int), (d : Int)) = some (.next (((p.length - r.length : Nat) : Int), (c : Int), ((max d d1 : Nat) : Int))) := by
            rw [hstep _ e1]
            simp only [Bool.not_true, cond_false]
            rw [show max (d : Int) (d1 : Int) = ((max d d1 : Nat) : Int) by omega]
          rw [iter_next h3, Option.bind_some]
          obtain ⟨d', hd', e2⟩ := ihc (p.length - r.length) (max d d1) (by omega) (by omega) (by omega) (by omega) (by omega)
          refine ⟨d', hd', ?_⟩
          rw [e2, ← show r = p.drop (p.length - r.length) from h2.trans (by congr 1; omega)]
    unfold m_impl_behindProof m_impl_behindProof_F
    by_cases h : p.length ≤ k
    · refine ⟨0, by omega, ?_⟩
      rw [decide_eq_true (by omega), cond_true, List.drop_eq_nil_iff.2 h]; rfl
    · have hlt : k < p.length := by omega
      rw [decide_eq_false (by omega), cond_false, getI_some (List.getElem?_eq_getElem hlt), Option.bind_some, impl_sub, Option.bind_some, List.drop_eq_getElem_cons hlt]
      unfold goL
      cases ha : ar p[k] with
      | none => exact ⟨0, by omega, rfl⟩
      | some a =>
        have ha2 := ar_le ha
        obtain ⟨d', h1, h2⟩ := loop (k + 1) a (k + 1) 0 (Nat.le_refl _) (by omega) ha2 (by omega) (by omega)
        refine ⟨d' + 1, by omega, ?_⟩
        unfold arI
        simp only [Option.bind_some, Nat.zero_add]
        rw [dec_neg, cond_false, w64_succ (by omega)]
        rw [show ((0 : Nat) : Int) = (0 : Int) from rfl] at h2
        rw [h2, Option.bind_some]
        unfold m_impl_behindProof_F_A0
        cases goL (p.drop (k + 1)) a with
        | none => rfl
        | some r => simp only; rw [w64_succ (by omega)]
end
def isP (p : List Node) : Bool := decide (p.length ≤ 60) && (match goL p 1 with | some [] => true | _ => false)
theorem impl_isP (p : List Node) : m_impl_IsProof p = some (isP p) := by
  unfold m_impl_IsProof isP
  by_cases h : p.length ≤ 60
  · rw [decide_eq_false (by omega), cond_false, decide_eq_true h, Bool.true_and]
    obtain ⟨d, _, e⟩ := behind_ok (p := p) (by omega) 1000 0 (by omega) (by omega)
    rw [show ((0 : Nat) : Int) = (0 : Int) from rfl] at e
    rw [e, List.drop_zero, Option.bind_some]
    cases hg : goL p 1 with
    | none => rfl
    | some r =>
      have := goL_len hg
      cases r with
      | nil => simp only [List.length_nil, Nat.sub_zero, decide_true, Bool.and_self]
      | cons x r => simp only [Bool.true_and]; rw [decide_eq_false (by simp at this; simp; omega)]
  · rw [decide_eq_true (by omega), cond_true, decide_eq_false h]; rfl
theorem spec_end_step {p : List Node} {k need : Nat} {x : Node} {a : Nat} (hx : p[k]? = some x) (ha : ar x = some a) (hl : p.length ≤ 1048576) (hn : need ≤ 1048576) :
    m_spec_l05End_L0 p ((k : Int), ((need + 1 : Nat) : Int)) = some (.next (((k + 1 : Nat) : Int), ((need + a : Nat) : Int))) := by
  have hk := get_lt hx
  unfold m_spec_l05End_L0
  simp only
  rw [decide_eq_true (by omega), cond_true, decide_eq_false (by omega), cond_false, getI_some hx, Option.bind_some]
  have w1 : w64 ((k : Int) + 1) = ((k + 1 : Nat) : Int) := w64_succ (by omega)
  rw [w1]
  clear w1
  unfold ar at ha
  revert ha
  cases decide (x.Kind = 1) with
  | true =>
    rw [cond_true, cond_true]
    cases decide (x.Fact = 0) && zT x.Term && okMs x.Multipliers <;> intro ha <;> cases ha
    have w2 : w64 (((need + 1 : Nat) : Int) - 1) = (need : Int) := by rw [w64_eq (by omega)]; omega
    rw [w2]; rfl
  | false =>
    rw [cond_false, cond_false]
    cases decide (x.Kind = 2) with
    | true =>
      rw [cond_true, cond_true]
      cases decide (x.Fact = 0) && decide (x.Multipliers.length = 0) && vT x.Term <;> intro ha <;> cases ha
      have w2 : w64 (((need + 1 : Nat) : Int) + 1) = ((need + 2 : Nat) : Int) := w64_succ (by omega)
      rw [w2]
    | false =>
      rw [cond_false, cond_false]
      cases decide (x.Kind = 3) with
      | true =>
        rw [cond_true]
        cases (decide (0 ≤ x.Fact) && decide (x.Fact ≤ 19)) && zT x.Term && decide (x.Multipliers.length = 0) <;> intro ha <;> cases ha
        rfl
      | false => intro ha; cases ha
theorem spec_end {p : List Node} (hl : p.length ≤ 60) (hv : ∀ x ∈ p, (ar x).isSome = true) : ∀ (q k need : Nat), k + q = p.length → need + 2 * q ≤ 1000 →
    iter (m_spec_l05End_L0 p) ((k : Int), (need : Int)) = some (match goL (p.drop k) need with | some r => .inl ((p.length - r.length : Nat) : Int) | none => .inr (-1)) := by
  intro q
  induction q with
  | zero =>
    intro k need hk hn
    obtain rfl : k = p.length := by omega
    rw [List.drop_length]
    cases need with
    | zero => rw [goL_zero]; exact iter_out rfl
    | succ n =>
      exact iter_out (by unfold m_spec_l05End_L0; simp only; rw [decide_eq_true (by omega), cond_true, decide_true]; rfl)
  | succ q ih =>
    intro k need hk hn
    have hlt : k < p.length := by omega
    cases need with
    | zero =>
      rw [goL_zero, iter_out (t := .inl (k : Int)) rfl]
      simp only [List.length_drop]
      rw [show p.length - (p.length - k) = k by omega]
    | succ n =>
      obtain ⟨a, ha⟩ := Option.isSome_iff_exists.1 (hv _ (List.getElem_mem hlt))
      have ha2 := ar_le ha
      rw [iter_next (spec_end_step (List.getElem?_eq_getElem hlt) ha (by omega) (by omega)), ih (k + 1) (n + a) (by omega) (by omega), List.drop_eq_getElem_cons hlt]
      have e : goL (p[k] :: p.drop (k + 1)) (n + 1) = (ar p[k]).bind fun a => goL (p.drop (k + 1)) (n + a) := rfl
      rw [e, ha, Option.bind_some]
theorem spec_l05End {p : List Node} (hl : p.length ≤ 60) (hv : ∀ x ∈ p, (ar x).isSome = true) {k : Nat} (hk : k ≤ p.length) :
    m_spec_l05End p (k : Int) = some (match goL (p.drop k) 1 with | some r => ((p.length - r.length : Nat) : Int) | none => -1) := by
  unfold m_spec_l05End
  rw [show (1 : Int) = ((1 : Nat) : Int) from rfl, spec_end hl hv (p.length - k) k 1 (by omega) (by omega), Option.bind_some]
  unfold m_spec_l05End_A0
  cases goL (p.drop k) 1 <;> rfl
theorem spec_isP {p : List Node} (hc : pc_NodeS p ≤ 1048576) : m_spec_l05Is p = some (isP p) := by
  have hl : p.length ≤ 1048576 := Nat.le_trans pc_NodeS_len hc
  have h := iter_for (step := m_spec_l05Is_L0 p) p (fun n (_ : Unit) => (n : Int)) (fun _ x _ => bif (ar x).isSome then some (.next ()) else some (.out (.inr false))) (fun _ => .inl ())
    (fun n x r hx => by
      have hn := get_lt hx
      have hm := pc_NodeS_mem (List.mem_of_getElem? hx)
      unfold pc_Node pc_Term pc_Int64S at hm
      unfold m_spec_l05Is_L0
      rw [dec_lt hn, cond_true, getI_some hx, Option.bind_some, spec_node (by omega) (by omega), Option.bind_some, w64_succ (by omega)]
      cases (ar x).isSome <;> rfl)
    (fun r => by unfold m_spec_l05Is_L0; rw [dec_self]; rfl) ()
  unfold m_spec_l05Is isP
  rw [show m_spec_l00In (p.length : Int) 1 60 = some (decide (1 ≤ (p.length : Int)) && decide ((p.length : Int) ≤ 60)) from rfl, Option.bind_some]
  by_cases h60 : p.length ≤ 60
  · by_cases h1 : 1 ≤ p.length
    · rw [decide_eq_true (by omega), decide_eq_true (by omega), Bool.true_and, Bool.not_true, cond_false, decide_eq_true h60, Bool.true_and]
      rw [show (0 : Int) = ((0 : Nat) : Int) from rfl, h, forL_all (fun x => (ar x).isSome) p 0 (fun _ _ _ => rfl), Option.bind_some]
      cases hv : p.all (fun x => (ar x).isSome) with
      | true =>
        rw [cond_true]
        unfold m_spec_l05Is_A0
        simp only
        rw [show (0 : Int) = ((0 : Nat) : Int) from rfl, spec_l05End h60 (by simpa using hv) (Nat.zero_le _), Option.bind_some, List.drop_zero]
        cases hg : goL p 1 with
        | none => simp only; rw [decide_eq_false (by omega)]
        | some r =>
          have := goL_len hg
          cases r with
          | nil => simp only [List.length_nil, Nat.sub_zero, decide_true]
          | cons x r => simp only; rw [decide_eq_false (by simp at this; simp; omega)]
      | false =>
        rw [cond_false]
        unfold m_spec_l05Is_A0
        simp only
        cases hg : goL p 1 with
        | none => rfl
        | some r =>
          obtain ⟨q, hq, h2, _⟩ := goL_pre p 1 hg
          cases r with
          | cons x r => rfl
          | nil =>
            rw [List.append_nil] at hq
            subst hq
            have : p.all (fun x => (ar x).isSome) = true := by simpa using h2
            rw [this] at hv; cases hv
    · have : p = [] := List.eq_nil_of_length_eq_zero (by omega)
      subst this
      rfl
  · rw [decide_eq_false (p := (p.length : Int) ≤ 60) (by omega), Bool.and_false, decide_eq_false h60]; rfl
theorem goL_at : ∀ (p : List Node) (n k : Nat), goL p n = some [] → k < p.length → ∃ m, goL (p.drop k) (m + 1) = some [] := by
  intro p
  induction p with
  | nil => intro n k _ h; simp at h
  | cons x r ih =>
    intro n k h hk
    cases n with
    | zero => cases h
    | succ n =>
      cases k with
      | zero => exact ⟨n, h⟩
      | succ k =>
        rw [show goL (x :: r) (n + 1) = (ar x).bind (fun a => goL r (n + a)) from rfl] at h
        cases ha : ar x with
        | none => rw [ha] at h; cases h
        | some a =>
          rw [ha, Option.bind_some] at h
          exact ih _ k h (by simpa using hk)
theorem isP_iff {p : List Node} : isP p = true ↔ p.length ≤ 60 ∧ goL p 1 = some [] := by
  unfold isP
  rw [Bool.and_eq_true, decide_eq_true_eq]
  cases hg : goL p 1 with
  | none => simp
  | some r => cases r <;> simp
theorem isP_sub {p : List Node} (h : isP p = true) {k : Nat} (hk : k < p.length) : ∃ r, goL (p.drop k) 1 = some r := by
  obtain ⟨_, h1⟩ := isP_iff.1 h
  obtain ⟨m, h2⟩ := goL_at p 1 k h1 hk
  rw [show m + 1 = 1 + m by omega, goL_add] at h2
  cases hg : goL (p.drop k) 1 with
  | none => rw [hg] at h2; cases h2
  | some r => exact ⟨r, rfl⟩
theorem isP_valid {p : List Node} (h : isP p = true) : ∀ x ∈ p, (ar x).isSome = true := by
  obtain ⟨_, h1⟩ := isP_iff.1 h
  obtain ⟨q, hq, h2, _⟩ := goL_pre p 1 h1
  rw [List.append_nil] at hq
  subst hq
  exact h2
end Go.Mod

namespace Go.Mod
open Go.AM
set_option linter.unusedVariables false
set_option linter.unusedSimpArgs false
theorem impl_ownNodes {p : List Node} (hc : pc_NodeS p ≤ 1048576) : m_impl_ownNodes p = some p := by
  have hl : p.length ≤ 1048576 := Nat.le_trans pc_NodeS_len hc
  unfold m_impl_ownNodes
  obtain ⟨t, h1, h2⟩ := forL_inv (step := m_impl_ownNodes_L0) (fin := fun s0 => s0) (xs := p) (fun n s => s = p.take n) (fun t => t = p)
    (fun n x s hx hs => by
      subst hs
      have hn := get_lt hx
      have hm := pc_NodeS_mem (List.mem_of_getElem? hx)
      unfold pc_Node pc_Term pc_Int64S at hm
      refine .inl ⟨p.take n ++ [x], ?_, ?_⟩
      · unfold m_impl_ownNodes_L0
        rw [impl_own (by omega), Option.bind_some, impl_copy (by omega), Option.bind_some, capI_some (by simp; omega)]; rfl
      · rw [List.take_add_one, hx]; rfl)
    (fun s hs => by rw [hs, List.take_length]) (s := []) rfl
  rw [h1, h2]; rfl
theorem spec_ownNodes {p : List Node} (hc : pc_NodeS p ≤ 1048576) : m_spec_l05OwnAll p = some p := by
  have hl : p.length ≤ 1048576 := Nat.le_trans pc_NodeS_len hc
  have h := iter_for (step := m_spec_l05OwnAll_L0 p) p (fun n (s : List Node) => (s, (n : Int))) m_impl_ownNodes_L0 (fun s0 => s0)
    (fun n x r hx => by
      have hn := get_lt hx
      have hm := pc_NodeS_mem (List.mem_of_getElem? hx)
      unfold pc_Node pc_Term pc_Int64S at hm
      unfold m_spec_l05OwnAll_L0 m_impl_ownNodes_L0 m_spec_l05Own m_spec_l02Own
      simp only
      rw [dec_lt hn, cond_true, getI_some hx, Option.bind_some, spec_own (by omega), Option.bind_some, Option.bind_some, spec_own (by omega), Option.bind_some, Option.bind_some, impl_own (by omega), Option.bind_some, impl_copy (by omega), Option.bind_some, w64_succ (by omega)]
      cases capI (r.length + [Node.mk x.Kind x.Fact x.Term x.Multipliers].length) 72 <;> rfl)
    (fun r => by unfold m_spec_l05OwnAll_L0; simp only; rw [dec_self]; rfl) ([] : List Node)
  have h2 := impl_ownNodes hc
  unfold m_impl_ownNodes at h2
  unfold m_spec_l05OwnAll
  rw [show (0 : Int) = ((0 : Nat) : Int) from rfl, h]
  exact h2
theorem pc_sub {p : List Node} (a b : Nat) : pc_NodeS ((p.drop a).take b) ≤ pc_NodeS p := by
  have key : ∀ q : List Node, ∀ n, pc_NodeS (q.drop n) ≤ pc_NodeS q ∧ pc_NodeS (q.take n) ≤ pc_NodeS q := by
    intro q n
    have e : pc_NodeS (q.take n) + pc_NodeS (q.drop n) = pc_NodeS q := by
      unfold pc_NodeS
      conv => rhs; rw [← List.take_append_drop n q]
      rw [List.length_append, List.map_append, List.sum_append]
      omega
    omega
  exact Nat.le_trans (key _ b).2 (key p a).1
theorem same_SubproofAt (p0 : List Node) (p1 : Int) (k0 : kLa_Node p0) (k1 : k_i64 p1) (h0 : pc_NodeS p0 ≤ 1048576) :
    ∃ r, m_spec_SubproofAt p0 p1 = some r ∧ m_impl_SubproofAt p0 p1 = some r ∧ pc_NodeS r.1 ≤ 1048576 := by
  have hl : p0.length ≤ 1048576 := Nat.le_trans pc_NodeS_len h0
  unfold m_spec_SubproofAt m_impl_SubproofAt
  rw [spec_isP h0, impl_isP, Option.bind_some, Option.bind_some]
  cases hP : isP p0 with
  | false => exact ⟨_, rfl, rfl, by decide⟩
  | true =>
    obtain ⟨h60, _⟩ := isP_iff.1 hP
    rw [Bool.not_true, cond_false, cond_false]
    have e1 : m_spec_l00In p1 0 (w64 ((p0.length : Int) - 1)) = some (decide (0 ≤ p1) && decide (p1 ≤ (p0.length : Int) - 1)) := by rw [w64_eq (by omega)]; rfl
    have e2 : m_impl_isIndex p1 (p0.length : Int) = some (decide (0 ≤ p1) && decide (p1 ≤ (p0.length : Int) - 1)) := by
      unfold m_impl_isIndex m_impl_within m_impl_size
      simp only [Option.bind_some]
      rw [w64_eq (by omega)]
    rw [e1, e2, Option.bind_some, Option.bind_some]
    cases hb : decide (0 ≤ p1) && decide (p1 ≤ (p0.length : Int) - 1) with
    | false => exact ⟨_, rfl, rfl, by decide⟩
    | true =>
      simp only [Bool.and_eq_true, decide_eq_true_eq] at hb
      obtain ⟨k, rfl⟩ := Int.eq_ofNat_of_zero_le hb.1
      have hk : k < p0.length := by omega
      obtain ⟨r, hr⟩ := isP_sub hP hk
      obtain ⟨d, _, e3⟩ := behind_ok (p := p0) (by omega) 1000 k (by omega) (by omega)
      have e4 := spec_l05End h60 (isP_valid hP) (k := k) (by omega)
      rw [hr] at e3 e4
      have h1 := goL_len hr
      simp only [List.length_drop, Nat.min_self] at h1
      have hs := pc_sub (p := p0) k (p0.length - r.length - k)
      refine ⟨((p0.drop k).take (p0.length - r.length - k), true), ?_, ?_, by simp only; omega⟩
      · rw [Bool.not_true, cond_false, e4, Option.bind_some, sliceI_some (by omega) (by omega), Option.bind_some, spec_ownNodes (by omega)]; rfl
      · rw [Bool.not_true, cond_false, e3, Option.bind_some, sliceI_some (by omega) (by omega), Option.bind_some, impl_ownNodes (by omega)]; rfl
end Go.Mod

namespace Go.Mod
open Go.AM
set_option linter.unusedVariables false
set_option linter.unusedSimpArgs false
theorem law_SubproofAt {p0 : List Node} {p1 : Int} (k0 : kLa_Node p0) (k1 : k_i64 p1) : m_laws_FnExactSubproofAt p0 p1 = some true := by
  unfold m_laws_FnExactSubproofAt
  rw [show (1048576 : Int) = ((1048576 : Nat) : Int) from rfl]
  rw [pz_NodeS k0 _ (by omega), Option.bind_some]
  by_cases h0 : pc_NodeS p0 ≤ 1048576
  · rw [szOut_ok h0, dec_neg, cond_false]
    obtain ⟨⟨r0_, r1_⟩, e1, e2, b0⟩ := same_SubproofAt p0 p1 k0 k1 (show pc_NodeS p0 ≤ 1048576 by omega)
    have q0 := pq_NodeS_le p0
    have qr0 := pq_NodeS_le r0_
    try simp only at b0 qr0
    obtain ⟨am0_0, m0, -⟩ := pm_NodeS (show pc_NodeS p0 ≤ 1048576 by omega) (k := 1) (by omega)
    replace m0 : m_laws_markNodeS p0 1 = _ := m0
    obtain ⟨rm0_0, mr0, gr0⟩ := pm_NodeS (show pc_NodeS r0_ ≤ 1048576 by omega) (k := 1) (by omega)
    replace mr0 : m_laws_markNodeS r0_ 1 = _ := mr0
    replace gr0 : m_laws_heldNodeS _ 1 = _ := gr0
    simp only [Option.bind_some, cond_false, cond_true, dec_neg, e1, e2, decide_true, bool_beq, Bool.not_true, Bool.or_false, Bool.false_eq_true, pt_NodeS (show pc_NodeS p0 ≤ 1048576 by omega), pe_NodeS (show pc_NodeS p0 ≤ 1048576 by omega), m0, pe_NodeS (show pc_NodeS r0_ ≤ 1048576 by omega), mr0, gr0]
  · rw [szOut_no h0]; rfl
end Go.Mod
