import Derived.Test.YtmbbpabjdalfaaaGc
namespace Go.Mod
open Go.AM
set_option linter.unusedVariables false
structure Term where
  Const : Int
  Coeffs : List Int
  deriving DecidableEq, Inhabited
structure Node where
  Kind : Int
  Fact : Int
  Term : Term
  Multipliers : List Int
  deriving DecidableEq, Inhabited
structure Sequent where
  Facts : List Term
  Goal : Term
  deriving DecidableEq, Inhabited
structure l00Src where
  code : List Int
  at_ : Int
  seed : Int
  deriving DecidableEq, Inhabited
structure checking where
  proof : List Node
  contexts : List (Int × (List Term))
  flaw : Int
  deriving DecidableEq, Inhabited
def k_u8 (x : Int) : Prop := 0 ≤ x ∧ x ≤ 255
def kLa_u8 (x : List Int) : Prop := x.length ≤ 9223372036854775807 ∧ ∀ y ∈ x, k_u8 y
noncomputable def m_spec_l00In (p0 : Int) (p1 : Int) (p2 : Int) : Option Bool :=
  some ((decide (p1 ≤ p0)) && (decide (p0 ≤ p2)))
noncomputable def m_spec_l02Number (p0 : Int) : Option Bool :=
  (m_spec_l00In p0 (-1000000 : Int) (1000000 : Int)).bind fun (r4 : Bool) =>
  some r4
noncomputable def m_spec_l02Is_L0 (p0 : Term) (s0 : Int) : Option (Ctl Int (Unit ⊕ Bool)) :=
  bif (decide (s0 < (p0.Coeffs.length : Int))) then
    (getI p0.Coeffs s0).bind fun (x45 : Int) =>
    (m_spec_l02Number x45).bind fun (r47 : Bool) =>
    bif (!r47) then
      some (.out (.inr false))
    else
      some (.next (w64 (s0 + (1 : Int))))
  else
    some (.out (.inl ()))
noncomputable def m_spec_l02Is_A0 (u0 : Unit ⊕ Bool) : Option Bool :=
  match u0 with
  | .inl u0 =>
    some true
  | .inr u0 =>
    some u0
noncomputable def m_spec_l02Is_J0 (p0 : Term) (j0 : Unit) : Option Bool :=
  (iter (m_spec_l02Is_L0 p0) (0 : Int)).bind fun (u0 : Unit ⊕ Bool) =>
  m_spec_l02Is_A0 u0
noncomputable def m_spec_l02Is (p0 : Term) : Option Bool :=
  (m_spec_l02Number p0.Const).bind fun (r14 : Bool) =>
  bif ((!r14) || (decide ((10 : Int) < (p0.Coeffs.length : Int)))) then
    some false
  else
    bif (decide ((0 : Int) < (p0.Coeffs.length : Int))) then
      (getI p0.Coeffs (w64 ((p0.Coeffs.length : Int) - (1 : Int)))).bind fun (x30 : Int) =>
      bif (decide (x30 = (0 : Int))) then
        some false
      else
        m_spec_l02Is_J0 p0 ()
    else
      m_spec_l02Is_J0 p0 ()
noncomputable def m_spec_l00Own (p0 : List Int) : Option (List Int) :=
  (capI (([] : List Int).length + p0.length) 8).bind fun (q5 : Unit) =>
  some (([] : List Int) ++ p0)
noncomputable def m_spec_l02Own (p0 : Term) : Option Term :=
  (m_spec_l00Own p0.Coeffs).bind fun (r11 : List Int) =>
  some (Term.mk p0.Const r11)
noncomputable def m_impl_Term_isZero (p0 : Term) : Option Bool :=
  some ((decide (p0.Const = (0 : Int))) && (decide ((p0.Coeffs.length : Int) = (0 : Int))))
noncomputable def m_impl_within (p0 : Int) (p1 : Int) (p2 : Int) : Option Bool :=
  some ((decide (p1 ≤ p0)) && (decide (p0 ≤ p2)))
noncomputable def m_impl_allWithin_L0 (p1 : Int) (p2 : Int) (n0 : Nat) (x0 : Int) (s0 : Unit) : Option (Ctl Unit (Unit ⊕ Bool)) :=
  (m_impl_within x0 p1 p2).bind fun (r18 : Bool) =>
  bif (!r18) then
    some (.out (.inr false))
  else
    some (.next ())
noncomputable def m_impl_allWithin_A0 (u0 : Unit ⊕ Bool) : Option Bool :=
  match u0 with
  | .inl u0 =>
    some true
  | .inr u0 =>
    some u0
noncomputable def m_impl_allWithin (p0 : List Int) (p1 : Int) (p2 : Int) : Option Bool :=
  (forL (m_impl_allWithin_L0 p1 p2) (fun s0 => (.inl ())) 0 p0 ()).bind fun (u0 : Unit ⊕ Bool) =>
  m_impl_allWithin_A0 u0
noncomputable def m_impl_isCoeff (p0 : Int) : Option Bool :=
  (m_impl_within p0 (-1000000 : Int) (1000000 : Int)).bind fun (r4 : Bool) =>
  some r4
noncomputable def m_impl_ValidTerm (p0 : Term) : Option Bool :=
  bif (decide ((p0.Coeffs.length : Int) ≤ (10 : Int))) then
    (m_impl_isCoeff p0.Const).bind fun (r12 : Bool) =>
    bif r12 then
      (m_impl_allWithin p0.Coeffs (-1000000 : Int) (1000000 : Int)).bind fun (r17 : Bool) =>
      bif r17 then
        bif (decide ((p0.Coeffs.length : Int) = (0 : Int))) then
          some true
        else
          (getI p0.Coeffs (w64 ((p0.Coeffs.length : Int) - (1 : Int)))).bind fun (x27 : Int) =>
          some (!decide (x27 = (0 : Int)))
      else
        some false
    else
      some false
  else
    some false
noncomputable def m_impl_subproofs (p0 : Node) : Option Int :=
  (m_impl_Term_isZero p0.Term).bind fun (r12 : Bool) =>
  bif (decide (p0.Kind = (1 : Int))) then
    bif (((decide (p0.Fact = (0 : Int))) && r12) && (decide ((p0.Multipliers.length : Int) ≤ (20 : Int)))) then
      (m_impl_allWithin p0.Multipliers (0 : Int) (1000000 : Int)).bind fun (r34 : Bool) =>
      bif r34 then
        some (0 : Int)
      else
        some (-1 : Int)
    else
      some (-1 : Int)
  else
    bif (decide (p0.Kind = (2 : Int))) then
      bif ((decide (p0.Fact = (0 : Int))) && (decide ((p0.Multipliers.length : Int) = (0 : Int)))) then
        (m_impl_ValidTerm p0.Term).bind fun (r45 : Bool) =>
        bif r45 then
          some (2 : Int)
        else
          some (-1 : Int)
      else
        some (-1 : Int)
    else
      bif (decide (p0.Kind = (3 : Int))) then
        (m_impl_within p0.Fact (0 : Int) (19 : Int)).bind fun (r51 : Bool) =>
        bif ((r51 && r12) && (decide ((p0.Multipliers.length : Int) = (0 : Int)))) then
          some (1 : Int)
        else
          some (-1 : Int)
      else
        some (-1 : Int)
noncomputable def m_impl_behindProof_F_L0 (rec_impl_behindProof : (List Node) → Int → Option (Int × Int × Bool)) (p0 : List Node) (s0 : Int × Int × Int) : Option (Ctl (Int × Int × Int) ((Int × Int) ⊕ (Int × Int × Bool))) :=
  bif (decide ((0 : Int) < s0.2.1)) then
    (rec_impl_behindProof p0 s0.1).bind fun (r32 : Int × Int × Bool) =>
    bif (!r32.2.2) then
      some (.out (.inr ((0 : Int), (0 : Int), false)))
    else
      some (.next (r32.1, (w64 (s0.2.1 - (1 : Int))), (max s0.2.2 r32.2.1)))
  else
    some (.out (.inl (s0.1, s0.2.2)))
noncomputable def m_impl_behindProof_F_A0 (u0 : (Int × Int) ⊕ (Int × Int × Bool)) : Option (Int × Int × Bool) :=
  match u0 with
  | .inl u0 =>
    some (u0.1, (w64 (u0.2 + (1 : Int))), true)
  | .inr u0 =>
    some (u0.1, u0.2.1, u0.2.2)
noncomputable def m_impl_behindProof_F (rec_impl_behindProof : (List Node) → Int → Option (Int × Int × Bool)) (p0 : List Node) (p1 : Int) : Option (Int × Int × Bool) :=
  bif (decide ((p0.length : Int) ≤ p1)) then
    some ((0 : Int), (0 : Int), false)
  else
    (getI p0 p1).bind fun (x18 : Node) =>
    (m_impl_subproofs x18).bind fun (r20 : Int) =>
    bif (decide (r20 < (0 : Int))) then
      some ((0 : Int), (0 : Int), false)
    else
      (iter (m_impl_behindProof_F_L0 rec_impl_behindProof p0) ((w64 (p1 + (1 : Int))), r20, (0 : Int))).bind fun (u0 : (Int × Int) ⊕ (Int × Int × Bool)) =>
      m_impl_behindProof_F_A0 u0
noncomputable def m_impl_behindProof : Nat → (List Node) → Int → Option (Int × Int × Bool)
  | 0, _, _ => none
  | n + 1, p0, p1 => m_impl_behindProof_F (m_impl_behindProof n) p0 p1
noncomputable def m_impl_IsProof (p0 : List Node) : Option Bool :=
  bif (decide ((60 : Int) < (p0.length : Int))) then
    some false
  else
    (m_impl_behindProof 1000 p0 (0 : Int)).bind fun (r11 : Int × Int × Bool) =>
    some (r11.2.2 && (decide (r11.1 = (p0.length : Int))))
noncomputable def m_impl_size (p0 : Int) : Option Int :=
  some p0
noncomputable def m_impl_isIndex (p0 : Int) (p1 : Int) : Option Bool :=
  (m_impl_size p1).bind fun (r7 : Int) =>
  (m_impl_within p0 (0 : Int) (w64 (r7 - (1 : Int)))).bind fun (r9 : Bool) =>
  some r9
noncomputable def m_impl_copyInts (p0 : List Int) : Option (List Int) :=
  (capI (([] : List Int).length + p0.length) 8).bind fun (q5 : Unit) =>
  some (([] : List Int) ++ p0)
noncomputable def m_impl_Term_own (p0 : Term) : Option Term :=
  (m_impl_copyInts p0.Coeffs).bind fun (r7 : List Int) =>
  some (Term.mk p0.Const r7)
noncomputable def m_impl_ownNodes_L0 (n0 : Nat) (x0 : Node) (s0 : List Node) : Option (Ctl (List Node) ((List Node))) :=
  (m_impl_Term_own x0.Term).bind fun (r14 : Term) =>
  (m_impl_copyInts x0.Multipliers).bind fun (r17 : List Int) =>
  (capI (s0.length + [(Node.mk x0.Kind x0.Fact r14 r17)].length) 72).bind fun (q23 : Unit) =>
  some (.next (s0 ++ [(Node.mk x0.Kind x0.Fact r14 r17)]))
noncomputable def m_impl_ownNodes_A0 (u0 : (List Node)) : Option (List Node) :=
  some u0
noncomputable def m_impl_ownNodes (p0 : List Node) : Option (List Node) :=
  (forL (m_impl_ownNodes_L0) (fun s0 => s0) 0 p0 ([] : List Node)).bind fun (u0 : (List Node)) =>
  m_impl_ownNodes_A0 u0
noncomputable def m_spec_l02Coeff (p0 : Term) (p1 : Int) : Option Int :=
  bif (decide (p1 < (p0.Coeffs.length : Int))) then
    (getI p0.Coeffs p1).bind fun (x17 : Int) =>
    some x17
  else
    some (0 : Int)
noncomputable def m_spec_l02Make_L0 (p1 : List Int) (s0 : Int) : Option (Ctl Int Int) :=
  bif (decide ((0 : Int) < s0)) then
    (getI p1 (w64 (s0 - (1 : Int)))).bind fun (x16 : Int) =>
    bif (decide (x16 = (0 : Int))) then
      some (.next (w64 (s0 - (1 : Int))))
    else
      some (.out s0)
  else
    some (.out s0)
noncomputable def m_spec_l02Make_A0 (p0 : Int) (p1 : List Int) (u0 : Int) : Option (Term × Bool) :=
  (sliceI p1 (0 : Int) u0).bind fun (y25 : List Int) =>
  (m_spec_l00Own y25).bind fun (r26 : List Int) =>
  (m_spec_l02Is (Term.mk p0 r26)).bind fun (r28 : Bool) =>
  bif (!r28) then
    some ((Term.mk (0 : Int) ([] : List Int)), false)
  else
    some ((Term.mk p0 r26), true)
noncomputable def m_spec_l02Make (p0 : Int) (p1 : List Int) : Option (Term × Bool) :=
  (iter (m_spec_l02Make_L0 p1) (p1.length : Int)).bind fun (u0 : Int) =>
  m_spec_l02Make_A0 p0 p1 u0
noncomputable def m_spec_l02Sum_L0 (p0 : Term) (p1 : Int) (p2 : Term) (p3 : Int) (s0 : (List Int) × Int) : Option (Ctl ((List Int) × Int) ((List Int))) :=
  bif (decide (s0.2 < (10 : Int))) then
    (m_spec_l02Coeff p0 s0.2).bind fun (r21 : Int) =>
    (m_spec_l02Coeff p2 s0.2).bind fun (r26 : Int) =>
    (capI (s0.1.length + [(w64 ((w64 (p1 * r21)) + (w64 (p3 * r26))))].length) 8).bind fun (q30 : Unit) =>
    some (.next ((s0.1 ++ [(w64 ((w64 (p1 * r21)) + (w64 (p3 * r26))))]), (w64 (s0.2 + (1 : Int)))))
  else
    some (.out s0.1)
noncomputable def m_spec_l02Sum_A0 (p0 : Term) (p1 : Int) (p2 : Term) (p3 : Int) (u0 : (List Int)) : Option (Term × Bool) :=
  (m_spec_l02Make (w64 ((w64 (p1 * p0.Const)) + (w64 (p3 * p2.Const)))) u0).bind fun (r45 : Term × Bool) =>
  some (r45.1, r45.2)
noncomputable def m_spec_l02Sum (p0 : Term) (p1 : Int) (p2 : Term) (p3 : Int) : Option (Term × Bool) :=
  (iter (m_spec_l02Sum_L0 p0 p1 p2 p3) (([] : List Int), (0 : Int))).bind fun (u0 : (List Int)) =>
  m_spec_l02Sum_A0 p0 p1 p2 p3 u0
noncomputable def m_spec_l02Opposite (p0 : Term) : Option (Term × Bool) :=
  (m_spec_l02Sum p0 (-1 : Int) (Term.mk (1 : Int) ([] : List Int)) (-1 : Int)).bind fun (r7 : Term × Bool) =>
  some (r7.1, r7.2)
noncomputable def m_spec_l02OwnAll_L0 (p0 : List Term) (s0 : (List Term) × Int) : Option (Ctl ((List Term) × Int) ((List Term))) :=
  bif (decide (s0.2 < (p0.length : Int))) then
    (getI p0 s0.2).bind fun (x15 : Term) =>
    (m_spec_l02Own x15).bind fun (r16 : Term) =>
    (capI (s0.1.length + [r16].length) 32).bind fun (q18 : Unit) =>
    some (.next ((s0.1 ++ [r16]), (w64 (s0.2 + (1 : Int)))))
  else
    some (.out s0.1)
noncomputable def m_spec_l02OwnAll_A0 (u0 : (List Term)) : Option (List Term) :=
  some u0
noncomputable def m_spec_l02OwnAll (p0 : List Term) : Option (List Term) :=
  (iter (m_spec_l02OwnAll_L0 p0) (([] : List Term), (0 : Int))).bind fun (u0 : (List Term)) =>
  m_spec_l02OwnAll_A0 u0
noncomputable def m_spec_l02Context (p0 : Sequent) : Option ((List Term) × Bool) :=
  (m_spec_l02Opposite p0.Goal).bind fun (r10 : Term × Bool) =>
  bif (!r10.2) then
    some (([] : List Term), false)
  else
    (m_spec_l02OwnAll p0.Facts).bind fun (r19 : List Term) =>
    (capI (r19.length + [r10.1].length) 32).bind fun (q22 : Unit) =>
    some ((r19 ++ [r10.1]), true)
noncomputable def m_impl_areTerms_L0 (n0 : Nat) (x0 : Term) (s0 : Unit) : Option (Ctl Unit (Unit ⊕ Bool)) :=
  (m_impl_ValidTerm x0).bind fun (r18 : Bool) =>
  bif (!r18) then
    some (.out (.inr false))
  else
    some (.next ())
noncomputable def m_impl_areTerms_A0 (u0 : Unit ⊕ Bool) : Option Bool :=
  match u0 with
  | .inl u0 =>
    some true
  | .inr u0 =>
    some u0
noncomputable def m_impl_areTerms (p0 : List Term) (p1 : Int) : Option Bool :=
  bif (decide (p1 < (p0.length : Int))) then
    some false
  else
    (forL (m_impl_areTerms_L0) (fun s0 => (.inl ())) 0 p0 ()).bind fun (u0 : Unit ⊕ Bool) =>
    m_impl_areTerms_A0 u0
noncomputable def m_impl_ValidSequent (p0 : Sequent) : Option Bool :=
  (m_impl_areTerms p0.Facts (13 : Int)).bind fun (r5 : Bool) =>
  bif r5 then
    (m_impl_ValidTerm p0.Goal).bind fun (r9 : Bool) =>
    some r9
  else
    some false
noncomputable def m_impl_Term_trimmed_L0 (p0 : Term) (s0 : Int) : Option (Ctl Int Int) :=
  bif (decide ((0 : Int) < s0)) then
    (getI p0.Coeffs (w64 (s0 - (1 : Int)))).bind fun (x14 : Int) =>
    bif (decide (x14 = (0 : Int))) then
      some (.next (w64 (s0 - (1 : Int))))
    else
      some (.out s0)
  else
    some (.out s0)
noncomputable def m_impl_Term_trimmed_A0 (p0 : Term) (u0 : Int) : Option Term :=
  (sliceI p0.Coeffs (0 : Int) u0).bind fun (y23 : List Int) =>
  some (Term.mk p0.Const y23)
noncomputable def m_impl_Term_trimmed (p0 : Term) : Option Term :=
  (iter (m_impl_Term_trimmed_L0 p0) (p0.Coeffs.length : Int)).bind fun (u0 : Int) =>
  m_impl_Term_trimmed_A0 p0 u0
noncomputable def m_impl_combined_L1 (x23 : Int) (n1 : Nat) (x1 : Int) (s1 : List Int) : Option (Ctl (List Int) ((List Int))) :=
  (getI s1 (n1 : Int)).bind fun (x41 : Int) =>
  some (.next (s1.set (((n1 : Int)).toNat) (w64 (x41 + (w64 (x23 * x1))))))
noncomputable def m_impl_combined_A1 (s0 : Int × (List Int)) (x0 : Term) (x23 : Int) (u1 : (List Int)) : Option (Ctl (Int × (List Int)) ((Int × (List Int)))) :=
  some (.next ((w64 (s0.1 + (w64 (x23 * x0.Const)))), u1))
noncomputable def m_impl_combined_L0 (p1 : List Int) (n0 : Nat) (x0 : Term) (s0 : Int × (List Int)) : Option (Ctl (Int × (List Int)) ((Int × (List Int)))) :=
  (getI p1 (n0 : Int)).bind fun (x23 : Int) =>
  (forL (m_impl_combined_L1 x23) (fun s1 => s1) 0 x0.Coeffs s0.2).bind fun (u1 : (List Int)) =>
  m_impl_combined_A1 s0 x0 x23 u1
noncomputable def m_impl_combined_A0 (u0 : (Int × (List Int))) : Option Term :=
  (m_impl_Term_trimmed (Term.mk u0.1 u0.2)).bind fun (r54 : Term) =>
  some r54
noncomputable def m_impl_combined (p0 : List Term) (p1 : List Int) : Option Term :=
  (makeI (10 : Int) 8).bind fun (k10 : Nat) =>
  (forL (m_impl_combined_L0 p1) (fun s0 => (s0.1, s0.2)) 0 p0 ((0 : Int), (List.replicate k10 (0 : Int)))).bind fun (u0 : (Int × (List Int))) =>
  m_impl_combined_A0 u0
noncomputable def m_impl_Term_opposite (p0 : Term) : Option Term :=
  (m_impl_combined [p0] [(-1 : Int)]).bind fun (r7 : Term) =>
  some (Term.mk (w64 (r7.Const - (1 : Int))) r7.Coeffs)
noncomputable def m_impl_ownTerms_L0 (n0 : Nat) (x0 : Term) (s0 : List Term) : Option (Ctl (List Term) ((List Term))) :=
  (m_impl_Term_own x0).bind fun (r14 : Term) =>
  (capI (s0.length + [r14].length) 32).bind fun (q16 : Unit) =>
  some (.next (s0 ++ [r14]))
noncomputable def m_impl_ownTerms_A0 (u0 : (List Term)) : Option (List Term) :=
  some u0
noncomputable def m_impl_ownTerms (p0 : List Term) : Option (List Term) :=
  (forL (m_impl_ownTerms_L0) (fun s0 => s0) 0 p0 ([] : List Term)).bind fun (u0 : (List Term)) =>
  m_impl_ownTerms_A0 u0
noncomputable def m_impl_ContextOf (p0 : Sequent) : Option ((List Term) × Bool) :=
  (m_impl_ValidSequent p0).bind fun (r5 : Bool) =>
  bif (!r5) then
    some (([] : List Term), false)
  else
    (m_impl_Term_opposite p0.Goal).bind fun (r10 : Term) =>
    (m_impl_ValidTerm r10).bind fun (r11 : Bool) =>
    bif (!r11) then
      some (([] : List Term), false)
    else
      (m_impl_ownTerms p0.Facts).bind fun (r16 : List Term) =>
      (m_impl_Term_opposite p0.Goal).bind fun (r19 : Term) =>
      (m_impl_Term_own r19).bind fun (r20 : Term) =>
      (capI (r16.length + [r20].length) 32).bind fun (q22 : Unit) =>
      some ((r16 ++ [r20]), true)
noncomputable def m_impl_closes (p0 : List Term) (p1 : List Int) : Option Bool :=
  bif (!decide ((p1.length : Int) = (p0.length : Int))) then
    some false
  else
    (m_impl_combined p0 p1).bind fun (r13 : Term) =>
    some ((decide ((r13.Coeffs.length : Int) = (0 : Int))) && (decide (r13.Const < (0 : Int))))
noncomputable def m_laws_r8Long (p0 : List Int) (p1 : List Int) : Option Bool :=
  some ((decide ((48 : Int) < (p0.length : Int))) || (decide ((48 : Int) < (p1.length : Int))))
noncomputable def m_spec_l00From (p0 : List Int) : Option l00Src :=
  some (l00Src.mk p0 (0 : Int) (0 : Int))
noncomputable def m_spec_l00Src_next_J0 (p0 : l00Src) (j0 : Int) : Option (Int × l00Src) :=
  bif (decide ((w64 (p0.at_ + (1 : Int))) ≤ (p0.code.length : Int))) then
    some (j0, (l00Src.mk p0.code (w64 (p0.at_ + (1 : Int))) (wu 64 ((wu 64 ((wu 64 (p0.seed * (6364136223846793005 : Int))) + (wu 64 j0))) + (1442695040888963407 : Int)))))
  else
    some ((w64 (andU 64 (Int.fdiv (wu 64 ((wu 64 ((wu 64 (p0.seed * (6364136223846793005 : Int))) + (wu 64 j0))) + (1442695040888963407 : Int))) (2 ^ 40)) (255 : Int))), (l00Src.mk p0.code (w64 (p0.at_ + (1 : Int))) (wu 64 ((wu 64 ((wu 64 (p0.seed * (6364136223846793005 : Int))) + (wu 64 j0))) + (1442695040888963407 : Int)))))
noncomputable def m_spec_l00Src_next (p0 : l00Src) : Option (Int × l00Src) :=
  bif (decide (p0.at_ < (p0.code.length : Int))) then
    (getI p0.code p0.at_).bind fun (x22 : Int) =>
    m_spec_l00Src_next_J0 p0 (w64 x22)
  else
    m_spec_l00Src_next_J0 p0 (0 : Int)
noncomputable def m_spec_l00Src_pick (p0 : l00Src) (p1 : Int) : Option (Int × l00Src) :=
  bif (decide (p1 ≤ (1 : Int))) then
    some ((0 : Int), p0)
  else
    (m_spec_l00Src_next p0).bind fun (r9 : Int × l00Src) =>
    bif (decide ((200 : Int) < p1)) then
      (m_spec_l00Src_next r9.2).bind fun (r15 : Int × l00Src) =>
      (remI (w64 ((w64 (r9.1 * (256 : Int))) + r15.1)) p1).bind fun (q19 : Int) =>
      some (q19, r15.2)
    else
      (remI r9.1 p1).bind fun (q19 : Int) =>
      some (q19, r9.2)
noncomputable def m_spec_l05DrawTerm_L0 (s0 : (List Int) × Int × Int × (List Int) × Int) : Option (Ctl ((List Int) × Int × Int × (List Int) × Int) (((List Int) × Int × Int × (List Int)))) :=
  bif (decide ((0 : Int) < s0.2.2.2.2)) then
    (m_spec_l00Src_pick (l00Src.mk s0.1 s0.2.1 s0.2.2.1) (7 : Int)).bind fun (r16 : Int × l00Src) =>
    (capI (s0.2.2.2.1.length + [(w64 (r16.1 - (3 : Int)))].length) 8).bind fun (q19 : Unit) =>
    some (.next (r16.2.code, r16.2.at_, r16.2.seed, (s0.2.2.2.1 ++ [(w64 (r16.1 - (3 : Int)))]), (w64 (s0.2.2.2.2 - (1 : Int)))))
  else
    some (.out (s0.1, s0.2.1, s0.2.2.1, s0.2.2.2.1))
noncomputable def m_spec_l05DrawTerm_A0 (u0 : ((List Int) × Int × Int × (List Int))) : Option (Term × l00Src) :=
  (m_spec_l00Src_pick (l00Src.mk u0.1 u0.2.1 u0.2.2.1) (21 : Int)).bind fun (r22 : Int × l00Src) =>
  (m_spec_l02Make (w64 (r22.1 - (10 : Int))) u0.2.2.2).bind fun (r25 : Term × Bool) =>
  some (r25.1, r22.2)
noncomputable def m_spec_l05DrawTerm (p0 : l00Src) : Option (Term × l00Src) :=
  (m_spec_l00Src_pick p0 (4 : Int)).bind fun (r9 : Int × l00Src) =>
  (iter (m_spec_l05DrawTerm_L0) (r9.2.code, r9.2.at_, r9.2.seed, ([] : List Int), r9.1)).bind fun (u0 : ((List Int) × Int × Int × (List Int))) =>
  m_spec_l05DrawTerm_A0 u0
noncomputable def m_spec_l00Max (p0 : Int) (p1 : Int) : Option Int :=
  bif (decide (p1 < p0)) then
    some p0
  else
    some p1
noncomputable def m_spec_l02Divisor_L1 (s1 : Int × Int) : Option (Ctl (Int × Int) Int) :=
  bif (decide ((0 : Int) < s1.2)) then
    (remI s1.1 s1.2).bind fun (q36 : Int) =>
    some (.next (s1.2, q36))
  else
    some (.out s1.1)
noncomputable def m_spec_l02Divisor_A1 (s0 : Int × Int) (u1 : Int) : Option (Ctl (Int × Int) Int) :=
  some (.next (u1, (w64 (s0.2 + (1 : Int)))))
noncomputable def m_spec_l02Divisor_L0 (p0 : Term) (s0 : Int × Int) : Option (Ctl (Int × Int) Int) :=
  bif (decide (s0.2 < (p0.Coeffs.length : Int))) then
    (getI p0.Coeffs s0.2).bind fun (x21 : Int) =>
    (m_spec_l00Max x21 (w64 (0 - x21))).bind fun (r31 : Int) =>
    (iter (m_spec_l02Divisor_L1) (s0.1, r31)).bind fun (u1 : Int) =>
    m_spec_l02Divisor_A1 s0 u1
  else
    some (.out s0.1)
noncomputable def m_spec_l02Divisor_A0 (u0 : Int) : Option Int :=
  some u0
noncomputable def m_spec_l02Divisor (p0 : Term) : Option Int :=
  (iter (m_spec_l02Divisor_L0 p0) ((0 : Int), (0 : Int))).bind fun (u0 : Int) =>
  m_spec_l02Divisor_A0 u0
noncomputable def m_spec_l02Tight_L0 (p0 : Term) (r9 : Int) (s0 : (List Int) × Int) : Option (Ctl ((List Int) × Int) ((List Int))) :=
  bif (decide (s0.2 < (p0.Coeffs.length : Int))) then
    (getI p0.Coeffs s0.2).bind fun (x29 : Int) =>
    (quoI x29 r9).bind fun (q32 : Int) =>
    (capI (s0.1.length + [q32].length) 8).bind fun (q34 : Unit) =>
    some (.next ((s0.1 ++ [q32]), (w64 (s0.2 + (1 : Int)))))
  else
    some (.out s0.1)
noncomputable def m_spec_l02Tight_J0 (u0 : List Int) (j0 : Int) : Option (Term × Bool) :=
  (m_spec_l02Make j0 u0).bind fun (r52 : Term × Bool) =>
  some (r52.1, r52.2)
noncomputable def m_spec_l02Tight_A0 (p0 : Term) (r9 : Int) (u0 : (List Int)) : Option (Term × Bool) :=
  (quoI p0.Const r9).bind fun (q40 : Int) =>
  (remI p0.Const r9).bind fun (q46 : Int) =>
  bif (decide (q46 < (0 : Int))) then
    m_spec_l02Tight_J0 u0 (w64 (q40 - (1 : Int)))
  else
    m_spec_l02Tight_J0 u0 q40
noncomputable def m_spec_l02Tight (p0 : Term) : Option (Term × Bool) :=
  (m_spec_l02Divisor p0).bind fun (r9 : Int) =>
  bif (decide (r9 < (2 : Int))) then
    some ((Term.mk (0 : Int) ([] : List Int)), false)
  else
    (iter (m_spec_l02Tight_L0 p0 r9) (([] : List Int), (0 : Int))).bind fun (u0 : (List Int)) =>
    m_spec_l02Tight_A0 p0 r9 u0
noncomputable def m_spec_l00Src_one (p0 : l00Src) (p1 : Int) : Option (Bool × l00Src) :=
  (m_spec_l00Src_pick p0 p1).bind fun (r7 : Int × l00Src) =>
  some ((decide (r7.1 = (0 : Int))), r7.2)
noncomputable def m_spec_l05Grow_J0 (p2 : List Int) (s0 : (List Int) × Int × Int × (List Node) × (List Node) × (List Int) × Int) (r34 : Int × l00Src) (j0 : (List Int) × Int × Int × Bool) : Option (Ctl ((List Int) × Int × Int × (List Node) × (List Node) × (List Int) × Int) (((List Node) × (List Node) × (List Int) × (List Int) × Int × Int))) :=
  bif j0.2.2.2 then
    (capI (s0.2.2.2.1.length + ([(Node.mk (3 : Int) r34.1 (Term.mk (0 : Int) ([] : List Int)) ([] : List Int))]).length) 72).bind fun (q51 : Unit) =>
    (capI (s0.2.2.2.2.2.1.length + [(0 : Int)].length) 8).bind fun (q54 : Unit) =>
    some (.next (j0.1, j0.2.1, j0.2.2.1, (s0.2.2.2.1 ++ [(Node.mk (3 : Int) r34.1 (Term.mk (0 : Int) ([] : List Int)) ([] : List Int))]), s0.2.2.2.2.1, (s0.2.2.2.2.2.1 ++ [(0 : Int)]), (w64 (s0.2.2.2.2.2.2 - (1 : Int)))))
  else
    (m_spec_l05DrawTerm (l00Src.mk j0.1 j0.2.1 j0.2.2.1)).bind fun (r57 : Term × l00Src) =>
    (capI (s0.2.2.2.1.length + ([(Node.mk (2 : Int) (0 : Int) r57.1 ([] : List Int))]).length) 72).bind fun (q60 : Unit) =>
    (capI (s0.2.2.2.2.2.1.length + [(0 : Int)].length) 8).bind fun (q63 : Unit) =>
    (m_spec_l00Own p2).bind fun (r65 : List Int) =>
    (capI (r65.length + (s0.2.2.2.2.2.1 ++ [(0 : Int)]).length) 8).bind fun (q67 : Unit) =>
    (capI (([(Node.mk (1 : Int) (0 : Int) (Term.mk (0 : Int) ([] : List Int)) (r65 ++ (s0.2.2.2.2.2.1 ++ [(0 : Int)])))]).length + s0.2.2.2.2.1.length) 72).bind fun (q72 : Unit) =>
    some (.next (r57.2.code, r57.2.at_, r57.2.seed, (s0.2.2.2.1 ++ [(Node.mk (2 : Int) (0 : Int) r57.1 ([] : List Int))]), ([(Node.mk (1 : Int) (0 : Int) (Term.mk (0 : Int) ([] : List Int)) (r65 ++ (s0.2.2.2.2.2.1 ++ [(0 : Int)])))] ++ s0.2.2.2.2.1), (s0.2.2.2.2.2.1 ++ [(0 : Int)]), (w64 (s0.2.2.2.2.2.2 - (1 : Int)))))
noncomputable def m_spec_l05Grow_L0 (p2 : List Int) (r19 : (List Term) × Bool) (s0 : (List Int) × Int × Int × (List Node) × (List Node) × (List Int) × Int) : Option (Ctl ((List Int) × Int × Int × (List Node) × (List Node) × (List Int) × Int) (((List Node) × (List Node) × (List Int) × (List Int) × Int × Int))) :=
  bif (decide ((0 : Int) < s0.2.2.2.2.2.2)) then
    (m_spec_l00Src_pick (l00Src.mk s0.1 s0.2.1 s0.2.2.1) (r19.1.length : Int)).bind fun (r34 : Int × l00Src) =>
    (getI r19.1 r34.1).bind fun (x38 : Term) =>
    (m_spec_l02Tight x38).bind fun (r39 : Term × Bool) =>
    bif r39.2 then
      (m_spec_l00Src_one r34.2 (2 : Int)).bind fun (r45 : Bool × l00Src) =>
      m_spec_l05Grow_J0 p2 s0 r34 (r45.2.code, r45.2.at_, r45.2.seed, r45.1)
    else
      m_spec_l05Grow_J0 p2 s0 r34 (r34.2.code, r34.2.at_, r34.2.seed, false)
  else
    some (.out (s0.2.2.2.1, s0.2.2.2.2.1, s0.2.2.2.2.2.1, s0.1, s0.2.1, s0.2.2.1))
noncomputable def m_spec_l05Grow_A0 (p2 : List Int) (u0 : ((List Node) × (List Node) × (List Int) × (List Int) × Int × Int)) : Option ((List Node) × l00Src) :=
  (m_spec_l00Own p2).bind fun (r75 : List Int) =>
  (capI (r75.length + u0.2.2.1.length) 8).bind fun (q77 : Unit) =>
  (capI (u0.1.length + ([(Node.mk (1 : Int) (0 : Int) (Term.mk (0 : Int) ([] : List Int)) (r75 ++ u0.2.2.1))]).length) 72).bind fun (q80 : Unit) =>
  (capI ((u0.1 ++ [(Node.mk (1 : Int) (0 : Int) (Term.mk (0 : Int) ([] : List Int)) (r75 ++ u0.2.2.1))]).length + u0.2.1.length) 72).bind fun (q83 : Unit) =>
  some (((u0.1 ++ [(Node.mk (1 : Int) (0 : Int) (Term.mk (0 : Int) ([] : List Int)) (r75 ++ u0.2.2.1))]) ++ u0.2.1), (l00Src.mk u0.2.2.2.1 u0.2.2.2.2.1 u0.2.2.2.2.2))
noncomputable def m_spec_l05Grow (p0 : l00Src) (p1 : Sequent) (p2 : List Int) : Option ((List Node) × l00Src) :=
  (m_spec_l02Context p1).bind fun (r19 : (List Term) × Bool) =>
  (m_spec_l00Src_pick p0 (3 : Int)).bind fun (r26 : Int × l00Src) =>
  (iter (m_spec_l05Grow_L0 p2 r19) (r26.2.code, r26.2.at_, r26.2.seed, ([] : List Node), ([] : List Node), ([] : List Int), r26.1)).bind fun (u0 : ((List Node) × (List Node) × (List Int) × (List Int) × Int × Int)) =>
  m_spec_l05Grow_A0 p2 u0
noncomputable def m_spec_l05DrawProved_L0 (s0 : (List Int) × Int × Int × (List Term) × (List Int) × Int) : Option (Ctl ((List Int) × Int × Int × (List Term) × (List Int) × Int) (((List Int) × Int × Int × (List Term) × (List Int)))) :=
  bif (decide ((0 : Int) < s0.2.2.2.2.2)) then
    (m_spec_l05DrawTerm (l00Src.mk s0.1 s0.2.1 s0.2.2.1)).bind fun (r24 : Term × l00Src) =>
    (capI (s0.2.2.2.1.length + [r24.1].length) 32).bind fun (q26 : Unit) =>
    (m_spec_l00Src_pick r24.2 (3 : Int)).bind fun (r30 : Int × l00Src) =>
    (capI (s0.2.2.2.2.1.length + [r30.1].length) 8).bind fun (q32 : Unit) =>
    some (.next (r30.2.code, r30.2.at_, r30.2.seed, (s0.2.2.2.1 ++ [r24.1]), (s0.2.2.2.2.1 ++ [r30.1]), (w64 (s0.2.2.2.2.2 - (1 : Int)))))
  else
    some (.out (s0.1, s0.2.1, s0.2.2.1, s0.2.2.2.1, s0.2.2.2.2.1))
noncomputable def m_spec_l05DrawProved_L1 (u0 : (List Int) × Int × Int × (List Term) × (List Int)) (s1 : Int × (List Int) × Int) : Option (Ctl (Int × (List Int) × Int) ((Int × (List Int)))) :=
  bif (decide (s1.2.2 < (u0.2.2.2.1.length : Int))) then
    (getI u0.2.2.2.1 s1.2.2).bind fun (x45 : Term) =>
    (getI u0.2.2.2.2 s1.2.2).bind fun (x48 : Int) =>
    (m_spec_l02Sum (Term.mk s1.1 s1.2.1) (1 : Int) x45 x48).bind fun (r50 : Term × Bool) =>
    some (.next (r50.1.Const, r50.1.Coeffs, (w64 (s1.2.2 + (1 : Int)))))
  else
    some (.out (s1.1, s1.2.1))
noncomputable def m_spec_l05DrawProved_A1 (u0 : (List Int) × Int × Int × (List Term) × (List Int)) (u1 : (Int × (List Int))) : Option (Sequent × (List Node) × l00Src) :=
  (m_spec_l00Src_pick (l00Src.mk u0.1 u0.2.1 u0.2.2.1) (4 : Int)).bind fun (r55 : Int × l00Src) =>
  (m_spec_l02Sum (Term.mk u1.1 u1.2) (1 : Int) (Term.mk r55.1 ([] : List Int)) (1 : Int)).bind fun (r58 : Term × Bool) =>
  (capI (u0.2.2.2.2.length + [(1 : Int)].length) 8).bind fun (q65 : Unit) =>
  (m_spec_l05Grow r55.2 (Sequent.mk u0.2.2.2.1 r58.1) (u0.2.2.2.2 ++ [(1 : Int)])).bind fun (r69 : (List Node) × l00Src) =>
  some ((Sequent.mk u0.2.2.2.1 r58.1), r69.1, r69.2)
noncomputable def m_spec_l05DrawProved_A0 (u0 : ((List Int) × Int × Int × (List Term) × (List Int))) : Option (Sequent × (List Node) × l00Src) :=
  (iter (m_spec_l05DrawProved_L1 u0) ((0 : Int), ([] : List Int), (0 : Int))).bind fun (u1 : (Int × (List Int))) =>
  m_spec_l05DrawProved_A1 u0 u1
noncomputable def m_spec_l05DrawProved (p0 : l00Src) : Option (Sequent × (List Node) × l00Src) :=
  (m_spec_l00Src_pick p0 (4 : Int)).bind fun (r16 : Int × l00Src) =>
  (iter (m_spec_l05DrawProved_L0) (r16.2.code, r16.2.at_, r16.2.seed, ([] : List Term), ([] : List Int), r16.1)).bind fun (u0 : ((List Int) × Int × Int × (List Term) × (List Int))) =>
  m_spec_l05DrawProved_A0 u0
noncomputable def m_spec_R8Proved (p0 : List Int) : Option (Sequent × (List Node)) :=
  (m_spec_l00From p0).bind fun (r6 : l00Src) =>
  (m_spec_l05DrawProved r6).bind fun (r8 : Sequent × (List Node) × l00Src) =>
  some (r8.1, r8.2.1)
noncomputable def m_slices_Clone_impl_Term_impl_Term (p0 : List Term) : Option (List Term) :=
  (capI (([] : List Term).length + p0.length) 32).bind fun (q7 : Unit) =>
  some (([] : List Term) ++ p0)
noncomputable def m_impl_with (p0 : List Term) (p1 : Term) : Option (List Term) :=
  (m_slices_Clone_impl_Term_impl_Term p0).bind fun (r6 : List Term) =>
  (capI (r6.length + [p1].length) 32).bind fun (q9 : Unit) =>
  some (r6 ++ [p1])
noncomputable def m_impl_absolute (p0 : Int) : Option Int :=
  some (max p0 (w64 (0 - p0)))
noncomputable def m_impl_gcd_L1 (s1 : Int × Int) : Option (Ctl (Int × Int) Int) :=
  bif (!decide (s1.2 = (0 : Int))) then
    (remI s1.1 s1.2).bind fun (q22 : Int) =>
    some (.next (s1.2, q22))
  else
    some (.out s1.1)
noncomputable def m_impl_gcd_A1 (u1 : Int) : Option (Ctl Int Int) :=
  some (.next u1)
noncomputable def m_impl_gcd_L0 (n0 : Nat) (x0 : Int) (s0 : Int) : Option (Ctl Int Int) :=
  (m_impl_absolute x0).bind fun (r16 : Int) =>
  (iter (m_impl_gcd_L1) (s0, r16)).bind fun (u1 : Int) =>
  m_impl_gcd_A1 u1
noncomputable def m_impl_gcd_A0 (u0 : Int) : Option Int :=
  some u0
noncomputable def m_impl_gcd (p0 : List Int) : Option Int :=
  (forL (m_impl_gcd_L0) (fun s0 => s0) 0 p0 (0 : Int)).bind fun (u0 : Int) =>
  m_impl_gcd_A0 u0
noncomputable def m_impl_divFloor (p0 : Int) (p1 : Int) : Option Int :=
  (quoI p0 p1).bind fun (q8 : Int) =>
  (remI p0 p1).bind fun (q11 : Int) =>
  bif (decide (q11 < (0 : Int))) then
    some (w64 (q8 - (1 : Int)))
  else
    some q8
noncomputable def m_impl_Term_tightened_L0 (r9 : Int) (r14 : Term) (s0 : (List Int) × Int) : Option (Ctl ((List Int) × Int) ((List Int))) :=
  bif (decide (s0.2 < (r14.Coeffs.length : Int))) then
    (getI s0.1 s0.2).bind fun (x29 : Int) =>
    (quoI x29 r9).bind fun (q32 : Int) =>
    some (.next ((s0.1.set ((s0.2).toNat) q32), (w64 (s0.2 + (1 : Int)))))
  else
    some (.out s0.1)
noncomputable def m_impl_Term_tightened_A0 (r18 : Int) (u0 : (List Int)) : Option (Term × Bool) :=
  some ((Term.mk r18 u0), true)
noncomputable def m_impl_Term_tightened (p0 : Term) : Option (Term × Bool) :=
  (m_impl_gcd p0.Coeffs).bind fun (r9 : Int) =>
  bif (decide (r9 ≤ (1 : Int))) then
    some ((Term.mk (0 : Int) ([] : List Int)), false)
  else
    (m_impl_Term_own p0).bind fun (r14 : Term) =>
    (m_impl_divFloor p0.Const r9).bind fun (r18 : Int) =>
    (iter (m_impl_Term_tightened_L0 r9 r14) (r14.Coeffs, (0 : Int))).bind fun (u0 : (List Int)) =>
    m_impl_Term_tightened_A0 r18 u0
noncomputable def m_impl_checking_examine_F_J2 (p0 : checking) (p1 : Int) (p2 : List Term) (r22 : Int × Int × Bool) (j2 : Unit) : Option (Int × checking) :=
  bif (decide (p0.flaw < (0 : Int))) then
    some (r22.1, (checking.mk p0.proof (mput p0.contexts p1 p2) p1))
  else
    some (r22.1, (checking.mk p0.proof (mput p0.contexts p1 p2) p0.flaw))
noncomputable def m_impl_checking_examine_F_J0 (rec_impl_checking_examine : checking → Int → (List Term) → Option (Int × checking)) (p0 : checking) (p1 : Int) (p2 : List Term) (r22 : Int × Int × Bool) (x31 : Node) (r55 : Term) (j0 : Bool) : Option (Int × checking) :=
  bif j0 then
    (m_impl_with p2 x31.Term).bind fun (r67 : List Term) =>
    (rec_impl_checking_examine (checking.mk p0.proof (mput p0.contexts p1 p2) p0.flaw) (w64 (p1 + (1 : Int))) r67).bind fun (r68 : Int × checking) =>
    (m_impl_with p2 r55).bind fun (r73 : List Term) =>
    (rec_impl_checking_examine r68.2 r68.1 r73).bind fun (r74 : Int × checking) =>
    some (r74.1, r74.2)
  else
    m_impl_checking_examine_F_J2 p0 p1 p2 r22 ()
noncomputable def m_impl_checking_examine_F_J1 (rec_impl_checking_examine : checking → Int → (List Term) → Option (Int × checking)) (p0 : checking) (p1 : Int) (p2 : List Term) (r22 : Int × Int × Bool) (x31 : Node) (j1 : Bool) : Option (Int × checking) :=
  bif j1 then
    (getI p2 x31.Fact).bind fun (x89 : Term) =>
    (m_impl_Term_tightened x89).bind fun (r91 : Term × Bool) =>
    bif r91.2 then
      (m_impl_with p2 r91.1).bind fun (r100 : List Term) =>
      (rec_impl_checking_examine (checking.mk p0.proof (mput p0.contexts p1 p2) p0.flaw) (w64 (p1 + (1 : Int))) r100).bind fun (r101 : Int × checking) =>
      some (r101.1, r101.2)
    else
      m_impl_checking_examine_F_J2 p0 p1 p2 r22 ()
  else
    m_impl_checking_examine_F_J2 p0 p1 p2 r22 ()
noncomputable def m_impl_checking_examine_F (rec_impl_checking_examine : checking → Int → (List Term) → Option (Int × checking)) (p0 : checking) (p1 : Int) (p2 : List Term) : Option (Int × checking) :=
  (m_impl_behindProof 1000 p0.proof p1).bind fun (r22 : Int × Int × Bool) =>
  (getI p0.proof p1).bind fun (x31 : Node) =>
  bif (decide (x31.Kind = (1 : Int))) then
    (m_impl_closes p2 x31.Multipliers).bind fun (r49 : Bool) =>
    bif r49 then
      some (r22.1, (checking.mk p0.proof (mput p0.contexts p1 p2) p0.flaw))
    else
      m_impl_checking_examine_F_J2 p0 p1 p2 r22 ()
  else
    bif (decide (x31.Kind = (2 : Int))) then
      (m_impl_Term_opposite x31.Term).bind fun (r55 : Term) =>
      bif (decide ((p2.length : Int) < (20 : Int))) then
        (m_impl_ValidTerm r55).bind fun (r59 : Bool) =>
        m_impl_checking_examine_F_J0 rec_impl_checking_examine p0 p1 p2 r22 x31 r55 r59
      else
        m_impl_checking_examine_F_J0 rec_impl_checking_examine p0 p1 p2 r22 x31 r55 false
    else
      bif (decide (x31.Kind = (3 : Int))) then
        bif (decide ((p2.length : Int) < (20 : Int))) then
          (m_impl_isIndex x31.Fact (p2.length : Int)).bind fun (r83 : Bool) =>
          m_impl_checking_examine_F_J1 rec_impl_checking_examine p0 p1 p2 r22 x31 r83
        else
          m_impl_checking_examine_F_J1 rec_impl_checking_examine p0 p1 p2 r22 x31 false
      else
        m_impl_checking_examine_F_J2 p0 p1 p2 r22 ()
noncomputable def m_impl_checking_examine : Nat → checking → Int → (List Term) → Option (Int × checking)
  | 0, _, _, _ => none
  | n + 1, p0, p1, p2 => m_impl_checking_examine_F (m_impl_checking_examine n) p0 p1 p2
noncomputable def m_impl_examined (p0 : Sequent) (p1 : List Node) : Option (checking × Bool) :=
  (m_impl_ContextOf p0).bind fun (r11 : (List Term) × Bool) =>
  bif (!r11.2) then
    some (default, false)
  else
    (m_impl_IsProof p1).bind fun (r18 : Bool) =>
    bif (!r18) then
      some (default, false)
    else
      (m_impl_checking_examine 1000 (checking.mk p1 ([] : List (Int × (List Term))) (-1 : Int)) (0 : Int) r11.1).bind fun (r27 : Int × checking) =>
      some (r27.2, true)
noncomputable def m_impl_FirstFlaw (p0 : Sequent) (p1 : List Node) : Option (Int × Bool) :=
  (m_impl_examined p0 p1).bind fun (r11 : checking × Bool) =>
  bif r11.2 then
    bif (decide (r11.1.flaw < (0 : Int))) then
      some ((0 : Int), false)
    else
      some (r11.1.flaw, true)
  else
    some ((0 : Int), false)
noncomputable def m_impl_CheckProof (p0 : Sequent) (p1 : List Node) : Option Bool :=
  (m_impl_examined p0 p1).bind fun (r10 : checking × Bool) =>
  bif r10.2 then
    some (decide (r10.1.flaw < (0 : Int)))
  else
    some false
noncomputable def m_impl_ContextAt (p0 : Sequent) (p1 : List Node) (p2 : Int) : Option ((List Term) × Bool) :=
  (m_impl_examined p0 p1).bind fun (r14 : checking × Bool) =>
  bif r14.2 then
    (m_impl_isIndex p2 (p1.length : Int)).bind fun (r23 : Bool) =>
    bif (!r23) then
      some (([] : List Term), false)
    else
      bif (!(mget r14.1.contexts p2).isSome) then
        some (([] : List Term), false)
      else
        (m_impl_ownTerms ((mget r14.1.contexts p2).getD ([] : List Term))).bind fun (r38 : List Term) =>
        some (r38, true)
  else
    some (([] : List Term), false)
noncomputable def m_impl_accepted (p0 : Sequent) (p1 : List Node) : Option (Sequent × (List Node) × Bool) :=
  (m_impl_CheckProof p0 p1).bind fun (r9 : Bool) =>
  bif (!r9) then
    some ((Sequent.mk ([] : List Term) (Term.mk (0 : Int) ([] : List Int))), ([] : List Node), false)
  else
    some (p0, p1, true)
noncomputable def m_impl_used_L1 (p1 : Int) (n1 : Nat) (x1 : Int) (s1 : List Bool) : Option (Ctl (List Bool) ((List Bool))) :=
  bif ((!decide (x1 = (0 : Int))) && (decide ((n1 : Int) < p1))) then
    (getI s1 (n1 : Int)).bind fun (x48 : Bool) =>
    some (.next (s1.set (((n1 : Int)).toNat) true))
  else
    some (.next s1)
noncomputable def m_impl_used_A1 (u1 : (List Bool)) : Option (Ctl (List Bool) ((List Bool))) :=
  some (.next u1)
noncomputable def m_impl_used_J0 (p1 : Int) (x0 : Node) (j0 : List Bool) : Option (Ctl (List Bool) ((List Bool))) :=
  (forL (m_impl_used_L1 p1) (fun s1 => s1) 0 x0.Multipliers j0).bind fun (u1 : (List Bool)) =>
  m_impl_used_A1 u1
noncomputable def m_impl_used_L0 (p1 : Int) (n0 : Nat) (x0 : Node) (s0 : List Bool) : Option (Ctl (List Bool) ((List Bool))) :=
  bif ((decide (x0.Kind = (3 : Int))) && (decide (x0.Fact < p1))) then
    (getI s0 x0.Fact).bind fun (x30 : Bool) =>
    m_impl_used_J0 p1 x0 (s0.set ((x0.Fact).toNat) true)
  else
    m_impl_used_J0 p1 x0 s0
noncomputable def m_impl_used_A0 (u0 : (List Bool)) : Option (List Bool) :=
  some u0
noncomputable def m_impl_used (p0 : List Node) (p1 : Int) : Option (List Bool) :=
  (makeI p1 1).bind fun (k11 : Nat) =>
  (forL (m_impl_used_L0 p1) (fun s0 => s0) 0 p0 (List.replicate k11 false)).bind fun (u0 : (List Bool)) =>
  m_impl_used_A0 u0
noncomputable def m_impl_UsedFacts_L0 (n0 : Nat) (x0 : Bool) (s0 : List Int) : Option (Ctl (List Int) ((List Int))) :=
  bif x0 then
    (capI (s0.length + [(n0 : Int)].length) 8).bind fun (q29 : Unit) =>
    some (.next (s0 ++ [(n0 : Int)]))
  else
    some (.next s0)
noncomputable def m_impl_UsedFacts_A0 (u0 : (List Int)) : Option ((List Int) × Bool) :=
  some (u0, true)
noncomputable def m_impl_UsedFacts (p0 : Sequent) (p1 : List Node) : Option ((List Int) × Bool) :=
  (m_impl_CheckProof p0 p1).bind fun (r11 : Bool) =>
  bif (!r11) then
    some (([] : List Int), false)
  else
    (m_impl_used p1 (w64 ((p0.Facts.length : Int) + (1 : Int)))).bind fun (r18 : List Bool) =>
    (forL (m_impl_UsedFacts_L0) (fun s0 => s0) 0 r18 ([] : List Int)).bind fun (u0 : (List Int)) =>
    m_impl_UsedFacts_A0 u0
noncomputable def m_impl_DropUnused_2 (p0 : Int) (p1_0 : List Int) (p2_0 : Int) : Option Int :=
  bif (decide (p0 < (p1_0.length : Int))) then
    (getI p1_0 p0).bind fun (x11 : Int) =>
    some x11
  else
    some (w64 (p0 - p2_0))
noncomputable def m_impl_DropUnused_1 (p0 : Int) (p1_0 : Int) : Option Int :=
  some (w64 (p0 - p1_0))
noncomputable def m_impl_movedNodes_fDropUnused_1_DropUnused_2_L1 (v2_0_0 : List Int) (v2_1_0 : Int) (n1 : Nat) (x1 : Int) (s1 : List Int) : Option (Ctl (List Int) ((List Int))) :=
  (m_impl_DropUnused_2 (n1 : Int) v2_0_0 v2_1_0).bind fun (r53 : Int) =>
  bif (decide ((0 : Int) ≤ r53)) then
    (getI s1 r53).bind fun (x59 : Int) =>
    some (.next (s1.set ((r53).toNat) x1))
  else
    some (.next s1)
noncomputable def m_impl_movedNodes_fDropUnused_1_DropUnused_2_A1 (s0 : (List Node) × Int) (x21 : Node) (u1 : (List Int)) : Option (Ctl ((List Node) × Int) ((List Node))) :=
  some (.next ((s0.1.set ((s0.2).toNat) (Node.mk x21.Kind x21.Fact x21.Term u1)), (w64 (s0.2 + (1 : Int)))))
noncomputable def m_impl_movedNodes_fDropUnused_1_DropUnused_2_L0 (v1_0_0 : Int) (v2_0_0 : List Int) (v2_1_0 : Int) (r15 : List Node) (s0 : (List Node) × Int) : Option (Ctl ((List Node) × Int) ((List Node))) :=
  bif (decide (s0.2 < (r15.length : Int))) then
    (getI s0.1 s0.2).bind fun (x21 : Node) =>
    bif (decide (x21.Kind = (3 : Int))) then
      (m_impl_DropUnused_2 x21.Fact v2_0_0 v2_1_0).bind fun (r32 : Int) =>
      some (.next ((s0.1.set ((s0.2).toNat) (Node.mk x21.Kind r32 x21.Term x21.Multipliers)), (w64 (s0.2 + (1 : Int)))))
    else
      bif (decide (x21.Kind = (1 : Int))) then
        (m_impl_DropUnused_1 (x21.Multipliers.length : Int) v1_0_0).bind fun (r41 : Int) =>
        (makeI r41 8).bind fun (k42 : Nat) =>
        (forL (m_impl_movedNodes_fDropUnused_1_DropUnused_2_L1 v2_0_0 v2_1_0) (fun s1 => s1) 0 x21.Multipliers (List.replicate k42 (0 : Int))).bind fun (u1 : (List Int)) =>
        m_impl_movedNodes_fDropUnused_1_DropUnused_2_A1 s0 x21 u1
      else
        some (.next (s0.1, (w64 (s0.2 + (1 : Int)))))
  else
    some (.out s0.1)
noncomputable def m_impl_movedNodes_fDropUnused_1_DropUnused_2_A0 (u0 : (List Node)) : Option (List Node) :=
  some u0
noncomputable def m_impl_movedNodes_fDropUnused_1_DropUnused_2 (p0 : List Node) (v1_0_0 : Int) (v2_0_0 : List Int) (v2_1_0 : Int) : Option (List Node) :=
  (m_impl_ownNodes p0).bind fun (r15 : List Node) =>
  (iter (m_impl_movedNodes_fDropUnused_1_DropUnused_2_L0 v1_0_0 v2_0_0 v2_1_0 r15) (r15, (0 : Int))).bind fun (u0 : (List Node)) =>
  m_impl_movedNodes_fDropUnused_1_DropUnused_2_A0 u0
noncomputable def m_impl_DropUnused_L0 (p0 : Sequent) (n0 : Nat) (x0 : Bool) (s0 : (List Term) × (List Int)) : Option (Ctl ((List Term) × (List Int)) (((List Term) × (List Int)))) :=
  bif x0 then
    (getI p0.Facts (n0 : Int)).bind fun (x42 : Term) =>
    (m_impl_Term_own x42).bind fun (r44 : Term) =>
    (capI (s0.1.length + [r44].length) 32).bind fun (q46 : Unit) =>
    (capI (s0.2.length + [(s0.1.length : Int)].length) 8).bind fun (q51 : Unit) =>
    some (.next ((s0.1 ++ [r44]), (s0.2 ++ [(s0.1.length : Int)])))
  else
    (capI (s0.2.length + [(-1 : Int)].length) 8).bind fun (q51 : Unit) =>
    some (.next (s0.1, (s0.2 ++ [(-1 : Int)])))
noncomputable def m_impl_DropUnused_A0 (p0 : Sequent) (p1 : List Node) (r20 : Term) (u0 : ((List Term) × (List Int))) : Option (Sequent × (List Node) × Bool) :=
  (m_impl_movedNodes_fDropUnused_1_DropUnused_2 p1 (w64 ((p0.Facts.length : Int) - (u0.1.length : Int))) u0.2 (w64 ((p0.Facts.length : Int) - (u0.1.length : Int)))).bind fun (r64 : List Node) =>
  some ((Sequent.mk u0.1 r20), r64, true)
noncomputable def m_impl_DropUnused (p0 : Sequent) (p1 : List Node) : Option (Sequent × (List Node) × Bool) :=
  (m_impl_CheckProof p0 p1).bind fun (r15 : Bool) =>
  bif (!r15) then
    some ((Sequent.mk ([] : List Term) (Term.mk (0 : Int) ([] : List Int))), ([] : List Node), false)
  else
    (m_impl_Term_own p0.Goal).bind fun (r20 : Term) =>
    (m_impl_used p1 (p0.Facts.length : Int)).bind fun (r26 : List Bool) =>
    (forL (m_impl_DropUnused_L0 p0) (fun s0 => (s0.1, s0.2)) 0 r26 (([] : List Term), ([] : List Int))).bind fun (u0 : ((List Term) × (List Int))) =>
    m_impl_DropUnused_A0 p0 p1 r20 u0
noncomputable def m_spec_R8Term (p0 : List Int) : Option Term :=
  (m_spec_l00From p0).bind fun (r5 : l00Src) =>
  (m_spec_l05DrawTerm r5).bind fun (r7 : Term × l00Src) =>
  some r7.1
noncomputable def m_impl_LiftProof_2 (p0 : Int) (p1_0 : Int) (p2_0 : Int) : Option Int :=
  bif (decide (p0 < p1_0)) then
    some p0
  else
    some (w64 (p0 + p2_0))
noncomputable def m_impl_LiftProof_1 (p0 : Int) (p1_0 : Int) : Option Int :=
  some (w64 (p0 + p1_0))
noncomputable def m_impl_movedNodes_fLiftProof_1_LiftProof_2_L1 (v2_0_0 : Int) (v2_1_0 : Int) (n1 : Nat) (x1 : Int) (s1 : List Int) : Option (Ctl (List Int) ((List Int))) :=
  (m_impl_LiftProof_2 (n1 : Int) v2_0_0 v2_1_0).bind fun (r53 : Int) =>
  bif (decide ((0 : Int) ≤ r53)) then
    (getI s1 r53).bind fun (x59 : Int) =>
    some (.next (s1.set ((r53).toNat) x1))
  else
    some (.next s1)
noncomputable def m_impl_movedNodes_fLiftProof_1_LiftProof_2_A1 (s0 : (List Node) × Int) (x21 : Node) (u1 : (List Int)) : Option (Ctl ((List Node) × Int) ((List Node))) :=
  some (.next ((s0.1.set ((s0.2).toNat) (Node.mk x21.Kind x21.Fact x21.Term u1)), (w64 (s0.2 + (1 : Int)))))
noncomputable def m_impl_movedNodes_fLiftProof_1_LiftProof_2_L0 (v1_0_0 : Int) (v2_0_0 : Int) (v2_1_0 : Int) (r15 : List Node) (s0 : (List Node) × Int) : Option (Ctl ((List Node) × Int) ((List Node))) :=
  bif (decide (s0.2 < (r15.length : Int))) then
    (getI s0.1 s0.2).bind fun (x21 : Node) =>
    bif (decide (x21.Kind = (3 : Int))) then
      (m_impl_LiftProof_2 x21.Fact v2_0_0 v2_1_0).bind fun (r32 : Int) =>
      some (.next ((s0.1.set ((s0.2).toNat) (Node.mk x21.Kind r32 x21.Term x21.Multipliers)), (w64 (s0.2 + (1 : Int)))))
    else
      bif (decide (x21.Kind = (1 : Int))) then
        (m_impl_LiftProof_1 (x21.Multipliers.length : Int) v1_0_0).bind fun (r41 : Int) =>
        (makeI r41 8).bind fun (k42 : Nat) =>
        (forL (m_impl_movedNodes_fLiftProof_1_LiftProof_2_L1 v2_0_0 v2_1_0) (fun s1 => s1) 0 x21.Multipliers (List.replicate k42 (0 : Int))).bind fun (u1 : (List Int)) =>
        m_impl_movedNodes_fLiftProof_1_LiftProof_2_A1 s0 x21 u1
      else
        some (.next (s0.1, (w64 (s0.2 + (1 : Int)))))
  else
    some (.out s0.1)
noncomputable def m_impl_movedNodes_fLiftProof_1_LiftProof_2_A0 (u0 : (List Node)) : Option (List Node) :=
  some u0
noncomputable def m_impl_movedNodes_fLiftProof_1_LiftProof_2 (p0 : List Node) (v1_0_0 : Int) (v2_0_0 : Int) (v2_1_0 : Int) : Option (List Node) :=
  (m_impl_ownNodes p0).bind fun (r15 : List Node) =>
  (iter (m_impl_movedNodes_fLiftProof_1_LiftProof_2_L0 v1_0_0 v2_0_0 v2_1_0 r15) (r15, (0 : Int))).bind fun (u0 : (List Node)) =>
  m_impl_movedNodes_fLiftProof_1_LiftProof_2_A0 u0
noncomputable def m_impl_LiftProof_J0 (p0 : Sequent) (p1 : List Node) (p2 : List Term) (j0 : (List Term) × Int × (List Int)) : Option (Sequent × (List Node) × Bool) :=
  (m_impl_movedNodes_fLiftProof_1_LiftProof_2 p1 (p2.length : Int) (p0.Facts.length : Int) (p2.length : Int)).bind fun (r41 : List Node) =>
  (m_impl_accepted (Sequent.mk j0.1 (Term.mk j0.2.1 j0.2.2)) r41).bind fun (r42 : Sequent × (List Node) × Bool) =>
  some (r42.1, r42.2.1, r42.2.2)
noncomputable def m_impl_LiftProof (p0 : Sequent) (p1 : List Node) (p2 : List Term) : Option (Sequent × (List Node) × Bool) :=
  (m_impl_CheckProof p0 p1).bind fun (r14 : Bool) =>
  bif ((!r14) || (decide ((14 : Int) < (p2.length : Int)))) then
    some ((Sequent.mk ([] : List Term) (Term.mk (0 : Int) ([] : List Int))), ([] : List Node), false)
  else
    (m_impl_ownTerms p0.Facts).bind fun (r29 : List Term) =>
    (m_impl_ownTerms p2).bind fun (r31 : List Term) =>
    (capI (r29.length + r31.length) 32).bind fun (q32 : Unit) =>
    (m_impl_Term_own p0.Goal).bind fun (r35 : Term) =>
    m_impl_LiftProof_J0 p0 p1 p2 ((r29 ++ r31), r35.Const, r35.Coeffs)
noncomputable def m_laws_r8Has_L0 (p0 : List Int) (p1 : Int) (s0 : Int) : Option (Ctl Int (Unit ⊕ Bool)) :=
  bif (decide (s0 < (p0.length : Int))) then
    (getI p0 s0).bind fun (x14 : Int) =>
    bif (decide (x14 = p1)) then
      some (.out (.inr true))
    else
      some (.next (w64 (s0 + (1 : Int))))
  else
    some (.out (.inl ()))
noncomputable def m_laws_r8Has_A0 (u0 : Unit ⊕ Bool) : Option Bool :=
  match u0 with
  | .inl u0 =>
    some false
  | .inr u0 =>
    some u0
noncomputable def m_laws_r8Has (p0 : List Int) (p1 : Int) : Option Bool :=
  (iter (m_laws_r8Has_L0 p0 p1) (0 : Int)).bind fun (u0 : Unit ⊕ Bool) =>
  m_laws_r8Has_A0 u0
noncomputable def m_laws_FnUnused_L0 (r28 : Sequent × (List Node)) (r34 : (List Int) × Bool) (s0 : Int × Int) : Option (Ctl (Int × Int) Int) :=
  bif (decide (s0.2 < (r28.1.Facts.length : Int))) then
    (m_laws_r8Has r34.1 s0.2).bind fun (r132 : Bool) =>
    bif r132 then
      some (.next ((w64 (s0.1 + (1 : Int))), (w64 (s0.2 + (1 : Int)))))
    else
      some (.next (s0.1, (w64 (s0.2 + (1 : Int)))))
  else
    some (.out s0.1)
noncomputable def m_laws_FnUnused_L1 (r47 : (List Int) × Bool) (u0 : Int) (s1 : Int) : Option (Ctl Int (Unit ⊕ Bool)) :=
  bif (decide (s1 < u0)) then
    (m_laws_r8Has r47.1 s1).bind fun (r161 : Bool) =>
    bif (!r161) then
      some (.out (.inr false))
    else
      some (.next (w64 (s1 + (1 : Int))))
  else
    some (.out (.inl ()))
noncomputable def m_laws_FnUnused_A1 (u1 : Unit ⊕ Bool) : Option Bool :=
  match u1 with
  | .inl u1 =>
    some true
  | .inr u1 =>
    some u1
noncomputable def m_laws_FnUnused_A0 (r34 : (List Int) × Bool) (r40 : Sequent × (List Node) × Bool) (r47 : (List Int) × Bool) (r66 : (List Int) × Bool) (u0 : Int) : Option Bool :=
  bif (((!decide ((r40.1.Facts.length : Int) = u0)) || (!decide ((r47.1.length : Int) = (r34.1.length : Int)))) || (!decide ((r66.1.length : Int) = (r34.1.length : Int)))) then
    some false
  else
    (iter (m_laws_FnUnused_L1 r47 u0) (0 : Int)).bind fun (u1 : Unit ⊕ Bool) =>
    m_laws_FnUnused_A1 u1
noncomputable def m_laws_FnUnused (p0 : List Int) (p1 : List Int) : Option Bool :=
  (m_laws_r8Long p0 p1).bind fun (r25 : Bool) =>
  bif r25 then
    some true
  else
    (m_spec_R8Proved p0).bind fun (r28 : Sequent × (List Node)) =>
    (m_impl_UsedFacts r28.1 r28.2).bind fun (r34 : (List Int) × Bool) =>
    (m_impl_DropUnused r28.1 r28.2).bind fun (r40 : Sequent × (List Node) × Bool) =>
    (m_impl_UsedFacts r40.1 r40.2.1).bind fun (r47 : (List Int) × Bool) =>
    (m_spec_R8Term p1).bind fun (r51 : Term) =>
    (m_spec_R8Term p0).bind fun (r53 : Term) =>
    (m_impl_LiftProof r28.1 r28.2 [r51, r53]).bind fun (r59 : Sequent × (List Node) × Bool) =>
    (m_impl_UsedFacts r59.1 r59.2.1).bind fun (r66 : (List Int) × Bool) =>
    bif (((((!r34.2) || (!r40.2.2)) || (!r47.2)) || (!r59.2.2)) || (!r66.2)) then
      some false
    else
      (m_impl_CheckProof r40.1 r40.2.1).bind fun (r90 : Bool) =>
      bif (!r90) then
        some false
      else
        (m_impl_CheckProof r59.1 r59.2.1).bind fun (r96 : Bool) =>
        bif ((((!r96) || (!decide ((r59.1.Facts.length : Int) = (w64 ((r28.1.Facts.length : Int) + (2 : Int)))))) || (!decide ((r40.2.1.length : Int) = (r28.2.length : Int)))) || (!decide ((r59.2.1.length : Int) = (r28.2.length : Int)))) then
          some false
        else
          (iter (m_laws_FnUnused_L0 r28 r34) ((0 : Int), (0 : Int))).bind fun (u0 : Int) =>
          m_laws_FnUnused_A0 r34 r40 r47 r66 u0
end Go.Mod

namespace Go.Mod
open Go.AM
set_option linter.unusedVariables false
set_option linter.unusedSimpArgs false
def cTerm (t : Term) : Nat := t.Coeffs.length
def inR (c : Int) : Bool := decide (-1000000 ≤ c) && decide (c ≤ 1000000)
theorem inR_iff {c : Int} : inR c = true ↔ -1000000 ≤ c ∧ c ≤ 1000000 := by simp [inR]
def lastOK (xs : List Int) : Bool := match xs.getLast? with | none => true | some x => !decide (x = 0)
def vT (t : Term) : Bool := inR t.Const && decide (t.Coeffs.length ≤ 10) && lastOK t.Coeffs && t.Coeffs.all inR
theorem vT_len {t : Term} (h : vT t = true) : t.Coeffs.length ≤ 10 := by simp [vT] at h; omega
theorem vT_const {t : Term} (h : vT t = true) : inR t.Const = true := by simp [vT] at h; exact h.1.1.1
theorem vT_coef {t : Term} (h : vT t = true) : ∀ x ∈ t.Coeffs, inR x = true := by simp [vT] at h; exact h.2
theorem getI_last {xs : List Int} (h0 : 0 < xs.length) (hl : xs.length ≤ 9223372036854775807) : getI xs (w64 ((xs.length : Int) - 1)) = xs.getLast? := by
  rw [w64_pred h0 hl, getI_nat, List.getLast?_eq_getElem?]
theorem spec_number (c : Int) : m_spec_l02Number c = some (inR c) := rfl
theorem spec_is_loop {t : Term} (hl : t.Coeffs.length ≤ 1048576) : iter (m_spec_l02Is_L0 t) 0 = some (bif t.Coeffs.all inR then .inl () else .inr false) := by
  have h := iter_for (step := m_spec_l02Is_L0 t) t.Coeffs (fun n (_ : Unit) => (n : Int)) (fun _ x _ => bif inR x then some (.next ()) else some (.out (.inr false))) (fun _ => .inl ())
    (fun n x r hx => by
      unfold m_spec_l02Is_L0
      rw [dec_lt (get_lt hx), cond_true, getI_some hx, Option.bind_some, spec_number, Option.bind_some]
      have hw : w64 ((n : Int) + 1) = ((n + 1 : Nat) : Int) := w64_succ (by have := get_lt hx; omega)
      cases inR x
      · rfl
      · rw [hw]; rfl)
    (fun r => by unfold m_spec_l02Is_L0; rw [dec_self]; rfl) ()
  rw [forL_all inR _ _ (fun n x _ => rfl)] at h
  exact h
theorem spec_is {t : Term} (hl : cTerm t ≤ 1048576) : m_spec_l02Is t = some (vT t) := by
  unfold cTerm at hl
  have hJ : m_spec_l02Is_J0 t () = some (t.Coeffs.all inR) := by
    unfold m_spec_l02Is_J0
    rw [spec_is_loop hl, Option.bind_some]
    cases t.Coeffs.all inR <;> rfl
  unfold m_spec_l02Is
  rw [spec_number, Option.bind_some]
  unfold vT
  cases h1 : inR t.Const with
  | false => rfl
  | true =>
    by_cases h2 : t.Coeffs.length ≤ 10
    · rw [decide_eq_true h2, decide_eq_false (show ¬ (10 : Int) < (t.Coeffs.length : Int) by omega)]
      simp only [Bool.not_true, Bool.false_or, cond_false, Bool.true_and]
      by_cases h3 : 0 < t.Coeffs.length
      · rw [decide_eq_true (show (0 : Int) < (t.Coeffs.length : Int) by omega), cond_true, getI_last h3 (by omega)]
        unfold lastOK
        cases h4 : t.Coeffs.getLast? with
        | none => rw [List.getLast?_eq_none_iff] at h4; rw [h4] at h3; exact absurd h3 (by simp)
        | some x =>
          simp only [Option.bind_some]
          by_cases h5 : x = 0
          · rw [decide_eq_true h5]; rfl
          · rw [decide_eq_false h5, cond_false, hJ]; rfl
      · rw [decide_eq_false (show ¬ (0 : Int) < (t.Coeffs.length : Int) by omega), cond_false, hJ]
        have : t.Coeffs = [] := List.length_eq_zero_iff.1 (by omega)
        rw [this]; rfl
    · rw [decide_eq_false h2, decide_eq_true (show (10 : Int) < (t.Coeffs.length : Int) by omega)]; rfl
theorem impl_all {xs : List Int} {a b : Int} : m_impl_allWithin xs a b = some (xs.all fun x => decide (a ≤ x) && decide (x ≤ b)) := by
  unfold m_impl_allWithin
  rw [forL_all (fun x => decide (a ≤ x) && decide (x ≤ b)) (f := .inr false) xs 0 (fun n x _ => by
    unfold m_impl_allWithin_L0 m_impl_within
    rw [Option.bind_some]
    cases (decide (a ≤ x) && decide (x ≤ b)) <;> rfl), Option.bind_some]
  cases xs.all fun x => decide (a ≤ x) && decide (x ≤ b) <;> rfl
theorem impl_valid (t : Term) : m_impl_ValidTerm t = some (vT t) := by
  unfold m_impl_ValidTerm vT
  by_cases h2 : t.Coeffs.length ≤ 10
  · rw [decide_eq_true h2, decide_eq_true (show (t.Coeffs.length : Int) ≤ (10 : Int) by omega), cond_true]
    rw [show m_impl_isCoeff t.Const = some (inR t.Const) from rfl, Option.bind_some]
    cases h1 : inR t.Const with
    | false => rfl
    | true =>
      rw [cond_true, impl_all, Option.bind_some]
      change (bif t.Coeffs.all inR then _ else _) = _
      cases h3 : t.Coeffs.all inR with
      | false => simp
      | true =>
        rw [cond_true]
        by_cases h4 : t.Coeffs.length = 0
        · rw [decide_eq_true (by omega), cond_true]
          rw [List.length_eq_zero_iff.1 h4]; rfl
        · rw [decide_eq_false (by omega), cond_false, getI_last (by omega) (by omega)]
          unfold lastOK
          cases h5 : t.Coeffs.getLast? with
          | none => rw [List.getLast?_eq_none_iff] at h5; rw [h5] at h4; exact absurd rfl h4
          | some x => simp
  · rw [decide_eq_false h2, decide_eq_false (show ¬ (t.Coeffs.length : Int) ≤ (10 : Int) by omega)]; simp
def tl (xs : List Int) : Nat → Nat
  | 0 => 0
  | n + 1 => if xs[n]? = some 0 then tl xs n else n + 1
theorem tl_le (xs : List Int) : ∀ n, tl xs n ≤ n := by
  intro n
  induction n with
  | zero => exact Nat.le_refl _
  | succ n ih => unfold tl; split <;> omega
def trim (xs : List Int) : List Int := xs.take (tl xs xs.length)
theorem trim_len (xs : List Int) : (trim xs).length ≤ xs.length := by unfold trim; simp; omega
theorem tl_iter {xs : List Int} {step : Int → Option (Ctl Int Int)}
    (hs : ∀ n : Int, step n = bif decide ((0 : Int) < n) then (getI xs (w64 (n - 1))).bind fun x => bif decide (x = 0) then some (.next (w64 (n - 1))) else some (.out n) else some (.out n))
    (hl : xs.length ≤ 1048576) : ∀ n : Nat, n ≤ xs.length → iter step (n : Int) = some ((tl xs n : Nat) : Int) := by
  intro n
  induction n with
  | zero => intro _; exact iter_out (by rw [hs]; rfl)
  | succ n ih =>
    intro hn
    have h := hs ((n + 1 : Nat) : Int)
    have hx : xs[n]? = some xs[n] := by simp
    rw [decide_eq_true (by omega), cond_true, w64_pred (by omega) (by omega), show n + 1 - 1 = n from rfl, getI_some hx, Option.bind_some] at h
    unfold tl
    by_cases h0 : xs[n] = 0
    · rw [decide_eq_true h0, cond_true] at h
      rw [iter_next h, ih (by omega), if_pos (by rw [hx, h0])]
    · rw [decide_eq_false h0, cond_false] at h
      rw [iter_out h, if_neg (by rw [hx]; simpa using h0)]
theorem slice_trim (xs : List Int) : sliceI xs 0 ((tl xs xs.length : Nat) : Int) = some (trim xs) := by
  rw [show (0 : Int) = ((0 : Nat) : Int) from rfl, sliceI_some (by omega) (tl_le _ _)]; rfl
def chk (t : Term) : Term × Bool := bif vT t then (t, true) else (Term.mk 0 [], false)
theorem spec_own {xs : List Int} (h : xs.length ≤ 1048576) : m_spec_l00Own xs = some xs := by
  unfold m_spec_l00Own; rw [capI_some (by simp; omega)]; simp
theorem spec_make {c : Int} {xs : List Int} (hl : xs.length ≤ 1048576) : m_spec_l02Make c xs = some (chk (Term.mk c (trim xs))) := by
  unfold m_spec_l02Make m_spec_l02Make_A0
  have h2 := trim_len xs
  rw [tl_iter (step := m_spec_l02Make_L0 xs) (fun n => rfl) hl _ (Nat.le_refl _), Option.bind_some, slice_trim, Option.bind_some, spec_own (by omega), Option.bind_some, spec_is (by unfold cTerm; simp only; omega), Option.bind_some]
  unfold chk
  cases vT (Term.mk c (trim xs)) <;> rfl
theorem impl_copy {xs : List Int} (h : xs.length ≤ 1048576) : m_impl_copyInts xs = some xs := by
  unfold m_impl_copyInts; rw [capI_some (by simp; omega)]; simp
theorem impl_own {t : Term} (h : t.Coeffs.length ≤ 1048576) : m_impl_Term_own t = some t := by
  unfold m_impl_Term_own; rw [impl_copy h]; rfl
theorem impl_trimmed {t : Term} (hl : t.Coeffs.length ≤ 1048576) : m_impl_Term_trimmed t = some (Term.mk t.Const (trim t.Coeffs)) := by
  unfold m_impl_Term_trimmed m_impl_Term_trimmed_A0
  rw [tl_iter (step := m_impl_Term_trimmed_L0 t) (fun n => rfl) hl _ (Nat.le_refl _), Option.bind_some, slice_trim, Option.bind_some]
def tab (f : Nat → Int) : List Int := (List.range 10).map f
theorem tab_len (f : Nat → Int) : (tab f).length = 10 := rfl
theorem tab_get {f : Nat → Int} {n : Nat} (h : n < 10) : (tab f)[n]? = some (f n) := by simp [tab, h]
theorem tab_set {f : Nat → Int} {n : Nat} {v : Int} (h : n < 10) : (tab f).set n v = tab fun i => if i = n then v else f i := by
  unfold tab
  apply List.ext_getElem?
  intro i
  rw [List.getElem?_set]
  by_cases hi : n = i
  · subst hi; simp [h]
  · rw [if_neg hi]
    have hi' : i ≠ n := Ne.symm hi
    by_cases h10 : i < 10
    · simp [h10, hi']
    · simp [h10]
theorem tab_zero : List.replicate 10 (0 : Int) = tab fun _ => 0 := rfl
def coef (xs : List Int) (i : Nat) : Int := xs[i]?.getD 0
theorem coef_get {xs : List Int} {i : Nat} {x : Int} (h : xs[i]? = some x) : coef xs i = x := by simp [coef, h]
theorem coef_no {xs : List Int} {i : Nat} (h : xs.length ≤ i) : coef xs i = 0 := by simp [coef, h]
theorem coef_rng {t : Term} (h : vT t = true) (i : Nat) : -1000000 ≤ coef t.Coeffs i ∧ coef t.Coeffs i ≤ 1000000 := by
  unfold coef
  cases hx : t.Coeffs[i]? with
  | none => simp
  | some x => exact inR_iff.1 (vT_coef h x (List.mem_of_getElem? hx))
theorem const_rng {t : Term} (h : vT t = true) : -1000000 ≤ t.Const ∧ t.Const ≤ 1000000 := inR_iff.1 (vT_const h)
theorem prod_rng {a b A B : Int} (h1 : -A ≤ a) (h2 : a ≤ A) (h3 : -B ≤ b) (h4 : b ≤ B) : -(A * B) ≤ a * b ∧ a * b ≤ A * B := by
  have hA : 0 ≤ A := by omega
  have hB : 0 ≤ B := by omega
  have p1 : 0 ≤ (A - a) * (B - b) := Int.mul_nonneg (by omega) (by omega)
  have p2 : 0 ≤ (A + a) * (B + b) := Int.mul_nonneg (by omega) (by omega)
  have p3 : 0 ≤ (A - a) * (B + b) := Int.mul_nonneg (by omega) (by omega)
  have p4 : 0 ≤ (A + a) * (B - b) := Int.mul_nonneg (by omega) (by omega)
  simp only [Int.sub_mul, Int.add_mul, Int.mul_sub, Int.mul_add] at p1 p2 p3 p4
  omega
theorem spec_coeff {t : Term} {i : Nat} (hl : i < 10) : m_spec_l02Coeff t (i : Int) = some (coef t.Coeffs i) := by
  unfold m_spec_l02Coeff
  by_cases h : i < t.Coeffs.length
  · have hx : t.Coeffs[i]? = some t.Coeffs[i] := by simp [h]
    rw [dec_lt h, cond_true, getI_some hx, coef_get hx]; rfl
  · rw [dec_not_lt h, cond_false, coef_no (by omega)]
def sumN (f : Nat → Int) : Nat → Int
  | 0 => 0
  | n + 1 => sumN f n + f n
theorem sumN_rng {f : Nat → Int} {B : Int} (h : ∀ i, -B ≤ f i ∧ f i ≤ B) : ∀ n : Nat, -(n * B) ≤ sumN f n ∧ sumN f n ≤ n * B := by
  intro n
  induction n with
  | zero => simp [sumN]
  | succ n ih =>
    have := h n
    have e : ((n + 1 : Nat) : Int) * B = n * B + B := by rw [Int.natCast_add]; simp [Int.add_mul]
    rw [e]
    unfold sumN
    omega
def tAt (ts : List Term) (k : Nat) : Term := ts[k]?.getD ⟨0, []⟩
def lin (ts : List Term) (ms : List Int) (g : Term → Int) (n : Nat) : Int := sumN (fun k => coef ms k * g (tAt ts k)) n
def mOK (m : Int) : Prop := -1000000 ≤ m ∧ m ≤ 1000000
def Lin (ts : List Term) (ms : List Int) : Prop := (∀ t ∈ ts, vT t = true) ∧ (∀ m ∈ ms, mOK m) ∧ ts.length ≤ 20 ∧ ms.length = ts.length
theorem tAt_valid {ts : List Term} (h : ∀ t ∈ ts, vT t = true) (k : Nat) : vT (tAt ts k) = true := by
  unfold tAt
  cases hx : ts[k]? with
  | none => rfl
  | some t => exact h t (List.mem_of_getElem? hx)
theorem coef_m {ms : List Int} (h : ∀ m ∈ ms, mOK m) (k : Nat) : -1000000 ≤ coef ms k ∧ coef ms k ≤ 1000000 := by
  unfold coef
  cases hx : ms[k]? with
  | none => simp
  | some m => exact h m (List.mem_of_getElem? hx)
theorem mul_rng {a b : Int} (h1 : -1000000 ≤ a ∧ a ≤ 1000000) (h2 : -1000000 ≤ b ∧ b ≤ 1000000) : -1000000000000 ≤ a * b ∧ a * b ≤ 1000000000000 := by
  have := prod_rng h1.1 h1.2 h2.1 h2.2
  omega
theorem lin_rng {ts : List Term} {ms : List Int} (h : Lin ts ms) {g : Term → Int} (hg : ∀ t, vT t = true → -1000000 ≤ g t ∧ g t ≤ 1000000) {n : Nat} (hn : n ≤ 20) :
    -20000000000000 ≤ lin ts ms g n ∧ lin ts ms g n ≤ 20000000000000 := by
  have := sumN_rng (f := fun k => coef ms k * g (tAt ts k)) (B := 1000000000000) (fun i => mul_rng (coef_m h.2.1 i) (hg _ (tAt_valid h.1 i))) n
  unfold lin
  omega
theorem inner {f : Nat → Int} {m : Int} {xs : List Int} (hm : mOK m) (hl : xs.length ≤ 10) (hx : ∀ x ∈ xs, inR x = true) (hf : ∀ i, -100000000000000 ≤ f i ∧ f i ≤ 100000000000000) :
    forL (m_impl_combined_L1 m) (fun s1 => s1) 0 xs (tab f) = some (tab fun i => f i + m * coef xs i) := by
  obtain ⟨t, h1, h2⟩ := forL_inv (step := m_impl_combined_L1 m) (fin := fun s1 => s1) (xs := xs) (fun n s => s = tab fun i => if i < n then f i + m * coef xs i else f i) (fun t => t = tab fun i => f i + m * coef xs i)
    (fun n x s hxn hs => by
      subst hs
      have hn := get_lt hxn
      refine .inl ⟨_, ?_, rfl⟩
      unfold m_impl_combined_L1
      rw [getI_some (tab_get (by omega)), Option.bind_some, if_neg (by omega)]
      have hp := mul_rng hm (inR_iff.1 (hx x (List.mem_of_getElem? hxn)))
      have := hf n
      rw [w64_eq (n := m * x) (by omega), w64_eq (by omega), Int.toNat_natCast, tab_set (by omega)]
      congr 2
      unfold tab
      apply List.map_congr_left
      intro i hi
      by_cases h1 : i = n
      · subst h1; rw [if_pos rfl, if_pos (by omega), coef_get hxn]
      · rw [if_neg h1]
        by_cases h2 : i < n
        · rw [if_pos h2, if_pos (by omega)]
        · rw [if_neg h2, if_neg (by omega)])
    (fun s hs => by
      subst hs
      unfold tab
      apply List.map_congr_left
      intro i hi
      by_cases h2 : i < xs.length
      · rw [if_pos h2]
      · rw [if_neg h2, coef_no (by omega)]; omega)
    (s := tab f) (by simp)
  rw [h1, h2]
theorem impl_combined {ts : List Term} {ms : List Int} (h : Lin ts ms) :
    m_impl_combined ts ms = some (Term.mk (lin ts ms Term.Const ts.length) (trim (tab fun i => lin ts ms (fun t => coef t.Coeffs i) ts.length))) := by
  unfold m_impl_combined
  rw [show (10 : Int) = ((10 : Nat) : Int) from rfl, makeI_some (by omega), Option.bind_some, tab_zero]
  obtain ⟨t, h1, h2⟩ := forL_inv (step := m_impl_combined_L0 ms) (fin := fun s0 => (s0.1, s0.2)) (xs := ts) (fun n s => s = (lin ts ms Term.Const n, tab fun i => lin ts ms (fun t => coef t.Coeffs i) n))
    (fun t => t = (lin ts ms Term.Const ts.length, tab fun i => lin ts ms (fun t => coef t.Coeffs i) ts.length))
    (fun n x s hxn hs => by
      subst hs
      have hn := get_lt hxn
      refine .inl ⟨_, ?_, rfl⟩
      unfold m_impl_combined_L0
      have hmn : n < ms.length := by rw [h.2.2.2]; exact hn
      have hm : ms[n]? = some ms[n] := by simp [hmn]
      have hv := h.1 x (List.mem_of_getElem? hxn)
      have hmo := h.2.1 _ (List.mem_of_getElem? hm)
      rw [getI_some hm, Option.bind_some, inner hmo (vT_len hv) (vT_coef hv)
        (fun i => by have := lin_rng h (g := fun t => coef t.Coeffs i) (fun t ht => coef_rng ht i) (n := n) (by have := h.2.2.1; omega); omega), Option.bind_some]
      unfold m_impl_combined_A1
      have hp := mul_rng hmo (const_rng hv)
      have hq := lin_rng h (g := Term.Const) (fun t ht => const_rng ht) (n := n) (by have := h.2.2.1; omega)
      simp only
      rw [w64_eq (n := ms[n] * x.Const) (by omega), w64_eq (by omega)]
      have e : ∀ g : Term → Int, lin ts ms g (n + 1) = lin ts ms g n + ms[n] * g x := by
        intro g
        unfold lin
        rw [show sumN (fun k => coef ms k * g (tAt ts k)) (n + 1) = sumN (fun k => coef ms k * g (tAt ts k)) n + coef ms n * g (tAt ts n) from rfl, coef_get hm]
        unfold tAt
        rw [hxn]; rfl
      simp only [e])
    (fun s hs => hs) rfl
  change (forL (m_impl_combined_L0 ms) (fun s0 => (s0.1, s0.2)) 0 ts (lin ts ms Term.Const 0, tab fun i => lin ts ms (fun t => coef t.Coeffs i) 0)).bind _ = _
  rw [h1, h2, Option.bind_some]
  unfold m_impl_combined_A0
  rw [impl_trimmed (by simp only [tab_len]; omega)]; rfl
theorem spec_sum_loop {p q : Term} {a b : Int} (hp : vT p = true) (hq : vT q = true) (ha : mOK a) (hb : mOK b) :
    iter (m_spec_l02Sum_L0 p a q b) ([], 0) = some (tab fun i => a * coef p.Coeffs i + b * coef q.Coeffs i) := by
  have key : ∀ (m n : Nat), n + m = 10 → iter (m_spec_l02Sum_L0 p a q b) ((tab fun i => a * coef p.Coeffs i + b * coef q.Coeffs i).take n, (n : Int)) = some (tab fun i => a * coef p.Coeffs i + b * coef q.Coeffs i) := by
    intro m
    induction m with
    | zero =>
      intro n hn
      obtain rfl : n = 10 := by omega
      exact iter_out rfl
    | succ m ih =>
      intro n hn
      rw [iter_next (s' := ((tab fun i => a * coef p.Coeffs i + b * coef q.Coeffs i).take (n + 1), ((n + 1 : Nat) : Int)))]
      · exact ih (n + 1) (by omega)
      · unfold m_spec_l02Sum_L0
        have h1 := mul_rng ha (coef_rng hp n)
        have h2 := mul_rng hb (coef_rng hq n)
        rw [decide_eq_true (by omega), cond_true, spec_coeff (by omega), Option.bind_some, spec_coeff (by omega), Option.bind_some, capI_some (by simp [tab_len]; omega), Option.bind_some]
        rw [w64_succ (by omega), w64_eq (n := a * coef p.Coeffs n) (by omega), w64_eq (n := b * coef q.Coeffs n) (by omega), w64_eq (by omega), List.take_add_one, tab_get (by omega)]
        rfl
  exact key 10 0 rfl
theorem spec_sum {p q : Term} {a b : Int} (hp : vT p = true) (hq : vT q = true) (ha : mOK a) (hb : mOK b) :
    m_spec_l02Sum p a q b = some (chk (Term.mk (a * p.Const + b * q.Const) (trim (tab fun i => a * coef p.Coeffs i + b * coef q.Coeffs i)))) := by
  unfold m_spec_l02Sum
  rw [spec_sum_loop hp hq ha hb, Option.bind_some]
  unfold m_spec_l02Sum_A0
  have h1 := mul_rng ha (const_rng hp)
  have h2 := mul_rng hb (const_rng hq)
  rw [w64_eq (n := a * p.Const) (by omega), w64_eq (n := b * q.Const) (by omega), w64_eq (by omega), spec_make (by rw [tab_len]; omega)]
  rfl
def small (r : Term × Bool) : Prop := cTerm r.1 ≤ 1048576
theorem vT_one (c : Int) (h : inR c = true) : vT (Term.mk c []) = true := by unfold vT; simp only [h]; rfl
theorem coef_nil (i : Nat) : coef [] i = 0 := rfl
theorem lin_one (p : Term) (m : Int) (g : Term → Int) : lin [p] [m] g 1 = m * g p := by
  unfold lin
  simp [sumN, coef, tAt]
def cTermS (ts : List Term) : Nat := ts.length + (ts.map cTerm).sum
theorem mem_sum {α : Type} {c : α → Nat} {xs : List α} {x : α} (h : x ∈ xs) : c x ≤ (xs.map c).sum := by
  induction xs with
  | nil => cases h
  | cons y r ih =>
    simp only [List.map_cons, List.sum_cons]
    rcases List.mem_cons.1 h with rfl | h
    · omega
    · have := ih h; omega
theorem cTermS_mem {ts : List Term} {t : Term} (h : t ∈ ts) : cTerm t ≤ cTermS ts := by have := mem_sum (c := cTerm) h; unfold cTermS; omega
theorem impl_terms {ts : List Term} {k : Nat} : m_impl_areTerms ts (k : Int) = some (decide (ts.length ≤ k) && ts.all vT) := by
  unfold m_impl_areTerms
  by_cases h : ts.length ≤ k
  · rw [decide_eq_false (by omega), cond_false, decide_eq_true h, Bool.true_and, forL_all vT (f := .inr false) ts 0 (fun n x _ => by
      unfold m_impl_areTerms_L0
      rw [impl_valid, Option.bind_some]
      cases vT x <;> rfl), Option.bind_some]
    cases ts.all vT <;> rfl
  · rw [decide_eq_true (by omega), decide_eq_false h]; rfl
def cSeq (s : Sequent) : Nat := cTermS s.Facts + cTerm s.Goal
theorem foldl_snoc {α : Type} (xs s : List α) : xs.foldl (fun s x => s ++ [x]) s = s ++ xs := by
  induction xs generalizing s with
  | nil => simp
  | cons x r ih => simp [ih]
theorem impl_ownTerms {ts : List Term} (hl : cTermS ts ≤ 1048576) : m_impl_ownTerms ts = some ts := by
  have hlen : ts.length ≤ 1048576 := by unfold cTermS at hl; omega
  unfold m_impl_ownTerms
  rw [forL_fold (fun s x => s ++ [x]) (fun k s => s.length = k) ts 0 [] rfl (fun n x s hx hs => by
    have := get_lt hx
    unfold m_impl_ownTerms_L0
    rw [impl_own (by have := cTermS_mem (List.mem_of_getElem? hx); unfold cTerm at this; omega), Option.bind_some, capI_some (by simp; omega), Option.bind_some]
    exact ⟨rfl, by simp [hs]⟩), Option.bind_some, foldl_snoc]
  rfl
theorem spec_ownAll {ts : List Term} (hl : cTermS ts ≤ 1048576) : m_spec_l02OwnAll ts = some ts := by
  have hlen : ts.length ≤ 1048576 := by unfold cTermS at hl; omega
  have h := iter_for (step := m_spec_l02OwnAll_L0 ts) ts (fun n (s : List Term) => (s, (n : Int))) m_impl_ownTerms_L0 (fun s0 => s0)
    (fun n x r hx => by
      unfold m_spec_l02OwnAll_L0 m_impl_ownTerms_L0 m_spec_l02Own
      have hc := cTermS_mem (List.mem_of_getElem? hx)
      unfold cTerm at hc
      simp only
      rw [dec_lt (get_lt hx), cond_true, getI_some hx, Option.bind_some, spec_own (by omega), Option.bind_some, Option.bind_some, impl_own (by omega), Option.bind_some]
      simp only [List.length_cons, List.length_nil, Nat.zero_add]
      cases capI (r.length + 1) 32 with
      | none => rfl
      | some u => simp only [Option.bind_some]; rw [w64_succ (by have := get_lt hx; omega)]; rfl)
    (fun r => by unfold m_spec_l02OwnAll_L0; simp only; rw [dec_self]; rfl) ([] : List Term)
  have h2 := impl_ownTerms hl
  unfold m_impl_ownTerms at h2
  unfold m_spec_l02OwnAll
  rw [show (0 : Int) = ((0 : Nat) : Int) from rfl, h]
  exact h2
def opp (t : Term) : Term := Term.mk (-t.Const - 1) (trim (tab fun i => -coef t.Coeffs i))
theorem spec_opposite {t : Term} (h : vT t = true) : m_spec_l02Opposite t = some (chk (opp t)) := by
  unfold m_spec_l02Opposite
  rw [spec_sum h (vT_one 1 rfl) (by unfold mOK; omega) (by unfold mOK; omega)]
  simp only [coef_nil, Int.mul_zero, Int.add_zero, Int.neg_mul, Int.one_mul]; rfl
theorem impl_opposite {t : Term} (h : vT t = true) : m_impl_Term_opposite t = some (opp t) := by
  unfold m_impl_Term_opposite
  have := const_rng h
  rw [impl_combined ⟨by simp [h], by simp [mOK], by simp, rfl⟩]
  simp only [List.length_cons, List.length_nil, Nat.zero_add, lin_one, Option.bind_some, Int.neg_mul, Int.one_mul]
  rw [w64_eq (by omega)]; rfl
theorem opp_len (t : Term) : (opp t).Coeffs.length ≤ 10 := by unfold opp; have := trim_len (tab fun i => -coef t.Coeffs i); rw [tab_len] at this; exact this
def vSeq (s : Sequent) : Bool := s.Facts.all vT && decide (s.Facts.length ≤ 13) && vT s.Goal
def fCtx (s : Sequent) : List Term × Bool := bif vSeq s && vT (opp s.Goal) then (s.Facts ++ [opp s.Goal], true) else ([], false)
theorem impl_ctx {s : Sequent} (hl : cSeq s ≤ 1048576) : m_impl_ContextOf s = some (fCtx s) := by
  unfold cSeq at hl
  have hlen : s.Facts.length ≤ 1048576 := by have : s.Facts.length ≤ cTermS s.Facts := by { unfold cTermS; omega }; omega
  unfold m_impl_ContextOf m_impl_ValidSequent fCtx vSeq
  rw [show (13 : Int) = ((13 : Nat) : Int) from rfl, impl_terms, Option.bind_some, impl_valid, Bool.and_comm (decide (s.Facts.length ≤ 13))]
  cases h1 : s.Facts.all vT && decide (s.Facts.length ≤ 13) with
  | false => rfl
  | true =>
    cases h2 : vT s.Goal with
    | false => rfl
    | true =>
      simp only [cond_true, Option.bind_some, Bool.not_true, cond_false, Bool.true_and]
      rw [impl_opposite h2, Option.bind_some, impl_valid, Option.bind_some, impl_ownTerms (by omega), Option.bind_some, Option.bind_some, impl_own (by have := opp_len s.Goal; omega), Option.bind_some]
      cases h3 : vT (opp s.Goal) with
      | false => rfl
      | true =>
        simp only [cond_true, Bool.not_true, cond_false]
        rw [capI_some (by simp; omega)]; rfl
theorem euclid {step : Int × Int → Option (Ctl (Int × Int) Int)}
    (h0 : ∀ a : Nat, step ((a : Int), ((0 : Nat) : Int)) = some (.out (a : Int)))
    (hs : ∀ a b : Nat, 0 < b → step ((a : Int), (b : Int)) = some (.next ((b : Int), ((a % b : Nat) : Int)))) : ∀ (n b a : Nat), b < n → iter step ((a : Int), (b : Int)) = some ((Nat.gcd a b : Nat) : Int) := by
  intro n
  induction n with
  | zero => intro b a h; omega
  | succ n ih =>
    intro b a h
    by_cases hb : b = 0
    · subst hb; rw [iter_out (h0 a), Nat.gcd_zero_right]
    · rw [iter_next (hs a b (by omega)), ih (a % b) b (by have := Nat.mod_lt a (Nat.pos_of_ne_zero hb); omega)]
      congr 2
      rw [Nat.gcd_comm a b, Nat.gcd_rec b a, Nat.gcd_comm]
theorem rem_nat {a b : Nat} (hb : 0 < b) : remI (a : Int) (b : Int) = some ((a % b : Nat) : Int) := by
  unfold remI
  rw [decide_eq_false (by omega), cond_false]
  rfl
theorem spec_euclid (a b : Nat) : iter m_spec_l02Divisor_L1 ((a : Int), (b : Int)) = some ((Nat.gcd a b : Nat) : Int) :=
  euclid (fun a => rfl) (fun a b hb => by
    unfold m_spec_l02Divisor_L1
    simp only
    rw [decide_eq_true (by omega), cond_true, rem_nat hb]; rfl) (b + 1) b a (Nat.lt_succ_self _)
theorem impl_euclid (a b : Nat) : iter m_impl_gcd_L1 ((a : Int), (b : Int)) = some ((Nat.gcd a b : Nat) : Int) :=
  euclid (fun a => rfl) (fun a b hb => by
    unfold m_impl_gcd_L1
    simp only
    rw [decide_eq_false (by omega), Bool.not_false, cond_true, rem_nat hb]; rfl) (b + 1) b a (Nat.lt_succ_self _)
def gcdL (xs : List Int) : Nat := xs.foldl (fun d x => Nat.gcd d x.natAbs) 0
theorem foldl_cast (xs : List Int) : ∀ (d : Nat), xs.foldl (fun (d : Int) x => ((Nat.gcd d.toNat x.natAbs : Nat) : Int)) (d : Int) = ((xs.foldl (fun d x => Nat.gcd d x.natAbs) d : Nat) : Int) := by
  induction xs with
  | nil => intro d; rfl
  | cons x r ih => intro d; simp only [List.foldl_cons, Int.toNat_natCast]; exact ih _
theorem impl_gcd {xs : List Int} (h : ∀ x ∈ xs, inR x = true) : m_impl_gcd xs = some ((gcdL xs : Nat) : Int) := by
  unfold m_impl_gcd
  rw [forL_fold (fun (d : Int) x => ((Nat.gcd d.toNat x.natAbs : Nat) : Int)) (fun _ d => 0 ≤ d) xs 0 0 (Int.le_refl 0) (fun n x d hx hd => by
    have hr := inR_iff.1 (h x (List.mem_of_getElem? hx))
    unfold m_impl_gcd_L0 m_impl_absolute
    rw [Option.bind_some, w64_eq (by omega), show max x (0 - x) = ((x.natAbs : Nat) : Int) by omega, show d = ((d.toNat : Nat) : Int) by omega, impl_euclid, Option.bind_some]
    exact ⟨by rw [Int.toNat_natCast]; rfl, by omega⟩), Option.bind_some]
  have := foldl_cast xs 0
  exact congrArg some this
theorem spec_gcd {t : Term} (h : ∀ x ∈ t.Coeffs, inR x = true) (hl : t.Coeffs.length ≤ 1048576) : m_spec_l02Divisor t = some ((gcdL t.Coeffs : Nat) : Int) := by
  have h2 := iter_for (step := m_spec_l02Divisor_L0 t) t.Coeffs (fun n (d : Nat) => ((d : Int), (n : Int))) (fun n x d => some (.next (Nat.gcd d x.natAbs))) (fun d => ((d : Nat) : Int))
    (fun n x d hx => by
      have hr := inR_iff.1 (h x (List.mem_of_getElem? hx))
      unfold m_spec_l02Divisor_L0 m_spec_l00Max
      simp only
      rw [dec_lt (get_lt hx), cond_true, getI_some hx, Option.bind_some, w64_eq (n := 0 - x) (by omega)]
      have e : (bif decide (0 - x < x) then some x else some (0 - x)) = some ((x.natAbs : Nat) : Int) := by
        by_cases h : 0 - x < x
        · rw [decide_eq_true h, cond_true, show ((x.natAbs : Nat) : Int) = x by omega]
        · rw [decide_eq_false h, cond_false, show ((x.natAbs : Nat) : Int) = 0 - x by omega]
      rw [e, Option.bind_some, spec_euclid, Option.bind_some]
      unfold m_spec_l02Divisor_A1
      simp only
      rw [w64_succ (by have := get_lt hx; omega)]; rfl)
    (fun r => by unfold m_spec_l02Divisor_L0; simp only; rw [dec_self]; rfl) 0
  rw [forL_fold (fun (d : Nat) x => Nat.gcd d x.natAbs) (fun _ _ => True) t.Coeffs 0 0 trivial (fun n x d hx _ => ⟨rfl, trivial⟩)] at h2
  unfold m_spec_l02Divisor
  rw [show ((0 : Int), (0 : Int)) = (((0 : Nat) : Int), ((0 : Nat) : Int)) from rfl, h2]
  rfl
theorem foldl_dvd (xs : List Int) : ∀ (d : Nat), (xs.foldl (fun d x => Nat.gcd d x.natAbs) d) ∣ d ∧ ∀ x ∈ xs, (xs.foldl (fun d x => Nat.gcd d x.natAbs) d) ∣ x.natAbs := by
  induction xs with
  | nil => intro d; exact ⟨Nat.dvd_refl d, fun x h => by cases h⟩
  | cons y r ih =>
    intro d
    obtain ⟨h1, h2⟩ := ih (Nat.gcd d y.natAbs)
    simp only [List.foldl_cons]
    refine ⟨Nat.dvd_trans h1 (Nat.gcd_dvd_left _ _), fun x hx => ?_⟩
    rcases List.mem_cons.1 hx with rfl | hx
    · exact Nat.dvd_trans h1 (Nat.gcd_dvd_right _ _)
    · exact h2 x hx
theorem gcdL_dvd {xs : List Int} {x : Int} (h : x ∈ xs) : gcdL xs ∣ x.natAbs := (foldl_dvd xs 0).2 x h
theorem tdiv_rng {x : Int} {d : Nat} (hd : 2 ≤ d) (h : inR x = true) : inR (x.tdiv d) = true ∧ -500000 ≤ x.tdiv d ∧ x.tdiv d ≤ 500000 := by
  have hr := inR_iff.1 h
  have key : ∀ n : Nat, n ≤ 1000000 → n / d ≤ 500000 := by
    intro n hn
    rw [Nat.div_le_iff_le_mul_add_pred (by omega)]
    have : d * 500000 ≥ 2 * 500000 := Nat.mul_le_mul_right _ hd
    omega
  have : -500000 ≤ x.tdiv d ∧ x.tdiv d ≤ 500000 := by
    rcases Int.le_total 0 x with h0 | h0
    · obtain ⟨n, rfl⟩ := Int.eq_ofNat_of_zero_le h0
      have := key n (by omega)
      rw [show ((n : Int).tdiv (d : Int)) = ((n / d : Nat) : Int) from rfl]
      generalize n / d = q at this ⊢
      omega
    · obtain ⟨n, hn⟩ := Int.eq_ofNat_of_zero_le (show 0 ≤ -x by omega)
      have := key n (by omega)
      have e : x.tdiv d = -((n / d : Nat) : Int) := by
        rw [show x = -(n : Int) by omega, Int.neg_tdiv]; rfl
      rw [e]
      generalize n / d = q at this ⊢
      omega
  exact ⟨inR_iff.2 (by omega), this⟩
theorem tdiv_ne {x : Int} {d : Nat} (hd : 0 < d) (hx : x ≠ 0) (h : d ∣ x.natAbs) : x.tdiv d ≠ 0 := by
  obtain ⟨k, hk⟩ := h
  intro h0
  have h1 : (x.tdiv d) * d = x := Int.tdiv_mul_cancel (Int.natAbs_dvd_natAbs.1 (by simpa using ⟨k, hk⟩))
  rw [h0, Int.zero_mul] at h1
  exact hx h1.symm
theorem quo_nat {x : Int} {d : Nat} (hd : 2 ≤ d) (h : inR x = true) : quoI x (d : Int) = some (x.tdiv d) := by
  have := (tdiv_rng hd h).2
  unfold quoI
  rw [decide_eq_false (by omega), cond_false, w64_eq (by omega)]
def quos (xs : List Int) (d : Nat) : List Int := xs.map fun x => x.tdiv d
def flo (c : Int) (d : Nat) : Int := if c.tmod d < 0 then c.tdiv d - 1 else c.tdiv d
theorem flo_rng {c : Int} {d : Nat} (hd : 2 ≤ d) (h : inR c = true) : inR (flo c d) = true := by
  have := (tdiv_rng hd h).2
  unfold flo
  split <;> exact inR_iff.2 (by omega)
theorem trim_id {xs : List Int} (h : lastOK xs = true) : trim xs = xs := by
  unfold trim
  cases hn : xs.length with
  | zero => rw [List.length_eq_zero_iff.1 hn]; rfl
  | succ n =>
    have hl : xs.getLast? = xs[n]? := by rw [List.getLast?_eq_getElem?, hn]; rfl
    have hx : xs[n]? = some xs[n] := by simp
    unfold lastOK at h
    rw [hl, hx] at h
    simp at h
    unfold tl
    rw [if_neg (by rw [hx]; simpa using h), ← hn, List.take_length]
theorem quos_last {xs : List Int} {d : Nat} (hd : 0 < d) (h : lastOK xs = true) (hv : ∀ x ∈ xs, d ∣ x.natAbs) : lastOK (quos xs d) = true := by
  unfold lastOK quos at *
  rw [List.getLast?_map]
  cases hx : xs.getLast? with
  | none => rfl
  | some x =>
    rw [hx] at h
    simp at h
    have := tdiv_ne hd h (hv x (List.mem_of_getLast? hx))
    simpa using this
theorem vT_last {t : Term} (h : vT t = true) : lastOK t.Coeffs = true := by simp [vT] at h; exact h.1.2
theorem tight_valid {t : Term} (h : vT t = true) (hd : 2 ≤ gcdL t.Coeffs) : vT (Term.mk (flo t.Const (gcdL t.Coeffs)) (quos t.Coeffs (gcdL t.Coeffs))) = true := by
  have h1 := vT_len h
  have h2 := quos_last (d := gcdL t.Coeffs) (by omega) (vT_last h) (fun x hx => gcdL_dvd hx)
  have h3 := flo_rng hd (vT_const h)
  have h4 : (quos t.Coeffs (gcdL t.Coeffs)).all inR = true := by
    rw [List.all_eq_true]
    intro y hy
    obtain ⟨x, hx, rfl⟩ := List.mem_map.1 hy
    exact (tdiv_rng hd (vT_coef h x hx)).1
  unfold vT
  rw [h2, h3, h4]
  simp [quos, h1]
def fTight (t : Term) : Term × Bool :=
  bif vT t && decide (2 ≤ gcdL t.Coeffs) then (Term.mk (flo t.Const (gcdL t.Coeffs)) (quos t.Coeffs (gcdL t.Coeffs)), true) else (Term.mk 0 [], false)
theorem spec_quos {t : Term} {d : Nat} (hd : 2 ≤ d) (h : ∀ x ∈ t.Coeffs, inR x = true) (hl : t.Coeffs.length ≤ 1048576) : iter (m_spec_l02Tight_L0 t (d : Int)) ([], 0) = some (quos t.Coeffs d) := by
  have h2 := iter_for (step := m_spec_l02Tight_L0 t (d : Int)) t.Coeffs (fun n (s : List Int) => (s, (n : Int))) (fun n x s => (capI (s.length + 1) 8).bind fun _ => some (.next (s ++ [x.tdiv d]))) (fun s => s)
    (fun n x s hx => by
      unfold m_spec_l02Tight_L0
      simp only
      rw [dec_lt (get_lt hx), cond_true, getI_some hx, Option.bind_some, quo_nat hd (h x (List.mem_of_getElem? hx)), Option.bind_some]
      simp only [List.length_cons, List.length_nil, Nat.zero_add]
      cases capI (s.length + 1) 8 with
      | none => rfl
      | some u => simp only [Option.bind_some]; rw [w64_succ (by have := get_lt hx; omega)]; rfl)
    (fun r => by unfold m_spec_l02Tight_L0; simp only; rw [dec_self]; rfl) []
  rw [forL_fold (fun s x => s ++ [x.tdiv d]) (fun k s => s.length = k) t.Coeffs 0 [] rfl (fun n x s hx hs => by
    have := get_lt hx
    rw [capI_some (by omega), Option.bind_some]
    exact ⟨rfl, by simp [hs]⟩)] at h2
  rw [show (([] : List Int), (0 : Int)) = ([], ((0 : Nat) : Int)) from rfl, h2]
  congr 1
  have : ∀ (xs s : List Int), xs.foldl (fun s x => s ++ [x.tdiv d]) s = s ++ xs.map fun x => x.tdiv d := by
    intro xs
    induction xs with
    | nil => intro s; simp
    | cons x r ih => intro s; simp [ih]
  exact this t.Coeffs []
theorem impl_quos {t : Term} {d : Nat} (hd : 2 ≤ d) (h : ∀ x ∈ t.Coeffs, inR x = true) (hl : t.Coeffs.length ≤ 1048576) : iter (m_impl_Term_tightened_L0 (d : Int) t) (t.Coeffs, 0) = some (quos t.Coeffs d) := by
  have key : ∀ (m n : Nat), n + m = t.Coeffs.length → iter (m_impl_Term_tightened_L0 (d : Int) t) (quos (t.Coeffs.take n) d ++ t.Coeffs.drop n, (n : Int)) = some (quos t.Coeffs d) := by
    intro m
    induction m with
    | zero =>
      intro n hn
      obtain rfl : n = t.Coeffs.length := by omega
      rw [iter_out (t := quos t.Coeffs d)]
      unfold m_impl_Term_tightened_L0
      simp only
      rw [dec_self, cond_false]
      simp
    | succ m ih =>
      intro n hn
      have hlt : n < t.Coeffs.length := by omega
      have hx : t.Coeffs[n]? = some t.Coeffs[n] := by simp
      have hql : (quos (t.Coeffs.take n) d).length = n := by unfold quos; simp; omega
      have hg : (quos (t.Coeffs.take n) d ++ t.Coeffs.drop n)[n]? = some t.Coeffs[n] := by
        rw [List.getElem?_append_right (by omega), hql, Nat.sub_self]; simp
      rw [iter_next (s' := (quos (t.Coeffs.take (n + 1)) d ++ t.Coeffs.drop (n + 1), ((n + 1 : Nat) : Int)))]
      · exact ih (n + 1) (by omega)
      · unfold m_impl_Term_tightened_L0
        simp only
        rw [dec_lt hlt, cond_true, getI_some hg, Option.bind_some, quo_nat hd (h _ (List.mem_of_getElem? hx)), Option.bind_some, w64_succ (by omega), Int.toNat_natCast]
        congr 3
        rw [List.set_append_right _ _ (by omega), hql, Nat.sub_self, List.drop_eq_getElem_cons hlt, List.set_cons_zero, List.take_add_one, hx, Option.toList_some, show ∀ ys, quos (ys ++ [t.Coeffs[n]]) d = quos ys d ++ [t.Coeffs[n].tdiv d] by intro ys; simp [quos], List.append_assoc]
        rfl
  have := key t.Coeffs.length 0 (by omega)
  simpa [quos] using this
theorem lin_succ {ts : List Term} {ms : List Int} {n : Nat} {t : Term} {m : Int} (h1 : ts[n]? = some t) (h2 : ms[n]? = some m) (g : Term → Int) :
    lin ts ms g (n + 1) = lin ts ms g n + m * g t := by
  unfold lin
  rw [show sumN (fun k => coef ms k * g (tAt ts k)) (n + 1) = sumN (fun k => coef ms k * g (tAt ts k)) n + coef ms n * g (tAt ts n) from rfl, coef_get h2]
  unfold tAt
  rw [h1]; rfl
def Src (s : l00Src) (k : Nat) : Prop := (∀ x ∈ s.code, 0 ≤ x ∧ x ≤ 255) ∧ s.code.length ≤ 1048576 ∧ 0 ≤ s.at_ ∧ s.at_ ≤ k
theorem Src.mono {s : l00Src} {k k' : Nat} (h : Src s k) (hk : k ≤ k') : Src s k' := ⟨h.1, h.2.1, h.2.2.1, by have := h.2.2.2; omega⟩
theorem and_rng (a : Int) : 0 ≤ andU 64 a 255 ∧ andU 64 a 255 ≤ 255 := by
  unfold andU
  have h : (BitVec.ofInt 64 a &&& BitVec.ofInt 64 255).toNat ≤ 255 := by
    rw [BitVec.toNat_and]
    have : (BitVec.ofInt 64 255).toNat = 255 := by decide
    rw [this]
    exact Nat.and_le_right
  generalize (BitVec.ofInt 64 a &&& BitVec.ofInt 64 255).toNat = q at h
  unfold wu
  omega
theorem next_ok {s : l00Src} {k : Nat} (h : Src s k) (hk : k ≤ 1000000000) : ∃ r s', m_spec_l00Src_next s = some (r, s') ∧ 0 ≤ r ∧ r ≤ 255 ∧ Src s' (k + 1) := by
  obtain ⟨h1, h2, h3, h4⟩ := h
  have hJ : ∀ j : Int, 0 ≤ j → j ≤ 255 → ∃ r s', m_spec_l00Src_next_J0 s j = some (r, s') ∧ 0 ≤ r ∧ r ≤ 255 ∧ Src s' (k + 1) := by
    intro j hj0 hj1
    unfold m_spec_l00Src_next_J0
    rw [w64_eq (n := s.at_ + 1) (by omega)]
    have hS : ∀ sd, Src (l00Src.mk s.code (s.at_ + 1) sd) (k + 1) := fun sd => ⟨h1, h2, by simp only; omega, by simp only; omega⟩
    by_cases hq : s.at_ + 1 ≤ (s.code.length : Int)
    · rw [decide_eq_true hq, cond_true]; exact ⟨_, _, rfl, hj0, hj1, hS _⟩
    · rw [decide_eq_false hq, cond_false]
      have := and_rng (Int.fdiv (wu 64 ((wu 64 ((wu 64 (s.seed * (6364136223846793005 : Int))) + (wu 64 j))) + (1442695040888963407 : Int))) (2 ^ 40))
      exact ⟨_, _, rfl, by rw [w64_eq (by omega)]; omega, by rw [w64_eq (by omega)]; omega, hS _⟩
  unfold m_spec_l00Src_next
  by_cases hq : s.at_ < (s.code.length : Int)
  · obtain ⟨n, hn⟩ := Int.eq_ofNat_of_zero_le h3
    have hlt : n < s.code.length := by omega
    have hx : s.code[n]? = some s.code[n] := by simp
    have hb := h1 _ (List.getElem_mem hlt)
    rw [decide_eq_true hq, cond_true, hn, getI_some hx, Option.bind_some, w64_eq (by omega)]
    exact hJ _ hb.1 hb.2
  · rw [decide_eq_false hq, cond_false]; exact hJ 0 (by omega) (by omega)
theorem pick_ok {s : l00Src} {k : Nat} {n : Int} (h : Src s k) (hk : k ≤ 100000000) (hn : n ≤ 200) : ∃ r s', m_spec_l00Src_pick s n = some (r, s') ∧ 0 ≤ r ∧ (r < n ∨ r = 0) ∧ Src s' (k + 1) := by
  unfold m_spec_l00Src_pick
  by_cases h1 : n ≤ 1
  · rw [decide_eq_true h1, cond_true]; exact ⟨_, _, rfl, by omega, .inr rfl, h.mono (by omega)⟩
  · rw [decide_eq_false h1, cond_false]
    obtain ⟨r, s', e1, e2, e3, e4⟩ := next_ok h (by omega)
    rw [e1, Option.bind_some, decide_eq_false (by omega), cond_false]
    simp only
    unfold remI
    rw [decide_eq_false (by omega), cond_false, Option.bind_some]
    exact ⟨_, _, rfl, Int.tmod_nonneg _ e2, .inl (Int.tmod_lt_of_pos _ (by omega)), e4⟩
theorem from_ok {code : List Int} (h1 : ∀ x ∈ code, 0 ≤ x ∧ x ≤ 255) (h2 : code.length ≤ 1048576) : m_spec_l00From code = some (l00Src.mk code 0 0) ∧ Src (l00Src.mk code 0 0) 0 :=
  ⟨rfl, h1, h2, Int.le_refl _, Int.le_refl _⟩
theorem tl_last {xs : List Int} : ∀ n, n ≤ xs.length → lastOK (xs.take (tl xs n)) = true := by
  intro n
  induction n with
  | zero => intro _; rfl
  | succ n ih =>
    intro hn
    unfold tl
    split
    · exact ih (by omega)
    · rename_i h
      have hx : xs[n]? = some xs[n] := by simp
      unfold lastOK
      rw [List.getLast?_eq_getElem?]
      have hl : (xs.take (n + 1)).length = n + 1 := by simp; omega
      rw [hl, show n + 1 - 1 = n from rfl, List.getElem?_take, if_pos (by omega), hx]
      rw [hx] at h
      simpa using h
theorem trim_last (xs : List Int) : lastOK (trim xs) = true := tl_last _ (Nat.le_refl _)
theorem tl_zero {xs : List Int} : ∀ n, n ≤ xs.length → ∀ i, tl xs n ≤ i → i < n → coef xs i = 0 := by
  intro n
  induction n with
  | zero => intro _ i _ h; omega
  | succ n ih =>
    intro hn i h1 h2
    unfold tl at h1
    split at h1
    · rename_i h
      by_cases hi : i = n
      · subst hi; exact coef_get h
      · exact ih (by omega) i h1 (by omega)
    · omega
theorem trim_coef (xs : List Int) (i : Nat) : coef (trim xs) i = coef xs i := by
  unfold trim
  by_cases h : i < tl xs xs.length
  · unfold coef; rw [List.getElem?_take, if_pos h]
  · rw [coef_no (by simp; omega)]
    by_cases h2 : i < xs.length
    · rw [tl_zero xs.length (Nat.le_refl _) i (by omega) h2]
    · rw [coef_no (by omega)]
theorem tab_coef (f : Nat → Int) (i : Nat) : coef (tab f) i = if i < 10 then f i else 0 := by
  by_cases h : i < 10
  · rw [if_pos h, coef_get (tab_get h)]
  · rw [if_neg h, coef_no (by rw [tab_len]; omega)]
theorem last_coef {xs : List Int} (h : lastOK xs = true) (h0 : 0 < xs.length) : coef xs (xs.length - 1) ≠ 0 := by
  unfold lastOK at h
  rw [List.getLast?_eq_getElem?] at h
  have hx : xs[xs.length - 1]? = some (xs[xs.length - 1]'(by omega)) := by simp
  rw [hx] at h
  rw [coef_get hx]
  simpa using h
theorem coef_ext {xs ys : List Int} (hx : lastOK xs = true) (hy : lastOK ys = true) (h : ∀ i, coef xs i = coef ys i) : xs = ys := by
  have key : ∀ (xs ys : List Int), lastOK xs = true → (∀ i, coef xs i = coef ys i) → xs.length ≤ ys.length := by
    intro xs ys hx h
    apply Nat.le_of_not_lt
    intro hlt
    have := last_coef hx (by omega)
    rw [h, coef_no (by omega)] at this
    exact this rfl
  have hl : xs.length = ys.length := Nat.le_antisymm (key xs ys hx h) (key ys xs hy (fun i => (h i).symm))
  apply List.ext_getElem hl
  intro i h1 h2
  have := h i
  rw [coef_get (show xs[i]? = some xs[i] by simp), coef_get (show ys[i]? = some ys[i] by simp)] at this
  exact this
def mkT (c : Int) (f : Nat → Int) : Term := Term.mk c (trim (tab f))
theorem mkT_coef (c : Int) (f : Nat → Int) (i : Nat) : coef (mkT c f).Coeffs i = if i < 10 then f i else 0 := by
  unfold mkT; rw [trim_coef, tab_coef]
theorem mkT_valid {c : Int} {f : Nat → Int} (hc : -1000000 ≤ c ∧ c ≤ 1000000) (hf : ∀ i, i < 10 → -1000000 ≤ f i ∧ f i ≤ 1000000) : vT (mkT c f) = true := by
  have h1 : (mkT c f).Coeffs.length ≤ 10 := by have := trim_len (tab f); rw [tab_len] at this; exact this
  have h2 : lastOK (mkT c f).Coeffs = true := trim_last _
  have h3 : (mkT c f).Coeffs.all inR = true := by
    rw [List.all_eq_true]
    intro x hx
    obtain ⟨i, hi⟩ := List.getElem?_of_mem hx
    have := mkT_coef c f i
    rw [coef_get hi] at this
    rw [this]
    have hlt := get_lt hi
    rw [if_pos (by omega)]
    exact inR_iff.2 (hf i (by omega))
  unfold vT
  rw [h2, h3, inR_iff.2 (show -1000000 ≤ (mkT c f).Const ∧ (mkT c f).Const ≤ 1000000 from hc)]
  simp [h1]
theorem sumN_congr {f g : Nat → Int} : ∀ n, (∀ i, i < n → f i = g i) → sumN f n = sumN g n := by
  intro n
  induction n with
  | zero => intro _; rfl
  | succ n ih => intro h; unfold sumN; rw [ih (fun i hi => h i (by omega)), h n (by omega)]
theorem sumN_neg (f : Nat → Int) : ∀ n, sumN (fun i => -f i) n = -sumN f n := by
  intro n
  induction n with
  | zero => rfl
  | succ n ih => unfold sumN; rw [ih]; omega
theorem sumN_add (f g : Nat → Int) : ∀ n, sumN (fun i => f i + g i) n = sumN f n + sumN g n := by
  intro n
  induction n with
  | zero => rfl
  | succ n ih => unfold sumN; rw [ih]; omega
theorem sumN_mul (c : Int) (f : Nat → Int) : ∀ n, sumN (fun i => c * f i) n = c * sumN f n := by
  intro n
  induction n with
  | zero => simp [sumN]
  | succ n ih => unfold sumN; rw [ih, Int.mul_add]
theorem sumN_zero : ∀ n, sumN (fun _ => 0) n = 0 := by
  intro n
  induction n with
  | zero => rfl
  | succ n ih => unfold sumN; rw [ih]; rfl
def val (t : Term) (v : List Int) : Int := t.Const + sumN (fun i => coef t.Coeffs i * coef v i) 10
def Vals (v : List Int) : Prop := v.length = 10 ∧ ∀ x ∈ v, -6 ≤ x ∧ x ≤ 6
theorem Vals.coef {v : List Int} (h : Vals v) (i : Nat) : -6 ≤ coef v i ∧ coef v i ≤ 6 := by
  unfold Mod.coef
  cases hx : v[i]? with
  | none => simp
  | some x => exact h.2 x (List.mem_of_getElem? hx)
structure Small (t : Term) : Prop where
  v : vT t = true
  c : -7 ≤ t.Const ∧ t.Const ≤ 7
  f : ∀ i, -4 ≤ coef t.Coeffs i ∧ coef t.Coeffs i ≤ 4
theorem list_coef {xs : List Int} {a b : Int} (h : ∀ x ∈ xs, a ≤ x ∧ x ≤ b) (h0 : a ≤ 0 ∧ 0 ≤ b) (i : Nat) : a ≤ coef xs i ∧ coef xs i ≤ b := by
  unfold coef
  cases hx : xs[i]? with
  | none => simpa using h0
  | some x => exact h x (List.mem_of_getElem? hx)
theorem val_mkT (c : Int) (f : Nat → Int) (v : List Int) : val (mkT c f) v = c + sumN (fun i => f i * coef v i) 10 := by
  unfold val
  rw [sumN_congr (g := fun i => f i * coef v i) 10 (fun i hi => by rw [mkT_coef, if_pos hi])]
  rfl
theorem quo_mul {x : Int} {d : Nat} (h : d ∣ x.natAbs) : x.tdiv d * d = x := Int.tdiv_mul_cancel (Int.natAbs_dvd_natAbs.1 (by simpa using h))
theorem quos_coef {xs : List Int} {d : Nat} (h : ∀ x ∈ xs, d ∣ x.natAbs) (i : Nat) : coef xs i = (d : Int) * coef (quos xs d) i := by
  unfold coef quos
  rw [List.getElem?_map]
  cases hx : xs[i]? with
  | none => simp
  | some x =>
    have := quo_mul (h x (List.mem_of_getElem? hx))
    simp only [Option.getD_some, Option.map_some]
    rw [Int.mul_comm]; exact this.symm
theorem flo_spec (c : Int) {d : Nat} (hd : 0 < d) : (d : Int) * flo c d ≤ c ∧ c < (d : Int) * flo c d + d := by
  have h1 := Int.mul_tdiv_add_tmod c (d : Int)
  have h2 := Int.tmod_lt_of_pos c (show (0 : Int) < d by omega)
  have h3 : -(d : Int) < c.tmod d := by
    have := Int.tmod_lt_of_pos (-c) (show (0 : Int) < d by omega)
    rw [Int.neg_tmod] at this
    omega
  unfold flo
  split
  · rw [Int.mul_sub, Int.mul_one]; omega
  · omega
theorem sign_flo {c S : Int} {d : Nat} (hd : 0 < d) : (0 ≤ flo c d + S) ↔ (0 ≤ c + (d : Int) * S) := by
  obtain ⟨h1, h2⟩ := flo_spec c hd
  have e : (d : Int) * (flo c d + S) = (d : Int) * flo c d + d * S := Int.mul_add _ _ _
  constructor
  · intro h
    have := Int.mul_nonneg (show (0 : Int) ≤ d by omega) h
    omega
  · intro h
    apply Int.not_lt.1
    intro hlt
    have := Int.mul_le_mul_of_nonneg_left (show flo c d + S ≤ -1 by omega) (show (0 : Int) ≤ d by omega)
    rw [Int.mul_neg, Int.mul_one] at this
    omega
theorem fTight_val {t : Term} {v : List Int} (h : vT t = true) (hd : 2 ≤ gcdL t.Coeffs) : (0 ≤ val (Term.mk (flo t.Const (gcdL t.Coeffs)) (quos t.Coeffs (gcdL t.Coeffs))) v) ↔ (0 ≤ val t v) := by
  unfold val
  simp only
  rw [sign_flo (d := gcdL t.Coeffs) (by omega), ← sumN_mul]
  rw [sumN_congr (f := fun i => (gcdL t.Coeffs : Int) * (coef (quos t.Coeffs (gcdL t.Coeffs)) i * coef v i)) (g := fun i => coef t.Coeffs i * coef v i) 10 (fun i _ => by
    rw [quos_coef (d := gcdL t.Coeffs) (fun x hx => gcdL_dvd hx) i, Int.mul_assoc])]
theorem val_lin (ts : List Term) (ms : List Int) (v : List Int) : ∀ n, lin ts ms Term.Const n + sumN (fun i => lin ts ms (fun t => coef t.Coeffs i) n * coef v i) 10 = lin ts ms (fun t => val t v) n := by
  intro n
  induction n with
  | zero => simp [lin, sumN]
  | succ n ih =>
    have e : ∀ g : Term → Int, lin ts ms g (n + 1) = lin ts ms g n + coef ms n * g (tAt ts n) := fun g => rfl
    simp only [e]
    rw [← ih]
    have e2 : sumN (fun i => (lin ts ms (fun t => coef t.Coeffs i) n + coef ms n * coef (tAt ts n).Coeffs i) * coef v i) 10 =
        sumN (fun i => lin ts ms (fun t => coef t.Coeffs i) n * coef v i) 10 + coef ms n * sumN (fun i => coef (tAt ts n).Coeffs i * coef v i) 10 := by
      rw [← sumN_mul, ← sumN_add]
      exact sumN_congr 10 (fun i _ => by rw [Int.add_mul, Int.mul_assoc])
    rw [e2]
    unfold val
    rw [Int.mul_add]
    omega
theorem prod_small {a b : Int} {A B : Int} (h1 : -A ≤ a ∧ a ≤ A) (h2 : -B ≤ b ∧ b ≤ B) : -(A * B) ≤ a * b ∧ a * b ≤ A * B := prod_rng h1.1 h1.2 h2.1 h2.2
structure Fact (t : Term) (c : Nat) : Prop where
  v : vT t = true
  c : -(c : Int) ≤ t.Const ∧ t.Const ≤ c
  f : ∀ i, -3 ≤ coef t.Coeffs i ∧ coef t.Coeffs i ≤ 3
theorem Fact.mono {t : Term} {c c' : Nat} (h : Fact t c) (hc : c ≤ c') : Fact t c' := ⟨h.v, by have := h.c; omega, h.f⟩
theorem sumN_nonneg {f : Nat → Int} : ∀ n, (∀ i, i < n → 0 ≤ f i) → 0 ≤ sumN f n := by
  intro n
  induction n with
  | zero => intro _; exact Int.le_refl 0
  | succ n ih => intro h; have := ih (fun i hi => h i (by omega)); have := h n (by omega); unfold sumN; omega
def over (t : Term) : Bool := vT t && decide (t.Coeffs.length ≤ 4)
end Go.Mod

namespace Go.Mod
open Go.AM
set_option linter.unusedVariables false
set_option linter.unusedSimpArgs false
theorem spec_context {s : Sequent} (hl : cSeq s ≤ 1048576) (hv : vSeq s = true) : m_spec_l02Context s = some (fCtx s) := by
  unfold cSeq at hl
  have hlen : s.Facts.length ≤ 1048576 := by have : s.Facts.length ≤ cTermS s.Facts := by { unfold cTermS; omega }; omega
  have h2 : vT s.Goal = true := by unfold vSeq at hv; simp only [Bool.and_eq_true] at hv; exact hv.2
  unfold m_spec_l02Context fCtx
  rw [hv, spec_opposite h2, Option.bind_some, spec_ownAll (by omega)]
  unfold chk
  cases h3 : vT (opp s.Goal) with
  | false => rfl
  | true =>
    simp only [cond_true, Bool.not_true, cond_false, Option.bind_some, Bool.true_and]
    rw [capI_some (by simp; omega)]; rfl
theorem trim_nil {xs : List Int} : trim xs = [] ↔ ∀ x ∈ xs, x = 0 := by
  constructor
  · intro h x hx
    obtain ⟨i, hi⟩ := List.getElem?_of_mem hx
    have := trim_coef xs i
    rw [h, coef_get hi] at this
    exact this.symm
  · intro h
    refine coef_ext (trim_last xs) rfl (fun i => ?_)
    rw [trim_coef]
    unfold coef
    cases hx : xs[i]? with
    | none => rfl
    | some x => rw [h x (List.mem_of_getElem? hx)]; rfl
def closesB (ts : List Term) (ms : List Int) : Bool := decide (ms.length = ts.length) && (decide (trim (tab fun i => lin ts ms (fun t => coef t.Coeffs i) ts.length) = []) && decide (lin ts ms Term.Const ts.length < 0))
theorem dec_eqN' {a b : Nat} : decide ((a : Int) = (b : Int)) = decide (a = b) := by by_cases h : a = b <;> simp [h]; omega
theorem impl_closes {ts : List Term} {ms : List Int} (h : Lin ts ms) : m_impl_closes ts ms = some (closesB ts ms) := by
  unfold m_impl_closes closesB
  rw [dec_eqN', decide_eq_true h.2.2.2, Bool.not_true, cond_false, impl_combined h, Option.bind_some, Bool.true_and]
  congr 2
  by_cases e : trim (tab fun i => lin ts ms (fun t => coef t.Coeffs i) ts.length) = []
  · rw [decide_eq_true e, e]; rfl
  · rw [decide_eq_false e]
    apply decide_eq_false
    intro h0
    exact e (List.length_eq_zero_iff.1 (by simp only at h0; omega))
end Go.Mod

namespace Go.Mod
open Go.AM
set_option linter.unusedVariables false
set_option linter.unusedSimpArgs false
end Go.Mod

namespace Go.Mod
open Go.AM
set_option linter.unusedVariables false
set_option linter.unusedSimpArgs false
end Go.Mod

namespace Go.Mod
open Go.AM
set_option linter.unusedVariables false
set_option linter.unusedSimpArgs false
theorem ctx_lin {s : Sequent} (h : (fCtx s).2 = true) : vSeq s = true ∧ (fCtx s).1 = s.Facts ++ [opp s.Goal] ∧ s.Facts.length ≤ 13 ∧ ∀ t ∈ (fCtx s).1, vT t = true := by
  unfold fCtx at h ⊢
  cases hv : vSeq s && vT (opp s.Goal) with
  | false => rw [hv] at h; cases h
  | true =>
    simp only [Bool.and_eq_true] at hv
    have h1 := hv.1
    simp only [vSeq, Bool.and_eq_true, List.all_eq_true, decide_eq_true_eq] at h1
    refine ⟨hv.1, rfl, h1.1.2, fun t ht => ?_⟩
    simp only [cond_true, List.mem_append, List.mem_singleton] at ht
    rcases ht with ht | rfl
    · exact h1.1.1 t ht
    · exact hv.2
end Go.Mod

namespace Go.Mod
open Go.AM
set_option linter.unusedVariables false
set_option linter.unusedSimpArgs false
theorem pl_mem_sum {α : Type} {c : α → Nat} {xs : List α} {x : α} (h : x ∈ xs) : c x ≤ (xs.map c).sum := by
  induction xs with
  | nil => cases h
  | cons y r ih =>
    simp only [List.map_cons, List.sum_cons]
    rcases List.mem_cons.1 h with rfl | h
    · omega
    · have := ih h; omega
section
variable {α : Type} {ys : List α} {n : Nat} {a b c d e f g : α} (h : n < ys.length)
include h
end
def pc_Int64S (xs : List Int) : Nat := xs.length
def pc_Term (x : Term) : Nat := pc_Int64S x.Coeffs
def pc_Node (x : Node) : Nat := pc_Term x.Term + pc_Int64S x.Multipliers
def pc_NodeS (xs : List Node) : Nat := xs.length + (xs.map pc_Node).sum
theorem pc_NodeS_mem {xs : List Node} {x : Node} (h : x ∈ xs) : pc_Node x ≤ pc_NodeS xs := by have := pl_mem_sum (c := pc_Node) h; unfold pc_NodeS; omega
theorem pc_NodeS_len {xs : List Node} : xs.length ≤ pc_NodeS xs := by unfold pc_NodeS; omega
end Go.Mod

namespace Go.Mod
open Go.AM
set_option linter.unusedVariables false
set_option linter.unusedSimpArgs false
def zT (t : Term) : Bool := decide (t.Const = 0) && decide (t.Coeffs.length = 0)
def okMs (ms : List Int) : Bool := ms.all (fun m => decide (0 ≤ m) && decide (m ≤ 1000000)) && decide (ms.length ≤ 20)
def ar (x : Node) : Option Nat :=
  bif decide (x.Kind = 1) then (bif decide (x.Fact = 0) && zT x.Term && okMs x.Multipliers then some 0 else none)
  else bif decide (x.Kind = 2) then (bif decide (x.Fact = 0) && decide (x.Multipliers.length = 0) && vT x.Term then some 2 else none)
  else bif decide (x.Kind = 3) then (bif (decide (0 ≤ x.Fact) && decide (x.Fact ≤ 19)) && zT x.Term && decide (x.Multipliers.length = 0) then some 1 else none)
  else none
def arI : Option Nat → Int
  | some n => n
  | none => -1
theorem ar_le {x : Node} {n : Nat} (h : ar x = some n) : n ≤ 2 := by
  unfold ar at h
  revert h
  cases decide (x.Kind = 1) with
  | true => rw [cond_true]; cases decide (x.Fact = 0) && zT x.Term && okMs x.Multipliers <;> intro h <;> cases h; omega
  | false =>
    rw [cond_false]
    cases decide (x.Kind = 2) with
    | true => rw [cond_true]; cases decide (x.Fact = 0) && decide (x.Multipliers.length = 0) && vT x.Term <;> intro h <;> cases h; omega
    | false =>
      rw [cond_false]
      cases decide (x.Kind = 3) with
      | true => rw [cond_true]; cases (decide (0 ≤ x.Fact) && decide (x.Fact ≤ 19)) && zT x.Term && decide (x.Multipliers.length = 0) <;> intro h <;> cases h; omega
      | false => intro h; cases h
theorem dec_len0 {α : Type} (xs : List α) : decide ((xs.length : Int) = 0) = decide (xs.length = 0) := by
  by_cases h : xs.length = 0
  · rw [decide_eq_true h, decide_eq_true (by omega)]
  · rw [decide_eq_false h, decide_eq_false (by omega)]
theorem dec_len20 {α : Type} (xs : List α) : decide ((xs.length : Int) ≤ 20) = decide (xs.length ≤ 20) := by
  by_cases h : xs.length ≤ 20
  · rw [decide_eq_true h, decide_eq_true (by omega)]
  · rw [decide_eq_false h, decide_eq_false (by omega)]
theorem impl_zero (t : Term) : m_impl_Term_isZero t = some (zT t) := by unfold m_impl_Term_isZero zT; rw [dec_len0]
theorem impl_sub (x : Node) : m_impl_subproofs x = some (arI (ar x)) := by
  unfold m_impl_subproofs ar
  rw [impl_zero, Option.bind_some]
  cases decide (x.Kind = 1) with
  | true =>
    rw [cond_true, cond_true, impl_all, Option.bind_some, dec_len20]
    unfold okMs
    cases decide (x.Fact = 0) <;> cases zT x.Term <;> cases decide (x.Multipliers.length ≤ 20) <;> cases x.Multipliers.all (fun m => decide (0 ≤ m) && decide (m ≤ 1000000)) <;> rfl
  | false =>
    rw [cond_false, cond_false]
    cases decide (x.Kind = 2) with
    | true =>
      rw [cond_true, cond_true, impl_valid, Option.bind_some, dec_len0]
      cases decide (x.Fact = 0) <;> cases decide (x.Multipliers.length = 0) <;> cases vT x.Term <;> rfl
    | false =>
      rw [cond_false, cond_false]
      cases decide (x.Kind = 3) with
      | true =>
        rw [cond_true, cond_true, show m_impl_within x.Fact 0 19 = some (decide (0 ≤ x.Fact) && decide (x.Fact ≤ 19)) from rfl, Option.bind_some, dec_len0]
        cases (decide (0 ≤ x.Fact) && decide (x.Fact ≤ 19)) <;> cases zT x.Term <;> cases decide (x.Multipliers.length = 0) <;> rfl
      | false => rfl
def goL : List Node → Nat → Option (List Node)
  | p, 0 => some p
  | [], _ + 1 => none
  | x :: r, n + 1 => (ar x).bind fun a => goL r (n + a)
theorem goL_zero (p : List Node) : goL p 0 = some p := by cases p <;> rfl
theorem goL_add : ∀ (p : List Node) (a b : Nat), goL p (a + b) = (goL p a).bind fun r => goL r b := by
  intro p
  induction p with
  | nil =>
    intro a b
    cases a with
    | zero => rw [Nat.zero_add, goL_zero, Option.bind_some]
    | succ a => rw [show a + 1 + b = (a + b) + 1 by omega]; rfl
  | cons x r ih =>
    intro a b
    cases a with
    | zero => rw [Nat.zero_add, goL_zero, Option.bind_some]
    | succ a =>
      rw [show a + 1 + b = (a + b) + 1 by omega]
      show (ar x).bind (fun c => goL r (a + b + c)) = ((ar x).bind fun c => goL r (a + c)).bind fun r => goL r b
      cases ar x with
      | none => rfl
      | some c => simp only [Option.bind_some]; rw [show a + b + c = (a + c) + b by omega]; exact ih _ _
theorem goL_pre : ∀ (p : List Node) (n : Nat) {r : List Node}, goL p n = some r → ∃ q, p = q ++ r ∧ (∀ x ∈ q, (ar x).isSome = true) ∧ (0 < n → q ≠ []) := by
  intro p
  induction p with
  | nil =>
    intro n r h
    cases n with
    | zero => cases h; exact ⟨[], rfl, by simp, by omega⟩
    | succ n => cases h
  | cons x r ih =>
    intro n s h
    cases n with
    | zero => cases h; exact ⟨[], rfl, by simp, by omega⟩
    | succ n =>
      unfold goL at h
      cases ha : ar x with
      | none => rw [ha] at h; cases h
      | some a =>
        rw [ha, Option.bind_some] at h
        obtain ⟨q, rfl, h1, _⟩ := ih _ h
        refine ⟨x :: q, rfl, ?_, by simp⟩
        intro y hy
        rcases List.mem_cons.1 hy with rfl | hy
        · rw [ha]; rfl
        · exact h1 y hy
theorem goL_len {p r : List Node} {n : Nat} (h : goL p n = some r) : r.length + min n 1 ≤ p.length := by
  obtain ⟨q, rfl, _, h2⟩ := goL_pre p n h
  rw [List.length_append]
  cases n with
  | zero => simp
  | succ n =>
    have := List.length_pos_iff.2 (h2 (by omega))
    omega
theorem goL_drop {p r : List Node} {n : Nat} (h : goL p n = some r) : r = p.drop (p.length - r.length) := by
  obtain ⟨q, rfl, _, _⟩ := goL_pre p n h
  rw [List.length_append, Nat.add_sub_cancel, List.drop_left]
section
variable {p : List Node}
theorem sub1 {n : Nat} (h : n ≤ 3) : w64 (((n + 1 : Nat) : Int) - 1) = (n : Int) := by rw [w64_eq (by omega)]; omega
theorem behind_ok (hl : p.length ≤ 1048576) : ∀ (fu k : Nat), k ≤ p.length → p.length - k < fu →
    ∃ d : Nat, d ≤ p.length - k ∧ m_impl_behindProof fu p (k : Int) = some (match goL (p.drop k) 1 with | some r => (((p.length - r.length : Nat) : Int), (d : Int), true) | none => (0, 0, false)) := by
  intro fu
  induction fu with
  | zero => intro k _ h; omega
  | succ fu ih =>
    intro k hk hf
    have loop : ∀ (b c k d : Nat), b ≤ k → k ≤ p.length → c ≤ 2 → d ≤ p.length - b → p.length - k < fu → ∃ d' : Nat, d' ≤ p.length - b ∧
        iter (m_impl_behindProof_F_L0 (m_impl_behindProof fu) p) ((k : Int), (c : Int), (d : Int)) = some (match goL (p.drop k) c with | some r => .inl (((p.length - r.length : Nat) : Int), (d' : Int)) | none => .inr (0, 0, false)) := by
      intro b c
      induction c with
      | zero =>
        intro k d hb hk hc hd hf
        refine ⟨d, hd, ?_⟩
        rw [goL_zero, iter_out (t := .inl ((k : Int), (d : Int)))]
        · simp only [List.length_drop]; rw [show p.length - (p.length - k) = k by omega]
        · rfl
      | succ c ihc =>
        intro k d hb hk hc hd hf
        obtain ⟨d1, hd1, e1⟩ := ih k hk hf
        rw [show c + 1 = 1 + c by omega, goL_add]
        have hstep : ∀ y, m_impl_behindProof fu p (k : Int) = some y → m_impl_behindProof_F_L0 (m_impl_behindProof fu) p ((k : Int), ((1 + c : Nat) : Int), (d : Int)) = (bif !y.2.2 then some (.out (.inr ((0 : Int), (0 : Int), false))) else some (.next (y.1, (c : Int), max (d : Int) y.2.1))) := by
          intro y hy
          unfold m_impl_behindProof_F_L0
          simp only
          rw [decide_eq_true (by omega), cond_true, hy, Option.bind_some, show 1 + c = c + 1 by omega, sub1 (by omega)]
        cases hg : goL (p.drop k) 1 with
        | none =>
          rw [hg] at e1
          exact ⟨0, by omega, iter_out (hstep _ e1)⟩
        | some r =>
          rw [hg] at e1
          have h1 := goL_len hg
          have h2 := goL_drop hg
          simp only [List.length_drop, Nat.min_self] at h1
          rw [List.drop_drop, List.length_drop] at h2
          have hlt : k < p.length := by omega
          have h3 : m_impl_behindProof_F_L0 (m_impl_behindProof fu) p ((k : Int), ((1 + c : Nat) : Int), (d : Int)) = some (.next (((p.length - r.length : Nat) : Int), (c : Int), ((max d d1 : Nat) : Int))) := by
            rw [hstep _ e1]
            simp only [Bool.not_true, cond_false]
            rw [show max (d : Int) (d1 : Int) = ((max d d1 : Nat) : Int) by omega]
          rw [iter_next h3, Option.bind_some]
          obtain ⟨d', hd', e2⟩ := ihc (p.length - r.length) (max d d1) (by omega) (by omega) (by omega) (by omega) (by omega)
          refine ⟨d', hd', ?_⟩
          rw [e2, ← show r = p.drop (p.length - r.length) from h2.trans (by congr 1; omega)]
    unfold m_impl_behindProof m_impl_behindProof_F
    by_cases h : p.length ≤ k
    · refine ⟨0, by omega, ?_⟩
      rw [decide_eq_true (by omega), cond_true, List.drop_eq_nil_iff.2 h]; rfl
    · have hlt : k < p.length := by omega
      rw [decide_eq_false (by omega), cond_false, getI_some (List.getElem?_eq_getElem hlt), Option.bind_some, impl_sub, Option.bind_some, List.drop_eq_getElem_cons hlt]
      unfold goL
      cases ha : ar p[k] with
      | none => exact ⟨0, by omega, rfl⟩
      | some a =>
        have ha2 := ar_le ha
        obtain ⟨d', h1, h2⟩ := loop (k + 1) a (k + 1) 0 (Nat.le_refl _) (by omega) ha2 (by omega) (by omega)
        refine ⟨d' + 1, by omega, ?_⟩
        unfold arI
        simp only [Option.bind_some, Nat.zero_add]
        rw [dec_neg, cond_false, w64_succ (by omega)]
        rw [show ((0 : Nat) : Int) = (0 : Int) from rfl] at h2
        rw [h2, Option.bind_some]
        unfold m_impl_behindProof_F_A0
        cases goL (p.drop (k + 1)) a with
        | none => rfl
        | some r => simp only; rw [w64_succ (by omega)]
end
def isP (p : List Node) : Bool := decide (p.length ≤ 60) && (match goL p 1 with | some [] => true | _ => false)
theorem impl_isP (p : List Node) : m_impl_IsProof p = some (isP p) := by
  unfold m_impl_IsProof isP
  by_cases h : p.length ≤ 60
  · rw [decide_eq_false (by omega), cond_false, decide_eq_true h, Bool.true_and]
    obtain ⟨d, _, e⟩ := behind_ok (p := p) (by omega) 1000 0 (by omega) (by omega)
    rw [show ((0 : Nat) : Int) = (0 : Int) from rfl] at e
    rw [e, List.drop_zero, Option.bind_some]
    cases hg : goL p 1 with
    | none => rfl
    | some r =>
      have := goL_len hg
      cases r with
      | nil => simp only [List.length_nil, Nat.sub_zero, decide_true, Bool.and_self]
      | cons x r => simp only [Bool.true_and]; rw [decide_eq_false (by simp at this; simp; omega)]
  · rw [decide_eq_true (by omega), cond_true, decide_eq_false h]; rfl
theorem isP_iff {p : List Node} : isP p = true ↔ p.length ≤ 60 ∧ goL p 1 = some [] := by
  unfold isP
  rw [Bool.and_eq_true, decide_eq_true_eq]
  cases hg : goL p 1 with
  | none => simp
  | some r => cases r <;> simp
end Go.Mod

namespace Go.Mod
open Go.AM
set_option linter.unusedVariables false
set_option linter.unusedSimpArgs false
theorem impl_ownNodes {p : List Node} (hc : pc_NodeS p ≤ 1048576) : m_impl_ownNodes p = some p := by
  have hl : p.length ≤ 1048576 := Nat.le_trans pc_NodeS_len hc
  unfold m_impl_ownNodes
  obtain ⟨t, h1, h2⟩ := forL_inv (step := m_impl_ownNodes_L0) (fin := fun s0 => s0) (xs := p) (fun n s => s = p.take n) (fun t => t = p)
    (fun n x s hx hs => by
      subst hs
      have hn := get_lt hx
      have hm := pc_NodeS_mem (List.mem_of_getElem? hx)
      unfold pc_Node pc_Term pc_Int64S at hm
      refine .inl ⟨p.take n ++ [x], ?_, ?_⟩
      · unfold m_impl_ownNodes_L0
        rw [impl_own (by omega), Option.bind_some, impl_copy (by omega), Option.bind_some, capI_some (by simp; omega)]; rfl
      · rw [List.take_add_one, hx]; rfl)
    (fun s hs => by rw [hs, List.take_length]) (s := []) rfl
  rw [h1, h2]; rfl
end Go.Mod

namespace Go.Mod
open Go.AM
set_option linter.unusedVariables false
set_option linter.unusedSimpArgs false
theorem ar_cases {x : Node} {a : Nat} (h : ar x = some a) : (x.Kind = 1 ∧ a = 0 ∧ okMs x.Multipliers = true) ∨ (x.Kind = 2 ∧ a = 2 ∧ vT x.Term = true) ∨ (x.Kind = 3 ∧ a = 1 ∧ 0 ≤ x.Fact ∧ x.Fact ≤ 19) := by
  unfold ar at h
  by_cases h1 : x.Kind = 1
  · rw [decide_eq_true h1, cond_true] at h
    cases hc : decide (x.Fact = 0) && zT x.Term && okMs x.Multipliers with
    | false => rw [hc] at h; cases h
    | true => rw [hc] at h; cases h; simp only [Bool.and_eq_true] at hc; exact .inl ⟨h1, rfl, hc.2⟩
  · rw [decide_eq_false h1, cond_false] at h
    by_cases h2 : x.Kind = 2
    · rw [decide_eq_true h2, cond_true] at h
      cases hc : decide (x.Fact = 0) && decide (x.Multipliers.length = 0) && vT x.Term with
      | false => rw [hc] at h; cases h
      | true => rw [hc] at h; cases h; simp only [Bool.and_eq_true] at hc; exact .inr (.inl ⟨h2, rfl, hc.2⟩)
    · rw [decide_eq_false h2, cond_false] at h
      by_cases h3 : x.Kind = 3
      · rw [decide_eq_true h3, cond_true] at h
        cases hc : (decide (0 ≤ x.Fact) && decide (x.Fact ≤ 19)) && zT x.Term && decide (x.Multipliers.length = 0) with
        | false => rw [hc] at h; cases h
        | true => rw [hc] at h; cases h; simp only [Bool.and_eq_true, decide_eq_true_eq] at hc; exact .inr (.inr ⟨h3, rfl, hc.1.1.1, hc.1.1.2⟩)
      · rw [decide_eq_false h3, cond_false] at h; cases h
def GoodC (c : List Term) : Prop := (∀ t ∈ c, vT t = true) ∧ c.length ≤ 20
theorem fTight_valid {t : Term} (h : (fTight t).2 = true) : vT (fTight t).1 = true := by
  unfold fTight at h ⊢
  cases hc : vT t && decide (2 ≤ gcdL t.Coeffs) with
  | false => rw [hc] at h; cases h
  | true =>
    simp only [Bool.and_eq_true, decide_eq_true_eq] at hc
    exact tight_valid hc.1 hc.2
theorem closes_len {ts : List Term} {ms : List Int} (h : ms.length ≠ ts.length) : closesB ts ms = false := by
  unfold closesB; rw [decide_eq_false h]; rfl
theorem okMs_m {ms : List Int} (h : okMs ms = true) : ∀ m ∈ ms, mOK m := by
  intro m hm
  simp only [okMs, Bool.and_eq_true, List.all_eq_true, decide_eq_true_eq] at h
  have := h.1 m hm
  unfold mOK; omega
theorem impl_closes' {c : List Term} {ms : List Int} (hc : GoodC c) (hm : okMs ms = true) : m_impl_closes c ms = some (closesB c ms) := by
  by_cases h : ms.length = c.length
  · exact impl_closes ⟨hc.1, okMs_m hm, hc.2, h⟩
  · rw [closes_len h]
    unfold m_impl_closes
    rw [dec_eqN', decide_eq_false h]; rfl
theorem chk_1 {t : Term} (h : vT t = true) : chk t = (t, true) := by unfold chk; rw [h]; rfl
theorem spec_tight' {t : Term} (h1 : vT t = true) : m_spec_l02Tight t = some (fTight t) := by
  have hl : t.Coeffs.length ≤ 1048576 := by have := vT_len h1; omega
  unfold m_spec_l02Tight fTight
  rw [spec_gcd (vT_coef h1) hl, Option.bind_some, h1, Bool.true_and]
  by_cases h2 : 2 ≤ gcdL t.Coeffs
  · have hv := tight_valid h1 h2
    rw [decide_eq_false (by omega), cond_false, spec_quos h2 (vT_coef h1) hl, decide_eq_true h2]
    simp only [Option.bind_some, cond_true]
    unfold m_spec_l02Tight_A0 m_spec_l02Tight_J0
    have hr := (tdiv_rng h2 (vT_const h1)).2
    have hm : ∀ c, m_spec_l02Make c (quos t.Coeffs (gcdL t.Coeffs)) = some (chk (Term.mk c (quos t.Coeffs (gcdL t.Coeffs)))) := by
      intro c
      rw [spec_make (by unfold quos; simp; have := vT_len h1; omega), trim_id (vT_last hv)]
    rw [quo_nat h2 (vT_const h1), Option.bind_some, show remI t.Const (gcdL t.Coeffs : Int) = some (t.Const.tmod (gcdL t.Coeffs)) by unfold remI; rw [decide_eq_false (by omega)]; rfl, Option.bind_some, hm, hm, w64_eq (by omega)]
    have e : ∀ c, c = flo t.Const (gcdL t.Coeffs) → (chk (Term.mk c (quos t.Coeffs (gcdL t.Coeffs)))) = (Term.mk (flo t.Const (gcdL t.Coeffs)) (quos t.Coeffs (gcdL t.Coeffs)), true) := by
      rintro c rfl
      unfold chk; rw [hv]; rfl
    by_cases h3 : t.Const.tmod (gcdL t.Coeffs) < 0
    · rw [decide_eq_true h3, cond_true, e _ (by unfold flo; rw [if_pos h3])]; rfl
    · rw [decide_eq_false h3, cond_false, e _ (by unfold flo; rw [if_neg h3])]; rfl
  · rw [decide_eq_true (show ((gcdL t.Coeffs : Nat) : Int) < 2 by omega), decide_eq_false h2]; rfl
theorem impl_tight' {t : Term} (h1 : vT t = true) : m_impl_Term_tightened t = some (fTight t) := by
  have hl := vT_len h1
  unfold m_impl_Term_tightened fTight
  rw [impl_gcd (vT_coef h1), Option.bind_some, h1, Bool.true_and]
  by_cases h2 : 2 ≤ gcdL t.Coeffs
  · have hr := (tdiv_rng h2 (vT_const h1)).2
    rw [decide_eq_false (by omega), cond_false, impl_own (by omega), decide_eq_true h2]
    simp only [Option.bind_some, cond_true]
    unfold m_impl_divFloor
    rw [quo_nat h2 (vT_const h1), Option.bind_some, show remI t.Const (gcdL t.Coeffs : Int) = some (t.Const.tmod (gcdL t.Coeffs)) by unfold remI; rw [decide_eq_false (by omega)]; rfl, Option.bind_some, w64_eq (by omega)]
    have e : (bif decide (t.Const.tmod (gcdL t.Coeffs) < 0) then some (t.Const.tdiv (gcdL t.Coeffs) - 1) else some (t.Const.tdiv (gcdL t.Coeffs))) = some (flo t.Const (gcdL t.Coeffs)) := by
      unfold flo
      by_cases h3 : t.Const.tmod (gcdL t.Coeffs) < 0
      · rw [decide_eq_true h3, if_pos h3]; rfl
      · rw [decide_eq_false h3, if_neg h3]; rfl
    rw [e, Option.bind_some, impl_quos h2 (vT_coef h1) (by omega)]; rfl
  · rw [decide_eq_true (show ((gcdL t.Coeffs : Nat) : Int) ≤ 1 by omega), decide_eq_false h2]; rfl
end Go.Mod

namespace Go.Mod
open Go.AM
set_option linter.unusedVariables false
set_option linter.unusedSimpArgs false
section
variable (p : List Node) (c0 : List Term)
end
section
variable {p : List Node} {c0 : List Term}
theorem range_snoc {α : Type} (f : Nat → α) (n : Nat) : (List.range (n + 1)).map f = (List.range n).map f ++ [f n] := by rw [List.range_succ, List.map_append]; rfl
theorem impl_with_ok {c : List Term} {t : Term} (h : c.length ≤ 20) : m_impl_with c t = some (c ++ [t]) := by
  unfold m_impl_with m_slices_Clone_impl_Term_impl_Term
  rw [capI_some (by simp; omega), Option.bind_some, Option.bind_some, List.nil_append, capI_some (by simp; omega)]; rfl
theorem isIndex_c {f : Int} {n : Nat} (h0 : 0 ≤ f) (hn : n ≤ 1000) : m_impl_isIndex f (n : Int) = some (decide (f.toNat < n)) := by
  unfold m_impl_isIndex m_impl_within m_impl_size
  simp only [Option.bind_some]
  rw [w64_eq (by omega)]
  congr 1
  by_cases h : f.toNat < n
  · rw [decide_eq_true h, decide_eq_true h0, decide_eq_true (by omega)]; rfl
  · rw [decide_eq_false h, decide_eq_false (show ¬ f ≤ (n : Int) - 1 by omega), Bool.and_false]
end
theorem ctx_goodC {s : Sequent} (h : (fCtx s).2 = true) : GoodC (fCtx s).1 := by
  obtain ⟨h1, h2, h3, h4⟩ := ctx_lin h
  exact ⟨h4, by rw [h2]; simp; omega⟩
end Go.Mod

namespace Go.Mod
open Go.AM
set_option linter.unusedVariables false
set_option linter.unusedSimpArgs false
inductive Acc : List Term → List Node → List (List Term) → Prop
  | leaf {c : List Term} {x : Node} : GoodC c → x.Kind = 1 → ar x = some 0 → closesB c x.Multipliers = true → Acc c [x] [c]
  | split {c : List Term} {x : Node} {p1 p2 : List Node} {d1 d2 : List (List Term)} : GoodC c → x.Kind = 2 → ar x = some 2 → c.length < 20 → vT x.Term = true → vT (opp x.Term) = true →
      Acc (c ++ [x.Term]) p1 d1 → Acc (c ++ [opp x.Term]) p2 d2 → Acc c (x :: (p1 ++ p2)) (c :: (d1 ++ d2))
  | tight {c : List Term} {x : Node} {p1 : List Node} {d1 : List (List Term)} {t : Term} : GoodC c → x.Kind = 3 → ar x = some 1 → c.length < 20 → 0 ≤ x.Fact → c[x.Fact.toNat]? = some t → (fTight t).2 = true →
      Acc (c ++ [(fTight t).1]) p1 d1 → Acc c (x :: p1) (c :: d1)
section
variable {c : List Term} {q : List Node} {d : List (List Term)}
theorem Acc.len (h : Acc c q d) : d.length = q.length ∧ 0 < q.length := by
  induction h with
  | leaf => exact ⟨rfl, by simp⟩
  | split _ _ _ _ _ _ _ _ i1 i2 => refine ⟨?_, by simp⟩; simp only [List.length_cons, List.length_append]; rw [i1.1, i2.1]
  | tight _ _ _ _ _ _ _ _ i1 => refine ⟨?_, by simp⟩; simp only [List.length_cons]; rw [i1.1]
theorem Acc.head (h : Acc c q d) : d[0]? = some c := by cases h <;> rfl
theorem goL_cons {x : Node} {a : Nat} (h : ar x = some a) (r : List Node) (n : Nat) : goL (x :: r) (n + 1) = goL r (n + a) := by
  rw [show goL (x :: r) (n + 1) = (ar x).bind (fun a => goL r (n + a)) from rfl, h]; rfl
theorem Acc.goL (h : Acc c q d) : ∀ (rest : List Node) (n : Nat), Mod.goL (q ++ rest) (n + 1) = Mod.goL rest n := by
  induction h with
  | leaf _ _ ha _ => intro rest n; exact goL_cons ha _ _
  | split _ _ ha _ _ _ _ _ i1 i2 =>
    intro rest n
    rw [List.cons_append, goL_cons ha, List.append_assoc, show n + 2 = (n + 1) + 1 from rfl, i1, i2]
  | tight _ _ ha _ _ _ _ _ i1 =>
    intro rest n
    rw [List.cons_append, goL_cons ha, i1]
theorem Acc.isP (h : Acc c q d) (hl : q.length ≤ 60) : Mod.isP q = true := by
  refine isP_iff.2 ⟨hl, ?_⟩
  have := h.goL [] 0
  rw [List.append_nil] at this
  rw [this, goL_zero]
theorem mget_put {K V : Type} [DecidableEq K] {v : V} {k q : K} : ∀ (m : List (K × V)), mget (mput m k v) q = if k = q then some v else mget m q := by
  intro m
  induction m with
  | nil => unfold mput; simp only [mget]
  | cons x r ih =>
    obtain ⟨a, b⟩ := x
    unfold mput
    by_cases ha : a = k
    · subst ha
      rw [if_pos rfl]
      simp only [mget]
      by_cases hq : a = q
      · rw [if_pos hq, if_pos hq]
      · rw [if_neg hq, if_neg hq, if_neg hq]
    · rw [if_neg ha]
      simp only [mget]
      by_cases hq : a = q
      · rw [if_pos hq, if_pos hq, if_neg (fun h => ha (hq.trans h.symm))]
      · rw [if_neg hq, if_neg hq]; exact ih
theorem put_at {m : List (Int × List Term)} {k j : Nat} {v : List Term} : mget (mput m (k : Int) v) (j : Int) = if k = j then some v else mget m (j : Int) := by
  rw [mget_put]
  by_cases h : k = j
  · rw [if_pos h, if_pos (by omega)]
  · rw [if_neg h, if_neg (by omega)]
theorem drop_at {α : Type} {p : List α} {k : Nat} {x : α} {r : List α} (h : p.drop k = x :: r) : p[k]? = some x := by
  have h1 : (p.drop k)[0]? = some x := by rw [h]; rfl
  rw [List.getElem?_drop, Nat.add_zero] at h1
  exact h1
theorem examine_acc (h : Acc c q d) : ∀ (p : List Node) (k : Nat) (rest : List Node) (fu : Nat) (st : checking), st.proof = p → p.drop k = q ++ rest → p.length ≤ 900 → q.length < fu →
    ∃ m, m_impl_checking_examine fu st (k : Int) c = some (((k + q.length : Nat) : Int), checking.mk p m st.flaw) ∧
      ∀ j : Nat, mget m (j : Int) = if k ≤ j ∧ j < k + q.length then d[j - k]? else mget st.contexts (j : Int) := by
  induction h with
  | @leaf c x hg hkd ha hcl =>
    intro p k rest fu st hs hd hp hf
    subst hs
    obtain ⟨fu, rfl⟩ : ∃ f, fu = f + 1 := ⟨fu - 1, by omega⟩
    have hlen := congrArg List.length hd
    rw [List.length_drop, List.length_append, List.length_singleton] at hlen
    have hx : st.proof[k]? = some x := drop_at hd
    obtain ⟨dd, _, hb⟩ := behind_ok (p := st.proof) (by omega) 1000 k (by omega) (by omega)
    rw [hd, List.singleton_append, goL_cons ha, goL_zero] at hb
    simp only at hb
    show ∃ m, m_impl_checking_examine_F (m_impl_checking_examine fu) st (k : Int) c = _ ∧ _
    unfold m_impl_checking_examine_F
    have hm : okMs x.Multipliers = true := by
      rcases ar_cases ha with ⟨_, _, hm⟩ | ⟨hk, _⟩ | ⟨hk, _⟩
      · exact hm
      · omega
      · omega
    rw [hb, Option.bind_some, getI_some hx, Option.bind_some, decide_eq_true hkd, cond_true, impl_closes' hg hm, Option.bind_some, hcl, cond_true]
    refine ⟨mput st.contexts (k : Int) c, ?_, fun j => ?_⟩
    · simp only [List.length_singleton]
      rw [show st.proof.length - rest.length = k + 1 by omega]
    · rw [put_at]
      by_cases hj : k = j
      · subst hj; rw [if_pos rfl, if_pos (by simp), Nat.sub_self]; rfl
      · rw [if_neg hj, if_neg (by simp; omega)]
  | @split c x p1 p2 d1 d2 hg hkd ha h20 hv hvo a1 a2 i1 i2 =>
    intro p k rest fu st hs hd hp hf
    subst hs
    obtain ⟨fu, rfl⟩ : ∃ f, fu = f + 1 := ⟨fu - 1, by omega⟩
    have hlen := congrArg List.length hd
    rw [List.length_drop] at hlen
    simp only [List.length_append, List.length_cons] at hlen hf
    have l1 := a1.len
    have l2 := a2.len
    have hx : st.proof[k]? = some x := drop_at hd
    have hd1 : st.proof.drop (k + 1) = p1 ++ (p2 ++ rest) := by rw [← List.drop_drop, hd, ← List.append_assoc]; rfl
    have hd2 : st.proof.drop (k + 1 + p1.length) = p2 ++ rest := by rw [← List.drop_drop, hd1, List.drop_left]
    obtain ⟨dd, _, hb⟩ := behind_ok (p := st.proof) (by omega) 1000 k (by omega) (by omega)
    have hg1 : Mod.goL (x :: (p1 ++ p2) ++ rest) 1 = some rest := by
      rw [List.cons_append, goL_cons ha, List.append_assoc, show 0 + 2 = 1 + 1 from rfl, a1.goL, a2.goL, goL_zero]
    rw [hd, hg1] at hb
    simp only at hb
    show ∃ m, m_impl_checking_examine_F (m_impl_checking_examine fu) st (k : Int) c = _ ∧ _
    unfold m_impl_checking_examine_F
    rw [hb, Option.bind_some, getI_some hx, Option.bind_some, decide_eq_false (show ¬ x.Kind = 1 by omega), cond_false, decide_eq_true hkd, cond_true, impl_opposite hv, Option.bind_some,
      decide_eq_true (show (c.length : Int) < 20 by omega), cond_true, impl_valid, Option.bind_some, hvo]
    unfold m_impl_checking_examine_F_J0
    rw [cond_true, impl_with_ok hg.2, Option.bind_some, w64_succ (by omega)]
    obtain ⟨m1, e1, g1⟩ := i1 st.proof (k + 1) (p2 ++ rest) fu (checking.mk st.proof (mput st.contexts (k : Int) c) st.flaw) rfl hd1 hp (by omega)
    rw [e1, Option.bind_some, impl_with_ok hg.2, Option.bind_some]
    simp only
    obtain ⟨m2, e2, g2⟩ := i2 st.proof (k + 1 + p1.length) rest fu (checking.mk st.proof m1 st.flaw) rfl hd2 hp (by omega)
    rw [e2, Option.bind_some]
    refine ⟨m2, ?_, fun j => ?_⟩
    · simp only [List.length_cons, List.length_append]
      rw [show k + 1 + p1.length + p2.length = k + (p1.length + p2.length + 1) by omega]
    · rw [g2 j]
      simp only [List.length_cons, List.length_append]
      rw [g1 j]
      simp only
      rw [put_at]
      by_cases c1 : k + 1 + p1.length ≤ j ∧ j < k + 1 + p1.length + p2.length
      · rw [if_pos c1, if_pos (by omega), show j - k = (j - (k + 1 + p1.length) + d1.length) + 1 by omega, List.getElem?_cons_succ, List.getElem?_append_right (by omega), Nat.add_sub_cancel]
      · rw [if_neg c1]
        by_cases c2 : k + 1 ≤ j ∧ j < k + 1 + p1.length
        · rw [if_pos c2, if_pos (by omega), show j - k = (j - (k + 1)) + 1 by omega, List.getElem?_cons_succ, List.getElem?_append_left (by omega)]
        · rw [if_neg c2]
          by_cases c3 : k = j
          · subst c3; rw [if_pos rfl, if_pos (by omega), Nat.sub_self]; rfl
          · rw [if_neg c3, if_neg (by omega)]
  | @tight c x p1 d1 t hg hkd ha h20 hf0 ht htt a1 i1 =>
    intro p k rest fu st hs hd hp hf
    subst hs
    obtain ⟨fu, rfl⟩ : ∃ f, fu = f + 1 := ⟨fu - 1, by omega⟩
    have hlen := congrArg List.length hd
    rw [List.length_drop] at hlen
    simp only [List.length_append, List.length_cons] at hlen hf
    have l1 := a1.len
    have hx : st.proof[k]? = some x := drop_at hd
    have hd1 : st.proof.drop (k + 1) = p1 ++ rest := by rw [← List.drop_drop, hd]; rfl
    obtain ⟨dd, _, hb⟩ := behind_ok (p := st.proof) (by omega) 1000 k (by omega) (by omega)
    have hg1 : Mod.goL (x :: p1 ++ rest) 1 = some rest := by
      rw [List.cons_append, goL_cons ha, a1.goL, goL_zero]
    rw [hd, hg1] at hb
    simp only at hb
    have htl := get_lt ht
    have hgt : getI c x.Fact = some t := by rw [show x.Fact = ((x.Fact.toNat : Nat) : Int) by omega]; exact getI_some ht
    show ∃ m, m_impl_checking_examine_F (m_impl_checking_examine fu) st (k : Int) c = _ ∧ _
    unfold m_impl_checking_examine_F
    rw [hb, Option.bind_some, getI_some hx, Option.bind_some, decide_eq_false (show ¬ x.Kind = 1 by omega), cond_false, decide_eq_false (show ¬ x.Kind = 2 by omega), cond_false, decide_eq_true hkd, cond_true,
      decide_eq_true (show (c.length : Int) < 20 by omega), cond_true, isIndex_c hf0 (by omega), Option.bind_some, decide_eq_true htl]
    unfold m_impl_checking_examine_F_J1
    rw [cond_true, hgt, Option.bind_some, impl_tight' (hg.1 t (List.mem_of_getElem? ht)), Option.bind_some, htt, cond_true, impl_with_ok hg.2, Option.bind_some, w64_succ (by omega)]
    obtain ⟨m1, e1, g1⟩ := i1 st.proof (k + 1) rest fu (checking.mk st.proof (mput st.contexts (k : Int) c) st.flaw) rfl hd1 hp (by omega)
    rw [e1, Option.bind_some]
    refine ⟨m1, ?_, fun j => ?_⟩
    · simp only [List.length_cons]
      rw [show k + 1 + p1.length = k + (p1.length + 1) by omega]
    · rw [g1 j]
      simp only [List.length_cons]
      rw [put_at]
      by_cases c2 : k + 1 ≤ j ∧ j < k + 1 + p1.length
      · rw [if_pos c2, if_pos (by omega), show j - k = (j - (k + 1)) + 1 by omega, List.getElem?_cons_succ]
      · rw [if_neg c2]
        by_cases c3 : k = j
        · subst c3; rw [if_pos rfl, if_pos (by omega), Nat.sub_self]; rfl
        · rw [if_neg c3, if_neg (by omega)]
end
theorem Acc.at_ {c : List Term} {q : List Node} {d : List (List Term)} (h : Acc c q d) : ∀ k, k < q.length → ∃ c' q' d' r s, q.drop k = q' ++ r ∧ d.drop k = d' ++ s ∧ Acc c' q' d' := by
  induction h with
  | @leaf c x hg hkd ha hcl =>
    intro k hk
    obtain rfl : k = 0 := by simp at hk; omega
    exact ⟨c, [x], [c], [], [], rfl, rfl, .leaf hg hkd ha hcl⟩
  | @split c x p1 p2 d1 d2 hg hkd ha h20 hv hvo a1 a2 i1 i2 =>
    intro k hk
    cases k with
    | zero => exact ⟨c, _, _, [], [], by rw [List.append_nil]; rfl, by rw [List.append_nil]; rfl, .split hg hkd ha h20 hv hvo a1 a2⟩
    | succ k =>
      have l1 := a1.len
      simp only [List.length_cons, List.length_append] at hk
      by_cases hk1 : k < p1.length
      · obtain ⟨c', q', d', r, s, e1, e2, e3⟩ := i1 k hk1
        refine ⟨c', q', d', r ++ p2, s ++ d2, ?_, ?_, e3⟩
        · rw [List.drop_succ_cons, List.drop_append_of_le_length (by omega), e1, List.append_assoc]
        · rw [List.drop_succ_cons, List.drop_append_of_le_length (by omega), e2, List.append_assoc]
      · obtain ⟨c', q', d', r, s, e1, e2, e3⟩ := i2 (k - p1.length) (by omega)
        refine ⟨c', q', d', r, s, ?_, ?_, e3⟩
        · rw [List.drop_succ_cons, List.drop_append, List.drop_eq_nil_of_le (by omega), List.nil_append, e1]
        · rw [List.drop_succ_cons, List.drop_append, List.drop_eq_nil_of_le (by omega), List.nil_append, l1.1, e2]
  | @tight c x p1 d1 t hg hkd ha h20 hf0 ht htt a1 i1 =>
    intro k hk
    cases k with
    | zero => exact ⟨c, _, _, [], [], by rw [List.append_nil]; rfl, by rw [List.append_nil]; rfl, .tight hg hkd ha h20 hf0 ht htt a1⟩
    | succ k =>
      simp only [List.length_cons] at hk
      obtain ⟨c', q', d', r, s, e1, e2, e3⟩ := i1 k (by omega)
      exact ⟨c', q', d', r, s, e1, e2, e3⟩
structure Told (s : Sequent) (p : List Node) (d : List (List Term)) : Prop where
  check : m_impl_CheckProof s p = some true
  flaw : m_impl_FirstFlaw s p = some (0, false)
  ctx : ∀ k : Nat, k < p.length → ∃ c, d[k]? = some c ∧ m_impl_ContextAt s p (k : Int) = some (c, true)
theorem Acc.goods {c : List Term} {q : List Node} {d : List (List Term)} (h : Acc c q d) : ∀ e ∈ d, GoodC e := by
  induction h with
  | leaf hg => intro e he; rw [List.mem_singleton.1 he]; exact hg
  | split hg _ _ _ _ _ _ _ i1 i2 =>
    intro e he
    rcases List.mem_cons.1 he with rfl | he
    · exact hg
    · rcases List.mem_append.1 he with he | he
      · exact i1 e he
      · exact i2 e he
  | tight hg _ _ _ _ _ _ _ i1 =>
    intro e he
    rcases List.mem_cons.1 he with rfl | he
    · exact hg
    · exact i1 e he
theorem good_small {c : List Term} (h : GoodC c) : cTermS c ≤ 1048576 := by
  have key : ∀ ts : List Term, (∀ t ∈ ts, vT t = true) → (ts.map cTerm).sum ≤ 10 * ts.length := by
    intro ts
    induction ts with
    | nil => intro _; simp
    | cons t r ih =>
      intro hv
      have h1 := vT_len (hv t (by simp))
      have h2 := ih (fun u hu => hv u (List.mem_cons_of_mem _ hu))
      have e : cTerm t = t.Coeffs.length := rfl
      rw [List.map_cons, List.sum_cons, List.length_cons]; omega
  have := key c h.1
  have := h.2
  unfold cTermS; omega
theorem Acc.told {s : Sequent} {p : List Node} {d : List (List Term)} (hs : (fCtx s).2 = true) (h : Acc (fCtx s).1 p d) (hl : p.length ≤ 60) (hc : cSeq s ≤ 1048576) : Told s p d := by
  obtain ⟨m, e1, e2⟩ := examine_acc h p 0 [] 1000 (checking.mk p [] (-1)) rfl (by rw [List.append_nil]; rfl) (by omega) (by omega)
  have he : m_impl_examined s p = some (checking.mk p m (-1), true) := by
    unfold m_impl_examined
    rw [impl_ctx hc, Option.bind_some, hs, Bool.not_true, cond_false, impl_isP, Option.bind_some, h.isP hl, Bool.not_true, cond_false]
    have e1' : m_impl_checking_examine 1000 (checking.mk p [] (-1)) (0 : Int) (fCtx s).1 = _ := e1
    rw [e1']; rfl
  refine ⟨?_, ?_, fun k hk => ?_⟩
  · unfold m_impl_CheckProof; rw [he]; rfl
  · unfold m_impl_FirstFlaw; rw [he]; rfl
  · have hkd : k < d.length := by rw [h.len.1]; exact hk
    refine ⟨d[k], List.getElem?_eq_getElem hkd, ?_⟩
    unfold m_impl_ContextAt
    rw [he, Option.bind_some]
    simp only [cond_true]
    rw [isIndex_c (by omega) (by omega), Option.bind_some, Int.toNat_natCast, decide_eq_true hk, Bool.not_true, cond_false]
    have hm : mget m (k : Int) = some d[k] := by
      rw [e2 k, if_pos ⟨by omega, by omega⟩, Nat.sub_zero]; exact List.getElem?_eq_getElem hkd
    rw [hm]
    simp only [Option.isSome_some, Bool.not_true, cond_false, Option.getD_some]
    rw [impl_ownTerms (good_small (h.goods _ (List.getElem_mem hkd)))]; rfl
theorem closes_iff {ts : List Term} {ms : List Int} : closesB ts ms = true ↔ ms.length = ts.length ∧ (∀ i, i < 10 → lin ts ms (fun t => coef t.Coeffs i) ts.length = 0) ∧ lin ts ms Term.Const ts.length < 0 := by
  unfold closesB
  simp only [Bool.and_eq_true, decide_eq_true_eq]
  constructor
  · rintro ⟨h1, h2, h3⟩
    refine ⟨h1, fun i hi => ?_, h3⟩
    exact trim_nil.1 h2 _ (List.mem_of_getElem? (tab_get hi))
  · rintro ⟨h1, h2, h3⟩
    refine ⟨h1, trim_nil.2 (fun x hx => ?_), h3⟩
    unfold tab at hx
    obtain ⟨i, hi, rfl⟩ := List.mem_map.1 hx
    exact h2 i (List.mem_range.1 hi)
theorem closes_no {ts : List Term} {ms : List Int} {v : List Int} (h : closesB ts ms = true) (hm : okMs ms = true) (hv : ∀ t ∈ ts, 0 ≤ val t v) : False := by
  obtain ⟨h1, h2, h3⟩ := closes_iff.1 h
  have e := val_lin ts ms v ts.length
  rw [sumN_congr (g := fun _ => 0) 10 (fun i hi => by rw [h2 i hi, Int.zero_mul]), sumN_zero] at e
  have : 0 ≤ lin ts ms (fun t => val t v) ts.length := by
    unfold lin
    refine sumN_nonneg _ (fun i hi => ?_)
    refine Int.mul_nonneg ?_ ?_
    · simp only [okMs, Bool.and_eq_true, List.all_eq_true, decide_eq_true_eq] at hm
      have hi2 : i < ms.length := by omega
      rw [coef_get (List.getElem?_eq_getElem hi2)]
      exact (hm.1 _ (List.getElem_mem hi2)).1
    · have e : tAt ts i = ts[i] := by unfold tAt; rw [List.getElem?_eq_getElem hi]; rfl
      rw [e]
      exact hv _ (List.getElem_mem hi)
  omega
theorem opp_val (t : Term) (v : List Int) : val (opp t) v = -val t v - 1 := by
  rw [show opp t = mkT (-t.Const - 1) (fun i => -coef t.Coeffs i) from rfl, val_mkT, sumN_congr (g := fun i => -(coef t.Coeffs i * coef v i)) 10 (fun i _ => by rw [Int.neg_mul]), sumN_neg]
  unfold val; omega
theorem tight_val {t : Term} {v : List Int} (h : (fTight t).2 = true) : (0 ≤ val (fTight t).1 v) ↔ (0 ≤ val t v) := by
  unfold fTight at h ⊢
  cases hc : vT t && decide (2 ≤ gcdL t.Coeffs) with
  | false => rw [hc] at h; cases h
  | true =>
    simp only [Bool.and_eq_true, decide_eq_true_eq] at hc
    exact fTight_val hc.1 hc.2
theorem Acc.no {c : List Term} {q : List Node} {d : List (List Term)} (h : Acc c q d) (v : List Int) : ¬ ∀ t ∈ c, 0 ≤ val t v := by
  induction h with
  | @leaf c x hg hkd ha hcl =>
    intro hv
    have hm : okMs x.Multipliers = true := by
      rcases ar_cases ha with ⟨_, _, hm⟩ | ⟨hk, _⟩ | ⟨hk, _⟩
      · exact hm
      · omega
      · omega
    exact closes_no hcl hm hv
  | @split c x p1 p2 d1 d2 hg hkd ha h20 hvt hvo a1 a2 i1 i2 =>
    intro hv
    by_cases h0 : 0 ≤ val x.Term v
    · exact i1 (fun t ht => by
        rcases List.mem_append.1 ht with ht | ht
        · exact hv t ht
        · rw [List.mem_singleton.1 ht]; exact h0)
    · exact i2 (fun t ht => by
        rcases List.mem_append.1 ht with ht | ht
        · exact hv t ht
        · rw [List.mem_singleton.1 ht, opp_val]; omega)
  | @tight c x p1 d1 t hg hkd ha h20 hf0 ht htt a1 i1 =>
    intro hv
    exact i1 (fun u hu => by
      rcases List.mem_append.1 hu with hu | hu
      · exact hv u hu
      · rw [List.mem_singleton.1 hu]; exact (tight_val htt).2 (hv t (List.mem_of_getElem? ht)))
end Go.Mod

namespace Go.Mod
open Go.AM
set_option linter.unusedVariables false
set_option linter.unusedSimpArgs false
theorem src_mk (s : l00Src) : l00Src.mk s.code s.at_ s.seed = s := rfl
theorem one_ok {s : l00Src} {k : Nat} {n : Int} (h : Src s k) (hk : k ≤ 100000000) (hn : n ≤ 200) : ∃ b s', m_spec_l00Src_one s n = some (b, s') ∧ Src s' (k + 1) := by
  obtain ⟨r, s', e, _, _, hs⟩ := pick_ok h hk hn
  unfold m_spec_l00Src_one
  rw [e, Option.bind_some]
  exact ⟨_, _, rfl, hs⟩
theorem wsub {a b : Int} (h0 : -1000000 ≤ a) (h1 : a ≤ 1000000) (h2 : -1000000 ≤ b) (h3 : b ≤ 1000000) : w64 (a - b) = a - b := w64_eq ⟨by omega, by omega⟩
theorem down1 {n : Nat} (h : n ≤ 1000) : w64 (((n + 1 : Nat) : Int) - 1) = (n : Int) := by rw [w64_eq (by omega)]; omega
structure DT (t : Term) : Prop where
  v : vT t = true
  c : -10 ≤ t.Const ∧ t.Const ≤ 10
  f : ∀ i, -3 ≤ coef t.Coeffs i ∧ coef t.Coeffs i ≤ 3
theorem DT.opp {t : Term} (h : DT t) : vT (opp t) = true := by
  have hc := h.c
  exact mkT_valid (f := fun i => -coef t.Coeffs i) (by omega) (fun i _ => by have := h.f i; omega)
theorem make_dt {c : Int} {xs : List Int} (hc : -10 ≤ c ∧ c ≤ 10) (hl : xs.length ≤ 10) (h : ∀ x ∈ xs, -3 ≤ x ∧ x ≤ 3) : chk (Term.mk c (trim xs)) = (Term.mk c (trim xs), true) ∧ DT (Term.mk c (trim xs)) := by
  have hv : vT (Term.mk c (trim xs)) = true := by
    have h2 := trim_len xs
    have h3 : (trim xs).all inR = true := by
      rw [List.all_eq_true]
      intro x hx
      have := h x (List.mem_of_mem_take hx)
      exact inR_iff.2 (by omega)
    unfold vT
    simp only
    rw [h3, trim_last, inR_iff.2 (show -1000000 ≤ c ∧ c ≤ 1000000 by omega), decide_eq_true (show (trim xs).length ≤ 10 by omega)]; rfl
  refine ⟨by unfold chk; rw [hv]; rfl, hv, hc, fun i => ?_⟩
  simp only
  rw [trim_coef]
  exact list_coef h (by omega) i
theorem dterm_loop : ∀ (n : Nat) (s : l00Src) (k : Nat) (l : List Int), l.length + n ≤ 3 → (∀ x ∈ l, -3 ≤ x ∧ x ≤ 3) → Src s k → k + n ≤ 100000 →
    ∃ (s' : l00Src) (l' : List Int), iter m_spec_l05DrawTerm_L0 (s.code, s.at_, s.seed, l, (n : Int)) = some (s'.code, s'.at_, s'.seed, l') ∧ l'.length ≤ 3 ∧ (∀ x ∈ l', -3 ≤ x ∧ x ≤ 3) ∧ Src s' (k + n) := by
  intro n
  induction n with
  | zero =>
    intro s k l hl hx hs hk
    exact ⟨s, l, iter_out (by unfold m_spec_l05DrawTerm_L0; rfl), by omega, hx, hs⟩
  | succ n ih =>
    intro s k l hl hx hs hk
    obtain ⟨r, s1, e, r0, r1, hs1⟩ := pick_ok (n := 7) hs (by omega) (by omega)
    have w1 := wsub (a := r) (b := 3) (by omega) (by omega) (by omega) (by omega)
    have w2 := down1 (n := n) (by omega)
    have st : m_spec_l05DrawTerm_L0 (s.code, s.at_, s.seed, l, ((n + 1 : Nat) : Int)) = some (.next (s1.code, s1.at_, s1.seed, l ++ [r - 3], (n : Int))) := by
      unfold m_spec_l05DrawTerm_L0
      simp only
      rw [w2, decide_eq_true (show (0 : Int) < ((n + 1 : Nat) : Int) by clear w1 w2; omega), cond_true, src_mk, e, Option.bind_some]
      simp only
      rw [w1, capI_some (by clear w1 w2; simp; omega), Option.bind_some]
    clear w1 w2
    obtain ⟨s2, l2, e2, h1, h2, h3⟩ := ih s1 (k + 1) (l ++ [r - 3]) (by rw [List.length_append]; simp; omega) (fun x hx' => by
      rcases List.mem_append.1 hx' with hx' | hx'
      · exact hx x hx'
      · rw [List.mem_singleton.1 hx']; omega) hs1 (by omega)
    exact ⟨s2, l2, (iter_next st).trans e2, h1, h2, h3.mono (by omega)⟩
theorem drawTerm_ok {s : l00Src} {k : Nat} (hs : Src s k) (hk : k ≤ 90000) : ∃ t s', m_spec_l05DrawTerm s = some (t, s') ∧ DT t ∧ Src s' (k + 5) := by
  obtain ⟨r, s1, e1, r0, r1, hs1⟩ := pick_ok (n := 4) hs (by omega) (by omega)
  obtain ⟨n, rfl⟩ := Int.eq_ofNat_of_zero_le r0
  obtain ⟨s2, l, e2, l1, l2, hs2⟩ := dterm_loop n s1 (k + 1) [] (by simp; omega) (by simp) hs1 (by omega)
  obtain ⟨q, s3, e3, q0, q1, hs3⟩ := pick_ok (n := 21) hs2 (by omega) (by omega)
  have w := wsub (a := q) (b := 10) (by omega) (by omega) (by omega) (by omega)
  obtain ⟨m1, m2⟩ := make_dt (c := q - 10) (xs := l) (by omega) (by omega) l2
  refine ⟨_, s3, ?_, m2, hs3.mono (by clear w; omega)⟩
  unfold m_spec_l05DrawTerm
  rw [e1, Option.bind_some]
  simp only
  rw [e2, Option.bind_some]
  unfold m_spec_l05DrawTerm_A0
  simp only
  rw [src_mk, e3, Option.bind_some]
  simp only
  rw [w, spec_make (by clear w; omega), Option.bind_some, m1]
theorem tAt_app {ts : List Term} {t : Term} {k : Nat} (h : k < ts.length) : tAt (ts ++ [t]) k = tAt ts k := by unfold tAt; rw [List.getElem?_append_left h]
theorem coef_app {ms : List Int} {m : Int} {k : Nat} (h : k < ms.length) : coef (ms ++ [m]) k = coef ms k := by unfold coef; rw [List.getElem?_append_left h]
theorem lin_app {ts : List Term} {ms : List Int} {t : Term} {m : Int} (h : ms.length = ts.length) (g : Term → Int) : lin (ts ++ [t]) (ms ++ [m]) g (ts ++ [t]).length = lin ts ms g ts.length + m * g t := by
  rw [List.length_append, List.length_singleton, lin_succ (t := t) (m := m) (by rw [List.getElem?_append_right (Nat.le_refl _), Nat.sub_self]; rfl) (by rw [List.getElem?_append_right (by omega), h, Nat.sub_self]; rfl)]
  congr 1
  exact sumN_congr _ (fun i hi => by rw [tAt_app hi, coef_app (by omega)])
theorem closes_zero {ts : List Term} {ms : List Int} (h : closesB ts ms = true) (t : Term) : closesB (ts ++ [t]) (ms ++ [0]) = true := by
  obtain ⟨h1, h2, h3⟩ := closes_iff.1 h
  refine closes_iff.2 ⟨by simp [h1], fun i hi => ?_, ?_⟩
  · rw [lin_app h1, h2 i hi]; simp
  · rw [lin_app h1]; simpa using h3
theorem ar_leaf {ms : List Int} (h : okMs ms = true) : ar (Node.mk 1 0 (Term.mk 0 []) ms) = some 0 := by
  unfold ar zT
  simp only [decide_true, cond_true, List.length_nil, Bool.and_self, Bool.true_and]
  rw [h]; rfl
theorem ar_split {t : Term} (h : vT t = true) : ar (Node.mk 2 0 t []) = some 2 := by
  unfold ar
  simp only [List.length_nil]
  rw [h]; rfl
theorem ar_tight {f : Nat} (h : f ≤ 19) : ar (Node.mk 3 (f : Int) (Term.mk 0 []) []) = some 1 := by
  unfold ar zT
  simp only [List.length_nil]
  rw [decide_eq_true (show (0 : Int) ≤ (f : Int) by omega), decide_eq_true (show (f : Int) ≤ 19 by omega)]; rfl
theorem GoodC.add {c : List Term} (h : GoodC c) {t : Term} (ht : vT t = true) (hl : c.length < 20) : GoodC (c ++ [t]) :=
  ⟨fun u hu => by
    rcases List.mem_append.1 hu with hu | hu
    · exact h.1 u hu
    · rw [List.mem_singleton.1 hu]; exact ht, by rw [List.length_append]; simp; omega⟩
theorem okMs_app {xs ys : List Int} (h1 : okMs xs = true) (h2 : ys.all (fun m => decide (0 ≤ m) && decide (m ≤ 1000000)) = true) (hl : xs.length + ys.length ≤ 20) : okMs (xs ++ ys) = true := by
  unfold okMs at h1 ⊢
  simp only [Bool.and_eq_true] at h1
  rw [List.all_append, h1.1, h2, List.length_append, decide_eq_true (by omega)]; rfl
def clN (ms : List Int) : Node := Node.mk 1 0 (Term.mk 0 []) ms
theorem grow_loop {ms : List Int} {r : List Term × Bool} (hm : okMs ms = true) (hr : 0 < r.1.length) (hr2 : r.1.length = ms.length) (h14 : ms.length ≤ 14) : ∀ (n : Nat) (s : l00Src) (k : Nat) (c : List Term) (ex : List Term) (nodes rest : List Node) (more : List Int),
    c = r.1 ++ ex → ex.length = more.length → more.length + n ≤ 3 → GoodC c → closesB c (ms ++ more) = true → more.all (fun m => decide (0 ≤ m) && decide (m ≤ 1000000)) = true → Src s k → k + 20 * n ≤ 80000 → nodes.length + n ≤ 100 → rest.length + n ≤ 100 →
    ∃ (s' : l00Src) (q1 r1 : List Node) (more' : List Int) (d : List (List Term)), iter (m_spec_l05Grow_L0 ms r) (s.code, s.at_, s.seed, nodes, rest, more, (n : Int)) = some (nodes ++ q1, r1 ++ rest, more', s'.code, s'.at_, s'.seed) ∧
      Acc c (q1 ++ [clN (ms ++ more')] ++ r1) d ∧ more'.length ≤ 3 ∧ q1.length + r1.length ≤ 2 * n ∧ Src s' (k + 20 * n) := by
  intro n
  induction n with
  | zero =>
    intro s k c ex nodes rest more hc hex hl hg hcl hall hs hk hn1 hn2
    have hok : okMs (ms ++ more) = true := okMs_app hm hall (by omega)
    refine ⟨s, [], [], more, [c], ?_, ?_, by omega, by simp, hs⟩
    · rw [List.append_nil, List.nil_append]; exact iter_out (by unfold m_spec_l05Grow_L0; rfl)
    · exact Acc.leaf hg rfl (ar_leaf hok) hcl
  | succ n ih =>
    intro s k c ex nodes rest more hc hex hl hg hcl hall hs hk hn1 hn2
    have hclen : c.length = ms.length + more.length := by rw [hc, List.length_append]; omega
    obtain ⟨i, s1, e1, i0, i1, hs1⟩ := pick_ok (n := (r.1.length : Int)) hs (by omega) (by omega)
    obtain ⟨i, rfl⟩ := Int.eq_ofNat_of_zero_le i0
    have hi : i < r.1.length := by omega
    have hci : c[i]? = some (r.1[i]) := by rw [hc, List.getElem?_append_left hi]; exact List.getElem?_eq_getElem hi
    have hvi : vT r.1[i] = true := hg.1 _ (List.mem_of_getElem? hci)
    have hall' : (more ++ [0]).all (fun m => decide (0 ≤ m) && decide (m ≤ 1000000)) = true := by rw [List.all_append, hall]; rfl
    have w2 := down1 (n := n) (by omega)
    have head : m_spec_l05Grow_L0 ms r (s.code, s.at_, s.seed, nodes, rest, more, ((n + 1 : Nat) : Int)) = (bif (fTight r.1[i]).2 then
        (m_spec_l00Src_one s1 2).bind fun r45 => m_spec_l05Grow_J0 ms (s.code, s.at_, s.seed, nodes, rest, more, ((n + 1 : Nat) : Int)) ((i : Int), s1) (r45.2.code, r45.2.at_, r45.2.seed, r45.1)
        else m_spec_l05Grow_J0 ms (s.code, s.at_, s.seed, nodes, rest, more, ((n + 1 : Nat) : Int)) ((i : Int), s1) (s1.code, s1.at_, s1.seed, false)) := by
      unfold m_spec_l05Grow_L0
      simp only
      rw [decide_eq_true (show (0 : Int) < ((n + 1 : Nat) : Int) by clear w2; omega), cond_true, src_mk, e1, Option.bind_some]
      simp only
      rw [getI_some (List.getElem?_eq_getElem hi), Option.bind_some, spec_tight' hvi, Option.bind_some]
    -- a split
    have split : ∀ (s2 : l00Src) (k2 : Nat), Src s2 k2 → k2 ≤ k + 3 → m_spec_l05Grow_L0 ms r (s.code, s.at_, s.seed, nodes, rest, more, ((n + 1 : Nat) : Int)) = m_spec_l05Grow_J0 ms (s.code, s.at_, s.seed, nodes, rest, more, ((n + 1 : Nat) : Int)) ((i : Int), s1) (s2.code, s2.at_, s2.seed, false) →
        ∃ (s' : l00Src) (q1 r1 : List Node) (more' : List Int) (d : List (List Term)), iter (m_spec_l05Grow_L0 ms r) (s.code, s.at_, s.seed, nodes, rest, more, ((n + 1 : Nat) : Int)) = some (nodes ++ q1, r1 ++ rest, more', s'.code, s'.at_, s'.seed) ∧
          Acc c (q1 ++ [clN (ms ++ more')] ++ r1) d ∧ more'.length ≤ 3 ∧ q1.length + r1.length ≤ 2 * (n + 1) ∧ Src s' (k + 20 * (n + 1)) := by
      intro s2 k2 hs2 hk2 hst
      obtain ⟨t, s3, e3, ht, hs3⟩ := drawTerm_ok hs2 (by clear w2; omega)
      have st : m_spec_l05Grow_L0 ms r (s.code, s.at_, s.seed, nodes, rest, more, ((n + 1 : Nat) : Int)) = some (.next (s3.code, s3.at_, s3.seed, nodes ++ [Node.mk 2 0 t []], clN (ms ++ (more ++ [0])) :: rest, more ++ [0], (n : Int))) := by
        rw [hst]
        unfold m_spec_l05Grow_J0
        simp only [cond_false]
        rw [w2, src_mk, e3, Option.bind_some]
        simp only
        clear w2
        rw [capI_some (by simp; omega), Option.bind_some, capI_some (by simp; omega), Option.bind_some, spec_own (by omega), Option.bind_some, capI_some (by simp; omega), Option.bind_some, capI_some (by simp; omega), Option.bind_some]; rfl
      clear w2
      obtain ⟨s4, q1, r1, more', d, g1, g2, g3, g4, g5⟩ := ih s3 (k2 + 5) (c ++ [t]) (ex ++ [t]) (nodes ++ [Node.mk 2 0 t []]) (clN (ms ++ (more ++ [0])) :: rest) (more ++ [0]) (by rw [hc, List.append_assoc]) (by simp [hex]) (by rw [List.length_append]; simp; omega)
        (hg.add ht.v (by omega)) (by rw [← List.append_assoc]; exact closes_zero hcl t) hall' hs3 (by omega) (by rw [List.length_append]; simp; omega) (by simp; omega)
      have hok : okMs (ms ++ (more ++ [0])) = true := okMs_app hm hall' (by rw [List.length_append]; simp; omega)
      have second : Acc (c ++ [opp t]) [clN (ms ++ (more ++ [0]))] [c ++ [opp t]] := Acc.leaf (hg.add ht.opp (by omega)) rfl (ar_leaf hok) (by rw [← List.append_assoc]; exact closes_zero hcl _)
      refine ⟨s4, Node.mk 2 0 t [] :: q1, r1 ++ [clN (ms ++ (more ++ [0]))], more', c :: (d ++ [c ++ [opp t]]), ?_, ?_, g3, by simp; omega, g5.mono (by omega)⟩
      · rw [iter_next st, g1, List.append_assoc, List.append_assoc]; rfl
      · have := Acc.split (x := Node.mk 2 0 t []) hg rfl (ar_split ht.v) (by omega) ht.v ht.opp g2 second
        simpa [List.append_assoc] using this
    cases htt : (fTight r.1[i]).2 with
    | false =>
      rw [htt, cond_false] at head
      exact split s1 (k + 1) hs1 (by omega) head
    | true =>
      obtain ⟨b, s2, e2, hs2⟩ := one_ok (n := 2) hs1 (by clear w2; omega) (by omega)
      rw [htt, cond_true, e2, Option.bind_some] at head
      simp only at head
      cases b with
      | false => exact split s2 (k + 1 + 1) hs2 (by omega) head
      | true =>
        have st : m_spec_l05Grow_L0 ms r (s.code, s.at_, s.seed, nodes, rest, more, ((n + 1 : Nat) : Int)) = some (.next (s2.code, s2.at_, s2.seed, nodes ++ [Node.mk 3 (i : Int) (Term.mk 0 []) []], rest, more ++ [0], (n : Int))) := by
          rw [head]
          unfold m_spec_l05Grow_J0
          simp only [cond_true]
          rw [w2]
          clear w2
          rw [capI_some (by simp; omega), Option.bind_some, capI_some (by simp; omega), Option.bind_some]
        clear w2
        obtain ⟨s4, q1, r1, more', d, g1, g2, g3, g4, g5⟩ := ih s2 (k + 1 + 1) (c ++ [(fTight r.1[i]).1]) (ex ++ [(fTight r.1[i]).1]) (nodes ++ [Node.mk 3 (i : Int) (Term.mk 0 []) []]) rest (more ++ [0]) (by rw [hc, List.append_assoc]) (by simp [hex]) (by rw [List.length_append]; simp; omega)
          (hg.add (fTight_valid htt) (by omega)) (by rw [← List.append_assoc]; exact closes_zero hcl _) hall' hs2 (by omega) (by rw [List.length_append]; simp; omega) (by omega)
        refine ⟨s4, Node.mk 3 (i : Int) (Term.mk 0 []) [] :: q1, r1, more', c :: d, ?_, ?_, g3, by simp; omega, g5.mono (by omega)⟩
        · rw [iter_next st, g1, List.append_assoc]; rfl
        · exact Acc.tight (x := Node.mk 3 (i : Int) (Term.mk 0 []) []) hg rfl (ar_tight (by omega)) (by omega) (show (0 : Int) ≤ (i : Int) by omega) (by simpa using hci) htt g2
theorem grow_ok {ms : List Int} {s : Sequent} {src : l00Src} {k : Nat} (hc : (fCtx s).2 = true) (hsm : cSeq s ≤ 1048576) (hm : okMs ms = true) (hcl : closesB (fCtx s).1 ms = true) (h14 : ms.length ≤ 14) (hs : Src src k) (hk : k ≤ 70000) :
    ∃ p src' d, m_spec_l05Grow src s ms = some (p, src') ∧ Acc (fCtx s).1 p d ∧ p.length ≤ 5 := by
  obtain ⟨hv, hctx, hl13, hvs⟩ := ctx_lin hc
  have hlen := (closes_iff.1 hcl).1
  have hpos : 0 < (fCtx s).1.length := by rw [hctx, List.length_append]; simp
  obtain ⟨n, s1, e1, n0, n1, hs1⟩ := pick_ok (n := 3) hs (by omega) (by omega)
  obtain ⟨n, rfl⟩ := Int.eq_ofNat_of_zero_le n0
  obtain ⟨s2, q1, r1, more, d, g1, g2, g3, g4, g5⟩ := grow_loop (r := fCtx s) hm hpos hlen.symm h14 n s1 (k + 1) (fCtx s).1 [] [] [] [] (by simp) rfl (by simp; omega) (ctx_goodC hc) (by rw [List.append_nil]; exact hcl) rfl hs1 (by omega) (by simp; omega) (by simp; omega)
  refine ⟨q1 ++ [clN (ms ++ more)] ++ r1, s2, d, ?_, g2, by simp; omega⟩
  unfold m_spec_l05Grow
  rw [spec_context hsm hv, Option.bind_some, e1, Option.bind_some]
  simp only
  rw [g1, Option.bind_some]
  unfold m_spec_l05Grow_A0
  simp only [List.nil_append, List.append_nil]
  rw [spec_own (by omega), Option.bind_some, capI_some (by omega), Option.bind_some, capI_some (by simp; omega), Option.bind_some, capI_some (by simp; omega), Option.bind_some]; rfl
theorem facts_loop : ∀ (n : Nat) (s : l00Src) (k : Nat) (fs : List Term) (ts : List Int), fs.length + n ≤ 3 → ts.length = fs.length → (∀ t ∈ fs, DT t) → (∀ x ∈ ts, 0 ≤ x ∧ x ≤ 2) → Src s k → k + 6 * n ≤ 80000 →
    ∃ (s' : l00Src) (fs' : List Term) (ts' : List Int), iter m_spec_l05DrawProved_L0 (s.code, s.at_, s.seed, fs, ts, (n : Int)) = some (s'.code, s'.at_, s'.seed, fs', ts') ∧ fs'.length ≤ 3 ∧ ts'.length = fs'.length ∧ (∀ t ∈ fs', DT t) ∧ (∀ x ∈ ts', 0 ≤ x ∧ x ≤ 2) ∧ Src s' (k + 6 * n) := by
  intro n
  induction n with
  | zero => intro s k fs ts h1 h2 h3 h4 hs hk; exact ⟨s, fs, ts, iter_out (by unfold m_spec_l05DrawProved_L0; rfl), by omega, h2, h3, h4, hs⟩
  | succ n ih =>
    intro s k fs ts h1 h2 h3 h4 hs hk
    obtain ⟨t, s1, e1, ht, hs1⟩ := drawTerm_ok hs (by omega)
    obtain ⟨m, s2, e2, m0, m1, hs2⟩ := pick_ok (n := 3) hs1 (by omega) (by omega)
    have w2 := down1 (n := n) (by omega)
    have st : m_spec_l05DrawProved_L0 (s.code, s.at_, s.seed, fs, ts, ((n + 1 : Nat) : Int)) = some (.next (s2.code, s2.at_, s2.seed, fs ++ [t], ts ++ [m], (n : Int))) := by
      unfold m_spec_l05DrawProved_L0
      simp only
      rw [w2, decide_eq_true (show (0 : Int) < ((n + 1 : Nat) : Int) by clear w2; omega), cond_true, src_mk, e1, Option.bind_some]
      simp only
      clear w2
      rw [capI_some (by simp; omega), Option.bind_some, e2, Option.bind_some, capI_some (by simp; omega), Option.bind_some]
    clear w2
    obtain ⟨s3, fs', ts', g1, g2, g3, g4, g5, g6⟩ := ih s2 (k + 5 + 1) (fs ++ [t]) (ts ++ [m]) (by rw [List.length_append]; simp; omega) (by simp [h2]) (fun u hu => by
        rcases List.mem_append.1 hu with hu | hu
        · exact h3 u hu
        · rw [List.mem_singleton.1 hu]; exact ht) (fun x hx => by
        rcases List.mem_append.1 hx with hx | hx
        · exact h4 x hx
        · rw [List.mem_singleton.1 hx]; omega) hs2 (by omega)
    exact ⟨s3, fs', ts', (iter_next st).trans g1, g2, g3, g4, g5, g6.mono (by omega)⟩
theorem tab_congr {f g : Nat → Int} (h : ∀ i, i < 10 → f i = g i) : tab f = tab g := by
  unfold tab
  exact List.map_congr_left (fun i hi => h i (by simpa using hi))
theorem mkT_eq {c c' : Int} {f g : Nat → Int} (hc : c = c') (h : ∀ i, i < 10 → f i = g i) : Term.mk c (trim (tab f)) = mkT c' g := by
  unfold mkT; rw [hc, tab_congr h]
section
variable {fs : List Term} {ts : List Int} (hf : ∀ t ∈ fs, DT t) (ht : ∀ x ∈ ts, 0 ≤ x ∧ x ≤ 2)
include hf ht
theorem lin_c (n : Nat) : -(n * 20) ≤ lin fs ts Term.Const n ∧ lin fs ts Term.Const n ≤ n * 20 := by
  unfold lin
  refine sumN_rng (B := 20) (fun i => ?_) n
  have h1 := list_coef ht (by omega) i
  have h2 : -10 ≤ (tAt fs i).Const ∧ (tAt fs i).Const ≤ 10 := by
    unfold tAt
    cases hx : fs[i]? with
    | none => decide
    | some t => exact (hf t (List.mem_of_getElem? hx)).c
  have := prod_small (A := 2) (B := 10) (a := coef ts i) (b := (tAt fs i).Const) (by omega) h2
  omega
theorem lin_f (j n : Nat) : -(n * 6) ≤ lin fs ts (fun t => coef t.Coeffs j) n ∧ lin fs ts (fun t => coef t.Coeffs j) n ≤ n * 6 := by
  unfold lin
  refine sumN_rng (B := 6) (fun i => ?_) n
  have h1 := list_coef ht (by omega) i
  have h2 : -3 ≤ coef (tAt fs i).Coeffs j ∧ coef (tAt fs i).Coeffs j ≤ 3 := by
    unfold tAt
    cases hx : fs[i]? with
    | none => rw [show coef ((none : Option Term).getD ⟨0, []⟩).Coeffs j = 0 from rfl]; omega
    | some t => exact (hf t (List.mem_of_getElem? hx)).f j
  have h3 := prod_small (A := 2) (B := 3) (a := coef ts i) (b := coef (tAt fs i).Coeffs j) (by omega) h2
  show -6 ≤ coef ts i * coef (tAt fs i).Coeffs j ∧ coef ts i * coef (tAt fs i).Coeffs j ≤ 6
  omega
end
def gl (fs : List Term) (ts : List Int) (r : Int) (n : Nat) : Term := mkT (lin fs ts Term.Const n + r) (fun i => lin fs ts (fun t => coef t.Coeffs i) n)
theorem gl_valid {fs : List Term} {ts : List Int} (hf : ∀ t ∈ fs, DT t) (ht : ∀ x ∈ ts, 0 ≤ x ∧ x ≤ 2) {r : Int} (hr : -20 ≤ r ∧ r ≤ 20) {n : Nat} (hn : n ≤ 5) : vT (gl fs ts r n) = true ∧ vT (opp (gl fs ts r n)) = true := by
  have h1 := lin_c hf ht n
  refine ⟨mkT_valid (by omega) (fun i _ => by have := lin_f hf ht i n; omega), mkT_valid (f := fun i => -coef (gl fs ts r n).Coeffs i) (by show -1000000 ≤ -(lin fs ts Term.Const n + r) - 1 ∧ -(lin fs ts Term.Const n + r) - 1 ≤ 1000000; omega) (fun i hi => ?_)⟩
  have := lin_f hf ht i n
  unfold gl
  rw [mkT_coef, if_pos hi]; omega
theorem goal_loop {fs : List Term} {ts : List Int} (hf : ∀ t ∈ fs, DT t) (ht : ∀ x ∈ ts, 0 ≤ x ∧ x ≤ 2) (hl : ts.length = fs.length) (h3 : fs.length ≤ 3) (a : List Int) (b c : Int) : ∀ (m n : Nat), n + m = fs.length →
    iter (m_spec_l05DrawProved_L1 (a, b, c, fs, ts)) ((gl fs ts 0 n).Const, (gl fs ts 0 n).Coeffs, (n : Int)) = some ((gl fs ts 0 fs.length).Const, (gl fs ts 0 fs.length).Coeffs) := by
  intro m
  induction m with
  | zero =>
    intro n hn
    obtain rfl : n = fs.length := by omega
    refine iter_out ?_
    unfold m_spec_l05DrawProved_L1
    simp only
    rw [dec_self]; rfl
  | succ m ih =>
    intro n hn
    have hx : fs[n]? = some fs[n] := List.getElem?_eq_getElem (by omega)
    have hy : ts[n]? = some ts[n] := List.getElem?_eq_getElem (by omega)
    have hd := hf _ (List.getElem_mem (show n < fs.length by omega))
    have hm := ht _ (List.getElem_mem (show n < ts.length by omega))
    have hv := (gl_valid hf ht (r := 0) (by omega) (n := n) (by omega)).1
    have hv1 := (gl_valid hf ht (r := 0) (by omega) (n := n + 1) (by omega)).1
    have hsum : m_spec_l02Sum (gl fs ts 0 n) 1 fs[n] ts[n] = some (gl fs ts 0 (n + 1), true) := by
      rw [spec_sum hv hd.v (by unfold mOK; omega) (by unfold mOK; omega)]
      have e : Term.mk (1 * (gl fs ts 0 n).Const + ts[n] * fs[n].Const) (trim (tab fun i => 1 * coef (gl fs ts 0 n).Coeffs i + ts[n] * coef fs[n].Coeffs i)) = gl fs ts 0 (n + 1) := by
        refine mkT_eq ?_ (fun i hi => ?_)
        · rw [lin_succ hx hy]
          show 1 * (lin fs ts Term.Const n + 0) + _ = _
          omega
        · rw [lin_succ hx hy]
          unfold gl
          rw [mkT_coef, if_pos hi]; omega
      rw [e, chk_1 hv1]
    have st : m_spec_l05DrawProved_L1 (a, b, c, fs, ts) ((gl fs ts 0 n).Const, (gl fs ts 0 n).Coeffs, (n : Int)) = some (.next ((gl fs ts 0 (n + 1)).Const, (gl fs ts 0 (n + 1)).Coeffs, ((n + 1 : Nat) : Int))) := by
      unfold m_spec_l05DrawProved_L1
      simp only
      rw [dec_lt (by omega), cond_true, getI_some hx, Option.bind_some, getI_some hy, Option.bind_some]
      have hsum' : m_spec_l02Sum (Term.mk (gl fs ts 0 n).Const (gl fs ts 0 n).Coeffs) 1 fs[n] ts[n] = _ := hsum
      rw [hsum', Option.bind_some, w64_succ (by omega)]
    rw [iter_next st]
    exact ih (n + 1) (by omega)
structure Drawn (s : Sequent) (p : List Node) (d : List (List Term)) : Prop where
  ctx : (fCtx s).2 = true
  acc : Acc (fCtx s).1 p d
  len : p.length ≤ 5
  facts : s.Facts.length ≤ 3
  fdt : ∀ t ∈ s.Facts, DT t
  gc : -63 ≤ s.Goal.Const ∧ s.Goal.Const ≤ 63
  gf : ∀ i, -18 ≤ coef s.Goal.Coeffs i ∧ coef s.Goal.Coeffs i ≤ 18
  gv : vT s.Goal = true
theorem seq_small {s : Sequent} (h1 : ∀ t ∈ s.Facts, vT t = true) (h2 : s.Facts.length ≤ 20) (h3 : vT s.Goal = true) : cSeq s ≤ 1048576 := by
  have e := good_small (c := s.Facts) ⟨h1, h2⟩
  have key : ∀ ts : List Term, (∀ t ∈ ts, vT t = true) → (ts.map cTerm).sum ≤ 10 * ts.length := by
    intro ts
    induction ts with
    | nil => intro _; simp
    | cons t r ih =>
      intro hv
      have h1 := vT_len (hv t (by simp))
      have h2 := ih (fun u hu => hv u (List.mem_cons_of_mem _ hu))
      have e : cTerm t = t.Coeffs.length := rfl
      rw [List.map_cons, List.sum_cons, List.length_cons]; omega
  have := key s.Facts h1
  have g := vT_len h3
  have e2 : cTerm s.Goal = s.Goal.Coeffs.length := rfl
  unfold cSeq cTermS; omega
theorem Drawn.small {s : Sequent} {p : List Node} {d : List (List Term)} (h : Drawn s p d) : cSeq s ≤ 1048576 := seq_small (fun t ht => (h.fdt t ht).v) (by have := h.facts; omega) h.gv
theorem ctx_of {s : Sequent} (h1 : ∀ t ∈ s.Facts, vT t = true) (h2 : s.Facts.length ≤ 13) (h3 : vT s.Goal = true) (h4 : vT (opp s.Goal) = true) : fCtx s = (s.Facts ++ [opp s.Goal], true) := by
  unfold fCtx vSeq
  rw [List.all_eq_true.2 h1, decide_eq_true h2, h3, h4]; rfl
theorem r8Proved_ok {code : List Int} (hc : ∀ x ∈ code, 0 ≤ x ∧ x ≤ 255) (hl : code.length ≤ 1048576) : ∃ s p d, m_spec_R8Proved code = some (s, p) ∧ Drawn s p d := by
  obtain ⟨e0, hs0⟩ := from_ok hc hl
  obtain ⟨n, s1, e1, n0, n1, hs1⟩ := pick_ok (n := 4) hs0 (by omega) (by omega)
  obtain ⟨n, rfl⟩ := Int.eq_ofNat_of_zero_le n0
  obtain ⟨s2, fs, ts, e2, l3, hl2, hf, ht, hs2⟩ := facts_loop n s1 (0 + 1) [] [] (by simp; omega) rfl (by simp) (by simp) hs1 (by omega)
  obtain ⟨r, s3, e3, r0, r1, hs3⟩ := pick_ok (n := 4) hs2 (by omega) (by omega)
  have hg := goal_loop hf ht hl2 l3 s2.code s2.at_ s2.seed fs.length 0 (by omega)
  have hv := (gl_valid hf ht (r := 0) (by omega) (n := fs.length) (by omega)).1
  have hv2 := gl_valid hf ht (r := r) (by omega) (n := fs.length) (by omega)
  have hsum : m_spec_l02Sum (gl fs ts 0 fs.length) 1 (Term.mk r []) 1 = some (gl fs ts r fs.length, true) := by
    rw [spec_sum hv (vT_one r (inR_iff.2 (by omega))) (by unfold mOK; omega) (by unfold mOK; omega)]
    have e : Term.mk (1 * (gl fs ts 0 fs.length).Const + 1 * (Term.mk r []).Const) (trim (tab fun i => 1 * coef (gl fs ts 0 fs.length).Coeffs i + 1 * coef (Term.mk r []).Coeffs i)) = gl fs ts r fs.length := by
      refine mkT_eq ?_ (fun i hi => ?_)
      · show 1 * (lin fs ts Term.Const fs.length + 0) + 1 * r = _
        omega
      · unfold gl
        rw [mkT_coef, if_pos hi, coef_nil]; omega
    rw [e, chk_1 hv2.1]
  obtain ⟨S, hS⟩ : ∃ S, S = Sequent.mk fs (gl fs ts r fs.length) := ⟨_, rfl⟩
  have hctx : fCtx S = (fs ++ [opp (gl fs ts r fs.length)], true) := by rw [hS]; exact ctx_of (fun t h => (hf t h).v) (by simp only; omega) hv2.1 hv2.2
  have hsm : cSeq S ≤ 1048576 := by rw [hS]; exact seq_small (fun t h => (hf t h).v) (by simp only; omega) hv2.1
  have hcl : closesB (fCtx S).1 (ts ++ [1]) = true := by
    rw [hctx]
    refine closes_iff.2 ⟨by simp [hl2], fun i hi => ?_, ?_⟩
    · rw [lin_app hl2]
      have : coef (opp (gl fs ts r fs.length)).Coeffs i = -lin fs ts (fun t => coef t.Coeffs i) fs.length := by
        rw [show opp (gl fs ts r fs.length) = mkT (-(gl fs ts r fs.length).Const - 1) (fun i => -coef (gl fs ts r fs.length).Coeffs i) from rfl, mkT_coef, if_pos hi]
        unfold gl
        rw [mkT_coef, if_pos hi]
      rw [this]; omega
    · rw [lin_app hl2]
      show lin fs ts Term.Const fs.length + 1 * (-(lin fs ts Term.Const fs.length + r) - 1) < 0
      omega
  have hok : okMs (ts ++ [1]) = true := okMs_app (by
    unfold okMs
    rw [List.all_eq_true.2 (fun x hx => by have := ht x hx; rw [decide_eq_true (by omega), decide_eq_true (by omega)]; rfl), decide_eq_true (by omega)]; rfl) rfl (by simp; omega)
  obtain ⟨p, s4, d, g1, g2, g3⟩ := grow_ok (s := S) (by rw [hctx]) hsm hok hcl (by simp; omega) hs3 (by omega)
  refine ⟨S, p, d, ?_, ⟨by rw [hctx], g2, g3, ?_, ?_, ?_, ?_, ?_⟩⟩
  · unfold m_spec_R8Proved
    rw [e0, Option.bind_some]
    unfold m_spec_l05DrawProved
    rw [e1, Option.bind_some]
    simp only
    rw [e2, Option.bind_some]
    unfold m_spec_l05DrawProved_A0
    have hg' : iter (m_spec_l05DrawProved_L1 (s2.code, s2.at_, s2.seed, fs, ts)) ((0 : Int), ([] : List Int), (0 : Int)) = _ := hg
    rw [hg', Option.bind_some]
    unfold m_spec_l05DrawProved_A1
    simp only
    rw [src_mk, e3, Option.bind_some]
    simp only
    have hsum' : m_spec_l02Sum (Term.mk (gl fs ts 0 fs.length).Const (gl fs ts 0 fs.length).Coeffs) 1 (Term.mk r []) 1 = _ := hsum
    rw [hsum', Option.bind_some, capI_some (by simp; omega), Option.bind_some]
    simp only
    rw [← hS, g1]; rfl
  · rw [hS]; exact l3
  · rw [hS]; exact hf
  · rw [hS]
    have := lin_c hf ht fs.length
    show -63 ≤ lin fs ts Term.Const fs.length + r ∧ lin fs ts Term.Const fs.length + r ≤ 63
    omega
  · rw [hS]
    intro i
    have := lin_f hf ht i fs.length
    show -18 ≤ coef (gl fs ts r fs.length).Coeffs i ∧ coef (gl fs ts r fs.length).Coeffs i ≤ 18
    unfold gl
    rw [mkT_coef]
    split <;> omega
  · rw [hS]; exact hv2.1
end Go.Mod

namespace Go.Mod
open Go.AM
set_option linter.unusedVariables false
set_option linter.unusedSimpArgs false
def V7 (v : List Int) : Prop := v.length = 10 ∧ ∀ x ∈ v, -7 ≤ x ∧ x ≤ 7
theorem V7.coef {v : List Int} (h : V7 v) (i : Nat) : -7 ≤ coef v i ∧ coef v i ≤ 7 := list_coef h.2 (by omega) i
theorem bytes {a : List Int} (h : kLa_u8 a) : ∀ x ∈ a, 0 ≤ x ∧ x ≤ 255 := fun x hx => h.2 x hx
theorem long_cases (a b : List Int) : m_laws_r8Long a b = some true ∨ (m_laws_r8Long a b = some false ∧ a.length ≤ 48 ∧ b.length ≤ 48) := by
  unfold m_laws_r8Long
  by_cases h1 : 48 < a.length
  · left; rw [decide_eq_true (by omega)]; rfl
  · by_cases h2 : 48 < b.length
    · left; rw [decide_eq_true (p := (48 : Int) < (b.length : Int)) (by omega), Bool.or_true]
    · right; rw [decide_eq_false (by omega), decide_eq_false (by omega)]; exact ⟨rfl, by omega, by omega⟩
theorem Acc.sub {c : List Term} {p : List Node} {d : List (List Term)} (h : Acc c p d) {k : Nat} (hk : k < p.length) : ∃ c' q d' r s, p.drop k = q ++ r ∧ d.drop k = d' ++ s ∧ Acc c' q d' ∧ d[k]? = some c' := by
  obtain ⟨c', q, d', r, s, e1, e2, e3⟩ := h.at_ k hk
  refine ⟨c', q, d', r, s, e1, e2, e3, ?_⟩
  have h0 := e3.head
  have h1 : (d.drop k)[0]? = some c' := by rw [e2, List.getElem?_append_left (by rw [e3.len.1]; exact e3.len.2)]; exact h0
  rw [List.getElem?_drop, Nat.add_zero] at h1; exact h1
theorem ar_small {x : Node} {a : Nat} (h : ar x = some a) : x.Term.Coeffs.length ≤ 10 ∧ x.Multipliers.length ≤ 20 := by
  unfold ar zT okMs at h
  simp only [Bool.cond_eq_ite, Bool.and_eq_true, decide_eq_true_eq] at h
  repeat' split at h
  all_goals first
    | (cases h; done)
    | (rename_i h1 h2; first | exact ⟨by omega, by omega⟩ | exact ⟨vT_len h2.2, by omega⟩ | (have := vT_len h2.2; exact ⟨by omega, by omega⟩))
theorem nodes_small {p : List Node} (hv : ∀ x ∈ p, (ar x).isSome = true) : pc_NodeS p ≤ 40 * p.length := by
  have key : ∀ q : List Node, (∀ x ∈ q, (ar x).isSome = true) → (q.map pc_Node).sum ≤ 30 * q.length := by
    intro q
    induction q with
    | nil => intro _; simp
    | cons x r ih =>
      intro h
      obtain ⟨a, ha⟩ := Option.isSome_iff_exists.1 (h x (by simp))
      have := ar_small ha
      have h2 := ih (fun y hy => h y (List.mem_cons_of_mem _ hy))
      have e : pc_Node x = x.Term.Coeffs.length + x.Multipliers.length := rfl
      rw [List.map_cons, List.sum_cons, List.length_cons, e]; omega
  have := key p hv
  unfold pc_NodeS; omega
end Go.Mod

namespace Go.Mod
open Go.AM
set_option linter.unusedVariables false
set_option linter.unusedSimpArgs false
end Go.Mod

namespace Go.Mod
open Go.AM
set_option linter.unusedVariables false
set_option linter.unusedSimpArgs false
noncomputable def gL1 (σ : Int → Option Int) (n1 : Nat) (x1 : Int) (s1 : List Int) : Option (Ctl (List Int) ((List Int))) :=
  (σ (n1 : Int)).bind fun (r53 : Int) =>
  bif (decide ((0 : Int) ≤ r53)) then
    (getI s1 r53).bind fun (x59 : Int) =>
    some (.next (s1.set ((r53).toNat) x1))
  else
    some (.next s1)
noncomputable def gL0 (lam σ : Int → Option Int) (r15 : List Node) (s0 : (List Node) × Int) : Option (Ctl ((List Node) × Int) ((List Node))) :=
  bif (decide (s0.2 < (r15.length : Int))) then
    (getI s0.1 s0.2).bind fun (x21 : Node) =>
    bif (decide (x21.Kind = (3 : Int))) then
      (σ x21.Fact).bind fun (r32 : Int) =>
      some (.next ((s0.1.set ((s0.2).toNat) (Node.mk x21.Kind r32 x21.Term x21.Multipliers)), (w64 (s0.2 + (1 : Int)))))
    else
      bif (decide (x21.Kind = (1 : Int))) then
        (lam (x21.Multipliers.length : Int)).bind fun (r41 : Int) =>
        (makeI r41 8).bind fun (k42 : Nat) =>
        (forL (gL1 σ) (fun s1 => s1) 0 x21.Multipliers (List.replicate k42 (0 : Int))).bind fun (u1 : (List Int)) =>
        some (.next ((s0.1.set ((s0.2).toNat) (Node.mk x21.Kind x21.Fact x21.Term u1)), (w64 (s0.2 + (1 : Int)))))
      else
        some (.next (s0.1, (w64 (s0.2 + (1 : Int)))))
  else
    some (.out s0.1)
noncomputable def gMoved (lam σ : Int → Option Int) (p0 : List Node) : Option (List Node) :=
  (m_impl_ownNodes p0).bind fun (r15 : List Node) =>
  (iter (gL0 lam σ r15) (r15, (0 : Int))).bind fun (u0 : (List Node)) =>
  some u0
def mvGo (f : Int → Int) : Nat → List Int → List Int → List Int
  | _, [], acc => acc
  | n, x :: r, acc => mvGo f (n + 1) r (if 0 ≤ f (n : Int) then acc.set (f (n : Int)).toNat x else acc)
def mvN (f : Int → Int) (dl : Int) (x : Node) : Node :=
  if x.Kind = 3 then Node.mk x.Kind (f x.Fact) x.Term x.Multipliers
  else if x.Kind = 1 then Node.mk x.Kind x.Fact x.Term (mvGo f 0 x.Multipliers (List.replicate ((x.Multipliers.length : Int) + dl).toNat 0))
  else x
theorem mvGo_len (f : Int → Int) : ∀ (ms : List Int) (n : Nat) (acc : List Int), (mvGo f n ms acc).length = acc.length := by
  intro ms
  induction ms with
  | nil => intro n acc; rfl
  | cons x r ih =>
    intro n acc
    unfold mvGo
    rw [ih]
    split
    · rw [List.length_set]
    · rfl
theorem gL1_ok {σ : Int → Option Int} {f : Int → Int} (hσ : ∀ i, 0 ≤ i → i ≤ 1000 → σ i = some (f i)) : ∀ (ms : List Int) (n : Nat) (acc : List Int), n + ms.length ≤ 1000 → (∀ i : Nat, n ≤ i → i < n + ms.length → f (i : Int) < (acc.length : Int)) →
    forL (gL1 σ) (fun s1 => s1) n ms acc = some (mvGo f n ms acc) := by
  intro ms
  induction ms with
  | nil => intro n acc _ _; rfl
  | cons x r ih =>
    intro n acc hn hf
    have h1 := hf n (Nat.le_refl _) (by simp)
    unfold forL mvGo
    have st : gL1 σ n x acc = some (.next (if 0 ≤ f (n : Int) then acc.set (f (n : Int)).toNat x else acc)) := by
      unfold gL1
      rw [hσ _ (by omega) (by simp only [List.length_cons] at hn; omega), Option.bind_some]
      by_cases h0 : 0 ≤ f (n : Int)
      · rw [decide_eq_true h0, cond_true, if_pos h0]
        obtain ⟨j, hj⟩ := Int.eq_ofNat_of_zero_le h0
        rw [hj] at h1 ⊢
        rw [getI_some (List.getElem?_eq_getElem (show j < acc.length by omega)), Option.bind_some]
      · rw [decide_eq_false h0, cond_false, if_neg h0]
    rw [st]
    simp only
    exact ih (n + 1) _ (by simp only [List.length_cons] at hn; omega) (fun i h2 h3 => by
      have := hf i (by omega) (by simp only [List.length_cons]; omega)
      split
      · rw [List.length_set]; exact this
      · exact this)
def mvOK (f : Int → Int) (dl : Int) (x : Node) : Prop := (x.Kind = 3 → 0 ≤ x.Fact ∧ x.Fact ≤ 1000) ∧ (x.Kind = 1 → x.Multipliers.length ≤ 1000 ∧ 0 ≤ (x.Multipliers.length : Int) + dl ∧ ∀ i : Nat, i < x.Multipliers.length → f (i : Int) < (x.Multipliers.length : Int) + dl)
theorem iter_map {α : Type} {xs : List α} {f : α → α} {step : List α × Int → Option (Ctl (List α × Int) (List α))}
    (hs : ∀ (n : Nat) x ys, ys.length = xs.length → ys[n]? = some x → x ∈ xs → step (ys, (n : Int)) = some (.next (ys.set n (f x), ((n + 1 : Nat) : Int))))
    (he : ∀ ys, ys.length = xs.length → step (ys, (ys.length : Int)) = some (.out ys)) : iter step (xs, 0) = some (xs.map f) := by
  have key : ∀ (m n : Nat), n + m = xs.length → iter step ((xs.take n).map f ++ xs.drop n, (n : Int)) = some (xs.map f) := by
    intro m
    induction m with
    | zero =>
      intro n hn
      obtain rfl : n = xs.length := by omega
      have := he ((xs.take xs.length).map f ++ xs.drop xs.length) (by simp)
      rw [List.length_append, List.length_map, List.length_take, List.length_drop, Nat.min_self, Nat.sub_self, Nat.add_zero] at this
      rw [iter_out this]; simp
    | succ m ih =>
      intro n hn
      have hlt : n < xs.length := by omega
      have hg : ((xs.take n).map f ++ xs.drop n)[n]? = some xs[n] := by
        rw [List.getElem?_append_right (by simp; omega)]
        simp [Nat.min_eq_left (Nat.le_of_lt hlt), hlt]
      have h := hs n xs[n] ((xs.take n).map f ++ xs.drop n) (by simp; omega) hg (List.getElem_mem hlt)
      rw [iter_next h]
      have e : ((xs.take n).map f ++ xs.drop n).set n (f xs[n]) = (xs.take (n + 1)).map f ++ xs.drop (n + 1) := by
        rw [List.set_append_right _ _ (by simp; omega), List.length_map, List.length_take, Nat.min_eq_left (Nat.le_of_lt hlt), Nat.sub_self, List.drop_eq_getElem_cons hlt, List.set_cons_zero, List.take_add_one, List.getElem?_eq_getElem hlt, List.map_append]
        simp
      rw [e]
      exact ih (n + 1) (by omega)
  have := key xs.length 0 (by omega)
  simpa using this
theorem moved_ok {lam σ : Int → Option Int} {f : Int → Int} {dl : Int} (hσ : ∀ i, 0 ≤ i → i ≤ 1000 → σ i = some (f i)) (hl : ∀ i, 0 ≤ i → i ≤ 1000 → lam i = some (i + dl)) (hdl : dl ≤ 1000) {p : List Node} (hp : p.length ≤ 1000) (hs : pc_NodeS p ≤ 1048576) (h : ∀ x ∈ p, mvOK f dl x) :
    gMoved lam σ p = some (p.map (mvN f dl)) := by
  unfold gMoved
  rw [impl_ownNodes hs, Option.bind_some, iter_map (f := mvN f dl) (fun n x ys hy hx hm => ?_) (fun ys hy => ?_)]; rfl
  · obtain ⟨h1, h2⟩ := h x hm
    have hn := get_lt hx
    unfold gL0 mvN
    simp only
    rw [decide_eq_true (show (n : Int) < (p.length : Int) by omega), cond_true, getI_some hx, Option.bind_some, w64_succ (by omega), Int.toNat_natCast]
    by_cases h3 : x.Kind = 3
    · obtain ⟨f0, f1⟩ := h1 h3
      rw [decide_eq_true h3, cond_true, if_pos h3, hσ _ f0 f1, Option.bind_some]
    · rw [decide_eq_false h3, cond_false, if_neg h3]
      by_cases hk : x.Kind = 1
      · obtain ⟨l1, l2, l3⟩ := h2 hk
        obtain ⟨L, hL⟩ := Int.eq_ofNat_of_zero_le l2
        rw [decide_eq_true hk, cond_true, if_pos hk, hl _ (by omega) (by omega), Option.bind_some, hL, makeI_some (by omega), Option.bind_some, Int.toNat_natCast,
          gL1_ok hσ _ 0 _ (by omega) (fun i _ hi => by have := l3 i (by omega); rw [List.length_replicate]; omega), Option.bind_some]
      · rw [decide_eq_false hk, cond_false, if_neg hk]
        congr 3
        exact (List.set_getElem_self hn).symm.trans (by rw [show ys[n] = x from Option.some.inj ((List.getElem?_eq_getElem hn).symm.trans hx)])
  · unfold gL0
    simp only
    rw [decide_eq_false (by omega)]; rfl
theorem sumN_upd {f g : Nat → Int} {j : Nat} (h : ∀ i, i ≠ j → g i = f i) : ∀ n, j < n → sumN g n = sumN f n + (g j - f j) := by
  intro n
  induction n with
  | zero => intro h; omega
  | succ n ih =>
    intro hj
    unfold sumN
    by_cases e : j = n
    · subst e
      rw [sumN_congr j (fun i hi => h i (by omega))]; omega
    · rw [ih (by omega), h n (fun e' => e e'.symm)]; omega
theorem coef_set {xs : List Int} {j i : Nat} {v : Int} (hj : j < xs.length) : coef (xs.set j v) i = if i = j then v else coef xs i := by
  unfold coef
  by_cases e : i = j
  · subst e; rw [if_pos rfl, List.getElem?_set_self hj]; rfl
  · rw [if_neg e, List.getElem?_set_ne (fun h => e h.symm)]
theorem lin_set {ts : List Term} {acc : List Int} {j : Nat} {v : Int} (hj : j < acc.length) (h0 : coef acc j = 0) (g : Term → Int) {n : Nat} (hn : j < n) : lin ts (acc.set j v) g n = lin ts acc g n + v * g (tAt ts j) := by
  unfold lin
  rw [sumN_upd (f := fun k => coef acc k * g (tAt ts k)) (g := fun k => coef (acc.set j v) k * g (tAt ts k)) (j := j) (fun i hi => by rw [coef_set hj, if_neg hi]) n hn]
  rw [coef_set hj, if_pos rfl, h0]
  omega
structure Rel (f : Int → Int) (dl : Int) (c c' : List Term) : Prop where
  len : (c'.length : Int) = (c.length : Int) + dl
  at_ : ∀ i : Nat, i < c.length → f (i : Int) < 0 ∨ ∃ j : Nat, f (i : Int) = (j : Int) ∧ j < c'.length ∧ c'[j]? = c[i]?
  inj : ∀ i i' : Nat, i < c.length → i' < c.length → 0 ≤ f (i : Int) → f (i : Int) = f (i' : Int) → i = i'
  far : ∀ i : Nat, c.length ≤ i → f (i : Int) = (i : Int) + dl
theorem Rel.add {f : Int → Int} {dl : Int} {c c' : List Term} (h : Rel f dl c c') (t : Term) : Rel f dl (c ++ [t]) (c' ++ [t]) where
  len := by have := h.len; rw [List.length_append, List.length_append]; simp; omega
  at_ := fun i hi => by
    rw [List.length_append, List.length_singleton] at hi
    have hl := h.len
    by_cases e : i < c.length
    · rcases h.at_ i e with g | ⟨j, g1, g2, g3⟩
      · exact .inl g
      · exact .inr ⟨j, g1, by rw [List.length_append]; omega, by rw [List.getElem?_append_left g2, List.getElem?_append_left e]; exact g3⟩
    · obtain rfl : i = c.length := by omega
      refine .inr ⟨c'.length, by rw [h.far _ (Nat.le_refl _)]; omega, by rw [List.length_append]; simp, ?_⟩
      rw [List.getElem?_append_right (Nat.le_refl _), List.getElem?_append_right (Nat.le_refl _), Nat.sub_self, Nat.sub_self]
  inj := fun i i' hi hi' h0 he => by
    rw [List.length_append, List.length_singleton] at hi hi'
    have hl := h.len
    by_cases e : i < c.length
    · by_cases e' : i' < c.length
      · exact h.inj i i' e e' h0 he
      · obtain rfl : i' = c.length := by omega
        rcases h.at_ i e with g | ⟨j, g1, g2, _⟩
        · omega
        · rw [h.far _ (Nat.le_refl _)] at he; omega
    · obtain rfl : i = c.length := by omega
      by_cases e' : i' < c.length
      · rcases h.at_ i' e' with g | ⟨j, g1, g2, _⟩
        · omega
        · rw [h.far _ (Nat.le_refl _)] at he; omega
      · omega
  far := fun i hi => h.far i (by rw [List.length_append] at hi; omega)
def Used (f : Int → Int) (x : Node) : Prop := (x.Kind = 3 → 0 ≤ f x.Fact) ∧ (x.Kind = 1 → ∀ (i : Nat), f (i : Int) < 0 → coef x.Multipliers i = 0)
theorem mvGo_lin {f : Int → Int} {dl : Int} {c c' : List Term} (h : Rel f dl c c') {ms : List Int} (hm : ms.length = c.length) (hu : ∀ i : Nat, f (i : Int) < 0 → coef ms i = 0) (g : Term → Int) : ∀ (rest : List Int) (n : Nat) (acc : List Int), ms.drop n = rest → n ≤ ms.length → acc.length = c'.length →
    (∀ j : Nat, coef acc j ≠ 0 → ∃ i : Nat, i < n ∧ f (i : Int) = (j : Int)) → lin c' acc g c'.length = lin c ms g n → lin c' (mvGo f n rest acc) g c'.length = lin c ms g c.length := by
  intro rest
  induction rest with
  | nil =>
    intro n acc hd hn ha hz hl
    have : ms.length ≤ n := List.drop_eq_nil_iff.1 hd
    obtain rfl : n = c.length := by omega
    exact hl
  | cons x rest ih =>
    intro n acc hd hn ha hz hl
    have hx : ms[n]? = some x := drop_at hd
    have hlt := get_lt hx
    have hc : c[n]? = some c[n] := List.getElem?_eq_getElem (by omega)
    have hd' : ms.drop (n + 1) = rest := by rw [← List.drop_drop, hd]; rfl
    have hs := lin_succ hc hx g
    unfold mvGo
    rcases h.at_ n (by omega) with hf | ⟨j, hf, hj, hcj⟩
    · have h0 := hu n hf
      rw [coef_get hx] at h0
      rw [if_neg (by omega)]
      exact ih (n + 1) acc hd' (by omega) ha (fun j hj => by obtain ⟨i, h1, h2⟩ := hz j hj; exact ⟨i, by omega, h2⟩) (by rw [hl, hs, h0]; omega)
    · rw [hf, if_pos (by omega), Int.toNat_natCast]
      have h0 : coef acc j = 0 := by
        by_cases e : coef acc j = 0
        · exact e
        · obtain ⟨i, h1, h2⟩ := hz j e
          have := h.inj i n (by omega) (by omega) (by omega) (by omega)
          omega
      refine ih (n + 1) (acc.set j x) hd' (by omega) (by rw [List.length_set]; exact ha) (fun j' hj' => ?_) ?_
      · rw [coef_set (by omega)] at hj'
        by_cases e : j' = j
        · subst e; exact ⟨n, by omega, hf⟩
        · rw [if_neg e] at hj'
          obtain ⟨i, h1, h2⟩ := hz j' hj'; exact ⟨i, by omega, h2⟩
      · rw [lin_set (by omega) h0 g hj, hl, hs]
        congr 2
        unfold tAt
        rw [hcj, hc]; rfl
theorem mvGo_all {f : Int → Int} {P : Int → Bool} : ∀ (ms : List Int) (n : Nat) (acc : List Int), acc.all P = true → ms.all P = true → (mvGo f n ms acc).all P = true := by
  intro ms
  induction ms with
  | nil => intro n acc h _; exact h
  | cons x r ih =>
    intro n acc h1 h2
    rw [List.all_cons, Bool.and_eq_true] at h2
    unfold mvGo
    refine ih _ _ ?_ h2.2
    split
    · rw [List.all_eq_true] at h1 ⊢
      intro y hy
      rcases List.mem_or_eq_of_mem_set hy with hy | hy
      · exact h1 y hy
      · rw [hy]; exact h2.1
    · exact h1
theorem coef_rep (n i : Nat) : coef (List.replicate n 0) i = 0 := by
  unfold coef
  rw [List.getElem?_replicate]
  split <;> rfl
theorem lin_rep (ts : List Term) (n m : Nat) (g : Term → Int) : lin ts (List.replicate n 0) g m = 0 := by
  unfold lin
  rw [sumN_congr (g := fun _ => 0) m (fun i _ => by rw [coef_rep, Int.zero_mul]), sumN_zero]
theorem leaf_move {f : Int → Int} {dl : Int} {c c' : List Term} (h : Rel f dl c c') (hg : GoodC c') {x : Node} (hk : x.Kind = 1) (ha : ar x = some 0) (hcl : closesB c x.Multipliers = true) (hu : Used f x) :
    (mvN f dl x).Kind = 1 ∧ ar (mvN f dl x) = some 0 ∧ closesB c' (mvN f dl x).Multipliers = true := by
  obtain ⟨h1, h2, h3⟩ := closes_iff.1 hcl
  have hl := h.len
  have e : mvN f dl x = Node.mk x.Kind x.Fact x.Term (mvGo f 0 x.Multipliers (List.replicate c'.length 0)) := by
    unfold mvN
    rw [if_neg (by omega), if_pos hk, show ((x.Multipliers.length : Int) + dl).toNat = c'.length by omega]
  have hm : okMs x.Multipliers = true := by
    rcases ar_cases ha with ⟨_, _, hm⟩ | ⟨hk, _⟩ | ⟨hk, _⟩
    · exact hm
    · omega
    · omega
  have hm' : okMs (mvGo f 0 x.Multipliers (List.replicate c'.length 0)) = true := by
    unfold okMs at hm ⊢
    simp only [Bool.and_eq_true] at hm ⊢
    refine ⟨mvGo_all _ _ _ ?_ hm.1, ?_⟩
    · rw [List.all_eq_true]
      intro y hy
      rw [List.eq_of_mem_replicate hy]; rfl
    · rw [mvGo_len, List.length_replicate, decide_eq_true hg.2]
  have key : ∀ g : Term → Int, lin c' (mvGo f 0 x.Multipliers (List.replicate c'.length 0)) g c'.length = lin c x.Multipliers g c.length := fun g =>
    mvGo_lin h h1 (hu.2 hk) g x.Multipliers 0 (List.replicate c'.length 0) rfl (Nat.zero_le _) (List.length_replicate ..) (fun j hj => absurd (coef_rep _ j) hj) (lin_rep ..)
  rw [e]
  refine ⟨hk, ?_, ?_⟩
  · unfold ar at ha ⊢
    simp only at ha ⊢
    rw [decide_eq_true hk, cond_true] at ha ⊢
    rw [hm] at ha
    rw [hm']; exact ha
  · refine closes_iff.2 ⟨by simp only; rw [mvGo_len, List.length_replicate], fun i hi => ?_, ?_⟩
    · simp only; rw [key]; exact h2 i hi
    · simp only; rw [key]; exact h3
theorem Acc.move {f : Int → Int} {dl : Int} {c : List Term} {q : List Node} {d : List (List Term)} (h : Acc c q d) : ∀ c', Rel f dl c c' → GoodC c' → c'.length + q.length ≤ 20 → (∀ x ∈ q, Used f x) → ∃ d', Acc c' (q.map (mvN f dl)) d' := by
  induction h with
  | @leaf c x hg hkd ha hcl =>
    intro c' hr hg' hl hu
    obtain ⟨g1, g2, g3⟩ := leaf_move hr hg' hkd ha hcl (hu x (by simp))
    exact ⟨[c'], .leaf hg' g1 g2 g3⟩
  | @split c x p1 p2 d1 d2 hg hkd ha h20 hvt hvo a1 a2 i1 i2 =>
    intro c' hr hg' hl hu
    simp only [List.length_cons, List.length_append] at hl
    have e : mvN f dl x = x := by unfold mvN; rw [if_neg (by omega), if_neg (by omega)]
    have l1 := a1.len.2
    have l2 := a2.len.2
    obtain ⟨e1, h1⟩ := i1 (c' ++ [x.Term]) (hr.add _) (hg'.add hvt (by omega)) (by rw [List.length_append]; simp; omega) (fun y hy => hu y (List.mem_cons_of_mem _ (List.mem_append_left _ hy)))
    obtain ⟨e2, h2⟩ := i2 (c' ++ [opp x.Term]) (hr.add _) (hg'.add hvo (by omega)) (by rw [List.length_append]; simp; omega) (fun y hy => hu y (List.mem_cons_of_mem _ (List.mem_append_right _ hy)))
    refine ⟨c' :: (e1 ++ e2), ?_⟩
    rw [List.map_cons, List.map_append, e]
    exact .split hg' hkd ha (by omega) hvt hvo h1 h2
  | @tight c x p1 d1 t hg hkd ha h20 hf0 ht htt a1 i1 =>
    intro c' hr hg' hl hu
    simp only [List.length_cons] at hl
    have l1 := a1.len.2
    have hfx := (hu x (by simp)).1 hkd
    have e : mvN f dl x = Node.mk x.Kind (f x.Fact) x.Term x.Multipliers := by unfold mvN; rw [if_pos hkd]
    have hF : x.Fact = ((x.Fact.toNat : Nat) : Int) := by omega
    have hlt := get_lt ht
    rcases hr.at_ x.Fact.toNat hlt with hn | ⟨j, hj, hj2, hj3⟩
    · rw [← hF] at hn; omega
    · rw [← hF] at hj
      obtain ⟨e1, h1⟩ := i1 (c' ++ [(fTight t).1]) (hr.add _) (hg'.add (fTight_valid htt) (by omega)) (by rw [List.length_append]; simp; omega) (fun y hy => hu y (List.mem_cons_of_mem _ hy))
      refine ⟨c' :: e1, ?_⟩
      rw [List.map_cons, e, hj]
      refine .tight hg' hkd ?_ (by omega) (show (0 : Int) ≤ (j : Int) by omega) (t := t) ?_ htt h1
      · unfold ar at ha ⊢
        simp only at ha ⊢
        rw [decide_eq_false (show ¬ x.Kind = 1 by omega), cond_false, decide_eq_false (show ¬ x.Kind = 2 by omega), cond_false, decide_eq_true hkd, cond_true] at ha ⊢
        rw [decide_eq_true (show (0 : Int) ≤ (j : Int) by omega), decide_eq_true (show (j : Int) ≤ 19 by omega)]
        revert ha
        cases zT x.Term <;> cases decide (x.Multipliers.length = 0) <;> cases decide (0 ≤ x.Fact) <;> cases decide (x.Fact ≤ 19) <;> intro ha <;> first | rfl | cases ha
      · simp only
        rw [Int.toNat_natCast, hj3]; exact ht
theorem Acc.mvOK {f : Int → Int} {dl : Int} {c : List Term} {q : List Node} {d : List (List Term)} (h : Acc c q d) : ∀ c', Rel f dl c c' → c'.length + q.length ≤ 20 → ∀ x ∈ q, Mod.mvOK f dl x := by
  induction h with
  | @leaf c x hg hkd ha hcl =>
    intro c' hr hl y hy
    rw [List.mem_singleton.1 hy]
    have hlen := hr.len
    have h1 := (closes_iff.1 hcl).1
    have h20 := hg.2
    refine ⟨fun h => by omega, fun _ => ⟨by omega, by omega, fun i hi => ?_⟩⟩
    rcases hr.at_ i (by omega) with hn | ⟨j, hj, hj2, _⟩
    · omega
    · omega
  | @split c x p1 p2 d1 d2 hg hkd ha h20 hvt hvo a1 a2 i1 i2 =>
    intro c' hr hl y hy
    simp only [List.length_cons, List.length_append] at hl
    have l1 := a1.len.2
    have l2 := a2.len.2
    rcases List.mem_cons.1 hy with rfl | hy
    · exact ⟨fun h => by omega, fun h => by omega⟩
    · rcases List.mem_append.1 hy with hy | hy
      · exact i1 (c' ++ [x.Term]) (hr.add _) (by rw [List.length_append]; simp; omega) y hy
      · exact i2 (c' ++ [opp x.Term]) (hr.add _) (by rw [List.length_append]; simp; omega) y hy
  | @tight c x p1 d1 t hg hkd ha h20 hf0 ht htt a1 i1 =>
    intro c' hr hl y hy
    simp only [List.length_cons] at hl
    have hlt := get_lt ht
    rcases List.mem_cons.1 hy with rfl | hy
    · exact ⟨fun _ => ⟨hf0, by omega⟩, fun h => by omega⟩
    · exact i1 (c' ++ [(fTight t).1]) (hr.add _) (by rw [List.length_append]; simp; omega) y hy
end Go.Mod

namespace Go.Mod
open Go.AM
set_option linter.unusedVariables false
set_option linter.unusedSimpArgs false
theorem Acc.valid {c : List Term} {q : List Node} {d : List (List Term)} (h : Acc c q d) : ∀ x ∈ q, (ar x).isSome = true := by
  induction h with
  | leaf _ _ ha _ => intro x hx; rw [List.mem_singleton.1 hx, ha]; rfl
  | split _ _ ha _ _ _ _ _ i1 i2 =>
    intro x hx
    rcases List.mem_cons.1 hx with rfl | hx
    · rw [ha]; rfl
    · rcases List.mem_append.1 hx with hx | hx
      · exact i1 x hx
      · exact i2 x hx
  | tight _ _ ha _ _ _ _ _ i1 =>
    intro x hx
    rcases List.mem_cons.1 hx with rfl | hx
    · rw [ha]; rfl
    · exact i1 x hx
theorem Acc.fact {c : List Term} {q : List Node} {d : List (List Term)} (h : Acc c q d) : ∀ x ∈ q, x.Kind = 3 → 0 ≤ x.Fact ∧ x.Fact ≤ 19 := by
  intro x hx hk
  obtain ⟨a, ha⟩ := Option.isSome_iff_exists.1 (h.valid x hx)
  rcases ar_cases ha with ⟨h1, _⟩ | ⟨h1, _⟩ | ⟨_, _, h2, h3⟩
  · omega
  · omega
  · exact ⟨h2, h3⟩
theorem Acc.psmall {c : List Term} {q : List Node} {d : List (List Term)} (h : Acc c q d) (hl : q.length ≤ 1000) : pc_NodeS q ≤ 1048576 := by
  have := nodes_small h.valid; omega
def shiftF (n : Nat) (k : Int) (i : Int) : Int := if i < (n : Int) then i else i + k
theorem rel_shift (l m : List Term) (a : Term) : Rel (shiftF l.length (m.length : Int)) (m.length : Int) (l ++ [a]) (l ++ (m ++ [a])) where
  len := by simp; omega
  at_ := fun i hi => by
    rw [List.length_append, List.length_singleton] at hi
    right
    unfold shiftF
    by_cases e1 : i < l.length
    · exact ⟨i, by rw [if_pos (by omega)], by simp; omega, by rw [List.getElem?_append_left e1, List.getElem?_append_left e1]⟩
    · obtain rfl : i = l.length := by omega
      refine ⟨l.length + m.length, by rw [if_neg (by omega)]; simp, by simp, ?_⟩
      rw [List.getElem?_append_right (by omega), List.getElem?_append_right (by omega), List.getElem?_append_right (Nat.le_refl _), Nat.add_sub_cancel_left, Nat.sub_self, Nat.sub_self]
  inj := fun i i' _ _ _ he => by
    unfold shiftF at he
    repeat' split at he
    all_goals omega
  far := fun i hi => by
    rw [List.length_append, List.length_singleton] at hi
    unfold shiftF
    rw [if_neg (by omega)]
theorem w64_s {x k : Int} (h0 : 0 ≤ x) (h1 : x ≤ 1000) (h2 : 0 ≤ k) (h3 : k ≤ 1000) : w64 (x + k) = x + k := w64_eq ⟨by omega, by omega⟩
theorem used_pos {f : Int → Int} (hf : ∀ i : Int, 0 ≤ i → 0 ≤ f i) {c : List Term} {q : List Node} {d : List (List Term)} (h : Acc c q d) : ∀ x ∈ q, Used f x := fun x hx =>
  ⟨fun hk => hf _ (h.fact x hx hk).1, fun _ i hi => absurd hi (by have := hf (i : Int) (by omega); omega)⟩
theorem shiftF_pos (n : Nat) (k : Int) (hk : 0 ≤ k) (i : Int) (h : 0 ≤ i) : 0 ≤ shiftF n k i := by unfold shiftF; split <;> omega
end Go.Mod
