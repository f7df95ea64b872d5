import Derived.Test.YtpphpgkimfejpaaGc
namespace Go.Mod
open Go.AM
set_option linter.unusedVariables false
structure l00Src where
  code : List Int
  at_ : Int
  seed : Int
  deriving DecidableEq, Inhabited
structure Term where
  Const : Int
  Coeffs : List Int
  deriving DecidableEq, Inhabited
structure combination where
  term : Term
  by_ : List Int
  deriving DecidableEq, Inhabited
structure l06Row where
  c : Int
  list : List Int
  times : List Int
  deriving DecidableEq, Inhabited
structure Sequent where
  Facts : List Term
  Goal : Term
  deriving DecidableEq, Inhabited
def k_u8 (x : Int) : Prop := 0 ≤ x ∧ x ≤ 255
def kLa_u8 (x : List Int) : Prop := x.length ≤ 9223372036854775807 ∧ ∀ y ∈ x, k_u8 y
noncomputable def m_laws_b10Long (p0 : List Int) (p1 : List Int) : Option Bool :=
  some ((decide ((1048576 : Int) < (p0.length : Int))) || (decide ((1048576 : Int) < (p1.length : Int))))
noncomputable def m_spec_l00From (p0 : List Int) : Option l00Src :=
  some (l00Src.mk p0 (0 : Int) (0 : Int))
noncomputable def m_spec_l00Src_next_J0 (p0 : l00Src) (j0 : Int) : Option (Int × l00Src) :=
  bif (decide ((w64 (p0.at_ + (1 : Int))) ≤ (p0.code.length : Int))) then
    some (j0, (l00Src.mk p0.code (w64 (p0.at_ + (1 : Int))) (wu 64 ((wu 64 ((wu 64 (p0.seed * (6364136223846793005 : Int))) + (wu 64 j0))) + (1442695040888963407 : Int)))))
  else
    some ((w64 (andU 64 (Int.fdiv (wu 64 ((wu 64 ((wu 64 (p0.seed * (6364136223846793005 : Int))) + (wu 64 j0))) + (1442695040888963407 : Int))) (2 ^ 40)) (255 : Int))), (l00Src.mk p0.code (w64 (p0.at_ + (1 : Int))) (wu 64 ((wu 64 ((wu 64 (p0.seed * (6364136223846793005 : Int))) + (wu 64 j0))) + (1442695040888963407 : Int)))))
noncomputable def m_spec_l00Src_next (p0 : l00Src) : Option (Int × l00Src) :=
  bif (decide (p0.at_ < (p0.code.length : Int))) then
    (getI p0.code p0.at_).bind fun (x22 : Int) =>
    m_spec_l00Src_next_J0 p0 (w64 x22)
  else
    m_spec_l00Src_next_J0 p0 (0 : Int)
noncomputable def m_spec_l00Src_pick (p0 : l00Src) (p1 : Int) : Option (Int × l00Src) :=
  bif (decide (p1 ≤ (1 : Int))) then
    some ((0 : Int), p0)
  else
    (m_spec_l00Src_next p0).bind fun (r9 : Int × l00Src) =>
    bif (decide ((200 : Int) < p1)) then
      (m_spec_l00Src_next r9.2).bind fun (r15 : Int × l00Src) =>
      (remI (w64 ((w64 (r9.1 * (256 : Int))) + r15.1)) p1).bind fun (q19 : Int) =>
      some (q19, r15.2)
    else
      (remI r9.1 p1).bind fun (q19 : Int) =>
      some (q19, r9.2)
noncomputable def m_spec_l00Own (p0 : List Int) : Option (List Int) :=
  (capI (([] : List Int).length + p0.length) 8).bind fun (q5 : Unit) =>
  some (([] : List Int) ++ p0)
noncomputable def m_spec_l00In (p0 : Int) (p1 : Int) (p2 : Int) : Option Bool :=
  some ((decide (p1 ≤ p0)) && (decide (p0 ≤ p2)))
noncomputable def m_spec_l02Number (p0 : Int) : Option Bool :=
  (m_spec_l00In p0 (-1000000 : Int) (1000000 : Int)).bind fun (r4 : Bool) =>
  some r4
noncomputable def m_spec_l02Is_L0 (p0 : Term) (s0 : Int) : Option (Ctl Int (Unit ⊕ Bool)) :=
  bif (decide (s0 < (p0.Coeffs.length : Int))) then
    (getI p0.Coeffs s0).bind fun (x45 : Int) =>
    (m_spec_l02Number x45).bind fun (r47 : Bool) =>
    bif (!r47) then
      some (.out (.inr false))
    else
      some (.next (w64 (s0 + (1 : Int))))
  else
    some (.out (.inl ()))
noncomputable def m_spec_l02Is_A0 (u0 : Unit ⊕ Bool) : Option Bool :=
  match u0 with
  | .inl u0 =>
    some true
  | .inr u0 =>
    some u0
noncomputable def m_spec_l02Is_J0 (p0 : Term) (j0 : Unit) : Option Bool :=
  (iter (m_spec_l02Is_L0 p0) (0 : Int)).bind fun (u0 : Unit ⊕ Bool) =>
  m_spec_l02Is_A0 u0
noncomputable def m_spec_l02Is (p0 : Term) : Option Bool :=
  (m_spec_l02Number p0.Const).bind fun (r14 : Bool) =>
  bif ((!r14) || (decide ((10 : Int) < (p0.Coeffs.length : Int)))) then
    some false
  else
    bif (decide ((0 : Int) < (p0.Coeffs.length : Int))) then
      (getI p0.Coeffs (w64 ((p0.Coeffs.length : Int) - (1 : Int)))).bind fun (x30 : Int) =>
      bif (decide (x30 = (0 : Int))) then
        some false
      else
        m_spec_l02Is_J0 p0 ()
    else
      m_spec_l02Is_J0 p0 ()
noncomputable def m_spec_l02Make_L0 (p1 : List Int) (s0 : Int) : Option (Ctl Int Int) :=
  bif (decide ((0 : Int) < s0)) then
    (getI p1 (w64 (s0 - (1 : Int)))).bind fun (x16 : Int) =>
    bif (decide (x16 = (0 : Int))) then
      some (.next (w64 (s0 - (1 : Int))))
    else
      some (.out s0)
  else
    some (.out s0)
noncomputable def m_spec_l02Make_A0 (p0 : Int) (p1 : List Int) (u0 : Int) : Option (Term × Bool) :=
  (sliceI p1 (0 : Int) u0).bind fun (y25 : List Int) =>
  (m_spec_l00Own y25).bind fun (r26 : List Int) =>
  (m_spec_l02Is (Term.mk p0 r26)).bind fun (r28 : Bool) =>
  bif (!r28) then
    some ((Term.mk (0 : Int) ([] : List Int)), false)
  else
    some ((Term.mk p0 r26), true)
noncomputable def m_spec_l02Make (p0 : Int) (p1 : List Int) : Option (Term × Bool) :=
  (iter (m_spec_l02Make_L0 p1) (p1.length : Int)).bind fun (u0 : Int) =>
  m_spec_l02Make_A0 p0 p1 u0
noncomputable def m_spec_l00Src_one (p0 : l00Src) (p1 : Int) : Option (Bool × l00Src) :=
  (m_spec_l00Src_pick p0 p1).bind fun (r7 : Int × l00Src) =>
  some ((decide (r7.1 = (0 : Int))), r7.2)
noncomputable def m_spec_l02Coeff (p0 : Term) (p1 : Int) : Option Int :=
  bif (decide (p1 < (p0.Coeffs.length : Int))) then
    (getI p0.Coeffs p1).bind fun (x17 : Int) =>
    some x17
  else
    some (0 : Int)
noncomputable def m_spec_l02Sum_L0 (p0 : Term) (p1 : Int) (p2 : Term) (p3 : Int) (s0 : (List Int) × Int) : Option (Ctl ((List Int) × Int) ((List Int))) :=
  bif (decide (s0.2 < (10 : Int))) then
    (m_spec_l02Coeff p0 s0.2).bind fun (r21 : Int) =>
    (m_spec_l02Coeff p2 s0.2).bind fun (r26 : Int) =>
    (capI (s0.1.length + [(w64 ((w64 (p1 * r21)) + (w64 (p3 * r26))))].length) 8).bind fun (q30 : Unit) =>
    some (.next ((s0.1 ++ [(w64 ((w64 (p1 * r21)) + (w64 (p3 * r26))))]), (w64 (s0.2 + (1 : Int)))))
  else
    some (.out s0.1)
noncomputable def m_spec_l02Sum_A0 (p0 : Term) (p1 : Int) (p2 : Term) (p3 : Int) (u0 : (List Int)) : Option (Term × Bool) :=
  (m_spec_l02Make (w64 ((w64 (p1 * p0.Const)) + (w64 (p3 * p2.Const)))) u0).bind fun (r45 : Term × Bool) =>
  some (r45.1, r45.2)
noncomputable def m_spec_l02Sum (p0 : Term) (p1 : Int) (p2 : Term) (p3 : Int) : Option (Term × Bool) :=
  (iter (m_spec_l02Sum_L0 p0 p1 p2 p3) (([] : List Int), (0 : Int))).bind fun (u0 : (List Int)) =>
  m_spec_l02Sum_A0 p0 p1 p2 p3 u0
noncomputable def m_spec_l02Opposite (p0 : Term) : Option (Term × Bool) :=
  (m_spec_l02Sum p0 (-1 : Int) (Term.mk (1 : Int) ([] : List Int)) (-1 : Int)).bind fun (r7 : Term × Bool) =>
  some (r7.1, r7.2)
noncomputable def m_spec_B10Facts_L1 (s1 : (List Int) × Int × Int × (List Int) × Int) : Option (Ctl ((List Int) × Int × Int × (List Int) × Int) (((List Int) × Int × Int × (List Int)))) :=
  bif (decide ((0 : Int) < s1.2.2.2.2)) then
    (m_spec_l00Src_pick (l00Src.mk s1.1 s1.2.1 s1.2.2.1) (7 : Int)).bind fun (r29 : Int × l00Src) =>
    (capI (s1.2.2.2.1.length + [(w64 (r29.1 - (3 : Int)))].length) 8).bind fun (q32 : Unit) =>
    some (.next (r29.2.code, r29.2.at_, r29.2.seed, (s1.2.2.2.1 ++ [(w64 (r29.1 - (3 : Int)))]), (w64 (s1.2.2.2.2 - (1 : Int)))))
  else
    some (.out (s1.1, s1.2.1, s1.2.2.1, s1.2.2.2.1))
noncomputable def m_spec_B10Facts_J0 (s0 : (List Int) × Int × Int × (List Term) × Int) (r38 : Term × Bool) (j0 : (List Int) × Int × Int × Bool) : Option (Ctl ((List Int) × Int × Int × (List Term) × Int) ((List Term))) :=
  bif j0.2.2.2 then
    (m_spec_l00Src_pick (l00Src.mk j0.1 j0.2.1 j0.2.2.1) (s0.2.2.2.1.length : Int)).bind fun (r53 : Int × l00Src) =>
    (getI s0.2.2.2.1 r53.1).bind fun (x54 : Term) =>
    (m_spec_l02Opposite x54).bind fun (r55 : Term × Bool) =>
    (m_spec_l00Src_pick r53.2 (7 : Int)).bind fun (r61 : Int × l00Src) =>
    (capI (s0.2.2.2.1.length + [(Term.mk (w64 (r55.1.Const + r61.1)) r55.1.Coeffs)].length) 32).bind fun (q67 : Unit) =>
    some (.next (r61.2.code, r61.2.at_, r61.2.seed, (s0.2.2.2.1 ++ [(Term.mk (w64 (r55.1.Const + r61.1)) r55.1.Coeffs)]), (w64 (s0.2.2.2.2 - (1 : Int)))))
  else
    (capI (s0.2.2.2.1.length + [r38.1].length) 32).bind fun (q67 : Unit) =>
    some (.next (j0.1, j0.2.1, j0.2.2.1, (s0.2.2.2.1 ++ [r38.1]), (w64 (s0.2.2.2.2 - (1 : Int)))))
noncomputable def m_spec_B10Facts_A1 (s0 : (List Int) × Int × Int × (List Term) × Int) (u1 : ((List Int) × Int × Int × (List Int))) : Option (Ctl ((List Int) × Int × Int × (List Term) × Int) ((List Term))) :=
  (m_spec_l00Src_pick (l00Src.mk u1.1 u1.2.1 u1.2.2.1) (9 : Int)).bind fun (r35 : Int × l00Src) =>
  (m_spec_l02Make (w64 (r35.1 - (3 : Int))) u1.2.2.2).bind fun (r38 : Term × Bool) =>
  bif (decide ((0 : Int) < (s0.2.2.2.1.length : Int))) then
    (m_spec_l00Src_one r35.2 (3 : Int)).bind fun (r46 : Bool × l00Src) =>
    m_spec_B10Facts_J0 s0 r38 (r46.2.code, r46.2.at_, r46.2.seed, r46.1)
  else
    m_spec_B10Facts_J0 s0 r38 (r35.2.code, r35.2.at_, r35.2.seed, false)
noncomputable def m_spec_B10Facts_L0 (s0 : (List Int) × Int × Int × (List Term) × Int) : Option (Ctl ((List Int) × Int × Int × (List Term) × Int) ((List Term))) :=
  bif (decide ((0 : Int) < s0.2.2.2.2)) then
    (m_spec_l00Src_pick (l00Src.mk s0.1 s0.2.1 s0.2.2.1) (4 : Int)).bind fun (r22 : Int × l00Src) =>
    (iter (m_spec_B10Facts_L1) (r22.2.code, r22.2.at_, r22.2.seed, ([] : List Int), r22.1)).bind fun (u1 : ((List Int) × Int × Int × (List Int))) =>
    m_spec_B10Facts_A1 s0 u1
  else
    some (.out s0.2.2.2.1)
noncomputable def m_spec_B10Facts_A0 (u0 : (List Term)) : Option (List Term) :=
  some u0
noncomputable def m_spec_B10Facts (p0 : List Int) : Option (List Term) :=
  (m_spec_l00From p0).bind fun (r11 : l00Src) =>
  (m_spec_l00Src_pick r11 (5 : Int)).bind fun (r14 : Int × l00Src) =>
  (iter (m_spec_B10Facts_L0) (r14.2.code, r14.2.at_, r14.2.seed, ([] : List Term), (w64 ((1 : Int) + r14.1)))).bind fun (u0 : (List Term)) =>
  m_spec_B10Facts_A0 u0
noncomputable def m_spec_B10Values_L0 (s0 : (List Int) × Int × Int × (List Int) × Int) : Option (Ctl ((List Int) × Int × Int × (List Int) × Int) ((List Int))) :=
  bif (decide (s0.2.2.2.2 < (10 : Int))) then
    (m_spec_l00Src_pick (l00Src.mk s0.1 s0.2.1 s0.2.2.1) (13 : Int)).bind fun (r15 : Int × l00Src) =>
    (capI (s0.2.2.2.1.length + [(w64 (r15.1 - (6 : Int)))].length) 8).bind fun (q18 : Unit) =>
    some (.next (r15.2.code, r15.2.at_, r15.2.seed, (s0.2.2.2.1 ++ [(w64 (r15.1 - (6 : Int)))]), (w64 (s0.2.2.2.2 + (1 : Int)))))
  else
    some (.out s0.2.2.2.1)
noncomputable def m_spec_B10Values_A0 (u0 : (List Int)) : Option (List Int) :=
  some u0
noncomputable def m_spec_B10Values (p0 : List Int) : Option (List Int) :=
  (m_spec_l00From p0).bind fun (r7 : l00Src) =>
  (iter (m_spec_B10Values_L0) (r7.code, r7.at_, r7.seed, ([] : List Int), (0 : Int))).bind fun (u0 : (List Int)) =>
  m_spec_B10Values_A0 u0
noncomputable def m_impl_within (p0 : Int) (p1 : Int) (p2 : Int) : Option Bool :=
  some ((decide (p1 ≤ p0)) && (decide (p0 ≤ p2)))
noncomputable def m_impl_isCoeff (p0 : Int) : Option Bool :=
  (m_impl_within p0 (-1000000 : Int) (1000000 : Int)).bind fun (r4 : Bool) =>
  some r4
noncomputable def m_impl_allWithin_L0 (p1 : Int) (p2 : Int) (n0 : Nat) (x0 : Int) (s0 : Unit) : Option (Ctl Unit (Unit ⊕ Bool)) :=
  (m_impl_within x0 p1 p2).bind fun (r18 : Bool) =>
  bif (!r18) then
    some (.out (.inr false))
  else
    some (.next ())
noncomputable def m_impl_allWithin_A0 (u0 : Unit ⊕ Bool) : Option Bool :=
  match u0 with
  | .inl u0 =>
    some true
  | .inr u0 =>
    some u0
noncomputable def m_impl_allWithin (p0 : List Int) (p1 : Int) (p2 : Int) : Option Bool :=
  (forL (m_impl_allWithin_L0 p1 p2) (fun s0 => (.inl ())) 0 p0 ()).bind fun (u0 : Unit ⊕ Bool) =>
  m_impl_allWithin_A0 u0
noncomputable def m_impl_ValidTerm (p0 : Term) : Option Bool :=
  bif (decide ((p0.Coeffs.length : Int) ≤ (10 : Int))) then
    (m_impl_isCoeff p0.Const).bind fun (r12 : Bool) =>
    bif r12 then
      (m_impl_allWithin p0.Coeffs (-1000000 : Int) (1000000 : Int)).bind fun (r17 : Bool) =>
      bif r17 then
        bif (decide ((p0.Coeffs.length : Int) = (0 : Int))) then
          some true
        else
          (getI p0.Coeffs (w64 ((p0.Coeffs.length : Int) - (1 : Int)))).bind fun (x27 : Int) =>
          some (!decide (x27 = (0 : Int)))
      else
        some false
    else
      some false
  else
    some false
noncomputable def m_impl_areTerms_L0 (n0 : Nat) (x0 : Term) (s0 : Unit) : Option (Ctl Unit (Unit ⊕ Bool)) :=
  (m_impl_ValidTerm x0).bind fun (r18 : Bool) =>
  bif (!r18) then
    some (.out (.inr false))
  else
    some (.next ())
noncomputable def m_impl_areTerms_A0 (u0 : Unit ⊕ Bool) : Option Bool :=
  match u0 with
  | .inl u0 =>
    some true
  | .inr u0 =>
    some u0
noncomputable def m_impl_areTerms (p0 : List Term) (p1 : Int) : Option Bool :=
  bif (decide (p1 < (p0.length : Int))) then
    some false
  else
    (forL (m_impl_areTerms_L0) (fun s0 => (.inl ())) 0 p0 ()).bind fun (u0 : Unit ⊕ Bool) =>
    m_impl_areTerms_A0 u0
noncomputable def m_impl_ValidFacts (p0 : List Term) : Option Bool :=
  (m_impl_areTerms p0 (14 : Int)).bind fun (r4 : Bool) =>
  some r4
noncomputable def m_impl_allSymbols_L0 (p0 : Int) (s0 : (List Int) × Int) : Option (Ctl ((List Int) × Int) ((List Int))) :=
  bif (decide (s0.2 < p0)) then
    (capI (s0.1.length + [s0.2].length) 8).bind fun (q12 : Unit) =>
    some (.next ((s0.1 ++ [s0.2]), (w64 (s0.2 + (1 : Int)))))
  else
    some (.out s0.1)
noncomputable def m_impl_allSymbols_A0 (u0 : (List Int)) : Option (List Int) :=
  some u0
noncomputable def m_impl_allSymbols (p0 : Int) : Option (List Int) :=
  (iter (m_impl_allSymbols_L0 p0) (([] : List Int), (0 : Int))).bind fun (u0 : (List Int)) =>
  m_impl_allSymbols_A0 u0
noncomputable def m_impl_Term_coeff (p0 : Term) (p1 : Int) : Option Int :=
  bif (decide (p1 < (p0.Coeffs.length : Int))) then
    (getI p0.Coeffs p1).bind fun (x13 : Int) =>
    some x13
  else
    some (0 : Int)
noncomputable def m_impl_absolute (p0 : Int) : Option Int :=
  some (max p0 (w64 (0 - p0)))
noncomputable def m_impl_gcd_L1 (s1 : Int × Int) : Option (Ctl (Int × Int) Int) :=
  bif (!decide (s1.2 = (0 : Int))) then
    (remI s1.1 s1.2).bind fun (q22 : Int) =>
    some (.next (s1.2, q22))
  else
    some (.out s1.1)
noncomputable def m_impl_gcd_A1 (u1 : Int) : Option (Ctl Int Int) :=
  some (.next u1)
noncomputable def m_impl_gcd_L0 (n0 : Nat) (x0 : Int) (s0 : Int) : Option (Ctl Int Int) :=
  (m_impl_absolute x0).bind fun (r16 : Int) =>
  (iter (m_impl_gcd_L1) (s0, r16)).bind fun (u1 : Int) =>
  m_impl_gcd_A1 u1
noncomputable def m_impl_gcd_A0 (u0 : Int) : Option Int :=
  some u0
noncomputable def m_impl_gcd (p0 : List Int) : Option Int :=
  (forL (m_impl_gcd_L0) (fun s0 => s0) 0 p0 (0 : Int)).bind fun (u0 : Int) =>
  m_impl_gcd_A0 u0
noncomputable def m_impl_Term_trimmed_L0 (p0 : Term) (s0 : Int) : Option (Ctl Int Int) :=
  bif (decide ((0 : Int) < s0)) then
    (getI p0.Coeffs (w64 (s0 - (1 : Int)))).bind fun (x14 : Int) =>
    bif (decide (x14 = (0 : Int))) then
      some (.next (w64 (s0 - (1 : Int))))
    else
      some (.out s0)
  else
    some (.out s0)
noncomputable def m_impl_Term_trimmed_A0 (p0 : Term) (u0 : Int) : Option Term :=
  (sliceI p0.Coeffs (0 : Int) u0).bind fun (y23 : List Int) =>
  some (Term.mk p0.Const y23)
noncomputable def m_impl_Term_trimmed (p0 : Term) : Option Term :=
  (iter (m_impl_Term_trimmed_L0 p0) (p0.Coeffs.length : Int)).bind fun (u0 : Int) =>
  m_impl_Term_trimmed_A0 p0 u0
noncomputable def m_impl_combined_L1 (x23 : Int) (n1 : Nat) (x1 : Int) (s1 : List Int) : Option (Ctl (List Int) ((List Int))) :=
  (getI s1 (n1 : Int)).bind fun (x41 : Int) =>
  some (.next (s1.set (((n1 : Int)).toNat) (w64 (x41 + (w64 (x23 * x1))))))
noncomputable def m_impl_combined_A1 (s0 : Int × (List Int)) (x0 : Term) (x23 : Int) (u1 : (List Int)) : Option (Ctl (Int × (List Int)) ((Int × (List Int)))) :=
  some (.next ((w64 (s0.1 + (w64 (x23 * x0.Const)))), u1))
noncomputable def m_impl_combined_L0 (p1 : List Int) (n0 : Nat) (x0 : Term) (s0 : Int × (List Int)) : Option (Ctl (Int × (List Int)) ((Int × (List Int)))) :=
  (getI p1 (n0 : Int)).bind fun (x23 : Int) =>
  (forL (m_impl_combined_L1 x23) (fun s1 => s1) 0 x0.Coeffs s0.2).bind fun (u1 : (List Int)) =>
  m_impl_combined_A1 s0 x0 x23 u1
noncomputable def m_impl_combined_A0 (u0 : (Int × (List Int))) : Option Term :=
  (m_impl_Term_trimmed (Term.mk u0.1 u0.2)).bind fun (r54 : Term) =>
  some r54
noncomputable def m_impl_combined (p0 : List Term) (p1 : List Int) : Option Term :=
  (makeI (10 : Int) 8).bind fun (k10 : Nat) =>
  (forL (m_impl_combined_L0 p1) (fun s0 => (s0.1, s0.2)) 0 p0 ((0 : Int), (List.replicate k10 (0 : Int)))).bind fun (u0 : (Int × (List Int))) =>
  m_impl_combined_A0 u0
noncomputable def m_impl_cancelled_L0 (p1 : combination) (q31 : Int) (q34 : Int) (n0 : Nat) (x0 : Int) (s0 : List Int) : Option (Ctl (List Int) ((List Int))) :=
  (getI p1.by_ (n0 : Int)).bind fun (x62 : Int) =>
  (capI (s0.length + [(w64 ((w64 (q34 * x0)) + (w64 (q31 * x62))))].length) 8).bind fun (q67 : Unit) =>
  some (.next (s0 ++ [(w64 ((w64 (q34 * x0)) + (w64 (q31 * x62))))]))
noncomputable def m_impl_cancelled_L1 (r43 : Term) (r77 : Int) (s1 : (List Int) × Int) : Option (Ctl ((List Int) × Int) ((List Int))) :=
  bif (decide (s1.2 < (r43.Coeffs.length : Int))) then
    (getI s1.1 s1.2).bind fun (x92 : Int) =>
    (quoI x92 r77).bind fun (q95 : Int) =>
    some (.next ((s1.1.set ((s1.2).toNat) q95), (w64 (s1.2 + (1 : Int)))))
  else
    some (.out s1.1)
noncomputable def m_impl_cancelled_L2 (u0 : List Int) (r77 : Int) (s2 : (List Int) × Int) : Option (Ctl ((List Int) × Int) ((List Int))) :=
  bif (decide (s2.2 < (u0.length : Int))) then
    (getI s2.1 s2.2).bind fun (x105 : Int) =>
    (quoI x105 r77).bind fun (q108 : Int) =>
    some (.next ((s2.1.set ((s2.2).toNat) q108), (w64 (s2.2 + (1 : Int)))))
  else
    some (.out s2.1)
noncomputable def m_impl_cancelled_A2 (q81 : Int) (u1 : List Int) (u2 : (List Int)) : Option (combination × Bool) :=
  (m_impl_ValidTerm (Term.mk q81 u1)).bind fun (r115 : Bool) =>
  bif r115 then
    (m_impl_allWithin u2 (-1000000 : Int) (1000000 : Int)).bind fun (r118 : Bool) =>
    some ((combination.mk (Term.mk q81 u1) u2), r118)
  else
    some ((combination.mk (Term.mk q81 u1) u2), false)
noncomputable def m_impl_cancelled_A1 (u0 : List Int) (r77 : Int) (q81 : Int) (u1 : (List Int)) : Option (combination × Bool) :=
  (iter (m_impl_cancelled_L2 u0 r77) (u0, (0 : Int))).bind fun (u2 : (List Int)) =>
  m_impl_cancelled_A2 q81 u1 u2
noncomputable def m_impl_cancelled_A0 (r43 : Term) (u0 : (List Int)) : Option (combination × Bool) :=
  (capI ([r43.Const].length + r43.Coeffs.length) 8).bind fun (q74 : Unit) =>
  (capI (([r43.Const] ++ r43.Coeffs).length + u0.length) 8).bind fun (q76 : Unit) =>
  (m_impl_gcd (([r43.Const] ++ r43.Coeffs) ++ u0)).bind fun (r77 : Int) =>
  (quoI r43.Const r77).bind fun (q81 : Int) =>
  (iter (m_impl_cancelled_L1 r43 r77) (r43.Coeffs, (0 : Int))).bind fun (u1 : (List Int)) =>
  m_impl_cancelled_A1 u0 r77 q81 u1
noncomputable def m_impl_cancelled (p0 : combination) (p1 : combination) (p2 : Int) : Option (combination × Bool) :=
  (m_impl_Term_coeff p0.term p2).bind fun (r19 : Int) =>
  (m_impl_Term_coeff p1.term p2).bind fun (r23 : Int) =>
  (m_impl_gcd [r19, (w64 (0 - r23))]).bind fun (r28 : Int) =>
  (quoI r19 r28).bind fun (q31 : Int) =>
  (quoI (w64 (0 - r23)) r28).bind fun (q34 : Int) =>
  (m_impl_combined [p0.term, p1.term] [q34, q31]).bind fun (r43 : Term) =>
  (forL (m_impl_cancelled_L0 p1 q31 q34) (fun s0 => s0) 0 p0.by_ ([] : List Int)).bind fun (u0 : (List Int)) =>
  m_impl_cancelled_A0 r43 u0
noncomputable def m_impl_eliminated_L0 (p0 : List Term) (n0 : Nat) (x0 : Term) (s0 : List combination) : Option (Ctl (List combination) ((List combination))) :=
  (makeI (p0.length : Int) 8).bind fun (k32 : Nat) =>
  (getI (List.replicate k32 (0 : Int)) (n0 : Int)).bind fun (x35 : Int) =>
  (capI (s0.length + [(combination.mk x0 ((List.replicate k32 (0 : Int)).set (((n0 : Int)).toNat) (1 : Int)))].length) 56).bind fun (q41 : Unit) =>
  some (.next (s0 ++ [(combination.mk x0 ((List.replicate k32 (0 : Int)).set (((n0 : Int)).toNat) (1 : Int)))]))
noncomputable def m_impl_eliminated_L2 (x1 : Int) (n2 : Nat) (x2 : combination) (s2 : List combination) : Option (Ctl (List combination) ((List combination))) :=
  (m_impl_Term_coeff x2.term x1).bind fun (r58 : Int) =>
  bif (decide (r58 = (0 : Int))) then
    (capI (s2.length + [x2].length) 56).bind fun (q63 : Unit) =>
    some (.next (s2 ++ [x2]))
  else
    some (.next s2)
noncomputable def m_impl_eliminated_L4 (x1 : Int) (x3 : combination) (n4 : Nat) (x4 : combination) (s4 : (List combination) × (List combination)) : Option (Ctl ((List combination) × (List combination)) (((List combination) × (List combination)) ⊕ ((List combination) × (List combination) × Bool))) :=
  (m_impl_Term_coeff x3.term x1).bind fun (r80 : Int) =>
  bif (decide (r80 ≤ (0 : Int))) then
    some (.next (s4.1, s4.2))
  else
    (m_impl_Term_coeff x4.term x1).bind fun (r86 : Int) =>
    bif (decide ((0 : Int) ≤ r86)) then
      some (.next (s4.1, s4.2))
    else
      (m_impl_cancelled x3 x4 x1).bind fun (r93 : combination × Bool) =>
      bif ((!r93.2) || (decide ((s4.2.length : Int) = (60 : Int)))) then
        some (.out (.inr (([] : List combination), ([] : List combination), false)))
      else
        (capI (s4.2.length + [r93.1].length) 56).bind fun (q106 : Unit) =>
        (capI (s4.1.length + [r93.1].length) 56).bind fun (q110 : Unit) =>
        some (.next ((s4.1 ++ [r93.1]), (s4.2 ++ [r93.1])))
noncomputable def m_impl_eliminated_A4 (u4 : ((List combination) × (List combination)) ⊕ ((List combination) × (List combination) × Bool)) : Option (Ctl ((List combination) × (List combination)) (((List combination) × (List combination)) ⊕ ((List combination) × (List combination) × Bool))) :=
  match u4 with
  | .inl u4 =>
    some (.next (u4.1, u4.2))
  | .inr u4 =>
    some (.out (.inr (u4.1, u4.2.1, u4.2.2)))
noncomputable def m_impl_eliminated_L3 (s1 : (List combination) × (List combination)) (x1 : Int) (n3 : Nat) (x3 : combination) (s3 : (List combination) × (List combination)) : Option (Ctl ((List combination) × (List combination)) (((List combination) × (List combination)) ⊕ ((List combination) × (List combination) × Bool))) :=
  (forL (m_impl_eliminated_L4 x1 x3) (fun s4 => (.inl (s4.1, s4.2))) 0 s1.1 (s3.1, s3.2)).bind fun (u4 : ((List combination) × (List combination)) ⊕ ((List combination) × (List combination) × Bool)) =>
  m_impl_eliminated_A4 u4
noncomputable def m_impl_eliminated_A3 (u3 : ((List combination) × (List combination)) ⊕ ((List combination) × (List combination) × Bool)) : Option (Ctl ((List combination) × (List combination)) (((List combination) × (List combination)) ⊕ ((List combination) × (List combination) × Bool))) :=
  match u3 with
  | .inl u3 =>
    bif (decide ((60 : Int) < (u3.2.length : Int))) then
      some (.out (.inr (([] : List combination), ([] : List combination), false)))
    else
      some (.next (u3.2, u3.1))
  | .inr u3 =>
    some (.out (.inr (u3.1, u3.2.1, u3.2.2)))
noncomputable def m_impl_eliminated_A2 (s1 : (List combination) × (List combination)) (x1 : Int) (u2 : (List combination)) : Option (Ctl ((List combination) × (List combination)) (((List combination) × (List combination)) ⊕ ((List combination) × (List combination) × Bool))) :=
  (forL (m_impl_eliminated_L3 s1 x1) (fun s3 => (.inl (s3.1, s3.2))) 0 s1.1 (s1.2, u2)).bind fun (u3 : ((List combination) × (List combination)) ⊕ ((List combination) × (List combination) × Bool)) =>
  m_impl_eliminated_A3 u3
noncomputable def m_impl_eliminated_L1 (n1 : Nat) (x1 : Int) (s1 : (List combination) × (List combination)) : Option (Ctl ((List combination) × (List combination)) (((List combination) × (List combination)) ⊕ ((List combination) × (List combination) × Bool))) :=
  (forL (m_impl_eliminated_L2 x1) (fun s2 => s2) 0 s1.1 ([] : List combination)).bind fun (u2 : (List combination)) =>
  m_impl_eliminated_A2 s1 x1 u2
noncomputable def m_impl_eliminated_A1 (u1 : ((List combination) × (List combination)) ⊕ ((List combination) × (List combination) × Bool)) : Option ((List combination) × (List combination) × Bool) :=
  match u1 with
  | .inl u1 =>
    some (u1.1, u1.2, true)
  | .inr u1 =>
    some (u1.1, u1.2.1, u1.2.2)
noncomputable def m_impl_eliminated_A0 (p1 : List Int) (u0 : (List combination)) : Option ((List combination) × (List combination) × Bool) :=
  (forL (m_impl_eliminated_L1) (fun s1 => (.inl (s1.1, s1.2))) 0 p1 (u0, ([] : List combination))).bind fun (u1 : ((List combination) × (List combination)) ⊕ ((List combination) × (List combination) × Bool)) =>
  m_impl_eliminated_A1 u1
noncomputable def m_impl_eliminated (p0 : List Term) (p1 : List Int) : Option ((List combination) × (List combination) × Bool) :=
  (forL (m_impl_eliminated_L0 p0) (fun s0 => s0) 0 p0 ([] : List combination)).bind fun (u0 : (List combination)) =>
  m_impl_eliminated_A0 p1 u0
noncomputable def m_impl_copyInts (p0 : List Int) : Option (List Int) :=
  (capI (([] : List Int).length + p0.length) 8).bind fun (q5 : Unit) =>
  some (([] : List Int) ++ p0)
noncomputable def m_spec_l02All_L0 (p0 : List Term) (s0 : Int) : Option (Ctl Int (Unit ⊕ Bool)) :=
  bif (decide (s0 < (p0.length : Int))) then
    (getI p0 s0).bind fun (x14 : Term) =>
    (m_spec_l02Is x14).bind fun (r15 : Bool) =>
    bif (!r15) then
      some (.out (.inr false))
    else
      some (.next (w64 (s0 + (1 : Int))))
  else
    some (.out (.inl ()))
noncomputable def m_spec_l02All_A0 (p0 : List Term) (p1 : Int) (u0 : Unit ⊕ Bool) : Option Bool :=
  match u0 with
  | .inl u0 =>
    some (decide ((p0.length : Int) ≤ p1))
  | .inr u0 =>
    some u0
noncomputable def m_spec_l02All (p0 : List Term) (p1 : Int) : Option Bool :=
  (iter (m_spec_l02All_L0 p0) (0 : Int)).bind fun (u0 : Unit ⊕ Bool) =>
  m_spec_l02All_A0 p0 p1 u0
noncomputable def m_spec_l06Rows_L1 (p0 : List Term) (s0 : (List l06Row) × Int) (s1 : (List Int) × Int) : Option (Ctl ((List Int) × Int) ((List Int))) :=
  bif (decide (s1.2 < (10 : Int))) then
    (getI p0 s0.2).bind fun (x31 : Term) =>
    (m_spec_l02Coeff x31 s1.2).bind fun (r33 : Int) =>
    (capI (s1.1.length + [r33].length) 8).bind fun (q35 : Unit) =>
    some (.next ((s1.1 ++ [r33]), (w64 (s1.2 + (1 : Int)))))
  else
    some (.out s1.1)
noncomputable def m_spec_l06Rows_A1 (s0 : (List l06Row) × Int) (j0 : Int × (List Int)) (u1 : (List Int)) : Option (Ctl ((List l06Row) × Int) ((List l06Row))) :=
  (getI j0.2 s0.2).bind fun (x40 : Int) =>
  (capI (s0.1.length + [(l06Row.mk j0.1 u1 (j0.2.set ((s0.2).toNat) (1 : Int)))].length) 56).bind fun (q44 : Unit) =>
  some (.next ((s0.1 ++ [(l06Row.mk j0.1 u1 (j0.2.set ((s0.2).toNat) (1 : Int)))]), (w64 (s0.2 + (1 : Int)))))
noncomputable def m_spec_l06Rows_J0 (p0 : List Term) (s0 : (List l06Row) × Int) (j0 : Int × (List Int)) : Option (Ctl ((List l06Row) × Int) ((List l06Row))) :=
  (iter (m_spec_l06Rows_L1 p0 s0) (([] : List Int), (0 : Int))).bind fun (u1 : (List Int)) =>
  m_spec_l06Rows_A1 s0 j0 u1
noncomputable def m_spec_l06Rows_L0 (p0 : List Term) (s0 : (List l06Row) × Int) : Option (Ctl ((List l06Row) × Int) ((List l06Row))) :=
  bif (decide (s0.2 < (p0.length : Int))) then
    (getI p0 s0.2).bind fun (x16 : Term) =>
    (makeI (p0.length : Int) 8).bind fun (k21 : Nat) =>
    m_spec_l06Rows_J0 p0 s0 (x16.Const, (List.replicate k21 (0 : Int)))
  else
    some (.out s0.1)
noncomputable def m_spec_l06Rows_A0 (u0 : (List l06Row)) : Option (List l06Row) :=
  some u0
noncomputable def m_spec_l06Rows (p0 : List Term) : Option (List l06Row) :=
  (iter (m_spec_l06Rows_L0 p0) (([] : List l06Row), (0 : Int))).bind fun (u0 : (List l06Row)) =>
  m_spec_l06Rows_A0 u0
noncomputable def m_spec_l00Max (p0 : Int) (p1 : Int) : Option Int :=
  bif (decide (p1 < p0)) then
    some p0
  else
    some p1
noncomputable def m_spec_l06Gcd_L0 (s0 : Int × Int) : Option (Ctl (Int × Int) Int) :=
  bif (decide ((0 : Int) < s0.2)) then
    (remI s0.1 s0.2).bind fun (q14 : Int) =>
    some (.next (s0.2, q14))
  else
    some (.out s0.1)
noncomputable def m_spec_l06Gcd_A0 (u0 : Int) : Option Int :=
  some u0
noncomputable def m_spec_l06Gcd (p0 : Int) (p1 : Int) : Option Int :=
  (m_spec_l00Max p1 (w64 (0 - p1))).bind fun (r9 : Int) =>
  (iter (m_spec_l06Gcd_L0) (p0, r9)).bind fun (u0 : Int) =>
  m_spec_l06Gcd_A0 u0
noncomputable def m_spec_l06Mix_J0 (s0 : Int × (List Int) × Int) (j0 : List Int) : Option (Ctl (Int × (List Int) × Int) ((Int × (List Int)))) :=
  (getI j0 s0.2.2).bind fun (x95 : Int) =>
  (m_spec_l06Gcd s0.1 x95).bind fun (r97 : Int) =>
  some (.next (r97, j0, (w64 (s0.2.2 + (1 : Int)))))
noncomputable def m_spec_l06Mix_L0 (p0 : l06Row) (p1 : l06Row) (q37 : Int) (q40 : Int) (s0 : Int × (List Int) × Int) : Option (Ctl (Int × (List Int) × Int) ((Int × (List Int)))) :=
  bif (decide (s0.2.2 < (p0.list.length : Int))) then
    (getI p0.list s0.2.2).bind fun (x75 : Int) =>
    (getI p1.list s0.2.2).bind fun (x84 : Int) =>
    (capI (s0.2.1.length + [(w64 ((w64 (q40 * x75)) + (w64 (q37 * x84))))].length) 8).bind fun (q89 : Unit) =>
    m_spec_l06Mix_J0 s0 (s0.2.1 ++ [(w64 ((w64 (q40 * x75)) + (w64 (q37 * x84))))])
  else
    some (.out (s0.1, s0.2.1))
noncomputable def m_spec_l06Mix_J1 (s1 : Int × (List Int) × Int) (j1 : List Int) : Option (Ctl (Int × (List Int) × Int) ((Int × (List Int)))) :=
  (getI j1 s1.2.2).bind fun (x135 : Int) =>
  (m_spec_l06Gcd s1.1 x135).bind fun (r137 : Int) =>
  some (.next (r137, j1, (w64 (s1.2.2 + (1 : Int)))))
noncomputable def m_spec_l06Mix_L1 (p0 : l06Row) (p1 : l06Row) (q37 : Int) (q40 : Int) (s1 : Int × (List Int) × Int) : Option (Ctl (Int × (List Int) × Int) ((Int × (List Int)))) :=
  bif (decide (s1.2.2 < (p0.times.length : Int))) then
    (getI p0.times s1.2.2).bind fun (x115 : Int) =>
    (getI p1.times s1.2.2).bind fun (x124 : Int) =>
    (capI (s1.2.1.length + [(w64 ((w64 (q40 * x115)) + (w64 (q37 * x124))))].length) 8).bind fun (q129 : Unit) =>
    m_spec_l06Mix_J1 s1 (s1.2.1 ++ [(w64 ((w64 (q40 * x115)) + (w64 (q37 * x124))))])
  else
    some (.out (s1.1, s1.2.1))
noncomputable def m_spec_l06Mix_L2 (u1 : Int × (List Int)) (s2 : (List Int) × Bool × Int) : Option (Ctl ((List Int) × Bool × Int) (((List Int) × Bool))) :=
  bif (decide (s2.2.2 < (s2.1.length : Int))) then
    (getI s2.1 s2.2.2).bind fun (x156 : Int) =>
    (quoI x156 u1.1).bind fun (q159 : Int) =>
    bif s2.2.1 then
      (getI (s2.1.set ((s2.2.2).toNat) q159) s2.2.2).bind fun (x166 : Int) =>
      (m_spec_l02Number x166).bind fun (r168 : Bool) =>
      some (.next ((s2.1.set ((s2.2.2).toNat) q159), r168, (w64 (s2.2.2 + (1 : Int)))))
    else
      some (.next ((s2.1.set ((s2.2.2).toNat) q159), false, (w64 (s2.2.2 + (1 : Int)))))
  else
    some (.out (s2.1, s2.2.1))
noncomputable def m_spec_l06Mix_L3 (u1 : Int × (List Int)) (s3 : (List Int) × Bool × Int) : Option (Ctl ((List Int) × Bool × Int) (((List Int) × Bool))) :=
  bif (decide (s3.2.2 < (s3.1.length : Int))) then
    (getI s3.1 s3.2.2).bind fun (x180 : Int) =>
    (quoI x180 u1.1).bind fun (q183 : Int) =>
    bif s3.2.1 then
      (getI (s3.1.set ((s3.2.2).toNat) q183) s3.2.2).bind fun (x190 : Int) =>
      (m_spec_l02Number x190).bind fun (r192 : Bool) =>
      some (.next ((s3.1.set ((s3.2.2).toNat) q183), r192, (w64 (s3.2.2 + (1 : Int)))))
    else
      some (.next ((s3.1.set ((s3.2.2).toNat) q183), false, (w64 (s3.2.2 + (1 : Int)))))
  else
    some (.out (s3.1, s3.2.1))
noncomputable def m_spec_l06Mix_A3 (q141 : Int) (u2 : (List Int) × Bool) (u3 : ((List Int) × Bool)) : Option (l06Row × Bool) :=
  some ((l06Row.mk q141 u2.1 u3.1), u3.2)
noncomputable def m_spec_l06Mix_A2 (u1 : Int × (List Int)) (q141 : Int) (u2 : ((List Int) × Bool)) : Option (l06Row × Bool) :=
  (iter (m_spec_l06Mix_L3 u1) (u1.2, u2.2, (0 : Int))).bind fun (u3 : ((List Int) × Bool)) =>
  m_spec_l06Mix_A3 q141 u2 u3
noncomputable def m_spec_l06Mix_A1 (p0 : l06Row) (p1 : l06Row) (q37 : Int) (q40 : Int) (u0 : Int × (List Int)) (u1 : (Int × (List Int))) : Option (l06Row × Bool) :=
  (quoI (w64 ((w64 (q40 * p0.c)) + (w64 (q37 * p1.c)))) u1.1).bind fun (q141 : Int) =>
  (m_spec_l02Number q141).bind fun (r145 : Bool) =>
  (iter (m_spec_l06Mix_L2 u1) (u0.2, r145, (0 : Int))).bind fun (u2 : ((List Int) × Bool)) =>
  m_spec_l06Mix_A2 u1 q141 u2
noncomputable def m_spec_l06Mix_A0 (p0 : l06Row) (p1 : l06Row) (q37 : Int) (q40 : Int) (u0 : (Int × (List Int))) : Option (l06Row × Bool) :=
  (iter (m_spec_l06Mix_L1 p0 p1 q37 q40) (u0.1, ([] : List Int), (0 : Int))).bind fun (u1 : (Int × (List Int))) =>
  m_spec_l06Mix_A1 p0 p1 q37 q40 u0 u1
noncomputable def m_spec_l06Mix (p0 : l06Row) (p1 : l06Row) (p2 : Int) : Option (l06Row × Bool) :=
  (getI p0.list p2).bind fun (x22 : Int) =>
  (getI p1.list p2).bind fun (x29 : Int) =>
  (m_spec_l06Gcd x22 (w64 (0 - x29))).bind fun (r34 : Int) =>
  (quoI x22 r34).bind fun (q37 : Int) =>
  (quoI (w64 (0 - x29)) r34).bind fun (q40 : Int) =>
  (m_spec_l06Gcd (0 : Int) (w64 ((w64 (q40 * p0.c)) + (w64 (q37 * p1.c))))).bind fun (r57 : Int) =>
  (iter (m_spec_l06Mix_L0 p0 p1 q37 q40) (r57, ([] : List Int), (0 : Int))).bind fun (u0 : (Int × (List Int))) =>
  m_spec_l06Mix_A0 p0 p1 q37 q40 u0
noncomputable def m_spec_l06Stage_L0 (p0 : List l06Row) (p1 : Int) (s0 : (List l06Row) × Int) : Option (Ctl ((List l06Row) × Int) ((List l06Row))) :=
  bif (decide (s0.2 < (p0.length : Int))) then
    (getI p0 s0.2).bind fun (x23 : l06Row) =>
    (getI x23.list p1).bind fun (x27 : Int) =>
    bif (decide (x27 = (0 : Int))) then
      (capI (s0.1.length + [x23].length) 56).bind fun (q36 : Unit) =>
      some (.next ((s0.1 ++ [x23]), (w64 (s0.2 + (1 : Int)))))
    else
      some (.next (s0.1, (w64 (s0.2 + (1 : Int)))))
  else
    some (.out s0.1)
noncomputable def m_spec_l06Stage_J0 (s2 : (List l06Row) × Int) (j0 : Int × (List Int) × (List Int) × Bool) : Option (Ctl ((List l06Row) × Int) ((List l06Row) ⊕ ((List l06Row) × Int × Bool))) :=
  bif ((!j0.2.2.2) || (decide ((s2.1.length : Int) = (60 : Int)))) then
    some (.out (.inr (([] : List l06Row), (0 : Int), false)))
  else
    (capI (s2.1.length + [(l06Row.mk j0.1 j0.2.1 j0.2.2.1)].length) 56).bind fun (q92 : Unit) =>
    some (.next ((s2.1 ++ [(l06Row.mk j0.1 j0.2.1 j0.2.2.1)]), (w64 (s2.2 + (1 : Int)))))
noncomputable def m_spec_l06Stage_L2 (p0 : List l06Row) (p1 : Int) (s1 : (List l06Row) × Int) (s2 : (List l06Row) × Int) : Option (Ctl ((List l06Row) × Int) ((List l06Row) ⊕ ((List l06Row) × Int × Bool))) :=
  bif (decide (s2.2 < (p0.length : Int))) then
    (getI p0 s1.2).bind fun (x53 : l06Row) =>
    (getI x53.list p1).bind fun (x57 : Int) =>
    bif (decide (x57 ≤ (0 : Int))) then
      some (.next (s2.1, (w64 (s2.2 + (1 : Int)))))
    else
      (getI p0 s2.2).bind fun (x63 : l06Row) =>
      (getI x63.list p1).bind fun (x67 : Int) =>
      bif (decide ((0 : Int) ≤ x67)) then
        some (.next (s2.1, (w64 (s2.2 + (1 : Int)))))
      else
        (m_spec_l06Mix x53 x63 p1).bind fun (r79 : l06Row × Bool) =>
        m_spec_l06Stage_J0 s2 (r79.1.c, r79.1.list, r79.1.times, r79.2)
  else
    some (.out (.inl s2.1))
noncomputable def m_spec_l06Stage_A2 (s1 : (List l06Row) × Int) (u2 : (List l06Row) ⊕ ((List l06Row) × Int × Bool)) : Option (Ctl ((List l06Row) × Int) ((List l06Row) ⊕ ((List l06Row) × Int × Bool))) :=
  match u2 with
  | .inl u2 =>
    some (.next (u2, (w64 (s1.2 + (1 : Int)))))
  | .inr u2 =>
    some (.out (.inr (u2.1, u2.2.1, u2.2.2)))
noncomputable def m_spec_l06Stage_L1 (p0 : List l06Row) (p1 : Int) (s1 : (List l06Row) × Int) : Option (Ctl ((List l06Row) × Int) ((List l06Row) ⊕ ((List l06Row) × Int × Bool))) :=
  bif (decide (s1.2 < (p0.length : Int))) then
    (iter (m_spec_l06Stage_L2 p0 p1 s1) (s1.1, (0 : Int))).bind fun (u2 : (List l06Row) ⊕ ((List l06Row) × Int × Bool)) =>
    m_spec_l06Stage_A2 s1 u2
  else
    some (.out (.inl s1.1))
noncomputable def m_spec_l06Stage_A1 (u0 : List l06Row) (u1 : (List l06Row) ⊕ ((List l06Row) × Int × Bool)) : Option ((List l06Row) × Int × Bool) :=
  match u1 with
  | .inl u1 =>
    some (u1, (u0.length : Int), true)
  | .inr u1 =>
    some (u1.1, u1.2.1, u1.2.2)
noncomputable def m_spec_l06Stage_A0 (p0 : List l06Row) (p1 : Int) (u0 : (List l06Row)) : Option ((List l06Row) × Int × Bool) :=
  (iter (m_spec_l06Stage_L1 p0 p1) (u0, (0 : Int))).bind fun (u1 : (List l06Row) ⊕ ((List l06Row) × Int × Bool)) =>
  m_spec_l06Stage_A1 u0 u1
noncomputable def m_spec_l06Stage (p0 : List l06Row) (p1 : Int) : Option ((List l06Row) × Int × Bool) :=
  (iter (m_spec_l06Stage_L0 p0 p1) (([] : List l06Row), (0 : Int))).bind fun (u0 : (List l06Row)) =>
  m_spec_l06Stage_A0 p0 p1 u0
noncomputable def m_spec_l06Every_L0 (s0 : (List l06Row) × (List l06Row) × Int) : Option (Ctl ((List l06Row) × (List l06Row) × Int) (((List l06Row) × (List l06Row)) ⊕ ((List l06Row) × (List l06Row) × Bool))) :=
  bif (decide (s0.2.2 < (10 : Int))) then
    (m_spec_l06Stage s0.1 s0.2.2).bind fun (r21 : (List l06Row) × Int × Bool) =>
    bif (!r21.2.2) then
      some (.out (.inr (([] : List l06Row), ([] : List l06Row), false)))
    else
      (sliceI r21.1 r21.2.1 (r21.1.length : Int)).bind fun (y30 : List l06Row) =>
      (capI (s0.2.1.length + y30.length) 56).bind fun (q31 : Unit) =>
      some (.next (r21.1, (s0.2.1 ++ y30), (w64 (s0.2.2 + (1 : Int)))))
  else
    some (.out (.inl (s0.1, s0.2.1)))
noncomputable def m_spec_l06Every_A0 (u0 : ((List l06Row) × (List l06Row)) ⊕ ((List l06Row) × (List l06Row) × Bool)) : Option ((List l06Row) × (List l06Row) × Bool) :=
  match u0 with
  | .inl u0 =>
    some (u0.1, u0.2, true)
  | .inr u0 =>
    some (u0.1, u0.2.1, u0.2.2)
noncomputable def m_spec_l06Every (p0 : List Term) : Option ((List l06Row) × (List l06Row) × Bool) :=
  (m_spec_l06Rows p0).bind fun (r12 : List l06Row) =>
  (iter (m_spec_l06Every_L0) (r12, ([] : List l06Row), (0 : Int))).bind fun (u0 : ((List l06Row) × (List l06Row)) ⊕ ((List l06Row) × (List l06Row) × Bool)) =>
  m_spec_l06Every_A0 u0
noncomputable def m_impl_Term_own (p0 : Term) : Option Term :=
  (m_impl_copyInts p0.Coeffs).bind fun (r7 : List Int) =>
  some (Term.mk p0.Const r7)
noncomputable def m_laws_b10Value_L0 (p0 : Term) (p1 : List Int) (s0 : Int × Int) : Option (Ctl (Int × Int) Int) :=
  bif ((decide (s0.2 < (p0.Coeffs.length : Int))) && (decide (s0.2 < (p1.length : Int)))) then
    (getI p0.Coeffs s0.2).bind fun (x26 : Int) =>
    (getI p1 s0.2).bind fun (x30 : Int) =>
    some (.next ((w64 (s0.1 + (w64 (x26 * x30)))), (w64 (s0.2 + (1 : Int)))))
  else
    some (.out s0.1)
noncomputable def m_laws_b10Value_A0 (u0 : Int) : Option Int :=
  some u0
noncomputable def m_laws_b10Value (p0 : Term) (p1 : List Int) : Option Int :=
  (iter (m_laws_b10Value_L0 p0 p1) (p0.Const, (0 : Int))).bind fun (u0 : Int) =>
  m_laws_b10Value_A0 u0
noncomputable def m_laws_b10Hold_L0 (p0 : List Term) (p1 : List Int) (s0 : Int) : Option (Ctl Int (Unit ⊕ Bool)) :=
  bif (decide (s0 < (p0.length : Int))) then
    (getI p0 s0).bind fun (x14 : Term) =>
    (m_laws_b10Value x14 p1).bind fun (r17 : Int) =>
    bif (decide (r17 < (0 : Int))) then
      some (.out (.inr false))
    else
      some (.next (w64 (s0 + (1 : Int))))
  else
    some (.out (.inl ()))
noncomputable def m_laws_b10Hold_A0 (u0 : Unit ⊕ Bool) : Option Bool :=
  match u0 with
  | .inl u0 =>
    some true
  | .inr u0 =>
    some u0
noncomputable def m_laws_b10Hold (p0 : List Term) (p1 : List Int) : Option Bool :=
  (iter (m_laws_b10Hold_L0 p0 p1) (0 : Int)).bind fun (u0 : Unit ⊕ Bool) =>
  m_laws_b10Hold_A0 u0
noncomputable def m_spec_l06Term (p0 : l06Row) : Option Term :=
  (m_spec_l02Make p0.c p0.list).bind fun (r14 : Term × Bool) =>
  some r14.1
noncomputable def m_laws_b10At (p0 : List Int) (p1 : Int) (p2 : Int) : Option Int :=
  bif (decide (p2 ≤ (1 : Int))) then
    some (0 : Int)
  else
    bif (decide (p1 < (p0.length : Int))) then
      (getI p0 p1).bind fun (x15 : Int) =>
      (remI (w64 x15) p2).bind fun (q19 : Int) =>
      some q19
    else
      (remI (w64 ((w64 (p1 * (37 : Int))) + (11 : Int))) p2).bind fun (q24 : Int) =>
      some q24
noncomputable def m_spec_l02Divisor_L1 (s1 : Int × Int) : Option (Ctl (Int × Int) Int) :=
  bif (decide ((0 : Int) < s1.2)) then
    (remI s1.1 s1.2).bind fun (q36 : Int) =>
    some (.next (s1.2, q36))
  else
    some (.out s1.1)
noncomputable def m_spec_l02Divisor_A1 (s0 : Int × Int) (u1 : Int) : Option (Ctl (Int × Int) Int) :=
  some (.next (u1, (w64 (s0.2 + (1 : Int)))))
noncomputable def m_spec_l02Divisor_L0 (p0 : Term) (s0 : Int × Int) : Option (Ctl (Int × Int) Int) :=
  bif (decide (s0.2 < (p0.Coeffs.length : Int))) then
    (getI p0.Coeffs s0.2).bind fun (x21 : Int) =>
    (m_spec_l00Max x21 (w64 (0 - x21))).bind fun (r31 : Int) =>
    (iter (m_spec_l02Divisor_L1) (s0.1, r31)).bind fun (u1 : Int) =>
    m_spec_l02Divisor_A1 s0 u1
  else
    some (.out s0.1)
noncomputable def m_spec_l02Divisor_A0 (u0 : Int) : Option Int :=
  some u0
noncomputable def m_spec_l02Divisor (p0 : Term) : Option Int :=
  (iter (m_spec_l02Divisor_L0 p0) ((0 : Int), (0 : Int))).bind fun (u0 : Int) =>
  m_spec_l02Divisor_A0 u0
noncomputable def m_spec_l02Tight_L0 (p0 : Term) (r9 : Int) (s0 : (List Int) × Int) : Option (Ctl ((List Int) × Int) ((List Int))) :=
  bif (decide (s0.2 < (p0.Coeffs.length : Int))) then
    (getI p0.Coeffs s0.2).bind fun (x29 : Int) =>
    (quoI x29 r9).bind fun (q32 : Int) =>
    (capI (s0.1.length + [q32].length) 8).bind fun (q34 : Unit) =>
    some (.next ((s0.1 ++ [q32]), (w64 (s0.2 + (1 : Int)))))
  else
    some (.out s0.1)
noncomputable def m_spec_l02Tight_J0 (u0 : List Int) (j0 : Int) : Option (Term × Bool) :=
  (m_spec_l02Make j0 u0).bind fun (r52 : Term × Bool) =>
  some (r52.1, r52.2)
noncomputable def m_spec_l02Tight_A0 (p0 : Term) (r9 : Int) (u0 : (List Int)) : Option (Term × Bool) :=
  (quoI p0.Const r9).bind fun (q40 : Int) =>
  (remI p0.Const r9).bind fun (q46 : Int) =>
  bif (decide (q46 < (0 : Int))) then
    m_spec_l02Tight_J0 u0 (w64 (q40 - (1 : Int)))
  else
    m_spec_l02Tight_J0 u0 q40
noncomputable def m_spec_l02Tight (p0 : Term) : Option (Term × Bool) :=
  (m_spec_l02Divisor p0).bind fun (r9 : Int) =>
  bif (decide (r9 < (2 : Int))) then
    some ((Term.mk (0 : Int) ([] : List Int)), false)
  else
    (iter (m_spec_l02Tight_L0 p0 r9) (([] : List Int), (0 : Int))).bind fun (u0 : (List Int)) =>
    m_spec_l02Tight_A0 p0 r9 u0
noncomputable def m_spec_l00Same_L0 (p0 : List Int) (p1 : List Int) (s0 : Int) : Option (Ctl Int (Unit ⊕ Bool)) :=
  bif (decide (s0 < (p0.length : Int))) then
    (getI p0 s0).bind fun (x19 : Int) =>
    (getI p1 s0).bind fun (x23 : Int) =>
    bif (!decide (x19 = x23)) then
      some (.out (.inr false))
    else
      some (.next (w64 (s0 + (1 : Int))))
  else
    some (.out (.inl ()))
noncomputable def m_spec_l00Same_A0 (u0 : Unit ⊕ Bool) : Option Bool :=
  match u0 with
  | .inl u0 =>
    some true
  | .inr u0 =>
    some u0
noncomputable def m_spec_l00Same (p0 : List Int) (p1 : List Int) : Option Bool :=
  bif (!decide ((p0.length : Int) = (p1.length : Int))) then
    some false
  else
    (iter (m_spec_l00Same_L0 p0 p1) (0 : Int)).bind fun (u0 : Unit ⊕ Bool) =>
    m_spec_l00Same_A0 u0
noncomputable def m_spec_l02Same (p0 : Term) (p1 : Term) : Option Bool :=
  bif (decide (p0.Const = p1.Const)) then
    (m_spec_l00Same p0.Coeffs p1.Coeffs).bind fun (r23 : Bool) =>
    some r23
  else
    some false
noncomputable def m_spec_l06Known_L0 (p0 : List Term) (p1 : Term) (s0 : Int) : Option (Ctl Int (Unit ⊕ Bool)) :=
  bif (decide (s0 < (p0.length : Int))) then
    (getI p0 s0).bind fun (x14 : Term) =>
    (m_spec_l02Same x14 p1).bind fun (r16 : Bool) =>
    bif r16 then
      some (.out (.inr true))
    else
      some (.next (w64 (s0 + (1 : Int))))
  else
    some (.out (.inl ()))
noncomputable def m_spec_l06Known_A0 (u0 : Unit ⊕ Bool) : Option Bool :=
  match u0 with
  | .inl u0 =>
    some false
  | .inr u0 =>
    some u0
noncomputable def m_spec_l06Known (p0 : List Term) (p1 : Term) : Option Bool :=
  (iter (m_spec_l06Known_L0 p0 p1) (0 : Int)).bind fun (u0 : Unit ⊕ Bool) =>
  m_spec_l06Known_A0 u0
noncomputable def m_spec_l06Sharper (p0 : List Term) (p1 : Term) : Option (Term × Bool) :=
  (m_spec_l02Divisor p1).bind fun (r10 : Int) =>
  bif (decide (r10 < (2 : Int))) then
    some ((Term.mk (0 : Int) ([] : List Int)), false)
  else
    (remI p1.Const r10).bind fun (q19 : Int) =>
    bif (decide (q19 = (0 : Int))) then
      some ((Term.mk (0 : Int) ([] : List Int)), false)
    else
      (m_spec_l02Tight p1).bind fun (r25 : Term × Bool) =>
      bif r25.2 then
        (m_spec_l06Known p0 r25.1).bind fun (r32 : Bool) =>
        some (r25.1, (!r32))
      else
        some (r25.1, false)
noncomputable def m_spec_l06Cut_L0 (p0 : List Term) (r15 : (List l06Row) × (List l06Row) × Bool) (s0 : Int) : Option (Ctl Int (Unit ⊕ (Int × (List Int) × (List Int) × Int × Bool))) :=
  bif (decide (s0 < (r15.2.1.length : Int))) then
    (getI r15.2.1 s0).bind fun (x30 : l06Row) =>
    (m_spec_l06Term x30).bind fun (r31 : Term) =>
    (m_spec_l06Sharper p0 r31).bind fun (r34 : Term × Bool) =>
    bif r34.2 then
      (m_spec_l02Divisor r31).bind fun (r44 : Int) =>
      some (.out (.inr (r34.1.Const, r34.1.Coeffs, x30.times, r44, true)))
    else
      some (.next (w64 (s0 + (1 : Int))))
  else
    some (.out (.inl ()))
noncomputable def m_spec_l06Cut_A0 (u0 : Unit ⊕ (Int × (List Int) × (List Int) × Int × Bool)) : Option (Term × (List Int) × Int × Bool) :=
  match u0 with
  | .inl u0 =>
    some ((Term.mk (0 : Int) ([] : List Int)), ([] : List Int), (0 : Int), false)
  | .inr u0 =>
    some ((Term.mk u0.1 u0.2.1), u0.2.2.1, u0.2.2.2.1, u0.2.2.2.2)
noncomputable def m_spec_l06Cut (p0 : List Term) : Option (Term × (List Int) × Int × Bool) :=
  (m_spec_l06Every p0).bind fun (r15 : (List l06Row) × (List l06Row) × Bool) =>
  bif (!r15.2.2) then
    some ((Term.mk (0 : Int) ([] : List Int)), ([] : List Int), (0 : Int), false)
  else
    (iter (m_spec_l06Cut_L0 p0 r15) (0 : Int)).bind fun (u0 : Unit ⊕ (Int × (List Int) × (List Int) × Int × Bool)) =>
    m_spec_l06Cut_A0 u0
noncomputable def m_spec_FirstCut (p0 : List Term) : Option (Term × (List Int) × Bool) :=
  (m_spec_l02All p0 (14 : Int)).bind fun (r10 : Bool) =>
  bif (!r10) then
    some ((Term.mk (0 : Int) ([] : List Int)), ([] : List Int), false)
  else
    (m_spec_l06Cut p0).bind fun (r15 : Term × (List Int) × Int × Bool) =>
    bif (!r15.2.2.2) then
      some ((Term.mk (0 : Int) ([] : List Int)), ([] : List Int), false)
    else
      (m_spec_l00Own r15.2.1).bind fun (r25 : List Int) =>
      some (r15.1, r25, true)
noncomputable def m_impl_divFloor (p0 : Int) (p1 : Int) : Option Int :=
  (quoI p0 p1).bind fun (q8 : Int) =>
  (remI p0 p1).bind fun (q11 : Int) =>
  bif (decide (q11 < (0 : Int))) then
    some (w64 (q8 - (1 : Int)))
  else
    some q8
noncomputable def m_impl_Term_tightened_L0 (r9 : Int) (r14 : Term) (s0 : (List Int) × Int) : Option (Ctl ((List Int) × Int) ((List Int))) :=
  bif (decide (s0.2 < (r14.Coeffs.length : Int))) then
    (getI s0.1 s0.2).bind fun (x29 : Int) =>
    (quoI x29 r9).bind fun (q32 : Int) =>
    some (.next ((s0.1.set ((s0.2).toNat) q32), (w64 (s0.2 + (1 : Int)))))
  else
    some (.out s0.1)
noncomputable def m_impl_Term_tightened_A0 (r18 : Int) (u0 : (List Int)) : Option (Term × Bool) :=
  some ((Term.mk r18 u0), true)
noncomputable def m_impl_Term_tightened (p0 : Term) : Option (Term × Bool) :=
  (m_impl_gcd p0.Coeffs).bind fun (r9 : Int) =>
  bif (decide (r9 ≤ (1 : Int))) then
    some ((Term.mk (0 : Int) ([] : List Int)), false)
  else
    (m_impl_Term_own p0).bind fun (r14 : Term) =>
    (m_impl_divFloor p0.Const r9).bind fun (r18 : Int) =>
    (iter (m_impl_Term_tightened_L0 r9 r14) (r14.Coeffs, (0 : Int))).bind fun (u0 : (List Int)) =>
    m_impl_Term_tightened_A0 r18 u0
noncomputable def m_slices_Equal_int64_int64_L0 (p1 : List Int) (n0 : Nat) (x0 : Int) (s0 : Unit) : Option (Ctl Unit (Unit ⊕ Bool)) :=
  (getI p1 (n0 : Int)).bind fun (x22 : Int) =>
  bif (!decide (x0 = x22)) then
    some (.out (.inr false))
  else
    some (.next ())
noncomputable def m_slices_Equal_int64_int64_A0 (u0 : Unit ⊕ Bool) : Option Bool :=
  match u0 with
  | .inl u0 =>
    some true
  | .inr u0 =>
    some u0
noncomputable def m_slices_Equal_int64_int64 (p0 : List Int) (p1 : List Int) : Option Bool :=
  bif (!decide ((p0.length : Int) = (p1.length : Int))) then
    some false
  else
    (forL (m_slices_Equal_int64_int64_L0 p1) (fun s0 => (.inl ())) 0 p0 ()).bind fun (u0 : Unit ⊕ Bool) =>
    m_slices_Equal_int64_int64_A0 u0
noncomputable def m_impl_Term_equal (p0 : Term) (p1 : Term) : Option Bool :=
  bif (decide (p0.Const = p1.Const)) then
    (m_slices_Equal_int64_int64 p0.Coeffs p1.Coeffs).bind fun (r15 : Bool) =>
    some r15
  else
    some false
noncomputable def m_slices_IndexFunc_impl_Term_impl_Term_fequal_L0 (v1_0_0 : Int) (v1_0_1 : List Int) (n0 : Nat) (x0 : Term) (s0 : Unit) : Option (Ctl Unit (Unit ⊕ Int)) :=
  (m_impl_Term_equal (Term.mk v1_0_0 v1_0_1) x0).bind fun (r16 : Bool) =>
  bif r16 then
    some (.out (.inr (n0 : Int)))
  else
    some (.next ())
noncomputable def m_slices_IndexFunc_impl_Term_impl_Term_fequal_A0 (u0 : Unit ⊕ Int) : Option Int :=
  match u0 with
  | .inl u0 =>
    some (-1 : Int)
  | .inr u0 =>
    some u0
noncomputable def m_slices_IndexFunc_impl_Term_impl_Term_fequal (p0 : List Term) (v1_0_0 : Int) (v1_0_1 : List Int) : Option Int :=
  (forL (m_slices_IndexFunc_impl_Term_impl_Term_fequal_L0 v1_0_0 v1_0_1) (fun s0 => (.inl ())) 0 p0 ()).bind fun (u0 : Unit ⊕ Int) =>
  m_slices_IndexFunc_impl_Term_impl_Term_fequal_A0 u0
noncomputable def m_slices_ContainsFunc_impl_Term_impl_Term_fequal (p0 : List Term) (v1_0_0 : Int) (v1_0_1 : List Int) : Option Bool :=
  (m_slices_IndexFunc_impl_Term_impl_Term_fequal p0 v1_0_0 v1_0_1).bind fun (r7 : Int) =>
  some (decide ((0 : Int) ≤ r7))
noncomputable def m_impl_hasTerm (p0 : List Term) (p1 : Term) : Option Bool :=
  (m_slices_ContainsFunc_impl_Term_impl_Term_fequal p0 p1.Const p1.Coeffs).bind fun (r8 : Bool) =>
  some r8
noncomputable def m_impl_cuts (p0 : Term) (p1 : List Term) : Option (Term × Bool) :=
  (m_impl_gcd p0.Coeffs).bind fun (r11 : Int) =>
  bif (decide (r11 ≤ (1 : Int))) then
    some ((Term.mk (0 : Int) ([] : List Int)), false)
  else
    (remI p0.Const r11).bind fun (q18 : Int) =>
    bif (decide (q18 = (0 : Int))) then
      some ((Term.mk (0 : Int) ([] : List Int)), false)
    else
      (m_impl_Term_tightened p0).bind fun (r24 : Term × Bool) =>
      bif r24.2 then
        (m_impl_hasTerm p1 r24.1).bind fun (r32 : Bool) =>
        some (r24.1, (!r32))
      else
        some (r24.1, false)
noncomputable def m_impl_firstCut_L0 (p0 : List Term) (n0 : Nat) (x0 : combination) (s0 : Unit) : Option (Ctl Unit (Unit ⊕ (Int × (List Int) × Int × (List Int) × (List Int) × Bool))) :=
  (m_impl_cuts x0.term p0).bind fun (r33 : Term × Bool) =>
  bif r33.2 then
    some (.out (.inr (r33.1.Const, r33.1.Coeffs, x0.term.Const, x0.term.Coeffs, x0.by_, true)))
  else
    some (.next ())
noncomputable def m_impl_firstCut_A0 (u0 : Unit ⊕ (Int × (List Int) × Int × (List Int) × (List Int) × Bool)) : Option (Term × combination × Bool) :=
  match u0 with
  | .inl u0 =>
    some ((Term.mk (0 : Int) ([] : List Int)), (combination.mk (Term.mk (0 : Int) ([] : List Int)) ([] : List Int)), false)
  | .inr u0 =>
    some ((Term.mk u0.1 u0.2.1), (combination.mk (Term.mk u0.2.2.1 u0.2.2.2.1) u0.2.2.2.2.1), u0.2.2.2.2.2)
noncomputable def m_impl_firstCut (p0 : List Term) : Option (Term × combination × Bool) :=
  (m_impl_allSymbols (10 : Int)).bind fun (r14 : List Int) =>
  (m_impl_eliminated p0 r14).bind fun (r15 : (List combination) × (List combination) × Bool) =>
  bif (!r15.2.2) then
    some ((Term.mk (0 : Int) ([] : List Int)), (combination.mk (Term.mk (0 : Int) ([] : List Int)) ([] : List Int)), false)
  else
    (forL (m_impl_firstCut_L0 p0) (fun s0 => (.inl ())) 0 r15.2.1 ()).bind fun (u0 : Unit ⊕ (Int × (List Int) × Int × (List Int) × (List Int) × Bool)) =>
    m_impl_firstCut_A0 u0
noncomputable def m_impl_FirstCut (p0 : List Term) : Option (Term × (List Int) × Bool) :=
  (m_impl_ValidFacts p0).bind fun (r9 : Bool) =>
  bif (!r9) then
    some ((Term.mk (0 : Int) ([] : List Int)), ([] : List Int), false)
  else
    (m_impl_firstCut p0).bind fun (r14 : Term × combination × Bool) =>
    bif (!r14.2.2) then
      some ((Term.mk (0 : Int) ([] : List Int)), ([] : List Int), false)
    else
      (m_impl_copyInts r14.2.1.by_).bind fun (r24 : List Int) =>
      some (r14.1, r24, true)
noncomputable def m_impl_symbolTerm (p0 : Int) : Option Term :=
  (makeI (w64 (p0 + (1 : Int))) 8).bind fun (k6 : Nat) =>
  (getI (List.replicate k6 (0 : Int)) p0).bind fun (x11 : Int) =>
  some (Term.mk (0 : Int) ((List.replicate k6 (0 : Int)).set ((p0).toNat) (1 : Int)))
noncomputable def m_slices_Clone_impl_Term_impl_Term (p0 : List Term) : Option (List Term) :=
  (capI (([] : List Term).length + p0.length) 32).bind fun (q7 : Unit) =>
  some (([] : List Term) ++ p0)
noncomputable def m_impl_with (p0 : List Term) (p1 : Term) : Option (List Term) :=
  (m_slices_Clone_impl_Term_impl_Term p0).bind fun (r6 : List Term) =>
  (capI (r6.length + [p1].length) 32).bind fun (q9 : Unit) =>
  some (r6 ++ [p1])
noncomputable def m_impl_LeastOf_L0 (n0 : Nat) (x0 : Term) (s0 : Unit) : Option (Ctl Unit (Unit ⊕ (Int × Bool))) :=
  (m_impl_Term_coeff x0 (9 : Int)).bind fun (r41 : Int) =>
  bif (!decide (r41 = (0 : Int))) then
    some (.out (.inr ((0 : Int), false)))
  else
    some (.next ())
noncomputable def m_impl_LeastOf_L1 (n1 : Nat) (x1 : combination) (s1 : Int × Bool) : Option (Ctl (Int × Bool) ((Int × Bool) ⊕ (Int × Bool))) :=
  (m_impl_Term_coeff x1.term (9 : Int)).bind fun (r74 : Int) =>
  bif (decide (r74 = (0 : Int))) then
    bif (decide (x1.term.Const < (0 : Int))) then
      some (.out (.inr ((0 : Int), false)))
    else
      some (.next (s1.1, s1.2))
  else
    (m_impl_divFloor x1.term.Const r74).bind fun (r85 : Int) =>
    bif ((!s1.2) || (decide (s1.1 < (w64 (0 - r85))))) then
      some (.next ((w64 (0 - r85)), true))
    else
      some (.next (s1.1, s1.2))
noncomputable def m_impl_LeastOf_A1 (u1 : (Int × Bool) ⊕ (Int × Bool)) : Option (Int × Bool) :=
  match u1 with
  | .inl u1 =>
    some (u1.1, u1.2)
  | .inr u1 =>
    some (u1.1, u1.2)
noncomputable def m_impl_LeastOf_J0 (p0 : List Term) (j0 : Int × (List Int)) : Option (Int × Bool) :=
  (m_impl_ValidTerm (Term.mk j0.1 j0.2)).bind fun (r51 : Bool) =>
  bif (!r51) then
    some ((0 : Int), false)
  else
    (m_impl_with p0 (Term.mk j0.1 j0.2)).bind fun (r56 : List Term) =>
    (m_impl_allSymbols (9 : Int)).bind fun (r58 : List Int) =>
    (m_impl_eliminated r56 r58).bind fun (r59 : (List combination) × (List combination) × Bool) =>
    bif (!r59.2.2) then
      some ((0 : Int), false)
    else
      (forL (m_impl_LeastOf_L1) (fun s1 => (.inl (s1.1, s1.2))) 0 r59.1 ((0 : Int), false)).bind fun (u1 : (Int × Bool) ⊕ (Int × Bool)) =>
      m_impl_LeastOf_A1 u1
noncomputable def m_impl_LeastOf_A0 (p0 : List Term) (p1 : Term) (u0 : Unit ⊕ (Int × Bool)) : Option (Int × Bool) :=
  match u0 with
  | .inl u0 =>
    (m_impl_symbolTerm (9 : Int)).bind fun (r45 : Term) =>
    (m_impl_combined [r45, p1] [(1 : Int), (-1 : Int)]).bind fun (r49 : Term) =>
    m_impl_LeastOf_J0 p0 (r49.Const, r49.Coeffs)
  | .inr u0 =>
    some (u0.1, u0.2)
noncomputable def m_impl_LeastOf (p0 : List Term) (p1 : Term) : Option (Int × Bool) :=
  (m_impl_areTerms p0 (13 : Int)).bind fun (r20 : Bool) =>
  bif (!r20) then
    some ((0 : Int), false)
  else
    (m_impl_ValidTerm p1).bind fun (r24 : Bool) =>
    bif (!r24) then
      some ((0 : Int), false)
    else
      (m_impl_Term_coeff p1 (9 : Int)).bind fun (r30 : Int) =>
      bif (!decide (r30 = (0 : Int))) then
        some ((0 : Int), false)
      else
        (forL (m_impl_LeastOf_L0) (fun s0 => (.inl ())) 0 p0 ()).bind fun (u0 : Unit ⊕ (Int × Bool)) =>
        m_impl_LeastOf_A0 p0 p1 u0
noncomputable def m_spec_l02Own (p0 : Term) : Option Term :=
  (m_spec_l00Own p0.Coeffs).bind fun (r11 : List Int) =>
  some (Term.mk p0.Const r11)
noncomputable def m_spec_l02OwnAll_L0 (p0 : List Term) (s0 : (List Term) × Int) : Option (Ctl ((List Term) × Int) ((List Term))) :=
  bif (decide (s0.2 < (p0.length : Int))) then
    (getI p0 s0.2).bind fun (x15 : Term) =>
    (m_spec_l02Own x15).bind fun (r16 : Term) =>
    (capI (s0.1.length + [r16].length) 32).bind fun (q18 : Unit) =>
    some (.next ((s0.1 ++ [r16]), (w64 (s0.2 + (1 : Int)))))
  else
    some (.out s0.1)
noncomputable def m_spec_l02OwnAll_A0 (u0 : (List Term)) : Option (List Term) :=
  some u0
noncomputable def m_spec_l02OwnAll (p0 : List Term) : Option (List Term) :=
  (iter (m_spec_l02OwnAll_L0 p0) (([] : List Term), (0 : Int))).bind fun (u0 : (List Term)) =>
  m_spec_l02OwnAll_A0 u0
noncomputable def m_spec_l06Up (p0 : Int) (p1 : Int) : Option Int :=
  (quoI (w64 (0 - p0)) p1).bind fun (q9 : Int) =>
  bif (decide ((w64 (q9 * p1)) < (w64 (0 - p0)))) then
    some (w64 (q9 + (1 : Int)))
  else
    some q9
noncomputable def m_spec_LeastOf_L0 (r28 : List Term) (r29 : Term) (s0 : Int) : Option (Ctl Int (Unit ⊕ (Int × Bool))) :=
  bif (decide (s0 < ((r28 ++ [r29]).length : Int))) then
    (getI (r28 ++ [r29]) s0).bind fun (x40 : Term) =>
    bif (decide ((x40.Coeffs.length : Int) = (10 : Int))) then
      some (.out (.inr ((0 : Int), false)))
    else
      some (.next (w64 (s0 + (1 : Int))))
  else
    some (.out (.inl ()))
noncomputable def m_spec_LeastOf_L1 (s1 : (List l06Row) × Int) : Option (Ctl ((List l06Row) × Int) ((List l06Row) ⊕ (Int × Bool))) :=
  bif (decide ((w64 (s1.2 + (1 : Int))) < (10 : Int))) then
    (m_spec_l06Stage s1.1 s1.2).bind fun (r70 : (List l06Row) × Int × Bool) =>
    bif (!r70.2.2) then
      some (.out (.inr ((0 : Int), false)))
    else
      some (.next (r70.1, (w64 (s1.2 + (1 : Int)))))
  else
    some (.out (.inl s1.1))
noncomputable def m_spec_LeastOf_J0 (s2 : Bool × Int × Int) (x85 : l06Row) (x88 : Int) (j0 : Unit) : Option (Ctl (Bool × Int × Int) ((Bool × Int) ⊕ (Int × Bool))) :=
  bif (decide (x88 = (0 : Int))) then
    some (.next (s2.1, s2.2.1, (w64 (s2.2.2 + (1 : Int)))))
  else
    (m_spec_l06Up x85.c x88).bind fun (r108 : Int) =>
    bif ((!s2.1) || (decide (s2.2.1 < r108))) then
      some (.next (true, r108, (w64 (s2.2.2 + (1 : Int)))))
    else
      some (.next (true, s2.2.1, (w64 (s2.2.2 + (1 : Int)))))
noncomputable def m_spec_LeastOf_L2 (u1 : List l06Row) (s2 : Bool × Int × Int) : Option (Ctl (Bool × Int × Int) ((Bool × Int) ⊕ (Int × Bool))) :=
  bif (decide (s2.2.2 < (u1.length : Int))) then
    (getI u1 s2.2.2).bind fun (x85 : l06Row) =>
    (getI x85.list (9 : Int)).bind fun (x88 : Int) =>
    bif (decide (x88 = (0 : Int))) then
      bif (decide (x85.c < (0 : Int))) then
        some (.out (.inr ((0 : Int), false)))
      else
        m_spec_LeastOf_J0 s2 x85 x88 ()
    else
      m_spec_LeastOf_J0 s2 x85 x88 ()
  else
    some (.out (.inl (s2.1, s2.2.1)))
noncomputable def m_spec_LeastOf_A2 (u2 : (Bool × Int) ⊕ (Int × Bool)) : Option (Int × Bool) :=
  match u2 with
  | .inl u2 =>
    some (u2.2, u2.1)
  | .inr u2 =>
    some (u2.1, u2.2)
noncomputable def m_spec_LeastOf_A1 (u1 : (List l06Row) ⊕ (Int × Bool)) : Option (Int × Bool) :=
  match u1 with
  | .inl u1 =>
    (iter (m_spec_LeastOf_L2 u1) (false, (0 : Int), (0 : Int))).bind fun (u2 : (Bool × Int) ⊕ (Int × Bool)) =>
    m_spec_LeastOf_A2 u2
  | .inr u1 =>
    some (u1.1, u1.2)
noncomputable def m_spec_LeastOf_A0 (p1 : Term) (r28 : List Term) (r29 : Term) (u0 : Unit ⊕ (Int × Bool)) : Option (Int × Bool) :=
  match u0 with
  | .inl u0 =>
    (m_spec_l02Sum (Term.mk (0 : Int) [(0 : Int), (0 : Int), (0 : Int), (0 : Int), (0 : Int), (0 : Int), (0 : Int), (0 : Int), (0 : Int), (1 : Int)]) (1 : Int) p1 (-1 : Int)).bind fun (r49 : Term × Bool) =>
    bif (!r49.2) then
      some ((0 : Int), false)
    else
      (getI (r28 ++ [r29]) (w64 (((r28 ++ [r29]).length : Int) - (1 : Int)))).bind fun (x59 : Term) =>
      (m_spec_l06Rows ((r28 ++ [r29]).set (((w64 (((r28 ++ [r29]).length : Int) - (1 : Int)))).toNat) r49.1)).bind fun (r61 : List l06Row) =>
      (iter (m_spec_LeastOf_L1) (r61, (0 : Int))).bind fun (u1 : (List l06Row) ⊕ (Int × Bool)) =>
      m_spec_LeastOf_A1 u1
  | .inr u0 =>
    some (u0.1, u0.2)
noncomputable def m_spec_LeastOf (p0 : List Term) (p1 : Term) : Option (Int × Bool) :=
  (m_spec_l02All p0 (13 : Int)).bind fun (r21 : Bool) =>
  bif (!r21) then
    some ((0 : Int), false)
  else
    (m_spec_l02Is p1).bind fun (r24 : Bool) =>
    bif (!r24) then
      some ((0 : Int), false)
    else
      (m_spec_l02OwnAll p0).bind fun (r28 : List Term) =>
      (m_spec_l02Own p1).bind fun (r29 : Term) =>
      (capI (r28.length + [r29].length) 32).bind fun (q31 : Unit) =>
      (iter (m_spec_LeastOf_L0 r28 r29) (0 : Int)).bind fun (u0 : Unit ⊕ (Int × Bool)) =>
      m_spec_LeastOf_A0 p1 r28 r29 u0
noncomputable def m_laws_FnCuts_J1 (p1 : List Int) (r22 : List Term) (r24 : List Int) (j1 : Unit) : Option Bool :=
  (m_laws_b10At p1 (0 : Int) (3 : Int)).bind fun (r63 : Int) =>
  (m_impl_LeastOf r22 (Term.mk (0 : Int) [(1 : Int), (w64 (r63 + (1 : Int)))])).bind fun (r70 : Int × Bool) =>
  (m_spec_LeastOf r22 (Term.mk (0 : Int) [(1 : Int), (w64 (r63 + (1 : Int)))])).bind fun (r76 : Int × Bool) =>
  bif (r70.2 == r76.2) then
    bif (!r70.2) then
      some true
    else
      (m_laws_b10Hold r22 r24).bind fun (r88 : Bool) =>
      bif (!r88) then
        some true
      else
        (m_laws_b10Value (Term.mk (0 : Int) [(1 : Int), (w64 (r63 + (1 : Int)))]) r24).bind fun (r94 : Int) =>
        some (decide (r70.1 ≤ r94))
  else
    some false
noncomputable def m_laws_FnCuts_J0 (p1 : List Int) (r22 : List Term) (r24 : List Int) (r27 : Term × (List Int) × Bool) (j0 : Unit) : Option Bool :=
  bif r27.2.2 then
    (m_laws_b10Hold r22 r24).bind fun (r54 : Bool) =>
    bif r54 then
      (m_laws_b10Value r27.1 r24).bind fun (r59 : Int) =>
      bif (decide (r59 < (0 : Int))) then
        some false
      else
        m_laws_FnCuts_J1 p1 r22 r24 ()
    else
      m_laws_FnCuts_J1 p1 r22 r24 ()
  else
    m_laws_FnCuts_J1 p1 r22 r24 ()
noncomputable def m_laws_FnCuts (p0 : List Int) (p1 : List Int) : Option Bool :=
  (m_laws_b10Long p0 p1).bind fun (r20 : Bool) =>
  bif r20 then
    some true
  else
    (m_spec_B10Facts p0).bind fun (r22 : List Term) =>
    (m_spec_B10Values p1).bind fun (r24 : List Int) =>
    (m_impl_FirstCut r22).bind fun (r27 : Term × (List Int) × Bool) =>
    (m_spec_FirstCut r22).bind fun (r33 : Term × (List Int) × Bool) =>
    bif (!(r27.2.2 == r33.2.2)) then
      some false
    else
      bif r27.2.2 then
        bif (!decide ((r27.2.1.length : Int) = (r22.length : Int))) then
          some false
        else
          m_laws_FnCuts_J0 p1 r22 r24 r27 ()
      else
        m_laws_FnCuts_J0 p1 r22 r24 r27 ()
noncomputable def m_impl_ownTerms_L0 (n0 : Nat) (x0 : Term) (s0 : List Term) : Option (Ctl (List Term) ((List Term))) :=
  (m_impl_Term_own x0).bind fun (r14 : Term) =>
  (capI (s0.length + [r14].length) 32).bind fun (q16 : Unit) =>
  some (.next (s0 ++ [r14]))
noncomputable def m_impl_ownTerms_A0 (u0 : (List Term)) : Option (List Term) :=
  some u0
noncomputable def m_impl_ownTerms (p0 : List Term) : Option (List Term) :=
  (forL (m_impl_ownTerms_L0) (fun s0 => s0) 0 p0 ([] : List Term)).bind fun (u0 : (List Term)) =>
  m_impl_ownTerms_A0 u0
end Go.Mod

namespace Go.Mod
open Go.AM
set_option linter.unusedVariables false
set_option linter.unusedSimpArgs false
def cTerm (t : Term) : Nat := t.Coeffs.length
def inR (c : Int) : Bool := decide (-1000000 ≤ c) && decide (c ≤ 1000000)
theorem inR_iff {c : Int} : inR c = true ↔ -1000000 ≤ c ∧ c ≤ 1000000 := by simp [inR]
def lastOK (xs : List Int) : Bool := match xs.getLast? with | none => true | some x => !decide (x = 0)
def vT (t : Term) : Bool := inR t.Const && decide (t.Coeffs.length ≤ 10) && lastOK t.Coeffs && t.Coeffs.all inR
theorem vT_len {t : Term} (h : vT t = true) : t.Coeffs.length ≤ 10 := by simp [vT] at h; omega
theorem vT_const {t : Term} (h : vT t = true) : inR t.Const = true := by simp [vT] at h; exact h.1.1.1
theorem vT_coef {t : Term} (h : vT t = true) : ∀ x ∈ t.Coeffs, inR x = true := by simp [vT] at h; exact h.2
theorem getI_last {xs : List Int} (h0 : 0 < xs.length) (hl : xs.length ≤ 9223372036854775807) : getI xs (w64 ((xs.length : Int) - 1)) = xs.getLast? := by
  rw [w64_pred h0 hl, getI_nat, List.getLast?_eq_getElem?]
theorem spec_number (c : Int) : m_spec_l02Number c = some (inR c) := rfl
theorem spec_is_loop {t : Term} (hl : t.Coeffs.length ≤ 1048576) : iter (m_spec_l02Is_L0 t) 0 = some (bif t.Coeffs.all inR then .inl () else .inr false) := by
  have h := iter_for (step := m_spec_l02Is_L0 t) t.Coeffs (fun n (_ : Unit) => (n : Int)) (fun _ x _ => bif inR x then some (.next ()) else some (.out (.inr false))) (fun _ => .inl ())
    (fun n x r hx => by
      unfold m_spec_l02Is_L0
      rw [dec_lt (get_lt hx), cond_true, getI_some hx, Option.bind_some, spec_number, Option.bind_some]
      have hw : w64 ((n : Int) + 1) = ((n + 1 : Nat) : Int) := w64_succ (by have := get_lt hx; omega)
      cases inR x
      · rfl
      · rw [hw]; rfl)
    (fun r => by unfold m_spec_l02Is_L0; rw [dec_self]; rfl) ()
  rw [forL_all inR _ _ (fun n x _ => rfl)] at h
  exact h
theorem spec_is {t : Term} (hl : cTerm t ≤ 1048576) : m_spec_l02Is t = some (vT t) := by
  unfold cTerm at hl
  have hJ : m_spec_l02Is_J0 t () = some (t.Coeffs.all inR) := by
    unfold m_spec_l02Is_J0
    rw [spec_is_loop hl, Option.bind_some]
    cases t.Coeffs.all inR <;> rfl
  unfold m_spec_l02Is
  rw [spec_number, Option.bind_some]
  unfold vT
  cases h1 : inR t.Const with
  | false => rfl
  | true =>
    by_cases h2 : t.Coeffs.length ≤ 10
    · rw [decide_eq_true h2, decide_eq_false (show ¬ (10 : Int) < (t.Coeffs.length : Int) by omega)]
      simp only [Bool.not_true, Bool.false_or, cond_false, Bool.true_and]
      by_cases h3 : 0 < t.Coeffs.length
      · rw [decide_eq_true (show (0 : Int) < (t.Coeffs.length : Int) by omega), cond_true, getI_last h3 (by omega)]
        unfold lastOK
        cases h4 : t.Coeffs.getLast? with
        | none => rw [List.getLast?_eq_none_iff] at h4; rw [h4] at h3; exact absurd h3 (by simp)
        | some x =>
          simp only [Option.bind_some]
          by_cases h5 : x = 0
          · rw [decide_eq_true h5]; rfl
          · rw [decide_eq_false h5, cond_false, hJ]; rfl
      · rw [decide_eq_false (show ¬ (0 : Int) < (t.Coeffs.length : Int) by omega), cond_false, hJ]
        have : t.Coeffs = [] := List.length_eq_zero_iff.1 (by omega)
        rw [this]; rfl
    · rw [decide_eq_false h2, decide_eq_true (show (10 : Int) < (t.Coeffs.length : Int) by omega)]; rfl
theorem impl_all {xs : List Int} {a b : Int} : m_impl_allWithin xs a b = some (xs.all fun x => decide (a ≤ x) && decide (x ≤ b)) := by
  unfold m_impl_allWithin
  rw [forL_all (fun x => decide (a ≤ x) && decide (x ≤ b)) (f := .inr false) xs 0 (fun n x _ => by
    unfold m_impl_allWithin_L0 m_impl_within
    rw [Option.bind_some]
    cases (decide (a ≤ x) && decide (x ≤ b)) <;> rfl), Option.bind_some]
  cases xs.all fun x => decide (a ≤ x) && decide (x ≤ b) <;> rfl
theorem impl_valid (t : Term) : m_impl_ValidTerm t = some (vT t) := by
  unfold m_impl_ValidTerm vT
  by_cases h2 : t.Coeffs.length ≤ 10
  · rw [decide_eq_true h2, decide_eq_true (show (t.Coeffs.length : Int) ≤ (10 : Int) by omega), cond_true]
    rw [show m_impl_isCoeff t.Const = some (inR t.Const) from rfl, Option.bind_some]
    cases h1 : inR t.Const with
    | false => rfl
    | true =>
      rw [cond_true, impl_all, Option.bind_some]
      change (bif t.Coeffs.all inR then _ else _) = _
      cases h3 : t.Coeffs.all inR with
      | false => simp
      | true =>
        rw [cond_true]
        by_cases h4 : t.Coeffs.length = 0
        · rw [decide_eq_true (by omega), cond_true]
          rw [List.length_eq_zero_iff.1 h4]; rfl
        · rw [decide_eq_false (by omega), cond_false, getI_last (by omega) (by omega)]
          unfold lastOK
          cases h5 : t.Coeffs.getLast? with
          | none => rw [List.getLast?_eq_none_iff] at h5; rw [h5] at h4; exact absurd rfl h4
          | some x => simp
  · rw [decide_eq_false h2, decide_eq_false (show ¬ (t.Coeffs.length : Int) ≤ (10 : Int) by omega)]; simp
def tl (xs : List Int) : Nat → Nat
  | 0 => 0
  | n + 1 => if xs[n]? = some 0 then tl xs n else n + 1
theorem tl_le (xs : List Int) : ∀ n, tl xs n ≤ n := by
  intro n
  induction n with
  | zero => exact Nat.le_refl _
  | succ n ih => unfold tl; split <;> omega
def trim (xs : List Int) : List Int := xs.take (tl xs xs.length)
theorem trim_len (xs : List Int) : (trim xs).length ≤ xs.length := by unfold trim; simp; omega
theorem tl_iter {xs : List Int} {step : Int → Option (Ctl Int Int)}
    (hs : ∀ n : Int, step n = bif decide ((0 : Int) < n) then (getI xs (w64 (n - 1))).bind fun x => bif decide (x = 0) then some (.next (w64 (n - 1))) else some (.out n) else some (.out n))
    (hl : xs.length ≤ 1048576) : ∀ n : Nat, n ≤ xs.length → iter step (n : Int) = some ((tl xs n : Nat) : Int) := by
  intro n
  induction n with
  | zero => intro _; exact iter_out (by rw [hs]; rfl)
  | succ n ih =>
    intro hn
    have h := hs ((n + 1 : Nat) : Int)
    have hx : xs[n]? = some xs[n] := by simp
    rw [decide_eq_true (by omega), cond_true, w64_pred (by omega) (by omega), show n + 1 - 1 = n from rfl, getI_some hx, Option.bind_some] at h
    unfold tl
    by_cases h0 : xs[n] = 0
    · rw [decide_eq_true h0, cond_true] at h
      rw [iter_next h, ih (by omega), if_pos (by rw [hx, h0])]
    · rw [decide_eq_false h0, cond_false] at h
      rw [iter_out h, if_neg (by rw [hx]; simpa using h0)]
theorem slice_trim (xs : List Int) : sliceI xs 0 ((tl xs xs.length : Nat) : Int) = some (trim xs) := by
  rw [show (0 : Int) = ((0 : Nat) : Int) from rfl, sliceI_some (by omega) (tl_le _ _)]; rfl
def chk (t : Term) : Term × Bool := bif vT t then (t, true) else (Term.mk 0 [], false)
theorem spec_own {xs : List Int} (h : xs.length ≤ 1048576) : m_spec_l00Own xs = some xs := by
  unfold m_spec_l00Own; rw [capI_some (by simp; omega)]; simp
theorem spec_make {c : Int} {xs : List Int} (hl : xs.length ≤ 1048576) : m_spec_l02Make c xs = some (chk (Term.mk c (trim xs))) := by
  unfold m_spec_l02Make m_spec_l02Make_A0
  have h2 := trim_len xs
  rw [tl_iter (step := m_spec_l02Make_L0 xs) (fun n => rfl) hl _ (Nat.le_refl _), Option.bind_some, slice_trim, Option.bind_some, spec_own (by omega), Option.bind_some, spec_is (by unfold cTerm; simp only; omega), Option.bind_some]
  unfold chk
  cases vT (Term.mk c (trim xs)) <;> rfl
theorem impl_copy {xs : List Int} (h : xs.length ≤ 1048576) : m_impl_copyInts xs = some xs := by
  unfold m_impl_copyInts; rw [capI_some (by simp; omega)]; simp
theorem impl_own {t : Term} (h : t.Coeffs.length ≤ 1048576) : m_impl_Term_own t = some t := by
  unfold m_impl_Term_own; rw [impl_copy h]; rfl
theorem impl_trimmed {t : Term} (hl : t.Coeffs.length ≤ 1048576) : m_impl_Term_trimmed t = some (Term.mk t.Const (trim t.Coeffs)) := by
  unfold m_impl_Term_trimmed m_impl_Term_trimmed_A0
  rw [tl_iter (step := m_impl_Term_trimmed_L0 t) (fun n => rfl) hl _ (Nat.le_refl _), Option.bind_some, slice_trim, Option.bind_some]
def tab (f : Nat → Int) : List Int := (List.range 10).map f
theorem tab_len (f : Nat → Int) : (tab f).length = 10 := rfl
theorem tab_get {f : Nat → Int} {n : Nat} (h : n < 10) : (tab f)[n]? = some (f n) := by simp [tab, h]
theorem tab_set {f : Nat → Int} {n : Nat} {v : Int} (h : n < 10) : (tab f).set n v = tab fun i => if i = n then v else f i := by
  unfold tab
  apply List.ext_getElem?
  intro i
  rw [List.getElem?_set]
  by_cases hi : n = i
  · subst hi; simp [h]
  · rw [if_neg hi]
    have hi' : i ≠ n := Ne.symm hi
    by_cases h10 : i < 10
    · simp [h10, hi']
    · simp [h10]
theorem tab_zero : List.replicate 10 (0 : Int) = tab fun _ => 0 := rfl
def coef (xs : List Int) (i : Nat) : Int := xs[i]?.getD 0
theorem coef_get {xs : List Int} {i : Nat} {x : Int} (h : xs[i]? = some x) : coef xs i = x := by simp [coef, h]
theorem coef_no {xs : List Int} {i : Nat} (h : xs.length ≤ i) : coef xs i = 0 := by simp [coef, h]
theorem coef_rng {t : Term} (h : vT t = true) (i : Nat) : -1000000 ≤ coef t.Coeffs i ∧ coef t.Coeffs i ≤ 1000000 := by
  unfold coef
  cases hx : t.Coeffs[i]? with
  | none => simp
  | some x => exact inR_iff.1 (vT_coef h x (List.mem_of_getElem? hx))
theorem const_rng {t : Term} (h : vT t = true) : -1000000 ≤ t.Const ∧ t.Const ≤ 1000000 := inR_iff.1 (vT_const h)
theorem prod_rng {a b A B : Int} (h1 : -A ≤ a) (h2 : a ≤ A) (h3 : -B ≤ b) (h4 : b ≤ B) : -(A * B) ≤ a * b ∧ a * b ≤ A * B := by
  have hA : 0 ≤ A := by omega
  have hB : 0 ≤ B := by omega
  have p1 : 0 ≤ (A - a) * (B - b) := Int.mul_nonneg (by omega) (by omega)
  have p2 : 0 ≤ (A + a) * (B + b) := Int.mul_nonneg (by omega) (by omega)
  have p3 : 0 ≤ (A - a) * (B + b) := Int.mul_nonneg (by omega) (by omega)
  have p4 : 0 ≤ (A + a) * (B - b) := Int.mul_nonneg (by omega) (by omega)
  simp only [Int.sub_mul, Int.add_mul, Int.mul_sub, Int.mul_add] at p1 p2 p3 p4
  omega
theorem spec_coeff {t : Term} {i : Nat} (hl : i < 10) : m_spec_l02Coeff t (i : Int) = some (coef t.Coeffs i) := by
  unfold m_spec_l02Coeff
  by_cases h : i < t.Coeffs.length
  · have hx : t.Coeffs[i]? = some t.Coeffs[i] := by simp [h]
    rw [dec_lt h, cond_true, getI_some hx, coef_get hx]; rfl
  · rw [dec_not_lt h, cond_false, coef_no (by omega)]
def sumN (f : Nat → Int) : Nat → Int
  | 0 => 0
  | n + 1 => sumN f n + f n
theorem sumN_rng {f : Nat → Int} {B : Int} (h : ∀ i, -B ≤ f i ∧ f i ≤ B) : ∀ n : Nat, -(n * B) ≤ sumN f n ∧ sumN f n ≤ n * B := by
  intro n
  induction n with
  | zero => simp [sumN]
  | succ n ih =>
    have := h n
    have e : ((n + 1 : Nat) : Int) * B = n * B + B := by rw [Int.natCast_add]; simp [Int.add_mul]
    rw [e]
    unfold sumN
    omega
def tAt (ts : List Term) (k : Nat) : Term := ts[k]?.getD ⟨0, []⟩
def lin (ts : List Term) (ms : List Int) (g : Term → Int) (n : Nat) : Int := sumN (fun k => coef ms k * g (tAt ts k)) n
def mOK (m : Int) : Prop := -1000000 ≤ m ∧ m ≤ 1000000
def Lin (ts : List Term) (ms : List Int) : Prop := (∀ t ∈ ts, vT t = true) ∧ (∀ m ∈ ms, mOK m) ∧ ts.length ≤ 14 ∧ ms.length = ts.length
theorem tAt_valid {ts : List Term} (h : ∀ t ∈ ts, vT t = true) (k : Nat) : vT (tAt ts k) = true := by
  unfold tAt
  cases hx : ts[k]? with
  | none => rfl
  | some t => exact h t (List.mem_of_getElem? hx)
theorem coef_m {ms : List Int} (h : ∀ m ∈ ms, mOK m) (k : Nat) : -1000000 ≤ coef ms k ∧ coef ms k ≤ 1000000 := by
  unfold coef
  cases hx : ms[k]? with
  | none => simp
  | some m => exact h m (List.mem_of_getElem? hx)
theorem mul_rng {a b : Int} (h1 : -1000000 ≤ a ∧ a ≤ 1000000) (h2 : -1000000 ≤ b ∧ b ≤ 1000000) : -1000000000000 ≤ a * b ∧ a * b ≤ 1000000000000 := by
  have := prod_rng h1.1 h1.2 h2.1 h2.2
  omega
theorem lin_rng {ts : List Term} {ms : List Int} (h : Lin ts ms) {g : Term → Int} (hg : ∀ t, vT t = true → -1000000 ≤ g t ∧ g t ≤ 1000000) {n : Nat} (hn : n ≤ 14) :
    -14000000000000 ≤ lin ts ms g n ∧ lin ts ms g n ≤ 14000000000000 := by
  have := sumN_rng (f := fun k => coef ms k * g (tAt ts k)) (B := 1000000000000) (fun i => mul_rng (coef_m h.2.1 i) (hg _ (tAt_valid h.1 i))) n
  unfold lin
  omega
theorem inner {f : Nat → Int} {m : Int} {xs : List Int} (hm : mOK m) (hl : xs.length ≤ 10) (hx : ∀ x ∈ xs, inR x = true) (hf : ∀ i, -100000000000000 ≤ f i ∧ f i ≤ 100000000000000) :
    forL (m_impl_combined_L1 m) (fun s1 => s1) 0 xs (tab f) = some (tab fun i => f i + m * coef xs i) := by
  obtain ⟨t, h1, h2⟩ := forL_inv (step := m_impl_combined_L1 m) (fin := fun s1 => s1) (xs := xs) (fun n s => s = tab fun i => if i < n then f i + m * coef xs i else f i) (fun t => t = tab fun i => f i + m * coef xs i)
    (fun n x s hxn hs => by
      subst hs
      have hn := get_lt hxn
      refine .inl ⟨_, ?_, rfl⟩
      unfold m_impl_combined_L1
      rw [getI_some (tab_get (by omega)), Option.bind_some, if_neg (by omega)]
      have hp := mul_rng hm (inR_iff.1 (hx x (List.mem_of_getElem? hxn)))
      have := hf n
      rw [w64_eq (n := m * x) (by omega), w64_eq (by omega), Int.toNat_natCast, tab_set (by omega)]
      congr 2
      unfold tab
      apply List.map_congr_left
      intro i hi
      by_cases h1 : i = n
      · subst h1; rw [if_pos rfl, if_pos (by omega), coef_get hxn]
      · rw [if_neg h1]
        by_cases h2 : i < n
        · rw [if_pos h2, if_pos (by omega)]
        · rw [if_neg h2, if_neg (by omega)])
    (fun s hs => by
      subst hs
      unfold tab
      apply List.map_congr_left
      intro i hi
      by_cases h2 : i < xs.length
      · rw [if_pos h2]
      · rw [if_neg h2, coef_no (by omega)]; omega)
    (s := tab f) (by simp)
  rw [h1, h2]
theorem impl_combined {ts : List Term} {ms : List Int} (h : Lin ts ms) :
    m_impl_combined ts ms = some (Term.mk (lin ts ms Term.Const ts.length) (trim (tab fun i => lin ts ms (fun t => coef t.Coeffs i) ts.length))) := by
  unfold m_impl_combined
  rw [show (10 : Int) = ((10 : Nat) : Int) from rfl, makeI_some (by omega), Option.bind_some, tab_zero]
  obtain ⟨t, h1, h2⟩ := forL_inv (step := m_impl_combined_L0 ms) (fin := fun s0 => (s0.1, s0.2)) (xs := ts) (fun n s => s = (lin ts ms Term.Const n, tab fun i => lin ts ms (fun t => coef t.Coeffs i) n))
    (fun t => t = (lin ts ms Term.Const ts.length, tab fun i => lin ts ms (fun t => coef t.Coeffs i) ts.length))
    (fun n x s hxn hs => by
      subst hs
      have hn := get_lt hxn
      refine .inl ⟨_, ?_, rfl⟩
      unfold m_impl_combined_L0
      have hmn : n < ms.length := by rw [h.2.2.2]; exact hn
      have hm : ms[n]? = some ms[n] := by simp [hmn]
      have hv := h.1 x (List.mem_of_getElem? hxn)
      have hmo := h.2.1 _ (List.mem_of_getElem? hm)
      rw [getI_some hm, Option.bind_some, inner hmo (vT_len hv) (vT_coef hv)
        (fun i => by have := lin_rng h (g := fun t => coef t.Coeffs i) (fun t ht => coef_rng ht i) (n := n) (by have := h.2.2.1; omega); omega), Option.bind_some]
      unfold m_impl_combined_A1
      have hp := mul_rng hmo (const_rng hv)
      have hq := lin_rng h (g := Term.Const) (fun t ht => const_rng ht) (n := n) (by have := h.2.2.1; omega)
      simp only
      rw [w64_eq (n := ms[n] * x.Const) (by omega), w64_eq (by omega)]
      have e : ∀ g : Term → Int, lin ts ms g (n + 1) = lin ts ms g n + ms[n] * g x := by
        intro g
        unfold lin
        rw [show sumN (fun k => coef ms k * g (tAt ts k)) (n + 1) = sumN (fun k => coef ms k * g (tAt ts k)) n + coef ms n * g (tAt ts n) from rfl, coef_get hm]
        unfold tAt
        rw [hxn]; rfl
      simp only [e])
    (fun s hs => hs) rfl
  change (forL (m_impl_combined_L0 ms) (fun s0 => (s0.1, s0.2)) 0 ts (lin ts ms Term.Const 0, tab fun i => lin ts ms (fun t => coef t.Coeffs i) 0)).bind _ = _
  rw [h1, h2, Option.bind_some]
  unfold m_impl_combined_A0
  rw [impl_trimmed (by simp only [tab_len]; omega)]; rfl
theorem spec_sum_loop {p q : Term} {a b : Int} (hp : vT p = true) (hq : vT q = true) (ha : mOK a) (hb : mOK b) :
    iter (m_spec_l02Sum_L0 p a q b) ([], 0) = some (tab fun i => a * coef p.Coeffs i + b * coef q.Coeffs i) := by
  have key : ∀ (m n : Nat), n + m = 10 → iter (m_spec_l02Sum_L0 p a q b) ((tab fun i => a * coef p.Coeffs i + b * coef q.Coeffs i).take n, (n : Int)) = some (tab fun i => a * coef p.Coeffs i + b * coef q.Coeffs i) := by
    intro m
    induction m with
    | zero =>
      intro n hn
      obtain rfl : n = 10 := by omega
      exact iter_out rfl
    | succ m ih =>
      intro n hn
      rw [iter_next (s' := ((tab fun i => a * coef p.Coeffs i + b * coef q.Coeffs i).take (n + 1), ((n + 1 : Nat) : Int)))]
      · exact ih (n + 1) (by omega)
      · unfold m_spec_l02Sum_L0
        have h1 := mul_rng ha (coef_rng hp n)
        have h2 := mul_rng hb (coef_rng hq n)
        rw [decide_eq_true (by omega), cond_true, spec_coeff (by omega), Option.bind_some, spec_coeff (by omega), Option.bind_some, capI_some (by simp [tab_len]; omega), Option.bind_some]
        rw [w64_succ (by omega), w64_eq (n := a * coef p.Coeffs n) (by omega), w64_eq (n := b * coef q.Coeffs n) (by omega), w64_eq (by omega), List.take_add_one, tab_get (by omega)]
        rfl
  exact key 10 0 rfl
theorem spec_sum {p q : Term} {a b : Int} (hp : vT p = true) (hq : vT q = true) (ha : mOK a) (hb : mOK b) :
    m_spec_l02Sum p a q b = some (chk (Term.mk (a * p.Const + b * q.Const) (trim (tab fun i => a * coef p.Coeffs i + b * coef q.Coeffs i)))) := by
  unfold m_spec_l02Sum
  rw [spec_sum_loop hp hq ha hb, Option.bind_some]
  unfold m_spec_l02Sum_A0
  have h1 := mul_rng ha (const_rng hp)
  have h2 := mul_rng hb (const_rng hq)
  rw [w64_eq (n := a * p.Const) (by omega), w64_eq (n := b * q.Const) (by omega), w64_eq (by omega), spec_make (by rw [tab_len]; omega)]
  rfl
theorem vT_one (c : Int) (h : inR c = true) : vT (Term.mk c []) = true := by unfold vT; simp only [h]; rfl
theorem coef_nil (i : Nat) : coef [] i = 0 := rfl
theorem lin_one (p : Term) (m : Int) (g : Term → Int) : lin [p] [m] g 1 = m * g p := by
  unfold lin
  simp [sumN, coef, tAt]
def cTermS (ts : List Term) : Nat := ts.length + (ts.map cTerm).sum
theorem mem_sum {α : Type} {c : α → Nat} {xs : List α} {x : α} (h : x ∈ xs) : c x ≤ (xs.map c).sum := by
  induction xs with
  | nil => cases h
  | cons y r ih =>
    simp only [List.map_cons, List.sum_cons]
    rcases List.mem_cons.1 h with rfl | h
    · omega
    · have := ih h; omega
theorem cTermS_mem {ts : List Term} {t : Term} (h : t ∈ ts) : cTerm t ≤ cTermS ts := by have := mem_sum (c := cTerm) h; unfold cTermS; omega
theorem dec_leN {a b : Nat} : decide ((a : Int) ≤ (b : Int)) = decide (a ≤ b) := by by_cases h : a ≤ b <;> simp [h]
theorem spec_all {ts : List Term} {k : Nat} (hl : cTermS ts ≤ 1048576) : m_spec_l02All ts (k : Int) = some (ts.all vT && decide (ts.length ≤ k)) := by
  have hlen : ts.length ≤ 1048576 := by unfold cTermS at hl; omega
  have h := iter_for (step := m_spec_l02All_L0 ts) ts (fun n (_ : Unit) => (n : Int)) (fun _ x _ => bif vT x then some (.next ()) else some (.out (.inr false))) (fun _ => .inl ())
    (fun n x r hx => by
      unfold m_spec_l02All_L0
      rw [dec_lt (get_lt hx), cond_true, getI_some hx, Option.bind_some, spec_is (by have := cTermS_mem (List.mem_of_getElem? hx); omega), Option.bind_some]
      have hw : w64 ((n : Int) + 1) = ((n + 1 : Nat) : Int) := w64_succ (by have := get_lt hx; omega)
      cases vT x
      · rfl
      · rw [hw]; rfl)
    (fun r => by unfold m_spec_l02All_L0; rw [dec_self]; rfl) ()
  rw [forL_all vT _ _ (fun n x _ => rfl)] at h
  unfold m_spec_l02All
  rw [show (0 : Int) = ((0 : Nat) : Int) from rfl, h, Option.bind_some]
  cases ts.all vT
  · rfl
  · change some (decide ((ts.length : Int) ≤ (k : Int))) = _
    rw [dec_leN]; rfl
theorem impl_terms {ts : List Term} {k : Nat} : m_impl_areTerms ts (k : Int) = some (decide (ts.length ≤ k) && ts.all vT) := by
  unfold m_impl_areTerms
  by_cases h : ts.length ≤ k
  · rw [decide_eq_false (by omega), cond_false, decide_eq_true h, Bool.true_and, forL_all vT (f := .inr false) ts 0 (fun n x _ => by
      unfold m_impl_areTerms_L0
      rw [impl_valid, Option.bind_some]
      cases vT x <;> rfl), Option.bind_some]
    cases ts.all vT <;> rfl
  · rw [decide_eq_true (by omega), decide_eq_false h]; rfl
theorem foldl_snoc {α : Type} (xs s : List α) : xs.foldl (fun s x => s ++ [x]) s = s ++ xs := by
  induction xs generalizing s with
  | nil => simp
  | cons x r ih => simp [ih]
theorem impl_ownTerms {ts : List Term} (hl : cTermS ts ≤ 1048576) : m_impl_ownTerms ts = some ts := by
  have hlen : ts.length ≤ 1048576 := by unfold cTermS at hl; omega
  unfold m_impl_ownTerms
  rw [forL_fold (fun s x => s ++ [x]) (fun k s => s.length = k) ts 0 [] rfl (fun n x s hx hs => by
    have := get_lt hx
    unfold m_impl_ownTerms_L0
    rw [impl_own (by have := cTermS_mem (List.mem_of_getElem? hx); unfold cTerm at this; omega), Option.bind_some, capI_some (by simp; omega), Option.bind_some]
    exact ⟨rfl, by simp [hs]⟩), Option.bind_some, foldl_snoc]
  rfl
theorem spec_ownAll {ts : List Term} (hl : cTermS ts ≤ 1048576) : m_spec_l02OwnAll ts = some ts := by
  have hlen : ts.length ≤ 1048576 := by unfold cTermS at hl; omega
  have h := iter_for (step := m_spec_l02OwnAll_L0 ts) ts (fun n (s : List Term) => (s, (n : Int))) m_impl_ownTerms_L0 (fun s0 => s0)
    (fun n x r hx => by
      unfold m_spec_l02OwnAll_L0 m_impl_ownTerms_L0 m_spec_l02Own
      have hc := cTermS_mem (List.mem_of_getElem? hx)
      unfold cTerm at hc
      simp only
      rw [dec_lt (get_lt hx), cond_true, getI_some hx, Option.bind_some, spec_own (by omega), Option.bind_some, Option.bind_some, impl_own (by omega), Option.bind_some]
      simp only [List.length_cons, List.length_nil, Nat.zero_add]
      cases capI (r.length + 1) 32 with
      | none => rfl
      | some u => simp only [Option.bind_some]; rw [w64_succ (by have := get_lt hx; omega)]; rfl)
    (fun r => by unfold m_spec_l02OwnAll_L0; simp only; rw [dec_self]; rfl) ([] : List Term)
  have h2 := impl_ownTerms hl
  unfold m_impl_ownTerms at h2
  unfold m_spec_l02OwnAll
  rw [show (0 : Int) = ((0 : Nat) : Int) from rfl, h]
  exact h2
def opp (t : Term) : Term := Term.mk (-t.Const - 1) (trim (tab fun i => -coef t.Coeffs i))
theorem spec_opposite {t : Term} (h : vT t = true) : m_spec_l02Opposite t = some (chk (opp t)) := by
  unfold m_spec_l02Opposite
  rw [spec_sum h (vT_one 1 rfl) (by unfold mOK; omega) (by unfold mOK; omega)]
  simp only [coef_nil, Int.mul_zero, Int.add_zero, Int.neg_mul, Int.one_mul]; rfl
theorem euclid {step : Int × Int → Option (Ctl (Int × Int) Int)}
    (h0 : ∀ a : Nat, step ((a : Int), ((0 : Nat) : Int)) = some (.out (a : Int)))
    (hs : ∀ a b : Nat, 0 < b → step ((a : Int), (b : Int)) = some (.next ((b : Int), ((a % b : Nat) : Int)))) : ∀ (n b a : Nat), b < n → iter step ((a : Int), (b : Int)) = some ((Nat.gcd a b : Nat) : Int) := by
  intro n
  induction n with
  | zero => intro b a h; omega
  | succ n ih =>
    intro b a h
    by_cases hb : b = 0
    · subst hb; rw [iter_out (h0 a), Nat.gcd_zero_right]
    · rw [iter_next (hs a b (by omega)), ih (a % b) b (by have := Nat.mod_lt a (Nat.pos_of_ne_zero hb); omega)]
      congr 2
      rw [Nat.gcd_comm a b, Nat.gcd_rec b a, Nat.gcd_comm]
theorem rem_nat {a b : Nat} (hb : 0 < b) : remI (a : Int) (b : Int) = some ((a % b : Nat) : Int) := by
  unfold remI
  rw [decide_eq_false (by omega), cond_false]
  rfl
theorem spec_euclid (a b : Nat) : iter m_spec_l02Divisor_L1 ((a : Int), (b : Int)) = some ((Nat.gcd a b : Nat) : Int) :=
  euclid (fun a => rfl) (fun a b hb => by
    unfold m_spec_l02Divisor_L1
    simp only
    rw [decide_eq_true (by omega), cond_true, rem_nat hb]; rfl) (b + 1) b a (Nat.lt_succ_self _)
theorem impl_euclid (a b : Nat) : iter m_impl_gcd_L1 ((a : Int), (b : Int)) = some ((Nat.gcd a b : Nat) : Int) :=
  euclid (fun a => rfl) (fun a b hb => by
    unfold m_impl_gcd_L1
    simp only
    rw [decide_eq_false (by omega), Bool.not_false, cond_true, rem_nat hb]; rfl) (b + 1) b a (Nat.lt_succ_self _)
def gcdL (xs : List Int) : Nat := xs.foldl (fun d x => Nat.gcd d x.natAbs) 0
theorem foldl_cast (xs : List Int) : ∀ (d : Nat), xs.foldl (fun (d : Int) x => ((Nat.gcd d.toNat x.natAbs : Nat) : Int)) (d : Int) = ((xs.foldl (fun d x => Nat.gcd d x.natAbs) d : Nat) : Int) := by
  induction xs with
  | nil => intro d; rfl
  | cons x r ih => intro d; simp only [List.foldl_cons, Int.toNat_natCast]; exact ih _
theorem impl_gcd {xs : List Int} (h : ∀ x ∈ xs, inR x = true) : m_impl_gcd xs = some ((gcdL xs : Nat) : Int) := by
  unfold m_impl_gcd
  rw [forL_fold (fun (d : Int) x => ((Nat.gcd d.toNat x.natAbs : Nat) : Int)) (fun _ d => 0 ≤ d) xs 0 0 (Int.le_refl 0) (fun n x d hx hd => by
    have hr := inR_iff.1 (h x (List.mem_of_getElem? hx))
    unfold m_impl_gcd_L0 m_impl_absolute
    rw [Option.bind_some, w64_eq (by omega), show max x (0 - x) = ((x.natAbs : Nat) : Int) by omega, show d = ((d.toNat : Nat) : Int) by omega, impl_euclid, Option.bind_some]
    exact ⟨by rw [Int.toNat_natCast]; rfl, by omega⟩), Option.bind_some]
  have := foldl_cast xs 0
  exact congrArg some this
theorem spec_gcd {t : Term} (h : ∀ x ∈ t.Coeffs, inR x = true) (hl : t.Coeffs.length ≤ 1048576) : m_spec_l02Divisor t = some ((gcdL t.Coeffs : Nat) : Int) := by
  have h2 := iter_for (step := m_spec_l02Divisor_L0 t) t.Coeffs (fun n (d : Nat) => ((d : Int), (n : Int))) (fun n x d => some (.next (Nat.gcd d x.natAbs))) (fun d => ((d : Nat) : Int))
    (fun n x d hx => by
      have hr := inR_iff.1 (h x (List.mem_of_getElem? hx))
      unfold m_spec_l02Divisor_L0 m_spec_l00Max
      simp only
      rw [dec_lt (get_lt hx), cond_true, getI_some hx, Option.bind_some, w64_eq (n := 0 - x) (by omega)]
      have e : (bif decide (0 - x < x) then some x else some (0 - x)) = some ((x.natAbs : Nat) : Int) := by
        by_cases h : 0 - x < x
        · rw [decide_eq_true h, cond_true, show ((x.natAbs : Nat) : Int) = x by omega]
        · rw [decide_eq_false h, cond_false, show ((x.natAbs : Nat) : Int) = 0 - x by omega]
      rw [e, Option.bind_some, spec_euclid, Option.bind_some]
      unfold m_spec_l02Divisor_A1
      simp only
      rw [w64_succ (by have := get_lt hx; omega)]; rfl)
    (fun r => by unfold m_spec_l02Divisor_L0; simp only; rw [dec_self]; rfl) 0
  rw [forL_fold (fun (d : Nat) x => Nat.gcd d x.natAbs) (fun _ _ => True) t.Coeffs 0 0 trivial (fun n x d hx _ => ⟨rfl, trivial⟩)] at h2
  unfold m_spec_l02Divisor
  rw [show ((0 : Int), (0 : Int)) = (((0 : Nat) : Int), ((0 : Nat) : Int)) from rfl, h2]
  rfl
theorem foldl_dvd (xs : List Int) : ∀ (d : Nat), (xs.foldl (fun d x => Nat.gcd d x.natAbs) d) ∣ d ∧ ∀ x ∈ xs, (xs.foldl (fun d x => Nat.gcd d x.natAbs) d) ∣ x.natAbs := by
  induction xs with
  | nil => intro d; exact ⟨Nat.dvd_refl d, fun x h => by cases h⟩
  | cons y r ih =>
    intro d
    obtain ⟨h1, h2⟩ := ih (Nat.gcd d y.natAbs)
    simp only [List.foldl_cons]
    refine ⟨Nat.dvd_trans h1 (Nat.gcd_dvd_left _ _), fun x hx => ?_⟩
    rcases List.mem_cons.1 hx with rfl | hx
    · exact Nat.dvd_trans h1 (Nat.gcd_dvd_right _ _)
    · exact h2 x hx
theorem gcdL_dvd {xs : List Int} {x : Int} (h : x ∈ xs) : gcdL xs ∣ x.natAbs := (foldl_dvd xs 0).2 x h
theorem tdiv_rng {x : Int} {d : Nat} (hd : 2 ≤ d) (h : inR x = true) : inR (x.tdiv d) = true ∧ -500000 ≤ x.tdiv d ∧ x.tdiv d ≤ 500000 := by
  have hr := inR_iff.1 h
  have key : ∀ n : Nat, n ≤ 1000000 → n / d ≤ 500000 := by
    intro n hn
    rw [Nat.div_le_iff_le_mul_add_pred (by omega)]
    have : d * 500000 ≥ 2 * 500000 := Nat.mul_le_mul_right _ hd
    omega
  have : -500000 ≤ x.tdiv d ∧ x.tdiv d ≤ 500000 := by
    rcases Int.le_total 0 x with h0 | h0
    · obtain ⟨n, rfl⟩ := Int.eq_ofNat_of_zero_le h0
      have := key n (by omega)
      rw [show ((n : Int).tdiv (d : Int)) = ((n / d : Nat) : Int) from rfl]
      generalize n / d = q at this ⊢
      omega
    · obtain ⟨n, hn⟩ := Int.eq_ofNat_of_zero_le (show 0 ≤ -x by omega)
      have := key n (by omega)
      have e : x.tdiv d = -((n / d : Nat) : Int) := by
        rw [show x = -(n : Int) by omega, Int.neg_tdiv]; rfl
      rw [e]
      generalize n / d = q at this ⊢
      omega
  exact ⟨inR_iff.2 (by omega), this⟩
theorem tdiv_ne {x : Int} {d : Nat} (hd : 0 < d) (hx : x ≠ 0) (h : d ∣ x.natAbs) : x.tdiv d ≠ 0 := by
  obtain ⟨k, hk⟩ := h
  intro h0
  have h1 : (x.tdiv d) * d = x := Int.tdiv_mul_cancel (Int.natAbs_dvd_natAbs.1 (by simpa using ⟨k, hk⟩))
  rw [h0, Int.zero_mul] at h1
  exact hx h1.symm
theorem quo_nat {x : Int} {d : Nat} (hd : 2 ≤ d) (h : inR x = true) : quoI x (d : Int) = some (x.tdiv d) := by
  have := (tdiv_rng hd h).2
  unfold quoI
  rw [decide_eq_false (by omega), cond_false, w64_eq (by omega)]
def quos (xs : List Int) (d : Nat) : List Int := xs.map fun x => x.tdiv d
def flo (c : Int) (d : Nat) : Int := if c.tmod d < 0 then c.tdiv d - 1 else c.tdiv d
theorem flo_rng {c : Int} {d : Nat} (hd : 2 ≤ d) (h : inR c = true) : inR (flo c d) = true := by
  have := (tdiv_rng hd h).2
  unfold flo
  split <;> exact inR_iff.2 (by omega)
theorem trim_id {xs : List Int} (h : lastOK xs = true) : trim xs = xs := by
  unfold trim
  cases hn : xs.length with
  | zero => rw [List.length_eq_zero_iff.1 hn]; rfl
  | succ n =>
    have hl : xs.getLast? = xs[n]? := by rw [List.getLast?_eq_getElem?, hn]; rfl
    have hx : xs[n]? = some xs[n] := by simp
    unfold lastOK at h
    rw [hl, hx] at h
    simp at h
    unfold tl
    rw [if_neg (by rw [hx]; simpa using h), ← hn, List.take_length]
theorem quos_last {xs : List Int} {d : Nat} (hd : 0 < d) (h : lastOK xs = true) (hv : ∀ x ∈ xs, d ∣ x.natAbs) : lastOK (quos xs d) = true := by
  unfold lastOK quos at *
  rw [List.getLast?_map]
  cases hx : xs.getLast? with
  | none => rfl
  | some x =>
    rw [hx] at h
    simp at h
    have := tdiv_ne hd h (hv x (List.mem_of_getLast? hx))
    simpa using this
theorem vT_last {t : Term} (h : vT t = true) : lastOK t.Coeffs = true := by simp [vT] at h; exact h.1.2
theorem tight_valid {t : Term} (h : vT t = true) (hd : 2 ≤ gcdL t.Coeffs) : vT (Term.mk (flo t.Const (gcdL t.Coeffs)) (quos t.Coeffs (gcdL t.Coeffs))) = true := by
  have h1 := vT_len h
  have h2 := quos_last (d := gcdL t.Coeffs) (by omega) (vT_last h) (fun x hx => gcdL_dvd hx)
  have h3 := flo_rng hd (vT_const h)
  have h4 : (quos t.Coeffs (gcdL t.Coeffs)).all inR = true := by
    rw [List.all_eq_true]
    intro y hy
    obtain ⟨x, hx, rfl⟩ := List.mem_map.1 hy
    exact (tdiv_rng hd (vT_coef h x hx)).1
  unfold vT
  rw [h2, h3, h4]
  simp [quos, h1]
def fTight (t : Term) : Term × Bool :=
  bif vT t && decide (2 ≤ gcdL t.Coeffs) then (Term.mk (flo t.Const (gcdL t.Coeffs)) (quos t.Coeffs (gcdL t.Coeffs)), true) else (Term.mk 0 [], false)
theorem spec_quos {t : Term} {d : Nat} (hd : 2 ≤ d) (h : ∀ x ∈ t.Coeffs, inR x = true) (hl : t.Coeffs.length ≤ 1048576) : iter (m_spec_l02Tight_L0 t (d : Int)) ([], 0) = some (quos t.Coeffs d) := by
  have h2 := iter_for (step := m_spec_l02Tight_L0 t (d : Int)) t.Coeffs (fun n (s : List Int) => (s, (n : Int))) (fun n x s => (capI (s.length + 1) 8).bind fun _ => some (.next (s ++ [x.tdiv d]))) (fun s => s)
    (fun n x s hx => by
      unfold m_spec_l02Tight_L0
      simp only
      rw [dec_lt (get_lt hx), cond_true, getI_some hx, Option.bind_some, quo_nat hd (h x (List.mem_of_getElem? hx)), Option.bind_some]
      simp only [List.length_cons, List.length_nil, Nat.zero_add]
      cases capI (s.length + 1) 8 with
      | none => rfl
      | some u => simp only [Option.bind_some]; rw [w64_succ (by have := get_lt hx; omega)]; rfl)
    (fun r => by unfold m_spec_l02Tight_L0; simp only; rw [dec_self]; rfl) []
  rw [forL_fold (fun s x => s ++ [x.tdiv d]) (fun k s => s.length = k) t.Coeffs 0 [] rfl (fun n x s hx hs => by
    have := get_lt hx
    rw [capI_some (by omega), Option.bind_some]
    exact ⟨rfl, by simp [hs]⟩)] at h2
  rw [show (([] : List Int), (0 : Int)) = ([], ((0 : Nat) : Int)) from rfl, h2]
  congr 1
  have : ∀ (xs s : List Int), xs.foldl (fun s x => s ++ [x.tdiv d]) s = s ++ xs.map fun x => x.tdiv d := by
    intro xs
    induction xs with
    | nil => intro s; simp
    | cons x r ih => intro s; simp [ih]
  exact this t.Coeffs []
theorem impl_quos {t : Term} {d : Nat} (hd : 2 ≤ d) (h : ∀ x ∈ t.Coeffs, inR x = true) (hl : t.Coeffs.length ≤ 1048576) : iter (m_impl_Term_tightened_L0 (d : Int) t) (t.Coeffs, 0) = some (quos t.Coeffs d) := by
  have key : ∀ (m n : Nat), n + m = t.Coeffs.length → iter (m_impl_Term_tightened_L0 (d : Int) t) (quos (t.Coeffs.take n) d ++ t.Coeffs.drop n, (n : Int)) = some (quos t.Coeffs d) := by
    intro m
    induction m with
    | zero =>
      intro n hn
      obtain rfl : n = t.Coeffs.length := by omega
      rw [iter_out (t := quos t.Coeffs d)]
      unfold m_impl_Term_tightened_L0
      simp only
      rw [dec_self, cond_false]
      simp
    | succ m ih =>
      intro n hn
      have hlt : n < t.Coeffs.length := by omega
      have hx : t.Coeffs[n]? = some t.Coeffs[n] := by simp
      have hql : (quos (t.Coeffs.take n) d).length = n := by unfold quos; simp; omega
      have hg : (quos (t.Coeffs.take n) d ++ t.Coeffs.drop n)[n]? = some t.Coeffs[n] := by
        rw [List.getElem?_append_right (by omega), hql, Nat.sub_self]; simp
      rw [iter_next (s' := (quos (t.Coeffs.take (n + 1)) d ++ t.Coeffs.drop (n + 1), ((n + 1 : Nat) : Int)))]
      · exact ih (n + 1) (by omega)
      · unfold m_impl_Term_tightened_L0
        simp only
        rw [dec_lt hlt, cond_true, getI_some hg, Option.bind_some, quo_nat hd (h _ (List.mem_of_getElem? hx)), Option.bind_some, w64_succ (by omega), Int.toNat_natCast]
        congr 3
        rw [List.set_append_right _ _ (by omega), hql, Nat.sub_self, List.drop_eq_getElem_cons hlt, List.set_cons_zero, List.take_add_one, hx, Option.toList_some, show ∀ ys, quos (ys ++ [t.Coeffs[n]]) d = quos ys d ++ [t.Coeffs[n].tdiv d] by intro ys; simp [quos], List.append_assoc]
        rfl
  have := key t.Coeffs.length 0 (by omega)
  simpa [quos] using this
def unitT (n : Nat) : Term := Term.mk 0 ((List.replicate (n + 1) 0).set n 1)
theorem unit_coef (n i : Nat) : coef (unitT n).Coeffs i = if i = n then 1 else 0 := by
  unfold coef unitT
  simp only [List.getElem?_set, List.length_replicate, List.getElem?_replicate]
  by_cases h : i = n
  · subst h; simp
  · rw [if_neg (Ne.symm h), if_neg h]
    by_cases h2 : i < n + 1
    · rw [if_pos h2]; rfl
    · rw [if_neg h2]; rfl
theorem unit_valid : ∀ n, n < 10 → vT (unitT n) = true := by decide
def Src (s : l00Src) (k : Nat) : Prop := (∀ x ∈ s.code, 0 ≤ x ∧ x ≤ 255) ∧ s.code.length ≤ 1048576 ∧ 0 ≤ s.at_ ∧ s.at_ ≤ k
theorem Src.mono {s : l00Src} {k k' : Nat} (h : Src s k) (hk : k ≤ k') : Src s k' := ⟨h.1, h.2.1, h.2.2.1, by have := h.2.2.2; omega⟩
theorem and_rng (a : Int) : 0 ≤ andU 64 a 255 ∧ andU 64 a 255 ≤ 255 := by
  unfold andU
  have h : (BitVec.ofInt 64 a &&& BitVec.ofInt 64 255).toNat ≤ 255 := by
    rw [BitVec.toNat_and]
    have : (BitVec.ofInt 64 255).toNat = 255 := by decide
    rw [this]
    exact Nat.and_le_right
  generalize (BitVec.ofInt 64 a &&& BitVec.ofInt 64 255).toNat = q at h
  unfold wu
  omega
theorem next_ok {s : l00Src} {k : Nat} (h : Src s k) (hk : k ≤ 1000000000) : ∃ r s', m_spec_l00Src_next s = some (r, s') ∧ 0 ≤ r ∧ r ≤ 255 ∧ Src s' (k + 1) := by
  obtain ⟨h1, h2, h3, h4⟩ := h
  have hJ : ∀ j : Int, 0 ≤ j → j ≤ 255 → ∃ r s', m_spec_l00Src_next_J0 s j = some (r, s') ∧ 0 ≤ r ∧ r ≤ 255 ∧ Src s' (k + 1) := by
    intro j hj0 hj1
    unfold m_spec_l00Src_next_J0
    rw [w64_eq (n := s.at_ + 1) (by omega)]
    have hS : ∀ sd, Src (l00Src.mk s.code (s.at_ + 1) sd) (k + 1) := fun sd => ⟨h1, h2, by simp only; omega, by simp only; omega⟩
    by_cases hq : s.at_ + 1 ≤ (s.code.length : Int)
    · rw [decide_eq_true hq, cond_true]; exact ⟨_, _, rfl, hj0, hj1, hS _⟩
    · rw [decide_eq_false hq, cond_false]
      have := and_rng (Int.fdiv (wu 64 ((wu 64 ((wu 64 (s.seed * (6364136223846793005 : Int))) + (wu 64 j))) + (1442695040888963407 : Int))) (2 ^ 40))
      exact ⟨_, _, rfl, by rw [w64_eq (by omega)]; omega, by rw [w64_eq (by omega)]; omega, hS _⟩
  unfold m_spec_l00Src_next
  by_cases hq : s.at_ < (s.code.length : Int)
  · obtain ⟨n, hn⟩ := Int.eq_ofNat_of_zero_le h3
    have hlt : n < s.code.length := by omega
    have hx : s.code[n]? = some s.code[n] := by simp
    have hb := h1 _ (List.getElem_mem hlt)
    rw [decide_eq_true hq, cond_true, hn, getI_some hx, Option.bind_some, w64_eq (by omega)]
    exact hJ _ hb.1 hb.2
  · rw [decide_eq_false hq, cond_false]; exact hJ 0 (by omega) (by omega)
theorem pick_ok {s : l00Src} {k : Nat} {n : Int} (h : Src s k) (hk : k ≤ 100000000) (hn : n ≤ 200) : ∃ r s', m_spec_l00Src_pick s n = some (r, s') ∧ 0 ≤ r ∧ (r < n ∨ r = 0) ∧ Src s' (k + 1) := by
  unfold m_spec_l00Src_pick
  by_cases h1 : n ≤ 1
  · rw [decide_eq_true h1, cond_true]; exact ⟨_, _, rfl, by omega, .inr rfl, h.mono (by omega)⟩
  · rw [decide_eq_false h1, cond_false]
    obtain ⟨r, s', e1, e2, e3, e4⟩ := next_ok h (by omega)
    rw [e1, Option.bind_some, decide_eq_false (by omega), cond_false]
    simp only
    unfold remI
    rw [decide_eq_false (by omega), cond_false, Option.bind_some]
    exact ⟨_, _, rfl, Int.tmod_nonneg _ e2, .inl (Int.tmod_lt_of_pos _ (by omega)), e4⟩
theorem from_ok {code : List Int} (h1 : ∀ x ∈ code, 0 ≤ x ∧ x ≤ 255) (h2 : code.length ≤ 1048576) : m_spec_l00From code = some (l00Src.mk code 0 0) ∧ Src (l00Src.mk code 0 0) 0 :=
  ⟨rfl, h1, h2, Int.le_refl _, Int.le_refl _⟩
theorem at_ok {code : List Int} {i : Nat} {n : Int} (h1 : ∀ x ∈ code, 0 ≤ x ∧ x ≤ 255) (hi : i ≤ 1000000) (hn : 1 < n) : ∃ r, m_laws_b10At code (i : Int) n = some r ∧ 0 ≤ r ∧ r < n := by
  unfold m_laws_b10At
  rw [decide_eq_false (by omega), cond_false]
  by_cases h : i < code.length
  · have hx : code[i]? = some code[i] := by simp [h]
    have hb := h1 _ (List.getElem_mem h)
    rw [dec_lt h, cond_true, getI_some hx, Option.bind_some, w64_eq (by omega)]
    unfold remI
    rw [decide_eq_false (by omega), cond_false, Option.bind_some]
    exact ⟨_, rfl, Int.tmod_nonneg _ hb.1, Int.tmod_lt_of_pos _ (by omega)⟩
  · rw [dec_not_lt h, cond_false, w64_eq (n := (i : Int) * 37) (by omega), w64_eq (by omega)]
    unfold remI
    rw [decide_eq_false (by omega), cond_false, Option.bind_some]
    exact ⟨_, rfl, Int.tmod_nonneg _ (by omega), Int.tmod_lt_of_pos _ (by omega)⟩
theorem tl_last {xs : List Int} : ∀ n, n ≤ xs.length → lastOK (xs.take (tl xs n)) = true := by
  intro n
  induction n with
  | zero => intro _; rfl
  | succ n ih =>
    intro hn
    unfold tl
    split
    · exact ih (by omega)
    · rename_i h
      have hx : xs[n]? = some xs[n] := by simp
      unfold lastOK
      rw [List.getLast?_eq_getElem?]
      have hl : (xs.take (n + 1)).length = n + 1 := by simp; omega
      rw [hl, show n + 1 - 1 = n from rfl, List.getElem?_take, if_pos (by omega), hx]
      rw [hx] at h
      simpa using h
theorem trim_last (xs : List Int) : lastOK (trim xs) = true := tl_last _ (Nat.le_refl _)
theorem tl_zero {xs : List Int} : ∀ n, n ≤ xs.length → ∀ i, tl xs n ≤ i → i < n → coef xs i = 0 := by
  intro n
  induction n with
  | zero => intro _ i _ h; omega
  | succ n ih =>
    intro hn i h1 h2
    unfold tl at h1
    split at h1
    · rename_i h
      by_cases hi : i = n
      · subst hi; exact coef_get h
      · exact ih (by omega) i h1 (by omega)
    · omega
theorem trim_coef (xs : List Int) (i : Nat) : coef (trim xs) i = coef xs i := by
  unfold trim
  by_cases h : i < tl xs xs.length
  · unfold coef; rw [List.getElem?_take, if_pos h]
  · rw [coef_no (by simp; omega)]
    by_cases h2 : i < xs.length
    · rw [tl_zero xs.length (Nat.le_refl _) i (by omega) h2]
    · rw [coef_no (by omega)]
theorem tab_coef (f : Nat → Int) (i : Nat) : coef (tab f) i = if i < 10 then f i else 0 := by
  by_cases h : i < 10
  · rw [if_pos h, coef_get (tab_get h)]
  · rw [if_neg h, coef_no (by rw [tab_len]; omega)]
theorem last_coef {xs : List Int} (h : lastOK xs = true) (h0 : 0 < xs.length) : coef xs (xs.length - 1) ≠ 0 := by
  unfold lastOK at h
  rw [List.getLast?_eq_getElem?] at h
  have hx : xs[xs.length - 1]? = some (xs[xs.length - 1]'(by omega)) := by simp
  rw [hx] at h
  rw [coef_get hx]
  simpa using h
theorem coef_ext {xs ys : List Int} (hx : lastOK xs = true) (hy : lastOK ys = true) (h : ∀ i, coef xs i = coef ys i) : xs = ys := by
  have key : ∀ (xs ys : List Int), lastOK xs = true → (∀ i, coef xs i = coef ys i) → xs.length ≤ ys.length := by
    intro xs ys hx h
    apply Nat.le_of_not_lt
    intro hlt
    have := last_coef hx (by omega)
    rw [h, coef_no (by omega)] at this
    exact this rfl
  have hl : xs.length = ys.length := Nat.le_antisymm (key xs ys hx h) (key ys xs hy (fun i => (h i).symm))
  apply List.ext_getElem hl
  intro i h1 h2
  have := h i
  rw [coef_get (show xs[i]? = some xs[i] by simp), coef_get (show ys[i]? = some ys[i] by simp)] at this
  exact this
theorem coef_ten {t : Term} (h : vT t = true) {i : Nat} (hi : 10 ≤ i) : coef t.Coeffs i = 0 := coef_no (by have := vT_len h; omega)
def mkT (c : Int) (f : Nat → Int) : Term := Term.mk c (trim (tab f))
theorem mkT_coef (c : Int) (f : Nat → Int) (i : Nat) : coef (mkT c f).Coeffs i = if i < 10 then f i else 0 := by
  unfold mkT; rw [trim_coef, tab_coef]
theorem mkT_valid {c : Int} {f : Nat → Int} (hc : -1000000 ≤ c ∧ c ≤ 1000000) (hf : ∀ i, i < 10 → -1000000 ≤ f i ∧ f i ≤ 1000000) : vT (mkT c f) = true := by
  have h1 : (mkT c f).Coeffs.length ≤ 10 := by have := trim_len (tab f); rw [tab_len] at this; exact this
  have h2 : lastOK (mkT c f).Coeffs = true := trim_last _
  have h3 : (mkT c f).Coeffs.all inR = true := by
    rw [List.all_eq_true]
    intro x hx
    obtain ⟨i, hi⟩ := List.getElem?_of_mem hx
    have := mkT_coef c f i
    rw [coef_get hi] at this
    rw [this]
    have hlt := get_lt hi
    rw [if_pos (by omega)]
    exact inR_iff.2 (hf i (by omega))
  unfold vT
  rw [h2, h3, inR_iff.2 (show -1000000 ≤ (mkT c f).Const ∧ (mkT c f).Const ≤ 1000000 from hc)]
  simp [h1]
theorem mkT_chk {c : Int} {f : Nat → Int} (hc : -1000000 ≤ c ∧ c ≤ 1000000) (hf : ∀ i, i < 10 → -1000000 ≤ f i ∧ f i ≤ 1000000) : chk (Term.mk c (trim (tab f))) = (mkT c f, true) := by
  have := mkT_valid hc hf
  unfold chk
  rw [show Term.mk c (trim (tab f)) = mkT c f from rfl, this]; rfl
theorem mkT_self {t : Term} (h : vT t = true) : mkT t.Const (fun i => coef t.Coeffs i) = t := by
  have : trim (tab fun i => coef t.Coeffs i) = t.Coeffs := coef_ext (trim_last _) (vT_last h) (fun i => by
    rw [trim_coef, tab_coef]
    by_cases hi : i < 10
    · rw [if_pos hi]
    · rw [if_neg hi, coef_ten h (by omega)])
  unfold mkT
  rw [this]
theorem sumN_congr {f g : Nat → Int} : ∀ n, (∀ i, i < n → f i = g i) → sumN f n = sumN g n := by
  intro n
  induction n with
  | zero => intro _; rfl
  | succ n ih => intro h; unfold sumN; rw [ih (fun i hi => h i (by omega)), h n (by omega)]
theorem sumN_add (f g : Nat → Int) : ∀ n, sumN (fun i => f i + g i) n = sumN f n + sumN g n := by
  intro n
  induction n with
  | zero => rfl
  | succ n ih => unfold sumN; rw [ih]; omega
theorem sumN_mul (c : Int) (f : Nat → Int) : ∀ n, sumN (fun i => c * f i) n = c * sumN f n := by
  intro n
  induction n with
  | zero => simp [sumN]
  | succ n ih => unfold sumN; rw [ih, Int.mul_add]
theorem sumN_zero : ∀ n, sumN (fun _ => 0) n = 0 := by
  intro n
  induction n with
  | zero => rfl
  | succ n ih => unfold sumN; rw [ih]; rfl
theorem sumN_stop {f : Nat → Int} {n : Nat} (h : ∀ i, n ≤ i → f i = 0) : ∀ m, n ≤ m → sumN f m = sumN f n := by
  intro m
  induction m with
  | zero => intro hm; rw [show n = 0 by omega]
  | succ m ih =>
    intro hm
    by_cases e : n = m + 1
    · rw [e]
    · rw [show sumN f (m + 1) = sumN f m + f m from rfl, ih (by omega), h m (by omega)]; omega
def val (t : Term) (v : List Int) : Int := t.Const + sumN (fun i => coef t.Coeffs i * coef v i) 10
def Vals (v : List Int) : Prop := v.length = 10 ∧ ∀ x ∈ v, -6 ≤ x ∧ x ≤ 6
theorem Vals.coef {v : List Int} (h : Vals v) (i : Nat) : -6 ≤ coef v i ∧ coef v i ≤ 6 := by
  unfold Mod.coef
  cases hx : v[i]? with
  | none => simp
  | some x => exact h.2 x (List.mem_of_getElem? hx)
theorem value_ok {t : Term} {v : List Int} (ht : vT t = true) (hv : Vals v) : m_laws_b10Value t v = some (val t v) := by
  have hl := vT_len ht
  have hp : ∀ i, -6000000 ≤ coef t.Coeffs i * coef v i ∧ coef t.Coeffs i * coef v i ≤ 6000000 := by
    intro i
    have h1 := coef_rng ht i
    have h2 := hv.coef i
    have := prod_rng h1.1 h1.2 h2.1 h2.2
    omega
  have hsum := sumN_rng (f := fun i => coef t.Coeffs i * coef v i) (B := 6000000) hp
  have hc := const_rng ht
  have key : ∀ (m n : Nat), n + m = t.Coeffs.length → iter (m_laws_b10Value_L0 t v) (t.Const + sumN (fun i => coef t.Coeffs i * coef v i) n, (n : Int)) = some (val t v) := by
    intro m
    induction m with
    | zero =>
      intro n hn
      obtain rfl : n = t.Coeffs.length := by omega
      refine iter_out ?_
      unfold m_laws_b10Value_L0
      simp only
      rw [dec_self, Bool.false_and, cond_false]
      unfold val
      rw [sumN_stop (n := t.Coeffs.length) (fun i hi => by rw [coef_no hi, Int.zero_mul]) 10 hl]
    | succ m ih =>
      intro n hn
      have hlt : n < t.Coeffs.length := by omega
      have hltv : n < v.length := by rw [hv.1]; omega
      have hx : t.Coeffs[n]? = some t.Coeffs[n] := by simp
      have hy : v[n]? = some v[n] := by simp
      have hs := hsum n
      have hpn := hp n
      rw [iter_next (s' := (t.Const + sumN (fun i => coef t.Coeffs i * coef v i) (n + 1), ((n + 1 : Nat) : Int)))]
      · exact ih (n + 1) (by omega)
      · unfold m_laws_b10Value_L0
        simp only
        rw [dec_lt hlt, dec_lt hltv, Bool.true_and, cond_true, getI_some hx, Option.bind_some, getI_some hy, Option.bind_some, w64_succ (by omega)]
        rw [coef_get hx, coef_get hy] at hpn
        rw [w64_eq (n := t.Coeffs[n] * v[n]) (by omega), w64_eq (by omega), sumN, coef_get hx, coef_get hy, Int.add_assoc]
  unfold m_laws_b10Value
  have := key t.Coeffs.length 0 (by omega)
  rw [show t.Const + sumN (fun i => coef t.Coeffs i * coef v i) 0 = t.Const by simp [sumN]] at this
  rw [show (0 : Int) = ((0 : Nat) : Int) from rfl, this]; rfl
structure Small (t : Term) : Prop where
  v : vT t = true
  c : -7 ≤ t.Const ∧ t.Const ≤ 7
  f : ∀ i, -4 ≤ coef t.Coeffs i ∧ coef t.Coeffs i ≤ 4
theorem list_coef {xs : List Int} {a b : Int} (h : ∀ x ∈ xs, a ≤ x ∧ x ≤ b) (h0 : a ≤ 0 ∧ 0 ≤ b) (i : Nat) : a ≤ coef xs i ∧ coef xs i ≤ b := by
  unfold coef
  cases hx : xs[i]? with
  | none => simpa using h0
  | some x => exact h x (List.mem_of_getElem? hx)
theorem values_ok {code : List Int} (h1 : ∀ x ∈ code, 0 ≤ x ∧ x ≤ 255) (h2 : code.length ≤ 1048576) : ∃ v, m_spec_B10Values code = some v ∧ Vals v := by
  unfold m_spec_B10Values
  obtain ⟨e0, hS0⟩ := from_ok h1 h2
  rw [e0, Option.bind_some]
  simp only
  obtain ⟨u, eu, hu⟩ := iter_inv (step := m_spec_B10Values_L0)
    (fun s => Src (l00Src.mk s.1 s.2.1 s.2.2.1) s.2.2.2.1.length ∧ s.2.2.2.2 = (s.2.2.2.1.length : Int) ∧ s.2.2.2.1.length ≤ 10 ∧ ∀ x ∈ s.2.2.2.1, -6 ≤ x ∧ x ≤ 6)
    (fun s => 10 - s.2.2.2.1.length) Vals
    (fun ⟨c, a, sd, xs, n⟩ ⟨i1, i2, i3, i4⟩ => by
      simp only at i1 i2 i3 i4
      unfold m_spec_B10Values_L0
      simp only
      by_cases hn : n < 10
      · left
        obtain ⟨r, s', e, r1, r2, hS⟩ := pick_ok (n := 13) i1 (by omega) (by omega)
        rw [decide_eq_true hn, cond_true, e, Option.bind_some, capI_some (by simp; omega), Option.bind_some, w64_eq (n := r - 6) (by omega), w64_eq (n := n + 1) (by omega)]
        refine ⟨_, rfl, ⟨?_, by simp; omega, by simp; omega, ?_⟩, by simp; omega⟩
        · simp only [List.length_append, List.length_cons, List.length_nil]; exact hS
        · intro x hx
          simp only [List.mem_append, List.mem_singleton] at hx
          rcases hx with hx | rfl
          · exact i4 x hx
          · omega
      · right
        rw [decide_eq_false hn, cond_false]
        exact ⟨_, rfl, by omega, i4⟩)
    (s := (code, 0, 0, [], 0)) ⟨hS0, rfl, by simp, by simp⟩
  rw [eu, Option.bind_some]
  exact ⟨_, rfl, hu⟩
theorem long_no {a b : List Int} (h1 : a.length ≤ 1048576) (h2 : b.length ≤ 1048576) : m_laws_b10Long a b = some false := by
  unfold m_laws_b10Long
  rw [decide_eq_false (by omega), decide_eq_false (by omega)]; rfl
theorem long_yes {a b : List Int} (h : ¬ (a.length ≤ 1048576 ∧ b.length ≤ 1048576)) : m_laws_b10Long a b = some true := by
  unfold m_laws_b10Long
  by_cases h1 : a.length ≤ 1048576
  · rw [decide_eq_false (show ¬ (1048576 : Int) < (a.length : Int) by omega), decide_eq_true (show (1048576 : Int) < (b.length : Int) by omega)]; rfl
  · rw [decide_eq_true (show (1048576 : Int) < (a.length : Int) by omega)]; rfl
theorem val_mkT (c : Int) (f : Nat → Int) (v : List Int) : val (mkT c f) v = c + sumN (fun i => f i * coef v i) 10 := by
  unfold val
  rw [sumN_congr (g := fun i => f i * coef v i) 10 (fun i hi => by rw [mkT_coef, if_pos hi])]
  rfl
theorem slices_eq {xs ys : List Int} : m_slices_Equal_int64_int64 xs ys = some (decide (xs = ys)) := by
  unfold m_slices_Equal_int64_int64
  by_cases h : xs.length = ys.length
  · rw [decide_eq_true (by omega), Bool.not_true, cond_false]
    have key : ∀ (as : List Int) (k : Nat), k + as.length = ys.length →
        forL (m_slices_Equal_int64_int64_L0 ys) (fun s0 => (Sum.inl ())) k as () = some (if as = ys.drop k then .inl () else .inr false) := by
      intro as
      induction as with
      | nil => intro k hk; rw [if_pos (by rw [List.drop_eq_nil_of_le (by simp at hk; omega)])]; rfl
      | cons a r ih =>
        intro k hk
        simp only [List.length_cons] at hk
        have hlt : k < ys.length := by omega
        rw [List.drop_eq_getElem_cons hlt]
        unfold forL m_slices_Equal_int64_int64_L0
        rw [getI_some (show ys[k]? = some ys[k] by simp), Option.bind_some]
        by_cases ha : a = ys[k]
        · rw [decide_eq_true ha, Bool.not_true, cond_false]
          have := ih (k + 1) (by omega)
          simp only
          refine Eq.trans this ?_
          congr 1
          by_cases h2 : r = ys.drop (k + 1)
          · rw [if_pos h2, if_pos (by rw [h2, ha])]
          · rw [if_neg h2, if_neg (fun e => h2 (List.cons.inj e).2)]
        · rw [decide_eq_false ha, Bool.not_false, cond_true, if_neg (fun e => ha (List.cons.inj e).1)]
    rw [key xs 0 (by omega), Option.bind_some, List.drop_zero]
    by_cases e : xs = ys
    · rw [if_pos e, decide_eq_true e]; rfl
    · rw [if_neg e, decide_eq_false e]; rfl
  · rw [decide_eq_false (by omega), decide_eq_false (fun e => h (by rw [e]))]; rfl
theorem dvd_foldl {k : Nat} : ∀ (xs : List Int) (d : Nat), k ∣ d → (∀ x ∈ xs, k ∣ x.natAbs) → k ∣ xs.foldl (fun d x => Nat.gcd d x.natAbs) d := by
  intro xs
  induction xs with
  | nil => intro d h _; exact h
  | cons x r ih => intro d h hx; exact ih _ (Nat.dvd_gcd h (hx x (by simp))) (fun y hy => hx y (by simp [hy]))
theorem dvd_gcdL {k : Nat} {xs : List Int} (h : ∀ x ∈ xs, k ∣ x.natAbs) : k ∣ gcdL xs := dvd_foldl xs 0 (Nat.dvd_zero k) h
theorem quo_mul {x : Int} {d : Nat} (h : d ∣ x.natAbs) : x.tdiv d * d = x := Int.tdiv_mul_cancel (Int.natAbs_dvd_natAbs.1 (by simpa using h))
theorem quos_coef {xs : List Int} {d : Nat} (h : ∀ x ∈ xs, d ∣ x.natAbs) (i : Nat) : coef xs i = (d : Int) * coef (quos xs d) i := by
  unfold coef quos
  rw [List.getElem?_map]
  cases hx : xs[i]? with
  | none => simp
  | some x =>
    have := quo_mul (h x (List.mem_of_getElem? hx))
    simp only [Option.getD_some, Option.map_some]
    rw [Int.mul_comm]; exact this.symm
theorem flo_spec (c : Int) {d : Nat} (hd : 0 < d) : (d : Int) * flo c d ≤ c ∧ c < (d : Int) * flo c d + d := by
  have h1 := Int.mul_tdiv_add_tmod c (d : Int)
  have h2 := Int.tmod_lt_of_pos c (show (0 : Int) < d by omega)
  have h3 : -(d : Int) < c.tmod d := by
    have := Int.tmod_lt_of_pos (-c) (show (0 : Int) < d by omega)
    rw [Int.neg_tmod] at this
    omega
  unfold flo
  split
  · rw [Int.mul_sub, Int.mul_one]; omega
  · omega
theorem sign_flo {c S : Int} {d : Nat} (hd : 0 < d) : (0 ≤ flo c d + S) ↔ (0 ≤ c + (d : Int) * S) := by
  obtain ⟨h1, h2⟩ := flo_spec c hd
  have e : (d : Int) * (flo c d + S) = (d : Int) * flo c d + d * S := Int.mul_add _ _ _
  constructor
  · intro h
    have := Int.mul_nonneg (show (0 : Int) ≤ d by omega) h
    omega
  · intro h
    apply Int.not_lt.1
    intro hlt
    have := Int.mul_le_mul_of_nonneg_left (show flo c d + S ≤ -1 by omega) (show (0 : Int) ≤ d by omega)
    rw [Int.mul_neg, Int.mul_one] at this
    omega
theorem fTight_val {t : Term} {v : List Int} (h : vT t = true) (hd : 2 ≤ gcdL t.Coeffs) : (0 ≤ val (Term.mk (flo t.Const (gcdL t.Coeffs)) (quos t.Coeffs (gcdL t.Coeffs))) v) ↔ (0 ≤ val t v) := by
  unfold val
  simp only
  rw [sign_flo (d := gcdL t.Coeffs) (by omega), ← sumN_mul]
  rw [sumN_congr (f := fun i => (gcdL t.Coeffs : Int) * (coef (quos t.Coeffs (gcdL t.Coeffs)) i * coef v i)) (g := fun i => coef t.Coeffs i * coef v i) 10 (fun i _ => by
    rw [quos_coef (d := gcdL t.Coeffs) (fun x hx => gcdL_dvd hx) i, Int.mul_assoc])]
theorem sumN_shift (f : Nat → Int) : ∀ n, sumN f (n + 1) = f 0 + sumN (fun i => f (i + 1)) n := by
  intro n
  induction n with
  | zero => simp [sumN]
  | succ n ih => rw [show sumN f (n + 1 + 1) = sumN f (n + 1) + f (n + 1) from rfl, ih, show sumN (fun i => f (i + 1)) (n + 1) = sumN (fun i => f (i + 1)) n + f (n + 1) from rfl]; omega
theorem lin_cons (t : Term) (ts : List Term) (m : Int) (ms : List Int) (g : Term → Int) (n : Nat) : lin (t :: ts) (m :: ms) g (n + 1) = m * g t + lin ts ms g n := by
  unfold lin
  rw [sumN_shift]
  rfl
theorem val_lin (ts : List Term) (ms : List Int) (v : List Int) : ∀ n, lin ts ms Term.Const n + sumN (fun i => lin ts ms (fun t => coef t.Coeffs i) n * coef v i) 10 = lin ts ms (fun t => val t v) n := by
  intro n
  induction n with
  | zero => simp [lin, sumN]
  | succ n ih =>
    have e : ∀ g : Term → Int, lin ts ms g (n + 1) = lin ts ms g n + coef ms n * g (tAt ts n) := fun g => rfl
    simp only [e]
    rw [← ih]
    have e2 : sumN (fun i => (lin ts ms (fun t => coef t.Coeffs i) n + coef ms n * coef (tAt ts n).Coeffs i) * coef v i) 10 =
        sumN (fun i => lin ts ms (fun t => coef t.Coeffs i) n * coef v i) 10 + coef ms n * sumN (fun i => coef (tAt ts n).Coeffs i * coef v i) 10 := by
      rw [← sumN_mul, ← sumN_add]
      exact sumN_congr 10 (fun i _ => by rw [Int.add_mul, Int.mul_assoc])
    rw [e2]
    unfold val
    rw [Int.mul_add]
    omega
theorem val_mkT_lin (ts : List Term) (ms : List Int) (v : List Int) (n : Nat) : val (mkT (lin ts ms Term.Const n) (fun i => lin ts ms (fun t => coef t.Coeffs i) n)) v = lin ts ms (fun t => val t v) n := by
  rw [val_mkT]; exact val_lin ts ms v n
theorem val_unit (i : Nat) (v : List Int) (hi : i < 10) : val (unitT i) v = coef v i := by
  unfold val
  simp only [unit_coef]
  have : ∀ n, sumN (fun j => (if j = i then 1 else 0) * coef v j) n = if i < n then coef v i else 0 := by
    intro n
    induction n with
    | zero => simp [sumN]
    | succ n ih =>
      unfold sumN
      rw [ih]
      by_cases h1 : n = i
      · subst h1; simp
      · rw [if_neg h1]
        by_cases h2 : i < n
        · rw [if_pos h2, if_pos (by omega)]; omega
        · rw [if_neg h2, if_neg (by omega)]; omega
  rw [this, if_pos hi]
  show 0 + _ = _
  omega
structure Fact (t : Term) (c : Nat) : Prop where
  v : vT t = true
  c : -(c : Int) ≤ t.Const ∧ t.Const ≤ c
  f : ∀ i, -3 ≤ coef t.Coeffs i ∧ coef t.Coeffs i ≤ 3
theorem Fact.mono {t : Term} {c c' : Nat} (h : Fact t c) (hc : c ≤ c') : Fact t c' := ⟨h.v, by have := h.c; omega, h.f⟩
theorem facts_inner {s : l00Src} {k : Nat} {n : Int} (h : Src s k) (hk : k ≤ 1000000) (hn : 0 ≤ n ∧ n ≤ 3) :
    ∃ c a sd xs, iter m_spec_B10Facts_L1 (s.code, s.at_, s.seed, [], n) = some (c, a, sd, xs) ∧ Src (l00Src.mk c a sd) (k + 4) ∧ xs.length ≤ 3 ∧ ∀ x ∈ xs, -3 ≤ x ∧ x ≤ 3 := by
  obtain ⟨u, eu, hu⟩ := iter_inv (step := m_spec_B10Facts_L1)
    (fun s => Src (l00Src.mk s.1 s.2.1 s.2.2.1) (k + s.2.2.2.1.length) ∧ 0 ≤ s.2.2.2.2 ∧ (s.2.2.2.1.length : Int) + s.2.2.2.2 ≤ 3 ∧ ∀ x ∈ s.2.2.2.1, -3 ≤ x ∧ x ≤ 3)
    (fun s => s.2.2.2.2.toNat) (fun u => Src (l00Src.mk u.1 u.2.1 u.2.2.1) (k + 4) ∧ u.2.2.2.length ≤ 3 ∧ ∀ x ∈ u.2.2.2, -3 ≤ x ∧ x ≤ 3)
    (fun ⟨c, a, sd, xs, n⟩ ⟨i1, i2, i3, i4⟩ => by
      simp only at i1 i2 i3 i4
      unfold m_spec_B10Facts_L1
      simp only
      by_cases hn : 0 < n
      · left
        obtain ⟨r, s', e, r1, r2, hS⟩ := pick_ok (n := 7) i1 (by omega) (by omega)
        rw [decide_eq_true hn, cond_true, e, Option.bind_some, capI_some (by simp; omega), Option.bind_some, w64_eq (n := r - 3) (by omega), w64_eq (n := n - 1) (by omega)]
        refine ⟨_, rfl, ⟨?_, by simp only; omega, by simp; omega, ?_⟩, by simp only; omega⟩
        · simp only [List.length_append, List.length_cons, List.length_nil]; exact hS.mono (by omega)
        · intro x hx
          simp only [List.mem_append, List.mem_singleton] at hx
          rcases hx with hx | rfl
          · exact i4 x hx
          · omega
      · right
        rw [decide_eq_false hn, cond_false]
        exact ⟨_, rfl, i1.mono (by omega), by simp only; omega, i4⟩)
    (s := (s.code, s.at_, s.seed, [], n)) ⟨h, hn.1, by simp; omega, by simp⟩
  exact ⟨u.1, u.2.1, u.2.2.1, u.2.2.2, eu, hu⟩
theorem make_fact {c : Int} {xs : List Int} (hc : -5 ≤ c ∧ c ≤ 5) (h : ∀ x ∈ xs, -3 ≤ x ∧ x ≤ 3) : Fact (chk (Term.mk c (trim xs))).1 5 := by
  unfold chk
  cases hv : vT (Term.mk c (trim xs)) with
  | false => exact ⟨rfl, by simp only [cond_false]; decide, fun i => by rw [show coef (bif false then (Term.mk c (trim xs), true) else (Term.mk 0 [], false)).1.Coeffs i = 0 from rfl]; omega⟩
  | true =>
    refine ⟨hv, by simp only [cond_true]; omega, fun i => ?_⟩
    simp only [cond_true]
    rw [trim_coef]
    exact list_coef h (by omega) i
def FSt (s : List Int × Int × Int × List Term × Int) : Prop :=
  Src (l00Src.mk s.1 s.2.1 s.2.2.1) (20 * s.2.2.2.1.length + 1) ∧ 0 ≤ s.2.2.2.2 ∧ (s.2.2.2.1.length : Int) + s.2.2.2.2 ≤ 5 ∧ ∀ t ∈ s.2.2.2.1, Fact t (7 * s.2.2.2.1.length + 5)
theorem facts_J {c : List Int} {a sd : Int} {out : List Term} {n : Int} {r38 : Term × Bool} {c' : List Int} {a' sd' : Int} {b : Bool} (hI : FSt (c, a, sd, out, n)) (hn : 0 < n)
    (hr : Fact r38.1 5) (hS : Src (l00Src.mk c' a' sd') (20 * out.length + 10)) (hb : b = true → 0 < out.length) :
    ∃ s', m_spec_B10Facts_J0 (c, a, sd, out, n) r38 (c', a', sd', b) = some (.next s') ∧ FSt s' ∧ s'.2.2.2.2 = n - 1 := by
  obtain ⟨i1, i2, i3, i4⟩ := hI
  simp only at i1 i2 i3 i4
  have hadd : ∀ t (s2 : l00Src), Fact t (7 * (out.length + 1) + 5) → Src s2 (20 * out.length + 13) → FSt (s2.code, s2.at_, s2.seed, out ++ [t], n - 1) := by
    intro t s2 ht h2
    refine ⟨?_, by simp only; omega, by simp; omega, ?_⟩
    · simp only [List.length_append, List.length_cons, List.length_nil]; exact h2.mono (by omega)
    · intro x hx
      simp only [List.mem_append, List.mem_singleton] at hx
      simp only [List.length_append, List.length_cons, List.length_nil]
      rcases hx with hx | rfl
      · exact (i4 x hx).mono (by omega)
      · exact ht
  unfold m_spec_B10Facts_J0
  simp only
  cases b with
  | false =>
    rw [cond_false, capI_some (by simp; omega), Option.bind_some, w64_eq (n := n - 1) (by omega)]
    exact ⟨_, rfl, hadd _ (l00Src.mk c' a' sd') (hr.mono (by omega)) (hS.mono (by omega)), rfl⟩
  | true =>
    have h0 := hb rfl
    obtain ⟨r, s1, e1, k1, k2, hS1⟩ := pick_ok (n := (out.length : Int)) hS (by omega) (by omega)
    obtain ⟨m, hm⟩ := Int.eq_ofNat_of_zero_le k1
    have hlt : m < out.length := by omega
    have hx : out[m]? = some out[m] := by simp
    have hf := i4 _ (List.getElem_mem hlt)
    obtain ⟨q, s2, e2, q1, q2, hS2⟩ := pick_ok (n := 7) hS1 (by omega) (by omega)
    have hcf := hf.c
    have eo : chk (opp out[m]) = (opp out[m], true) := mkT_chk (by omega) (fun i _ => by have := hf.f i; omega)
    rw [cond_true, e1, Option.bind_some]
    simp only
    rw [hm, getI_some hx, Option.bind_some, spec_opposite hf.v, Option.bind_some, e2, Option.bind_some, eo]
    simp only
    rw [show (opp out[m]).Const = -(out[m]).Const - 1 from rfl, w64_eq (n := -(out[m]).Const - 1 + q) (by omega), capI_some (by simp; omega), Option.bind_some, w64_eq (n := n - 1) (by omega)]
    refine ⟨_, rfl, hadd _ s2 ⟨mkT_valid (c := -(out[m]).Const - 1 + q) (f := fun i => -coef (out[m]).Coeffs i) (by omega) (fun i _ => by have := hf.f i; omega), ?_, fun i => ?_⟩ (hS2.mono (by omega)), rfl⟩
    · simp only; omega
    · have := mkT_coef 0 (fun i => -coef (out[m]).Coeffs i) i
      have h2 := hf.f i
      rw [show coef (Term.mk (-(out[m]).Const - 1 + q) (opp out[m]).Coeffs).Coeffs i = coef (mkT 0 (fun i => -coef (out[m]).Coeffs i)).Coeffs i from rfl, this]
      split <;> omega
theorem facts_ok {code : List Int} (h1 : ∀ x ∈ code, 0 ≤ x ∧ x ≤ 255) (h2 : code.length ≤ 1048576) : ∃ ts, m_spec_B10Facts code = some ts ∧ ts.length ≤ 5 ∧ ∀ t ∈ ts, Fact t 40 := by
  unfold m_spec_B10Facts
  obtain ⟨e0, hS0⟩ := from_ok h1 h2
  rw [e0, Option.bind_some]
  obtain ⟨r, s1, e1, g1, g2, hS1⟩ := pick_ok (n := 5) hS0 (by omega) (by omega)
  rw [e1, Option.bind_some]
  simp only
  rw [w64_eq (n := 1 + r) (by omega)]
  obtain ⟨u, eu, hu⟩ := iter_inv (step := m_spec_B10Facts_L0) FSt (fun s => s.2.2.2.2.toNat) (fun ts => ts.length ≤ 5 ∧ ∀ t ∈ ts, Fact t 40)
    (fun ⟨c, a, sd, out, n⟩ hI => by
      have hI' := hI
      obtain ⟨i1, i2, i3, i4⟩ := hI'
      simp only at i1 i2 i3 i4
      unfold m_spec_B10Facts_L0
      simp only
      by_cases hn : 0 < n
      · left
        obtain ⟨r, s', e, r1, r2, hS⟩ := pick_ok (n := 4) i1 (by omega) (by omega)
        obtain ⟨c2, a2, sd2, xs, e2, hS2, hx1, hx2⟩ := facts_inner hS (by omega) (n := r) (by omega)
        rw [decide_eq_true hn, cond_true, e, Option.bind_some]
        simp only
        rw [e2, Option.bind_some]
        unfold m_spec_B10Facts_A1
        simp only
        obtain ⟨q, s3, e3, q1, q2, hS3⟩ := pick_ok (n := 9) hS2 (by omega) (by omega)
        rw [e3, Option.bind_some]
        simp only
        rw [w64_eq (n := q - 3) (by omega), spec_make (by omega), Option.bind_some]
        have hf := make_fact (c := q - 3) (xs := xs) (by omega) hx2
        by_cases h0 : 0 < out.length
        · rw [decide_eq_true (show (0 : Int) < (out.length : Int) by omega), cond_true]
          obtain ⟨z, s4, e4, z1, z2, hS4⟩ := pick_ok (n := 3) hS3 (by omega) (by omega)
          unfold m_spec_l00Src_one
          rw [e4, Option.bind_some, Option.bind_some]
          simp only
          obtain ⟨s', j1, j2, j3⟩ := facts_J (b := decide (z = 0)) (r38 := chk (Term.mk (q - 3) (trim xs))) hI hn hf (c' := s4.code) (a' := s4.at_) (sd' := s4.seed) (hS4.mono (by omega)) (fun _ => h0)
          exact ⟨s', j1, j2, by rw [j3]; omega⟩
        · rw [decide_eq_false (show ¬ (0 : Int) < (out.length : Int) by omega), cond_false]
          obtain ⟨s', j1, j2, j3⟩ := facts_J (b := false) (r38 := chk (Term.mk (q - 3) (trim xs))) hI hn hf (c' := s3.code) (a' := s3.at_) (sd' := s3.seed) (hS3.mono (by omega)) (fun h => by cases h)
          exact ⟨s', j1, j2, by rw [j3]; omega⟩
      · right
        rw [decide_eq_false hn, cond_false]
        exact ⟨_, rfl, by omega, fun t ht => (i4 t ht).mono (by omega)⟩)
    (s := (s1.code, s1.at_, s1.seed, [], 1 + r)) ⟨hS1.mono (by simp), by simp only; omega, by simp; omega, by simp⟩
  rw [eu, Option.bind_some]
  exact ⟨_, rfl, hu⟩
def allHold (ts : List Term) (v : List Int) : Bool := ts.all fun t => !decide (val t v < 0)
theorem hold_ok {ts : List Term} {v : List Int} (h : ∀ t ∈ ts, vT t = true) (hl : ts.length ≤ 1048576) (hv : Vals v) : m_laws_b10Hold ts v = some (allHold ts v) := by
  have h2 := iter_for (step := m_laws_b10Hold_L0 ts v) ts (fun n (_ : Unit) => (n : Int)) (fun _ t _ => bif !decide (val t v < 0) then some (.next ()) else some (.out (.inr false))) (fun _ => .inl ())
    (fun n x r hx => by
      unfold m_laws_b10Hold_L0
      rw [dec_lt (get_lt hx), cond_true, getI_some hx, Option.bind_some, value_ok (h x (List.mem_of_getElem? hx)) hv, Option.bind_some]
      have hw : w64 ((n : Int) + 1) = ((n + 1 : Nat) : Int) := w64_succ (by have := get_lt hx; omega)
      cases decide (val x v < 0)
      · rw [hw]; rfl
      · rfl)
    (fun r => by unfold m_laws_b10Hold_L0; rw [dec_self]; rfl) ()
  rw [forL_all (fun t => !decide (val t v < 0)) _ _ (fun n x _ => rfl)] at h2
  unfold m_laws_b10Hold
  rw [show (0 : Int) = ((0 : Nat) : Int) from rfl, h2, Option.bind_some]
  unfold allHold
  cases ts.all fun t => !decide (val t v < 0) <;> rfl
theorem sumN_nonneg {f : Nat → Int} : ∀ n, (∀ i, i < n → 0 ≤ f i) → 0 ≤ sumN f n := by
  intro n
  induction n with
  | zero => intro _; exact Int.le_refl 0
  | succ n ih => intro h; have := ih (fun i hi => h i (by omega)); have := h n (by omega); unfold sumN; omega
end Go.Mod

namespace Go.Mod
open Go.AM
set_option linter.unusedVariables false
set_option linter.unusedSimpArgs false
theorem iter_cnt {σ τ : Type} {step : σ → Option (Ctl σ τ)} (st : Nat → σ) (N : Nat) {t : τ} (hs : ∀ k, k < N → step (st k) = some (.next (st (k + 1)))) (he : step (st N) = some (.out t)) :
    iter step (st 0) = some t := by
  have key : ∀ (q k : Nat), k + q = N → iter step (st k) = some t := by
    intro q
    induction q with
    | zero => intro k hk; obtain rfl : k = N := by omega
              exact iter_out he
    | succ q ih => intro k hk; rw [iter_next (hs k (by omega))]; exact ih (k + 1) (by omega)
  exact key N 0 (by omega)
theorem forL_map {α β τ : Type} {body : Nat → α → List β → Option (Ctl (List β) τ)} {fin : List β → τ} (f : Nat → β) (xs : List α)
    (hb : ∀ n x, xs[n]? = some x → body n x ((List.range n).map f) = some (.next ((List.range n).map f ++ [f n]))) : forL body fin 0 xs [] = some (fin ((List.range xs.length).map f)) := by
  obtain ⟨t, h1, h2⟩ := forL_inv (xs := xs) (step := body) (fin := fin) (fun n s => s = (List.range n).map f) (fun t => t = fin ((List.range xs.length).map f))
    (fun n x s hx hI => .inl ⟨(List.range n).map f ++ [f n], by rw [hI]; exact hb n x hx, by rw [List.range_succ, List.map_append]; rfl⟩) (fun s hI => by rw [hI]) (s := []) rfl
  rw [h1, h2]
def Far (x : Int) : Prop := -4000000000000 ≤ x ∧ x ≤ 4000000000000
theorem max_abs {b : Int} : (bif decide (0 - b < b) then some b else some (0 - b)) = some ((b.natAbs : Nat) : Int) := by
  by_cases h : 0 - b < b
  · rw [decide_eq_true h, cond_true, show ((b.natAbs : Nat) : Int) = b by omega]
  · rw [decide_eq_false h, cond_false, show ((b.natAbs : Nat) : Int) = 0 - b by omega]
theorem spec_euclid6 (a b : Nat) : iter m_spec_l06Gcd_L0 ((a : Int), (b : Int)) = some ((Nat.gcd a b : Nat) : Int) :=
  euclid (fun a => rfl) (fun a b hb => by
    unfold m_spec_l06Gcd_L0
    simp only
    rw [decide_eq_true (by omega), cond_true, rem_nat hb]; rfl) (b + 1) b a (Nat.lt_succ_self _)
theorem spec_gcd2 {a : Nat} {b : Int} (h : Far b) : m_spec_l06Gcd (a : Int) b = some ((Nat.gcd a b.natAbs : Nat) : Int) := by
  unfold Far at h
  unfold m_spec_l06Gcd m_spec_l00Max
  rw [w64_eq (n := 0 - b) (by omega), max_abs, Option.bind_some, spec_euclid6, Option.bind_some]; rfl
theorem impl_gcdW {xs : List Int} (h : ∀ x ∈ xs, Far x) : m_impl_gcd xs = some ((gcdL xs : Nat) : Int) := by
  unfold m_impl_gcd
  rw [forL_fold (fun (d : Int) x => ((Nat.gcd d.toNat x.natAbs : Nat) : Int)) (fun _ d => 0 ≤ d) xs 0 0 (Int.le_refl 0) (fun n x d hx hd => by
    have hr := h x (List.mem_of_getElem? hx)
    unfold Far at hr
    unfold m_impl_gcd_L0 m_impl_absolute
    rw [Option.bind_some, w64_eq (by omega), show max x (0 - x) = ((x.natAbs : Nat) : Int) by omega, show d = ((d.toNat : Nat) : Int) by omega, impl_euclid, Option.bind_some]
    exact ⟨by rw [Int.toNat_natCast]; rfl, by omega⟩), Option.bind_some]
  have := foldl_cast xs 0
  exact congrArg some this
theorem tdiv_le (x : Int) (d : Nat) : (x.tdiv d).natAbs ≤ x.natAbs := by
  rw [Int.natAbs_tdiv]; exact Nat.div_le_self _ _
theorem quo_far {x : Int} {d : Nat} (hd : 0 < d) (h : Far x) : quoI x (d : Int) = some (x.tdiv d) := by
  unfold Far at h
  have := tdiv_le x d
  unfold quoI
  rw [decide_eq_false (by omega), cond_false, w64_eq (by omega)]
def part (xs : List Int) (d k : Nat) : List Int := quos (xs.take k) d ++ xs.drop k
theorem part_len (xs : List Int) (d k : Nat) : (part xs d k).length = xs.length := by unfold part quos; simp; omega
theorem part_get {xs : List Int} {d k : Nat} {x : Int} (h : xs[k]? = some x) : (part xs d k)[k]? = some x := by
  have hk := get_lt h
  unfold part quos
  rw [List.getElem?_append_right (by simp; omega)]
  simp only [List.length_map, List.length_take]
  rw [List.getElem?_drop, show k + (k - min k xs.length) = k by omega, h]
theorem part_set {xs : List Int} {d k : Nat} {x : Int} (h : xs[k]? = some x) : (part xs d k).set k (x.tdiv d) = part xs d (k + 1) := by
  have hk := get_lt h
  unfold part quos
  rw [List.set_append_right _ _ (by simp; omega)]
  simp only [List.length_map, List.length_take]
  rw [show k - min k xs.length = 0 by omega, List.take_add_one, h, List.map_append, List.append_assoc]
  congr 1
  rw [List.drop_eq_getElem_cons hk]
  have : xs[k] = x := by rw [List.getElem?_eq_getElem hk] at h; exact Option.some.inj h
  simp [this]
theorem part_zero (xs : List Int) (d : Nat) : part xs d 0 = xs := by simp [part, quos]
theorem part_end (xs : List Int) (d : Nat) : part xs d xs.length = quos xs d := by simp [part]
structure RowOK (n : Nat) (x : combination) : Prop where
  v : vT x.term = true
  len : x.by_.length = n
  rng : ∀ m ∈ x.by_, 0 ≤ m ∧ m ≤ 1000000
  pos : ∃ m ∈ x.by_, m ≠ 0
def rowOf (x : combination) : l06Row := l06Row.mk x.term.Const (tab fun i => coef x.term.Coeffs i) x.by_
theorem RowOK.coefB {n : Nat} {x : combination} (h : RowOK n x) (j : Nat) : 0 ≤ coef x.by_ j ∧ coef x.by_ j ≤ 1000000 := by
  unfold coef
  cases hx : x.by_[j]? with
  | none => simp
  | some y => exact h.rng y (List.mem_of_getElem? hx)
def mxG (p q : combination) (k : Nat) : Nat := Nat.gcd (coef p.term.Coeffs k).natAbs (coef q.term.Coeffs k).natAbs
def mxM (p q : combination) (k : Nat) : Int := (coef p.term.Coeffs k).tdiv (mxG p q k)
def mxN (p q : combination) (k : Nat) : Int := (-coef q.term.Coeffs k).tdiv (mxG p q k)
def mxC (p q : combination) (k : Nat) : Int := mxN p q k * p.term.Const + mxM p q k * q.term.Const
def mxV (p q : combination) (k i : Nat) : Int := mxN p q k * coef p.term.Coeffs i + mxM p q k * coef q.term.Coeffs i
def mxJ (p q : combination) (k j : Nat) : Int := mxN p q k * coef p.by_ j + mxM p q k * coef q.by_ j
def mxB (p q : combination) (k : Nat) : List Int := (List.range p.by_.length).map (mxJ p q k)
def mxD (p q : combination) (k : Nat) : Nat := gcdL (mxC p q k :: (tab (mxV p q k) ++ mxB p q k))
def mxR (p q : combination) (k : Nat) : combination := combination.mk (Term.mk ((mxC p q k).tdiv (mxD p q k)) (quos (trim (tab (mxV p q k))) (mxD p q k))) (quos (mxB p q k) (mxD p q k))
def mixR (p q : combination) (k : Nat) : combination × Bool := (mxR p q k, vT (mxR p q k).term && (mxR p q k).by_.all inR)
structure Two (n : Nat) (p q : combination) (k : Nat) : Prop where
  rp : RowOK n p
  rq : RowOK n q
  a : 0 < coef p.term.Coeffs k
  b : coef q.term.Coeffs k < 0
  n : n ≤ 14
section
variable {n k : Nat} {p q : combination}
theorem Two.g (h : Two n p q k) : 0 < mxG p q k := Nat.gcd_pos_of_pos_left _ (by have := h.a; omega)
theorem Two.mEq (h : Two n p q k) : mxM p q k * (mxG p q k : Int) = coef p.term.Coeffs k := quo_mul (Nat.gcd_dvd_left _ _)
theorem Two.nEq (h : Two n p q k) : mxN p q k * (mxG p q k : Int) = -coef q.term.Coeffs k := quo_mul (by rw [Int.natAbs_neg]; exact Nat.gcd_dvd_right _ _)
theorem Two.m (h : Two n p q k) : 1 ≤ mxM p q k ∧ mxM p q k ≤ 1000000 := by
  have h1 := h.mEq; have h2 := h.a; have h3 := coef_rng h.rp.v k; have h4 := tdiv_le (coef p.term.Coeffs k) (mxG p q k)
  have h5 : 0 ≤ mxM p q k := Int.tdiv_nonneg (by omega) (by omega)
  have h6 : mxM p q k ≠ 0 := fun e => by rw [e, Int.zero_mul] at h1; omega
  unfold mxM at h5 h6 ⊢
  omega
theorem Two.nn (h : Two n p q k) : 1 ≤ mxN p q k ∧ mxN p q k ≤ 1000000 := by
  have h1 := h.nEq; have h2 := h.b; have h3 := coef_rng h.rq.v k; have h4 := tdiv_le (-coef q.term.Coeffs k) (mxG p q k)
  have h5 : 0 ≤ mxN p q k := Int.tdiv_nonneg (by omega) (by omega)
  have h6 : mxN p q k ≠ 0 := fun e => by rw [e, Int.zero_mul] at h1; omega
  unfold mxN at h5 h6 ⊢
  omega
theorem Two.two (h : Two n p q k) {x y : Int} (hx : -1000000 ≤ x ∧ x ≤ 1000000) (hy : -1000000 ≤ y ∧ y ≤ 1000000) :
    (-1000000000000 ≤ mxN p q k * x ∧ mxN p q k * x ≤ 1000000000000) ∧ (-1000000000000 ≤ mxM p q k * y ∧ mxM p q k * y ≤ 1000000000000) :=
  ⟨mul_rng (by have := h.nn; omega) hx, mul_rng (by have := h.m; omega) hy⟩
theorem Two.far (h : Two n p q k) {x y : Int} (hx : -1000000 ≤ x ∧ x ≤ 1000000) (hy : -1000000 ≤ y ∧ y ≤ 1000000) : Far (mxN p q k * x + mxM p q k * y) := by
  have := h.two hx hy; unfold Far; omega
theorem Two.wide (h : Two n p q k) {x y : Int} (hx : -1000000 ≤ x ∧ x ≤ 1000000) (hy : -1000000 ≤ y ∧ y ≤ 1000000) :
    w64 (w64 (mxN p q k * x) + w64 (mxM p q k * y)) = mxN p q k * x + mxM p q k * y := by
  have := h.two hx hy
  rw [w64_eq (n := mxN p q k * x) (by omega), w64_eq (n := mxM p q k * y) (by omega), w64_eq (by omega)]
theorem Two.farC (h : Two n p q k) : Far (mxC p q k) := h.far (const_rng h.rp.v) (const_rng h.rq.v)
theorem Two.farV (h : Two n p q k) (i : Nat) : Far (mxV p q k i) := h.far (coef_rng h.rp.v i) (coef_rng h.rq.v i)
theorem Two.farJ (h : Two n p q k) (j : Nat) : Far (mxJ p q k j) := h.far (by have := h.rp.coefB j; omega) (by have := h.rq.coefB j; omega)
theorem Two.farAll (h : Two n p q k) : ∀ x ∈ mxC p q k :: (tab (mxV p q k) ++ mxB p q k), Far x := by
  intro x hx
  simp only [List.mem_cons, List.mem_append] at hx
  rcases hx with rfl | hx | hx
  · exact h.farC
  · obtain ⟨i, _, rfl⟩ := List.mem_map.1 hx; exact h.farV i
  · obtain ⟨i, _, rfl⟩ := List.mem_map.1 hx; exact h.farJ i
theorem Two.bpos (h : Two n p q k) : ∃ j, j < p.by_.length ∧ 0 < mxJ p q k j := by
  obtain ⟨m, hm, hne⟩ := h.rp.pos
  obtain ⟨j, hj⟩ := List.getElem?_of_mem hm
  refine ⟨j, get_lt hj, ?_⟩
  have h1 := h.rp.rng m hm
  have h2 := h.nn.1; have h3 := h.m.1; have h4 := (h.rq.coefB j).1
  unfold mxJ
  rw [coef_get hj]
  have h5 : 0 < mxN p q k * m := Int.mul_pos (by omega) (by omega)
  have h6 : 0 ≤ mxM p q k * coef q.by_ j := Int.mul_nonneg (by omega) h4
  omega
theorem Two.d (h : Two n p q k) : 0 < mxD p q k := by
  obtain ⟨j, hj, hp⟩ := h.bpos
  have : mxD p q k ∣ (mxJ p q k j).natAbs := gcdL_dvd (by simp only [List.mem_cons, List.mem_append]; exact .inr (.inr (List.mem_map.2 ⟨j, List.mem_range.2 hj, rfl⟩)))
  exact Nat.pos_of_dvd_of_pos this (by omega)
theorem mxD_c : mxD p q k ∣ (mxC p q k).natAbs := gcdL_dvd (by simp)
theorem mxD_v {x : Int} (h : x ∈ tab (mxV p q k)) : mxD p q k ∣ x.natAbs := gcdL_dvd (by simp [h])
theorem mxD_b {x : Int} (h : x ∈ mxB p q k) : mxD p q k ∣ x.natAbs := gcdL_dvd (by simp [h])
theorem mem_trim {xs : List Int} {x : Int} (h : x ∈ trim xs) : x ∈ xs := List.mem_of_mem_take h
theorem trim_mem {xs : List Int} {x : Int} (h : x ∈ xs) (h0 : x ≠ 0) : x ∈ trim xs := by
  obtain ⟨i, hi⟩ := List.getElem?_of_mem h
  have := trim_coef xs i
  rw [coef_get hi] at this
  unfold coef at this
  cases ht : (trim xs)[i]? with
  | none => rw [ht] at this; exact absurd this.symm h0
  | some y => rw [ht] at this; simp only [Option.getD_some] at this; rw [← this]; exact List.mem_of_getElem? ht
theorem gcdL_trim (c : Int) (xs ys : List Int) : gcdL ([c] ++ trim xs ++ ys) = gcdL (c :: (xs ++ ys)) := by
  refine Nat.dvd_antisymm (dvd_gcdL fun x hx => ?_) (dvd_gcdL fun x hx => ?_)
  · simp only [List.mem_cons, List.mem_append] at hx
    by_cases h0 : x = 0
    · subst h0; exact Nat.dvd_zero _
    · refine gcdL_dvd ?_
      simp only [List.mem_append, List.mem_singleton]
      rcases hx with h | h | h
      · exact .inl (.inl h)
      · exact .inl (.inr (trim_mem h h0))
      · exact .inr h
  · simp only [List.mem_append, List.mem_singleton] at hx
    refine gcdL_dvd ?_
    simp only [List.mem_cons, List.mem_append]
    rcases hx with (h | h) | h
    · exact .inl h
    · exact .inr (.inl (mem_trim h))
    · exact .inr (.inr h)
theorem impl_coeff {t : Term} {i : Nat} (hl : t.Coeffs.length ≤ 10) : m_impl_Term_coeff t (i : Int) = some (coef t.Coeffs i) := by
  unfold m_impl_Term_coeff
  by_cases h : i < t.Coeffs.length
  · rw [decide_eq_true (by omega), cond_true, getI_some (List.getElem?_eq_getElem h), Option.bind_some, coef_get (List.getElem?_eq_getElem h)]
  · rw [decide_eq_false (by omega), cond_false, coef_no (by omega)]
theorem lin_two (p q : Term) (a b : Int) (g : Term → Int) : lin [p, q] [a, b] g 2 = a * g p + b * g q := by
  rw [show (2 : Nat) = 1 + 1 from rfl, lin_cons, lin_one]
theorem Two.negq (h : Two n p q k) : w64 (0 - coef q.term.Coeffs k) = -coef q.term.Coeffs k := by
  have := coef_rng h.rq.v k
  rw [w64_eq (by omega)]; omega
theorem iter_part {xs : List Int} {d : Nat} {step : List Int × Int → Option (Ctl (List Int × Int) (List Int))} (hd : 0 < d) (hl : xs.length ≤ 1000) (hx : ∀ x ∈ xs, Far x)
    (hs : ∀ (s : List Int) (i : Int), step (s, i) = bif decide (i < (xs.length : Int)) then (getI s i).bind fun x => (quoI x (d : Int)).bind fun q => some (.next (s.set i.toNat q, w64 (i + 1))) else some (.out s)) :
    iter step (xs, 0) = some (quos xs d) := by
  have h := iter_cnt (step := step) (fun k => (part xs d k, (k : Int))) xs.length (t := quos xs d) (fun k hk => by
    have hg : xs[k]? = some xs[k] := List.getElem?_eq_getElem hk
    rw [hs, dec_lt hk, cond_true, getI_some (part_get hg), Option.bind_some, quo_far hd (hx _ (List.getElem_mem hk)), Option.bind_some, Int.toNat_natCast, part_set hg, w64_succ (by omega)])
    (by rw [hs, dec_self, cond_false, part_end])
  rw [part_zero] at h
  exact h
theorem impl_mix (h : Two n p q k) (hk : k < 10) : m_impl_cancelled p q (k : Int) = some (mixR p q k) := by
  have lp := vT_len h.rp.v
  have lq := vT_len h.rq.v
  have hlen : p.by_.length ≤ 14 := by rw [h.rp.len]; exact h.n
  have hg : ∀ x ∈ [coef p.term.Coeffs k, -coef q.term.Coeffs k], Far x := by
    have h1 := coef_rng h.rp.v k; have h2 := coef_rng h.rq.v k
    intro x hx
    simp only [List.mem_cons, List.not_mem_nil, or_false] at hx
    unfold Far
    rcases hx with rfl | rfl <;> omega
  have hgc : gcdL [coef p.term.Coeffs k, -coef q.term.Coeffs k] = mxG p q k := by
    unfold gcdL mxG
    simp only [List.foldl_cons, List.foldl_nil, Nat.gcd_zero_left, Int.natAbs_neg]
  have hL : Lin [p.term, q.term] [mxN p q k, mxM p q k] := ⟨by simp [h.rp.v, h.rq.v], by
    have h1 := h.m; have h2 := h.nn
    intro x hx
    simp only [List.mem_cons, List.not_mem_nil, or_false] at hx
    unfold mOK
    rcases hx with rfl | rfl <;> omega, by simp, rfl⟩
  unfold m_impl_cancelled
  rw [impl_coeff lp, Option.bind_some, impl_coeff lq, Option.bind_some, h.negq, impl_gcdW hg, Option.bind_some, hgc]
  rw [quo_far h.g (hg _ (by simp)), Option.bind_some, quo_far h.g (hg _ (by simp)), Option.bind_some]
  rw [show (coef p.term.Coeffs k).tdiv (mxG p q k) = mxM p q k from rfl, show (-coef q.term.Coeffs k).tdiv (mxG p q k) = mxN p q k from rfl]
  rw [impl_combined hL, Option.bind_some]
  simp only [List.length_cons, List.length_nil, Nat.zero_add, Nat.reduceAdd, lin_two]
  rw [show mxN p q k * p.term.Const + mxM p q k * q.term.Const = mxC p q k from rfl, show (fun i => mxN p q k * coef p.term.Coeffs i + mxM p q k * coef q.term.Coeffs i) = mxV p q k from rfl]
  rw [forL_map (mxJ p q k) p.by_ (fun j x hx => by
    have hj := get_lt hx
    have hjq : j < q.by_.length := by rw [h.rq.len, ← h.rp.len]; exact hj
    unfold m_impl_cancelled_L0
    rw [getI_some (List.getElem?_eq_getElem hjq), Option.bind_some, ← coef_get hx, ← coef_get (List.getElem?_eq_getElem hjq)]
    rw [h.wide (by have := h.rp.coefB j; omega) (by have := h.rq.coefB j; omega), capI_some (by simp; omega)]; rfl), Option.bind_some]
  unfold m_impl_cancelled_A0
  have hbl : (mxB p q k).length = p.by_.length := by simp [mxB]
  have htl : (trim (tab (mxV p q k))).length ≤ 10 := by have := trim_len (tab (mxV p q k)); rw [tab_len] at this; exact this
  rw [show (List.range p.by_.length).map (mxJ p q k) = mxB p q k from rfl]
  simp only
  rw [capI_some (by simp; omega), Option.bind_some, capI_some (by simp; omega), Option.bind_some]
  have hall := h.farAll
  have hfar : ∀ x ∈ [mxC p q k] ++ trim (tab (mxV p q k)) ++ mxB p q k, Far x := fun x hx => by
    simp only [List.mem_append, List.mem_singleton] at hx
    refine hall x ?_
    simp only [List.mem_cons, List.mem_append]
    rcases hx with (h | h) | h
    · exact .inl h
    · exact .inr (.inl (mem_trim h))
    · exact .inr (.inr h)
  rw [impl_gcdW hfar, Option.bind_some, gcdL_trim, show gcdL (mxC p q k :: (tab (mxV p q k) ++ mxB p q k)) = mxD p q k from rfl, quo_far h.d h.farC, Option.bind_some]
  rw [iter_part (xs := trim (tab (mxV p q k))) (d := mxD p q k) h.d (by omega) (fun x hx => hfar x (by simp [hx])) (fun s i => rfl), Option.bind_some]
  unfold m_impl_cancelled_A1
  rw [iter_part (xs := mxB p q k) (d := mxD p q k) h.d (by omega) (fun x hx => hfar x (by simp [hx])) (fun s i => rfl), Option.bind_some]
  unfold m_impl_cancelled_A2
  rw [impl_valid, Option.bind_some, impl_all, Option.bind_some]
  unfold mixR
  rw [show Term.mk ((mxC p q k).tdiv (mxD p q k)) (quos (trim (tab (mxV p q k))) (mxD p q k)) = (mxR p q k).term from rfl]
  cases vT (mxR p q k).term <;> rfl
end
end Go.Mod

namespace Go.Mod
open Go.AM
set_option linter.unusedVariables false
set_option linter.unusedSimpArgs false
theorem tab_getI {f : Nat → Int} {i : Nat} (h : i < 10) : getI (tab f) (i : Int) = some (f i) := getI_some (tab_get h)
theorem tab_congr {f g : Nat → Int} (h : ∀ i, i < 10 → f i = g i) : tab f = tab g := List.map_congr_left (fun i hi => h i (List.mem_range.1 hi))
def foldG (a : Nat) (xs : List Int) : Nat := xs.foldl (fun d x => Nat.gcd d x.natAbs) a
theorem acc_loop {step : Int × List Int × Int → Option (Ctl (Int × List Int × Int) (Int × List Int))} (V : Nat → Int) (N g0 : Nat)
    (hs : ∀ j, j < N → ∀ (g : Nat), step ((g : Int), (List.range j).map V, (j : Int)) = some (.next (((Nat.gcd g (V j).natAbs : Nat) : Int), (List.range j).map V ++ [V j], ((j + 1 : Nat) : Int))))
    (he : ∀ g xs, step (g, xs, (N : Int)) = some (.out (g, xs))) : iter step ((g0 : Int), [], 0) = some (((foldG g0 ((List.range N).map V) : Nat) : Int), (List.range N).map V) := by
  have h := iter_cnt (step := step) (fun j => (((foldG g0 ((List.range j).map V) : Nat) : Int), (List.range j).map V, (j : Int))) N (t := (((foldG g0 ((List.range N).map V) : Nat) : Int), (List.range N).map V))
    (fun j hj => by
      rw [hs j hj]
      have e : (List.range (j + 1)).map V = (List.range j).map V ++ [V j] := by rw [List.range_succ, List.map_append]; rfl
      rw [e]
      unfold foldG
      rw [List.foldl_append]; rfl) (he _ _)
  exact h
theorem div_loop {xs : List Int} {d : Nat} {b0 : Bool} {step : List Int × Bool × Int → Option (Ctl (List Int × Bool × Int) (List Int × Bool))} (hd : 0 < d) (hl : xs.length ≤ 1000) (hx : ∀ x ∈ xs, Far x)
    (hs : ∀ (s : List Int) (b : Bool) (i : Int), step (s, b, i) = bif decide (i < (s.length : Int)) then (getI s i).bind fun x => (quoI x (d : Int)).bind fun q =>
      bif b then (getI (s.set i.toNat q) i).bind fun y => (m_spec_l02Number y).bind fun r => some (.next (s.set i.toNat q, r, w64 (i + 1))) else some (.next (s.set i.toNat q, false, w64 (i + 1))) else some (.out (s, b))) :
    iter step (xs, b0, 0) = some (quos xs d, b0 && (quos xs d).all inR) := by
  have h := iter_cnt (step := step) (fun k => (part xs d k, b0 && (quos (xs.take k) d).all inR, (k : Int))) xs.length (t := (quos xs d, b0 && (quos xs d).all inR)) (fun k hk => by
    have hg : xs[k]? = some xs[k] := List.getElem?_eq_getElem hk
    have hkl : k < (part xs d k).length := by rw [part_len]; exact hk
    rw [hs, dec_lt hkl, cond_true, getI_some (part_get hg), Option.bind_some, quo_far hd (hx _ (List.getElem_mem hk)), Option.bind_some, Int.toNat_natCast, w64_succ (by omega)]
    rw [getI_some (x := xs[k].tdiv d) (by rw [List.getElem?_set_self hkl]), Option.bind_some, spec_number, Option.bind_some, part_set hg]
    have e : (quos (xs.take (k + 1)) d).all inR = ((quos (xs.take k) d).all inR && inR (xs[k].tdiv d)) := by
      unfold quos
      rw [List.take_add_one, hg, List.map_append, List.all_append]
      simp
    rw [e]
    cases b0 <;> cases (quos (xs.take k) d).all inR <;> rfl)
    (by
      rw [hs, part_len, dec_self, cond_false, part_end, List.take_length])
  rw [part_zero] at h
  simpa [quos] using h
section
variable {n k : Nat} {p q : combination}
theorem quos_tab (f : Nat → Int) (d : Nat) : quos (tab f) d = tab fun i => (f i).tdiv d := by unfold quos tab; rw [List.map_map]; rfl
theorem coef_quos (xs : List Int) (d i : Nat) : coef (quos xs d) i = (coef xs i).tdiv d := by
  unfold coef quos
  rw [List.getElem?_map]
  cases xs[i]? with
  | none => simp
  | some x => rfl
theorem all_quos_trim (ys : List Int) (d : Nat) : (quos (trim ys) d).all inR = (quos ys d).all inR := by
  apply Bool.eq_iff_iff.2
  rw [List.all_eq_true, List.all_eq_true]
  unfold quos
  constructor
  · intro h x hx
    obtain ⟨y, hy, rfl⟩ := List.mem_map.1 hx
    by_cases h0 : y = 0
    · subst h0; simp; decide
    · exact h _ (List.mem_map.2 ⟨y, trim_mem hy h0, rfl⟩)
  · intro h x hx
    obtain ⟨y, hy, rfl⟩ := List.mem_map.1 hx
    exact h _ (List.mem_map.2 ⟨y, mem_trim hy, rfl⟩)
theorem mxV_coef (h : Two n p q k) (i : Nat) (hi : i < 10) : coef (mxR p q k).term.Coeffs i = (mxV p q k i).tdiv (mxD p q k) := by
  unfold mxR
  simp only
  rw [coef_quos, trim_coef, tab_coef, if_pos hi]
theorem rowOf_mx (h : Two n p q k) : rowOf (mxR p q k) = l06Row.mk ((mxC p q k).tdiv (mxD p q k)) (quos (tab (mxV p q k)) (mxD p q k)) (quos (mxB p q k) (mxD p q k)) := by
  unfold rowOf
  rw [quos_tab, tab_congr (fun i hi => mxV_coef h i hi)]; rfl
theorem mx_fine (h : Two n p q k) : (mixR p q k).2 = ((inR ((mxC p q k).tdiv (mxD p q k)) && (quos (tab (mxV p q k)) (mxD p q k)).all inR) && (quos (mxB p q k) (mxD p q k)).all inR) := by
  unfold mixR mxR vT
  simp only
  have h1 : (quos (trim (tab (mxV p q k))) (mxD p q k)).length ≤ 10 := by unfold quos; have := trim_len (tab (mxV p q k)); rw [tab_len] at this; simpa using this
  rw [decide_eq_true h1, quos_last h.d (trim_last _) (fun x hx => mxD_v (mem_trim hx)), all_quos_trim]
  simp
theorem spec_mix (h : Two n p q k) (hk : k < 10) : m_spec_l06Mix (rowOf p) (rowOf q) (k : Int) = some (rowOf (mixR p q k).1, (mixR p q k).2) := by
  have hlen : p.by_.length ≤ 14 := by rw [h.rp.len]; exact h.n
  have fa : Far (coef p.term.Coeffs k) := by have := coef_rng h.rp.v k; unfold Far; omega
  have fb : Far (-coef q.term.Coeffs k) := by have := coef_rng h.rq.v k; unfold Far; omega
  have hg : m_spec_l06Gcd (coef p.term.Coeffs k) (-coef q.term.Coeffs k) = some ((mxG p q k : Nat) : Int) := by
    have := spec_gcd2 (a := (coef p.term.Coeffs k).natAbs) fb
    have ha := h.a
    rw [show (((coef p.term.Coeffs k).natAbs : Nat) : Int) = coef p.term.Coeffs k by omega, Int.natAbs_neg] at this
    exact this
  unfold m_spec_l06Mix
  rw [show getI (rowOf p).list (k : Int) = some (coef p.term.Coeffs k) from tab_getI hk, Option.bind_some, show getI (rowOf q).list (k : Int) = some (coef q.term.Coeffs k) from tab_getI hk, Option.bind_some]
  rw [h.negq, hg, Option.bind_some, quo_far h.g fa, Option.bind_some, quo_far h.g fb, Option.bind_some]
  rw [show (coef p.term.Coeffs k).tdiv (mxG p q k) = mxM p q k from rfl, show (-coef q.term.Coeffs k).tdiv (mxG p q k) = mxN p q k from rfl]
  rw [show (rowOf p).c = p.term.Const from rfl, show (rowOf q).c = q.term.Const from rfl, h.wide (const_rng h.rp.v) (const_rng h.rq.v)]
  rw [show mxN p q k * p.term.Const + mxM p q k * q.term.Const = mxC p q k from rfl]
  rw [show m_spec_l06Gcd 0 (mxC p q k) = _ from spec_gcd2 (a := 0) h.farC, Option.bind_some]
  rw [acc_loop (mxV p q k) 10 (Nat.gcd 0 (mxC p q k).natAbs) (fun j hj g => by
    unfold m_spec_l06Mix_L0
    simp only
    rw [show (rowOf p).list.length = 10 from tab_len _, dec_lt hj, cond_true]
    rw [show getI (rowOf p).list (j : Int) = some (coef p.term.Coeffs j) from tab_getI hj, Option.bind_some, show getI (rowOf q).list (j : Int) = some (coef q.term.Coeffs j) from tab_getI hj, Option.bind_some]
    rw [h.wide (coef_rng h.rp.v j) (coef_rng h.rq.v j), capI_some (by simp; omega), Option.bind_some]
    unfold m_spec_l06Mix_J0
    rw [show mxN p q k * coef p.term.Coeffs j + mxM p q k * coef q.term.Coeffs j = mxV p q k j from rfl]
    simp only
    rw [getI_some (x := mxV p q k j) (by rw [List.getElem?_append_right (by simp)]; simp), Option.bind_some, spec_gcd2 (h.farV j), Option.bind_some, w64_succ (by omega)])
    (fun g xs => by
      unfold m_spec_l06Mix_L0
      simp only
      rw [show (rowOf p).list.length = 10 from tab_len _, dec_self, cond_false]), Option.bind_some]
  unfold m_spec_l06Mix_A0
  rw [show (List.range 10).map (mxV p q k) = tab (mxV p q k) from rfl]
  simp only
  rw [acc_loop (mxJ p q k) p.by_.length (foldG (Nat.gcd 0 (mxC p q k).natAbs) (tab (mxV p q k))) (fun j hj g => by
    have hjq : j < q.by_.length := by rw [h.rq.len, ← h.rp.len]; exact hj
    unfold m_spec_l06Mix_L1
    simp only
    rw [show (rowOf p).times = p.by_ from rfl, show (rowOf q).times = q.by_ from rfl, dec_lt hj, cond_true]
    rw [getI_some (List.getElem?_eq_getElem hj), Option.bind_some, getI_some (List.getElem?_eq_getElem hjq), Option.bind_some, ← coef_get (List.getElem?_eq_getElem hj), ← coef_get (List.getElem?_eq_getElem hjq)]
    rw [h.wide (by have := h.rp.coefB j; omega) (by have := h.rq.coefB j; omega), capI_some (by simp; omega), Option.bind_some]
    unfold m_spec_l06Mix_J1
    rw [show mxN p q k * coef p.by_ j + mxM p q k * coef q.by_ j = mxJ p q k j from rfl]
    simp only
    rw [getI_some (x := mxJ p q k j) (by rw [List.getElem?_append_right (by simp)]; simp), Option.bind_some, spec_gcd2 (h.farJ j), Option.bind_some, w64_succ (by omega)])
    (fun g xs => by
      unfold m_spec_l06Mix_L1
      simp only
      rw [show (rowOf p).times = p.by_ from rfl, dec_self, cond_false]), Option.bind_some]
  unfold m_spec_l06Mix_A1
  have hD : foldG (foldG (Nat.gcd 0 (mxC p q k).natAbs) (tab (mxV p q k))) ((List.range p.by_.length).map (mxJ p q k)) = mxD p q k := by
    unfold mxD gcdL foldG mxB
    rw [List.foldl_cons, List.foldl_append]
  have hall := h.farAll
  simp only
  rw [hD, show (rowOf p).c = p.term.Const from rfl, show (rowOf q).c = q.term.Const from rfl, h.wide (const_rng h.rp.v) (const_rng h.rq.v)]
  rw [show mxN p q k * p.term.Const + mxM p q k * q.term.Const = mxC p q k from rfl, quo_far h.d h.farC, Option.bind_some, spec_number, Option.bind_some]
  rw [div_loop (xs := tab (mxV p q k)) (d := mxD p q k) h.d (by rw [tab_len]; omega) (fun x hx => hall x (by simp [hx])) (fun s b i => rfl), Option.bind_some]
  unfold m_spec_l06Mix_A2
  simp only
  rw [show (List.range p.by_.length).map (mxJ p q k) = mxB p q k from rfl]
  rw [div_loop (xs := mxB p q k) (d := mxD p q k) h.d (by simp [mxB]; omega) (fun x hx => hall x (by simp [hx])) (fun s b i => rfl), Option.bind_some]
  unfold m_spec_l06Mix_A3
  simp only
  rw [mx_fine h, show (mixR p q k).1 = mxR p q k from rfl, rowOf_mx h]
theorem mx_ok (h : Two n p q k) (hf : (mixR p q k).2 = true) : RowOK n (mxR p q k) := by
  unfold mixR at hf
  simp only [Bool.and_eq_true, List.all_eq_true] at hf
  have hlen : (mxR p q k).by_.length = n := by unfold mxR mxB quos; simp; exact h.rp.len
  refine ⟨hf.1, hlen, fun m hm => ?_, ?_⟩
  · have h1 := inR_iff.1 (hf.2 m hm)
    refine ⟨?_, h1.2⟩
    unfold mxR quos at hm
    obtain ⟨y, hy, rfl⟩ := List.mem_map.1 hm
    unfold mxB at hy
    obtain ⟨j, _, rfl⟩ := List.mem_map.1 hy
    refine Int.tdiv_nonneg ?_ (Int.natCast_nonneg _)
    unfold mxJ
    have h2 := h.nn.1; have h3 := h.m.1
    exact Int.add_nonneg (Int.mul_nonneg (by omega) (h.rp.coefB j).1) (Int.mul_nonneg (by omega) (h.rq.coefB j).1)
  · obtain ⟨j, hj, hp⟩ := h.bpos
    have hm : mxJ p q k j ∈ mxB p q k := List.mem_map.2 ⟨j, List.mem_range.2 hj, rfl⟩
    exact ⟨(mxJ p q k j).tdiv (mxD p q k), List.mem_map.2 ⟨_, hm, rfl⟩, tdiv_ne h.d (by omega) (mxD_b hm)⟩
theorem mx_zero (h : Two n p q k) (hk : k < 10) : coef (mxR p q k).term.Coeffs k = 0 := by
  rw [mxV_coef h k hk]
  have : mxV p q k k = 0 := by
    unfold mxV
    have h1 := h.mEq; have h2 := h.nEq
    have e : coef q.term.Coeffs k = -(mxN p q k * (mxG p q k : Int)) := by omega
    rw [e, ← h1, Int.mul_neg, ← Int.mul_assoc, ← Int.mul_assoc, Int.mul_comm (mxN p q k)]
    omega
  rw [this]; simp
theorem mx_gone (h : Two n p q k) {i : Nat} (hi : i < 10) (hp : coef p.term.Coeffs i = 0) (hq : coef q.term.Coeffs i = 0) : coef (mxR p q k).term.Coeffs i = 0 := by
  rw [mxV_coef h i hi]
  unfold mxV
  rw [hp, hq]; simp
end
end Go.Mod

namespace Go.Mod
open Go.AM
set_option linter.unusedVariables false
set_option linter.unusedSimpArgs false
def keep (k : Nat) (rows : List combination) : List combination := rows.filter fun x => decide (coef x.term.Coeffs k = 0)
def inS (k cnt : Nat) (p : combination) : List combination → List combination → Option (List combination)
  | [], acc => some acc
  | q :: r, acc => if coef p.term.Coeffs k ≤ 0 then inS k cnt p r acc else if 0 ≤ coef q.term.Coeffs k then inS k cnt p r acc
    else if (mixR p q k).2 = false ∨ cnt + acc.length = 60 then none else inS k cnt p r (acc ++ [(mixR p q k).1])
def outS (k cnt : Nat) (rows : List combination) : List combination → List combination → Option (List combination)
  | [], acc => some acc
  | p :: r, acc => match inS k cnt p rows acc with
    | some a => outS k cnt rows r a
    | none => none
def stage (k : Nat) (rows : List combination) : Option (List combination) := outS k (keep k rows).length rows rows []
def elimF : List Nat → List combination → List combination → Option (List combination × List combination)
  | [], rows, news => some (rows, news)
  | k :: ks, rows, news => match stage k rows with
    | some a => elimF ks (keep k rows ++ a) (news ++ a)
    | none => none
theorem inner_inv {n k cnt : Nat} {p : combination} (I : combination → Prop) (hp : RowOK n p ∧ I p) (hn : n ≤ 14) (hm : ∀ p q, I p → I q → Two n p q k → (mixR p q k).2 = true → I (mxR p q k)) :
    ∀ (r acc a : List combination), (∀ x ∈ r, RowOK n x ∧ I x) → (∀ x ∈ acc, RowOK n x ∧ I x) → cnt + acc.length ≤ 60 → inS k cnt p r acc = some a → (∀ x ∈ a, RowOK n x ∧ I x) ∧ cnt + a.length ≤ 60 := by
  intro r
  induction r with
  | nil => intro acc a _ h2 h3 h; cases h; exact ⟨h2, h3⟩
  | cons q r ih =>
    intro acc a h1 h2 h3 h
    have hr : ∀ x ∈ r, RowOK n x ∧ I x := fun x hx => h1 x (by simp [hx])
    unfold inS at h
    by_cases c1 : coef p.term.Coeffs k ≤ 0
    · rw [if_pos c1] at h; exact ih acc a hr h2 h3 h
    · rw [if_neg c1] at h
      by_cases c2 : 0 ≤ coef q.term.Coeffs k
      · rw [if_pos c2] at h; exact ih acc a hr h2 h3 h
      · rw [if_neg c2] at h
        have hq := h1 q (by simp)
        have two : Two n p q k := ⟨hp.1, hq.1, by omega, by omega, hn⟩
        by_cases c3 : (mixR p q k).2 = false ∨ cnt + acc.length = 60
        · rw [if_pos c3] at h; cases h
        · rw [if_neg c3] at h
          have c4 : (mixR p q k).2 = true := by
            cases hf : (mixR p q k).2 with
            | true => rfl
            | false => exact absurd (.inl hf) c3
          have c5 : cnt + acc.length ≠ 60 := fun e => c3 (.inr e)
          refine ih _ a hr (fun x hx => ?_) (by simp; omega) h
          rcases List.mem_append.1 hx with hx | hx
          · exact h2 x hx
          · rw [List.mem_singleton.1 hx]; exact ⟨mx_ok two c4, hm _ _ hp.2 hq.2 two c4⟩
theorem outer_inv {n k cnt : Nat} {rows : List combination} (I : combination → Prop) (hrows : ∀ x ∈ rows, RowOK n x ∧ I x) (hn : n ≤ 14) (hm : ∀ p q, I p → I q → Two n p q k → (mixR p q k).2 = true → I (mxR p q k)) :
    ∀ (r acc a : List combination), (∀ x ∈ r, RowOK n x ∧ I x) → (∀ x ∈ acc, RowOK n x ∧ I x) → cnt + acc.length ≤ 60 → outS k cnt rows r acc = some a → (∀ x ∈ a, RowOK n x ∧ I x) ∧ cnt + a.length ≤ 60 := by
  intro r
  induction r with
  | nil => intro acc a _ h2 h3 h; cases h; exact ⟨h2, h3⟩
  | cons p r ih =>
    intro acc a h1 h2 h3 h
    unfold outS at h
    cases hi : inS k cnt p rows acc with
    | none => rw [hi] at h; cases h
    | some b =>
      rw [hi] at h
      obtain ⟨g1, g2⟩ := inner_inv I (h1 p (by simp)) hn hm rows acc b hrows h2 h3 hi
      exact ih b a (fun x hx => h1 x (by simp [hx])) g1 g2 h
theorem keep_len (k : Nat) (rows : List combination) : (keep k rows).length ≤ rows.length := List.length_filter_le _ _
theorem stage_inv {n k : Nat} {rows a : List combination} (I : combination → Prop) (hrows : ∀ x ∈ rows, RowOK n x ∧ I x) (hl : rows.length ≤ 60) (hn : n ≤ 14)
    (hm : ∀ p q, I p → I q → Two n p q k → (mixR p q k).2 = true → I (mxR p q k)) (h : stage k rows = some a) :
    (∀ x ∈ keep k rows ++ a, RowOK n x ∧ I x) ∧ (keep k rows ++ a).length ≤ 60 ∧ ∀ x ∈ a, RowOK n x ∧ I x := by
  have hk := keep_len k rows
  obtain ⟨g1, g2⟩ := outer_inv (cnt := (keep k rows).length) I hrows hn hm rows [] a hrows (by simp) (by simp; omega) h
  refine ⟨fun x hx => ?_, by simp; omega, g1⟩
  rcases List.mem_append.1 hx with hx | hx
  · exact hrows x (List.mem_filter.1 hx).1
  · exact g1 x hx
theorem impl_inner {n k : Nat} {p : combination} (hk : k < 10) (hn : n ≤ 14) (hp : RowOK n p) {kept news0 : List combination} (hnews : news0.length ≤ 1000) : ∀ (r acc : List combination) (m : Nat), (∀ x ∈ r, RowOK n x) → kept.length + acc.length ≤ 60 →
    forL (m_impl_eliminated_L4 (k : Int) p) (fun s4 => (.inl (s4.1, s4.2))) m r (news0 ++ acc, kept ++ acc) = some (match inS k kept.length p r acc with | some a => .inl (news0 ++ a, kept ++ a) | none => .inr ([], [], false)) := by
  intro r
  induction r with
  | nil => intro acc m _ _; rfl
  | cons q r ih =>
    intro acc m h1 h2
    have hq := h1 q (by simp)
    have hr : ∀ x ∈ r, RowOK n x := fun x hx => h1 x (by simp [hx])
    have lp := vT_len hp.v
    have lq := vT_len hq.v
    unfold forL inS
    by_cases c1 : coef p.term.Coeffs k ≤ 0
    · rw [show m_impl_eliminated_L4 (k : Int) p m q (news0 ++ acc, kept ++ acc) = some (.next (news0 ++ acc, kept ++ acc)) by
        unfold m_impl_eliminated_L4; rw [impl_coeff lp, Option.bind_some, decide_eq_true c1, cond_true], if_pos c1]
      exact ih acc (m + 1) hr h2
    · by_cases c2 : 0 ≤ coef q.term.Coeffs k
      · rw [show m_impl_eliminated_L4 (k : Int) p m q (news0 ++ acc, kept ++ acc) = some (.next (news0 ++ acc, kept ++ acc)) by
          unfold m_impl_eliminated_L4; rw [impl_coeff lp, Option.bind_some, decide_eq_false c1, cond_false, impl_coeff lq, Option.bind_some, decide_eq_true c2, cond_true], if_neg c1, if_pos c2]
        exact ih acc (m + 1) hr h2
      · have two : Two n p q k := ⟨hp, hq, by omega, by omega, hn⟩
        have hs : m_impl_eliminated_L4 (k : Int) p m q (news0 ++ acc, kept ++ acc) = bif (!(mixR p q k).2) || decide (((kept ++ acc).length : Int) = 60) then some (.out (.inr ([], [], false))) else
            some (.next (news0 ++ (acc ++ [(mixR p q k).1]), kept ++ (acc ++ [(mixR p q k).1]))) := by
          unfold m_impl_eliminated_L4
          rw [impl_coeff lp, Option.bind_some, decide_eq_false c1, cond_false, impl_coeff lq, Option.bind_some, decide_eq_false c2, cond_false, impl_mix two hk, Option.bind_some]
          simp only
          rw [capI_some (by simp; omega), Option.bind_some, capI_some (by simp; omega), Option.bind_some, List.append_assoc, List.append_assoc]
        rw [hs, if_neg c1, if_neg c2]
        by_cases c3 : (mixR p q k).2 = false ∨ kept.length + acc.length = 60
        · rw [if_pos c3]
          have : ((!(mixR p q k).2) || decide (((kept ++ acc).length : Int) = 60)) = true := by
            rcases c3 with c3 | c3
            · rw [c3]; rfl
            · rw [decide_eq_true (by rw [List.length_append, c3]; rfl), Bool.or_true]
          rw [this]; rfl
        · rw [if_neg c3]
          have c5 : kept.length + acc.length ≠ 60 := fun e => c3 (.inr e)
          have : ((!(mixR p q k).2) || decide (((kept ++ acc).length : Int) = 60)) = false := by
            rw [decide_eq_false (by simp; omega), Bool.or_false]
            cases hf : (mixR p q k).2 with
            | true => rfl
            | false => exact absurd (.inl hf) c3
          rw [this]
          exact ih _ (m + 1) hr (by simp; omega)
theorem impl_outer {n k : Nat} {rows nw : List combination} (hk : k < 10) (hn : n ≤ 14) (hrows : ∀ x ∈ rows, RowOK n x) {kept news0 : List combination} (hnews : news0.length ≤ 1000) : ∀ (r acc : List combination) (m : Nat), (∀ x ∈ r, RowOK n x) → (∀ x ∈ acc, RowOK n x) → kept.length + acc.length ≤ 60 →
    forL (m_impl_eliminated_L3 (rows, nw) (k : Int)) (fun s3 => (.inl (s3.1, s3.2))) m r (news0 ++ acc, kept ++ acc) = some (match outS k kept.length rows r acc with | some a => .inl (news0 ++ a, kept ++ a) | none => .inr ([], [], false)) := by
  intro r
  induction r with
  | nil => intro acc m _ _ _; rfl
  | cons p r ih =>
    intro acc m h1 h2 h3
    have hp := h1 p (by simp)
    have hs : m_impl_eliminated_L3 (rows, nw) (k : Int) m p (news0 ++ acc, kept ++ acc) = match inS k kept.length p rows acc with
        | some a => some (.next (news0 ++ a, kept ++ a)) | none => some (.out (.inr ([], [], false))) := by
      unfold m_impl_eliminated_L3
      simp only
      rw [impl_inner hk hn hp hnews rows acc 0 hrows h3, Option.bind_some]
      cases inS k kept.length p rows acc <;> rfl
    unfold forL outS
    rw [hs]
    cases hi : inS k kept.length p rows acc with
    | none => rfl
    | some b =>
      obtain ⟨g1, g2⟩ := inner_inv (fun _ => True) ⟨hp, trivial⟩ hn (fun _ _ _ _ _ _ => trivial) rows acc b (fun x hx => ⟨hrows x hx, trivial⟩) (fun x hx => ⟨h2 x hx, trivial⟩) h3 hi
      exact ih b (m + 1) (fun x hx => h1 x (by simp [hx])) (fun x hx => (g1 x hx).1) g2
theorem keep_take {k j : Nat} {rows : List combination} {x : combination} (hx : rows[j]? = some x) : keep k (rows.take (j + 1)) = bif decide (coef x.term.Coeffs k = 0) then keep k (rows.take j) ++ [x] else keep k (rows.take j) := by
  unfold keep
  rw [List.take_add_one, hx, List.filter_append]
  simp only [Option.toList_some]
  by_cases h : coef x.term.Coeffs k = 0
  · rw [decide_eq_true h, cond_true]; simp [h]
  · rw [decide_eq_false h, cond_false]; simp [h]
theorem impl_keep {n k : Nat} {rows : List combination} (hrows : ∀ x ∈ rows, RowOK n x) (hl : rows.length ≤ 60) : forL (m_impl_eliminated_L2 (k : Int)) (fun s2 => s2) 0 rows [] = some (keep k rows) := by
  obtain ⟨t, h1, h2⟩ := forL_inv (xs := rows) (step := m_impl_eliminated_L2 (k : Int)) (fin := fun s2 => s2) (fun j s => s = keep k (rows.take j)) (fun t => t = keep k rows)
    (fun j x s hx hI => .inl ⟨keep k (rows.take (j + 1)), by
      have hr := hrows x (List.mem_of_getElem? hx)
      have hkl := keep_len k (rows.take j)
      have hj := get_lt hx
      rw [List.length_take] at hkl
      unfold m_impl_eliminated_L2
      rw [impl_coeff (vT_len hr.v), Option.bind_some, keep_take hx, hI]
      cases decide (coef x.term.Coeffs k = 0) with
      | true => rw [cond_true, cond_true, capI_some (by simp; omega)]; rfl
      | false => rfl, rfl⟩)
    (fun s hI => by rw [hI, List.take_length]) (s := []) (by simp [keep])
  rw [h1, h2]
def Rws (n : Nat) (rows : List combination) : Prop := (∀ x ∈ rows, RowOK n x) ∧ rows.length ≤ 60
theorem Rws.next {n k : Nat} {rows a : List combination} (h : Rws n rows) (hn : n ≤ 14) (hs : stage k rows = some a) : Rws n (keep k rows ++ a) ∧ a.length ≤ 60 := by
  obtain ⟨h1, h2, _⟩ := stage_inv (fun _ => True) (fun x hx => ⟨h.1 x hx, trivial⟩) h.2 hn (fun _ _ _ _ _ _ => trivial) hs
  exact ⟨⟨fun x hx => (h1 x hx).1, h2⟩, by simp at h2; omega⟩
theorem impl_elim {n : Nat} (hn : n ≤ 14) : ∀ (ks : List Nat) (m : Nat) (rows news : List combination), (∀ k ∈ ks, k < 10) → Rws n rows → news.length + 60 * ks.length ≤ 1000 →
    forL m_impl_eliminated_L1 (fun s1 => (.inl (s1.1, s1.2))) m (ks.map fun (k : Nat) => (k : Int)) (rows, news) = some (match elimF ks rows news with | some r => .inl (r.1, r.2) | none => .inr ([], [], false)) := by
  intro ks
  induction ks with
  | nil => intro m rows news _ _ _; rfl
  | cons k ks ih =>
    intro m rows news hks hr hl
    have hk := hks k (by simp)
    have hkl := keep_len k rows
    have hl60 := hr.2
    have hs : m_impl_eliminated_L1 m (k : Int) (rows, news) = match stage k rows with
        | some a => some (.next (keep k rows ++ a, news ++ a)) | none => some (.out (.inr ([], [], false))) := by
      unfold m_impl_eliminated_L1
      simp only
      rw [impl_keep hr.1 hr.2, Option.bind_some]
      unfold m_impl_eliminated_A2
      simp only
      have := impl_outer (rows := rows) (nw := news) hk hn hr.1 (kept := keep k rows) (news0 := news) (by simp at hl; omega) rows [] 0 hr.1 (by simp) (by simp; omega)
      rw [List.append_nil, List.append_nil] at this
      rw [this, Option.bind_some]
      unfold stage
      cases ho : outS k (keep k rows).length rows rows [] with
      | none => rfl
      | some a =>
        obtain ⟨g1, g2⟩ := hr.next hn (show stage k rows = some a from ho)
        have := g1.2
        unfold m_impl_eliminated_A3
        simp only
        rw [decide_eq_false (by omega), cond_false]
    unfold elimF
    simp only [List.map_cons]
    unfold forL
    rw [hs]
    cases hst : stage k rows with
    | none => rfl
    | some a =>
      obtain ⟨g1, g2⟩ := hr.next hn hst
      exact ih (m + 1) _ _ (fun j hj => hks j (by simp [hj])) g1 (by simp at hl ⊢; omega)
def unitB (n i : Nat) : List Int := (List.replicate n (0 : Int)).set i 1
def row0 (ts : List Term) (i : Nat) : combination := combination.mk (tAt ts i) (unitB ts.length i)
def rows0 (ts : List Term) : List combination := (List.range ts.length).map (row0 ts)
theorem tAt_get {ts : List Term} {i : Nat} {t : Term} (h : ts[i]? = some t) : tAt ts i = t := by unfold tAt; rw [h]; rfl
theorem rows0_ok {ts : List Term} (h : ∀ t ∈ ts, vT t = true) (hl : ts.length ≤ 14) : Rws ts.length (rows0 ts) := by
  refine ⟨fun x hx => ?_, by simp [rows0]; omega⟩
  obtain ⟨i, hi, rfl⟩ := List.mem_map.1 hx
  have hi := List.mem_range.1 hi
  refine ⟨tAt_valid h i, by simp [row0, unitB], fun m hm => ?_, ⟨1, ?_, by decide⟩⟩
  · unfold row0 unitB at hm
    rcases List.mem_or_eq_of_mem_set hm with hm | rfl
    · rw [List.eq_of_mem_replicate hm]; omega
    · omega
  · unfold row0 unitB
    refine List.mem_of_getElem? (i := i) ?_
    rw [List.getElem?_set_self (by simpa using hi)]
theorem impl_eliminated {ts : List Term} {ks : List Nat} (h : ∀ t ∈ ts, vT t = true) (hl : ts.length ≤ 14) (hks : ∀ k ∈ ks, k < 10) (hkl : ks.length ≤ 10) :
    m_impl_eliminated ts (ks.map fun (k : Nat) => (k : Int)) = some (match elimF ks (rows0 ts) [] with | some r => (r.1, r.2, true) | none => ([], [], false)) := by
  unfold m_impl_eliminated
  rw [forL_map (row0 ts) ts (fun i x hx => by
    have hi := get_lt hx
    unfold m_impl_eliminated_L0
    rw [makeI_some (by omega), Option.bind_some, getI_some (x := 0) (by rw [List.getElem?_replicate, if_pos hi]), Option.bind_some, capI_some (by simp; omega), Option.bind_some, Int.toNat_natCast]
    unfold row0 unitB
    rw [tAt_get hx]), Option.bind_some]
  unfold m_impl_eliminated_A0
  rw [show (List.range ts.length).map (row0 ts) = rows0 ts from rfl, impl_elim hl ks 0 _ _ hks (rows0_ok h hl) (by simp; omega), Option.bind_some]
  cases elimF ks (rows0 ts) [] <;> rfl
end Go.Mod

namespace Go.Mod
open Go.AM
set_option linter.unusedVariables false
set_option linter.unusedSimpArgs false
theorem row_at {rows : List combination} {i : Nat} {x : combination} (h : rows[i]? = some x) : getI (rows.map rowOf) (i : Int) = some (rowOf x) := getI_some (by rw [List.getElem?_map, h]; rfl)
theorem row_coef {x : combination} {k : Nat} (hk : k < 10) : getI (rowOf x).list (k : Int) = some (coef x.term.Coeffs k) := tab_getI hk
theorem spec_inner6 {n k i : Nat} {p : combination} {rows : List combination} (hk : k < 10) (hn : n ≤ 14) (hp : RowOK n p) (hi : rows[i]? = some p) (hrows : ∀ x ∈ rows, RowOK n x) (hl : rows.length ≤ 60) {kept : List combination} {s : List l06Row} :
    ∀ (q j : Nat) (acc : List combination), j + q = rows.length → kept.length + acc.length ≤ 60 →
      iter (m_spec_l06Stage_L2 (rows.map rowOf) (k : Int) (s, (i : Int))) ((kept ++ acc).map rowOf, (j : Int)) =
        some (match inS k kept.length p (rows.drop j) acc with | some a => .inl ((kept ++ a).map rowOf) | none => .inr ([], 0, false)) := by
  intro q
  induction q with
  | zero =>
    intro j acc hj _
    obtain rfl : j = rows.length := by omega
    rw [List.drop_length]
    refine iter_out ?_
    unfold m_spec_l06Stage_L2
    simp only
    rw [List.length_map, dec_self]; rfl
  | succ q ih =>
    intro j acc hj h2
    have hjl : j < rows.length := by omega
    have hx : rows[j]? = some rows[j] := List.getElem?_eq_getElem hjl
    have hq := hrows _ (List.getElem_mem hjl)
    rw [List.drop_eq_getElem_cons hjl]
    generalize hqe : rows[j] = x at *
    unfold inS
    by_cases c1 : coef p.term.Coeffs k ≤ 0
    · rw [if_pos c1, iter_next (s' := ((kept ++ acc).map rowOf, ((j + 1 : Nat) : Int)))]
      · exact ih (j + 1) acc (by omega) h2
      · unfold m_spec_l06Stage_L2
        simp only
        rw [List.length_map, dec_lt hjl, cond_true, row_at hi, Option.bind_some, row_coef hk, Option.bind_some, decide_eq_true c1, cond_true, w64_succ (by omega)]
    · rw [if_neg c1]
      by_cases c2 : 0 ≤ coef x.term.Coeffs k
      · rw [if_pos c2, iter_next (s' := ((kept ++ acc).map rowOf, ((j + 1 : Nat) : Int)))]
        · exact ih (j + 1) acc (by omega) h2
        · unfold m_spec_l06Stage_L2
          simp only
          rw [List.length_map, dec_lt hjl, cond_true, row_at hi, Option.bind_some, row_coef hk, Option.bind_some, decide_eq_false c1, cond_false, row_at hx, Option.bind_some, row_coef hk, Option.bind_some, decide_eq_true c2, cond_true, w64_succ (by omega)]
      · rw [if_neg c2]
        have two : Two n p x k := ⟨hp, hq, by omega, by omega, hn⟩
        have hs : m_spec_l06Stage_L2 (rows.map rowOf) (k : Int) (s, (i : Int)) ((kept ++ acc).map rowOf, (j : Int)) = bif (!(mixR p x k).2) || decide ((((kept ++ acc).map rowOf).length : Int) = 60) then some (.out (.inr ([], 0, false))) else
            some (.next ((kept ++ (acc ++ [(mixR p x k).1])).map rowOf, ((j + 1 : Nat) : Int))) := by
          unfold m_spec_l06Stage_L2
          simp only
          rw [List.length_map, dec_lt hjl, cond_true, row_at hi, Option.bind_some, row_coef hk, Option.bind_some, decide_eq_false c1, cond_false, row_at hx, Option.bind_some, row_coef hk, Option.bind_some, decide_eq_false c2, cond_false, spec_mix two hk, Option.bind_some]
          unfold m_spec_l06Stage_J0
          simp only
          rw [capI_some (by simp; omega), Option.bind_some, w64_succ (by omega), ← List.append_assoc, List.map_append (l₁ := kept ++ acc)]
          rfl
        by_cases c3 : (mixR p x k).2 = false ∨ kept.length + acc.length = 60
        · rw [if_pos c3]
          have : ((!(mixR p x k).2) || decide ((((kept ++ acc).map rowOf).length : Int) = 60)) = true := by
            rcases c3 with c3 | c3
            · rw [c3]; rfl
            · rw [decide_eq_true (by rw [List.length_map, List.length_append, c3]; rfl), Bool.or_true]
          rw [this] at hs
          rw [iter_out hs]
        · rw [if_neg c3]
          have c5 : kept.length + acc.length ≠ 60 := fun e => c3 (.inr e)
          have : ((!(mixR p x k).2) || decide ((((kept ++ acc).map rowOf).length : Int) = 60)) = false := by
            rw [decide_eq_false (by simp; omega), Bool.or_false]
            cases hf : (mixR p x k).2 with
            | true => rfl
            | false => exact absurd (.inl hf) c3
          rw [this] at hs
          rw [iter_next hs]
          exact ih (j + 1) _ (by omega) (by simp; omega)
theorem spec_outer6 {n k : Nat} {rows : List combination} (hk : k < 10) (hn : n ≤ 14) (hrows : ∀ x ∈ rows, RowOK n x) (hl : rows.length ≤ 60) {kept : List combination} :
    ∀ (q i : Nat) (acc : List combination), i + q = rows.length → (∀ x ∈ acc, RowOK n x) → kept.length + acc.length ≤ 60 →
      iter (m_spec_l06Stage_L1 (rows.map rowOf) (k : Int)) ((kept ++ acc).map rowOf, (i : Int)) =
        some (match outS k kept.length rows (rows.drop i) acc with | some a => .inl ((kept ++ a).map rowOf) | none => .inr ([], 0, false)) := by
  intro q
  induction q with
  | zero =>
    intro i acc hi _ _
    obtain rfl : i = rows.length := by omega
    rw [List.drop_length]
    refine iter_out ?_
    unfold m_spec_l06Stage_L1
    simp only
    rw [List.length_map, dec_self]; rfl
  | succ q ih =>
    intro i acc hi h2 h3
    have hil : i < rows.length := by omega
    have hx : rows[i]? = some rows[i] := List.getElem?_eq_getElem hil
    have hp := hrows _ (List.getElem_mem hil)
    rw [List.drop_eq_getElem_cons hil]
    have hs : m_spec_l06Stage_L1 (rows.map rowOf) (k : Int) ((kept ++ acc).map rowOf, (i : Int)) = match inS k kept.length rows[i] rows acc with
        | some a => some (.next ((kept ++ a).map rowOf, ((i + 1 : Nat) : Int))) | none => some (.out (.inr ([], 0, false))) := by
      unfold m_spec_l06Stage_L1
      simp only
      rw [List.length_map, dec_lt hil, cond_true]
      have := spec_inner6 (s := (kept ++ acc).map rowOf) hk hn hp hx hrows hl (kept := kept) rows.length 0 acc (by omega) h3
      rw [List.drop_zero] at this
      rw [show ((0 : Nat) : Int) = 0 from rfl] at this
      rw [this, Option.bind_some]
      cases inS k kept.length rows[i] rows acc with
      | none => rfl
      | some a => unfold m_spec_l06Stage_A2; simp only; rw [w64_succ (by omega)]
    unfold outS
    cases hin : inS k kept.length rows[i] rows acc with
    | none => rw [hin] at hs; rw [iter_out hs]
    | some b =>
      rw [hin] at hs
      rw [iter_next hs]
      obtain ⟨g1, g2⟩ := inner_inv (fun _ => True) ⟨hp, trivial⟩ hn (fun _ _ _ _ _ _ => trivial) rows acc b (fun x hx => ⟨hrows x hx, trivial⟩) (fun x hx => ⟨h2 x hx, trivial⟩) h3 hin
      exact ih (i + 1) b (by omega) (fun x hx => (g1 x hx).1) g2
theorem spec_stage {n k : Nat} {rows : List combination} (hk : k < 10) (hn : n ≤ 14) (hr : Rws n rows) :
    m_spec_l06Stage (rows.map rowOf) (k : Int) = some (match stage k rows with | some a => ((keep k rows ++ a).map rowOf, ((keep k rows).length : Int), true) | none => ([], 0, false)) := by
  have hl := hr.2
  have hkl := keep_len k rows
  unfold m_spec_l06Stage
  have h := iter_cnt (step := m_spec_l06Stage_L0 (rows.map rowOf) (k : Int)) (fun j => ((keep k (rows.take j)).map rowOf, (j : Int))) rows.length (t := (keep k rows).map rowOf) (fun j hj => by
    have hx : rows[j]? = some rows[j] := List.getElem?_eq_getElem hj
    have hkl := keep_len k (rows.take j)
    rw [List.length_take] at hkl
    unfold m_spec_l06Stage_L0
    simp only
    rw [List.length_map, dec_lt hj, cond_true, row_at hx, Option.bind_some, row_coef hk, Option.bind_some, keep_take hx, w64_succ (by omega)]
    cases decide (coef rows[j].term.Coeffs k = 0) with
    | true => rw [cond_true, cond_true, capI_some (by simp; omega), Option.bind_some, List.map_append]; rfl
    | false => rfl)
    (by
      unfold m_spec_l06Stage_L0
      simp only
      rw [List.length_map, dec_self, cond_false, List.take_length])
  rw [show iter (m_spec_l06Stage_L0 (rows.map rowOf) (k : Int)) ([], 0) = _ from h, Option.bind_some]
  unfold m_spec_l06Stage_A0
  have h2 := spec_outer6 hk hn hr.1 hl (kept := keep k rows) rows.length 0 [] (by omega) (by simp) (by simp; omega)
  rw [List.append_nil, List.drop_zero, show ((0 : Nat) : Int) = 0 from rfl] at h2
  rw [h2, Option.bind_some]
  unfold stage
  cases outS k (keep k rows).length rows rows [] with
  | none => rfl
  | some a => unfold m_spec_l06Stage_A1; simp only [List.length_map]
theorem spec_rows {ts : List Term} (h : ∀ t ∈ ts, vT t = true) (hl : ts.length ≤ 14) : m_spec_l06Rows ts = some ((rows0 ts).map rowOf) := by
  unfold m_spec_l06Rows
  have h1 := iter_cnt (step := m_spec_l06Rows_L0 ts) (fun i => (((List.range i).map (row0 ts)).map rowOf, (i : Int))) ts.length (t := (rows0 ts).map rowOf) (fun i hi => by
    have hx : ts[i]? = some ts[i] := List.getElem?_eq_getElem hi
    unfold m_spec_l06Rows_L0
    simp only
    rw [dec_lt hi, cond_true, getI_some hx, Option.bind_some, makeI_some (by omega), Option.bind_some]
    unfold m_spec_l06Rows_J0
    have h2 := iter_cnt (step := m_spec_l06Rows_L1 ts (((List.range i).map (row0 ts)).map rowOf, (i : Int))) (fun j => ((List.range j).map (fun j => coef ts[i].Coeffs j), (j : Int))) 10 (t := tab fun j => coef ts[i].Coeffs j) (fun j hj => by
      unfold m_spec_l06Rows_L1
      simp only
      rw [decide_eq_true (by omega), cond_true, getI_some hx, Option.bind_some, spec_coeff hj, Option.bind_some, capI_some (by simp; omega), Option.bind_some, w64_succ (by omega), List.range_succ, List.map_append]; rfl)
      (by unfold m_spec_l06Rows_L1; rfl)
    rw [show iter (m_spec_l06Rows_L1 ts (((List.range i).map (row0 ts)).map rowOf, (i : Int))) ([], 0) = _ from h2, Option.bind_some]
    unfold m_spec_l06Rows_A1
    simp only
    rw [getI_some (x := 0) (by rw [List.getElem?_replicate, if_pos hi]), Option.bind_some, capI_some (by simp; omega), Option.bind_some, w64_succ (by omega), Int.toNat_natCast, List.range_succ, List.map_append, List.map_append]
    have : rowOf (row0 ts i) = l06Row.mk ts[i].Const (tab fun j => coef ts[i].Coeffs j) ((List.replicate ts.length 0).set i 1) := by
      unfold rowOf row0 unitB
      rw [tAt_get hx]
    rw [← this]; rfl)
    (by unfold m_spec_l06Rows_L0; simp only; rw [dec_self]; rfl)
  rw [show iter (m_spec_l06Rows_L0 ts) ([], 0) = _ from h1, Option.bind_some]; rfl
theorem spec_every_loop {n : Nat} (hn : n ≤ 14) : ∀ (q s : Nat) (rows news : List combination), s + q = 10 → Rws n rows → news.length + 60 * q ≤ 1000 →
    iter m_spec_l06Every_L0 (rows.map rowOf, news.map rowOf, (s : Int)) = some (match elimF (List.range' s q) rows news with | some r => .inl (r.1.map rowOf, r.2.map rowOf) | none => .inr ([], [], false)) := by
  intro q
  induction q with
  | zero =>
    intro s rows news hs _ _
    obtain rfl : s = 10 := by omega
    exact iter_out (by unfold m_spec_l06Every_L0; rfl)
  | succ q ih =>
    intro s rows news hs hr hl
    have hkl := keep_len s rows
    have hl60 := hr.2
    have hst : m_spec_l06Every_L0 (rows.map rowOf, news.map rowOf, (s : Int)) = match stage s rows with
        | some a => some (.next ((keep s rows ++ a).map rowOf, (news ++ a).map rowOf, ((s + 1 : Nat) : Int))) | none => some (.out (.inr ([], [], false))) := by
      unfold m_spec_l06Every_L0
      simp only
      rw [decide_eq_true (by omega), cond_true, spec_stage (by omega) hn hr, Option.bind_some]
      cases hsg : stage s rows with
      | none => rfl
      | some a =>
        obtain ⟨g1, g2⟩ := hr.next hn hsg
        simp only [Bool.not_true, cond_false]
        rw [sliceI_some (by simp) (by simp), Option.bind_some, w64_succ (by omega)]
        have e : ((((keep s rows ++ a).map rowOf).drop (keep s rows).length).take (((keep s rows ++ a).map rowOf).length - (keep s rows).length)) = a.map rowOf := by
          rw [List.map_append, List.drop_append_of_le_length (by simp)]
          rw [show ((keep s rows).map rowOf).drop (keep s rows).length = [] by rw [List.drop_eq_nil_iff]; simp]
          rw [List.nil_append, List.take_of_length_le (by simp)]
        rw [e, capI_some (by simp; omega), Option.bind_some, List.map_append (l₁ := news)]
    rw [List.range'_succ]
    unfold elimF
    cases hsg : stage s rows with
    | none => rw [hsg] at hst; rw [iter_out hst]
    | some a =>
      rw [hsg] at hst
      rw [iter_next hst]
      obtain ⟨g1, g2⟩ := hr.next hn hsg
      exact ih (s + 1) _ _ (by omega) g1 (by simp; omega)
theorem spec_every {ts : List Term} (h : ∀ t ∈ ts, vT t = true) (hl : ts.length ≤ 14) :
    m_spec_l06Every ts = some (match elimF (List.range 10) (rows0 ts) [] with | some r => (r.1.map rowOf, r.2.map rowOf, true) | none => ([], [], false)) := by
  unfold m_spec_l06Every
  rw [spec_rows h hl, Option.bind_some]
  have h1 := spec_every_loop hl 10 0 (rows0 ts) [] (by omega) (rows0_ok h hl) (by simp)
  rw [show List.range' 0 10 = List.range 10 from rfl, show ((0 : Nat) : Int) = 0 from rfl] at h1
  rw [show iter m_spec_l06Every_L0 ((rows0 ts).map rowOf, [], 0) = _ from h1, Option.bind_some]
  cases elimF (List.range 10) (rows0 ts) [] <;> rfl
end Go.Mod

namespace Go.Mod
open Go.AM
set_option linter.unusedVariables false
set_option linter.unusedSimpArgs false
theorem row_term {x : combination} (h : vT x.term = true) : m_spec_l06Term (rowOf x) = some x.term := by
  unfold m_spec_l06Term
  rw [spec_make (by have := tab_len (fun i => coef x.term.Coeffs i); unfold rowOf; simp only; omega), Option.bind_some]
  have : Term.mk (rowOf x).c (trim (rowOf x).list) = x.term := mkT_self h
  rw [this]
  unfold chk
  rw [h]; rfl
def terms (rows : List combination) : List Term := rows.map combination.term
def okFacts (ts : List Term) : Bool := ts.all vT && decide (ts.length ≤ 14)
theorem okFacts_iff {ts : List Term} : okFacts ts = true ↔ (∀ t ∈ ts, vT t = true) ∧ ts.length ≤ 14 := by simp [okFacts]
theorem Rws.v {n : Nat} {rows : List combination} (h : Rws n rows) : ∀ x ∈ rows, vT x.term = true := fun x hx => (h.1 x hx).v
theorem terms_small {rows : List combination} (h : ∀ x ∈ rows, vT x.term = true) (hl : rows.length ≤ 1000) : cTermS (terms rows) ≤ 1048576 := by
  have hk : ∀ (ts : List Term), (∀ t ∈ ts, vT t = true) → (ts.map cTerm).sum ≤ ts.length * 10 := by
    intro ts
    induction ts with
    | nil => intro _; simp
    | cons t r ih =>
      intro h
      have h1 := ih (fun t ht => h t (by simp [ht]))
      have h2 := vT_len (h t (by simp))
      simp only [List.map_cons, List.sum_cons, List.length_cons]
      unfold cTerm at *
      omega
  have := hk (terms rows) (fun t ht => by obtain ⟨x, hx, rfl⟩ := List.mem_map.1 ht; exact h x hx)
  unfold cTermS
  have e : (terms rows).length = rows.length := List.length_map _
  omega
end Go.Mod

namespace Go.Mod
open Go.AM
set_option linter.unusedVariables false
set_option linter.unusedSimpArgs false
theorem inner_new {n k cnt : Nat} {p : combination} (I J : combination → Prop) (hp : RowOK n p ∧ I p) (hn : n ≤ 14) (hm : ∀ p q, I p → I q → Two n p q k → (mixR p q k).2 = true → J (mxR p q k)) :
    ∀ (r acc a : List combination), (∀ x ∈ r, RowOK n x ∧ I x) → (∀ x ∈ acc, J x) → inS k cnt p r acc = some a → ∀ x ∈ a, J x := by
  intro r
  induction r with
  | nil => intro acc a _ h2 h; cases h; exact h2
  | cons q r ih =>
    intro acc a h1 h2 h
    have hr : ∀ x ∈ r, RowOK n x ∧ I x := fun x hx => h1 x (by simp [hx])
    unfold inS at h
    by_cases c1 : coef p.term.Coeffs k ≤ 0
    · rw [if_pos c1] at h; exact ih acc a hr h2 h
    · rw [if_neg c1] at h
      by_cases c2 : 0 ≤ coef q.term.Coeffs k
      · rw [if_pos c2] at h; exact ih acc a hr h2 h
      · rw [if_neg c2] at h
        have hq := h1 q (by simp)
        have two : Two n p q k := ⟨hp.1, hq.1, by omega, by omega, hn⟩
        by_cases c3 : (mixR p q k).2 = false ∨ cnt + acc.length = 60
        · rw [if_pos c3] at h; cases h
        · rw [if_neg c3] at h
          have c4 : (mixR p q k).2 = true := by
            cases hf : (mixR p q k).2 with
            | true => rfl
            | false => exact absurd (.inl hf) c3
          refine ih _ a hr (fun x hx => ?_) h
          rcases List.mem_append.1 hx with hx | hx
          · exact h2 x hx
          · rw [List.mem_singleton.1 hx]; exact hm _ _ hp.2 hq.2 two c4
theorem outer_new {n k cnt : Nat} {rows : List combination} (I J : combination → Prop) (hrows : ∀ x ∈ rows, RowOK n x ∧ I x) (hn : n ≤ 14) (hm : ∀ p q, I p → I q → Two n p q k → (mixR p q k).2 = true → J (mxR p q k)) :
    ∀ (r acc a : List combination), (∀ x ∈ r, RowOK n x ∧ I x) → (∀ x ∈ acc, J x) → outS k cnt rows r acc = some a → ∀ x ∈ a, J x := by
  intro r
  induction r with
  | nil => intro acc a _ h2 h; cases h; exact h2
  | cons p r ih =>
    intro acc a h1 h2 h
    unfold outS at h
    cases hi : inS k cnt p rows acc with
    | none => rw [hi] at h; cases h
    | some b =>
      rw [hi] at h
      exact ih b a (fun x hx => h1 x (by simp [hx])) (inner_new I J (h1 p (by simp)) hn hm rows acc b hrows h2 hi) h
theorem stage_zero {n k : Nat} {rows a : List combination} (I : combination → Prop) (hrows : ∀ x ∈ rows, RowOK n x ∧ I x) (hn : n ≤ 14)
    (hm : ∀ p q, I p → I q → Two n p q k → (mixR p q k).2 = true → I (mxR p q k)) (hk : k < 10) (h : stage k rows = some a) : ∀ x ∈ keep k rows ++ a, coef x.term.Coeffs k = 0 := by
  intro x hx
  rcases List.mem_append.1 hx with hx | hx
  · exact of_decide_eq_true (List.mem_filter.1 hx).2
  · exact outer_new I (fun x => coef x.term.Coeffs k = 0) hrows hn (fun p q _ _ two _ => mx_zero two hk) rows [] a hrows (by simp) h x hx
theorem elim_inv {n : Nat} (I : combination → Prop) (hn : n ≤ 14) (hm : ∀ k p q, k < 10 → I p → I q → Two n p q k → (mixR p q k).2 = true → I (mxR p q k)) : ∀ (ks : List Nat) (rows news : List combination) (r : List combination × List combination),
    (∀ k ∈ ks, k < 10) → (∀ x ∈ rows, RowOK n x ∧ I x) → rows.length ≤ 60 → (∀ x ∈ news, RowOK n x ∧ I x) → elimF ks rows news = some r → (∀ x ∈ r.1, RowOK n x ∧ I x) ∧ r.1.length ≤ 60 ∧ ∀ x ∈ r.2, RowOK n x ∧ I x := by
  intro ks
  induction ks with
  | nil => intro rows news r _ h1 h2 h3 h; cases h; exact ⟨h1, h2, h3⟩
  | cons k ks ih =>
    intro rows news r hks h1 h2 h3 h
    unfold elimF at h
    cases hs : stage k rows with
    | none => rw [hs] at h; cases h
    | some a =>
      rw [hs] at h
      obtain ⟨g1, g2, g3⟩ := stage_inv I h1 h2 hn (hm k · · (hks k (by simp))) hs
      refine ih _ _ r (fun j hj => hks j (by simp [hj])) g1 g2 (fun x hx => ?_) h
      rcases List.mem_append.1 hx with hx | hx
      · exact h3 x hx
      · exact g3 x hx
theorem elim_zero {n : Nat} (hn : n ≤ 14) : ∀ (ks : List Nat) (done : List Nat) (rows news : List combination) (r : List combination × List combination),
    (∀ k ∈ ks, k < 10) → (∀ k ∈ done, k < 10) → (∀ x ∈ rows, RowOK n x ∧ ∀ i ∈ done, coef x.term.Coeffs i = 0) → rows.length ≤ 60 → elimF ks rows news = some r → ∀ x ∈ r.1, ∀ i, i ∈ done ∨ i ∈ ks → coef x.term.Coeffs i = 0 := by
  intro ks
  induction ks with
  | nil => intro done rows news r _ _ h1 _ h; cases h; exact fun x hx i hi => by rcases hi with hi | hi; exact (h1 x hx).2 i hi; cases hi
  | cons k ks ih =>
    intro done rows news r hks hd h1 h2 h
    unfold elimF at h
    have hk := hks k (by simp)
    have hm : ∀ p q, (∀ i ∈ done, coef p.term.Coeffs i = 0) → (∀ i ∈ done, coef q.term.Coeffs i = 0) → Two n p q k → (mixR p q k).2 = true → (∀ i ∈ done, coef (mxR p q k).term.Coeffs i = 0) :=
      fun p q hp hq two _ i hi => mx_gone two (hd i hi) (hp i hi) (hq i hi)
    cases hs : stage k rows with
    | none => rw [hs] at h; cases h
    | some a =>
      rw [hs] at h
      obtain ⟨g1, g2, g3⟩ := stage_inv (fun x => ∀ i ∈ done, coef x.term.Coeffs i = 0) h1 h2 hn hm hs
      have gz := stage_zero (fun x => ∀ i ∈ done, coef x.term.Coeffs i = 0) h1 hn hm hk hs
      have := ih (k :: done) _ _ r (fun j hj => hks j (by simp [hj])) (fun j hj => by rcases List.mem_cons.1 hj with rfl | hj; exact hk; exact hd j hj)
        (fun x hx => ⟨(g1 x hx).1, fun i hi => by rcases List.mem_cons.1 hi with rfl | hi; exact gz x hx; exact (g1 x hx).2 i hi⟩) g2 h
      intro x hx i hi
      refine this x hx i ?_
      rcases hi with hi | hi
      · exact .inl (by simp [hi])
      · rcases List.mem_cons.1 hi with rfl | hi
        · exact .inl (by simp)
        · exact .inr hi
structure Comb (ts : List Term) (x : combination) : Prop where
  c : x.term.Const = lin ts x.by_ Term.Const ts.length
  f : ∀ i, i < 10 → coef x.term.Coeffs i = lin ts x.by_ (fun t => coef t.Coeffs i) ts.length
theorem unitB_coef {n i : Nat} (hi : i < n) (j : Nat) : coef (unitB n i) j = if j = i then 1 else 0 := by
  unfold coef unitB
  rw [List.getElem?_set]
  by_cases h : i = j
  · subst h; simp [hi]
  · rw [if_neg h, if_neg (fun e => h e.symm), List.getElem?_replicate]
    by_cases h2 : j < n <;> simp [h2]
theorem sumN_pick (g : Nat → Int) (i : Nat) : ∀ n, sumN (fun j => (if j = i then (1 : Int) else 0) * g j) n = if i < n then g i else 0 := by
  intro n
  induction n with
  | zero => simp [sumN]
  | succ n ih =>
    unfold sumN
    rw [ih]
    by_cases h : n = i
    · subst h; simp
    · by_cases h2 : i < n
      · rw [if_neg h, if_pos h2, if_pos (show i < n + 1 by omega)]; omega
      · rw [if_neg h, if_neg h2, if_neg (show ¬ i < n + 1 by omega)]; omega
theorem lin_unit {ts : List Term} {i : Nat} (hi : i < ts.length) (g : Term → Int) : lin ts (unitB ts.length i) g ts.length = g (tAt ts i) := by
  unfold lin
  rw [sumN_congr (g := fun j => (if j = i then (1 : Int) else 0) * g (tAt ts j)) ts.length (fun j _ => by rw [unitB_coef hi]), sumN_pick (fun j => g (tAt ts j)) i ts.length, if_pos hi]
theorem rows0_comb (ts : List Term) : ∀ x ∈ rows0 ts, Comb ts x := by
  intro x hx
  obtain ⟨i, hi, rfl⟩ := List.mem_map.1 hx
  have hi := List.mem_range.1 hi
  exact ⟨(lin_unit hi Term.Const).symm, fun j _ => (lin_unit hi (fun t => coef t.Coeffs j)).symm⟩
section
variable {ts : List Term} {k : Nat} {p q : combination}
theorem lin_mx (h : Two ts.length p q k) (g : Term → Int) : (mxD p q k : Int) * lin ts (mxR p q k).by_ g ts.length = mxN p q k * lin ts p.by_ g ts.length + mxM p q k * lin ts q.by_ g ts.length := by
  unfold lin
  rw [← sumN_mul, ← sumN_mul, ← sumN_mul, ← sumN_add]
  refine sumN_congr ts.length (fun j hj => ?_)
  have hjp : j < p.by_.length := by rw [h.rp.len]; exact hj
  have hb : coef (mxB p q k) j = mxJ p q k j := coef_get (by unfold mxB; rw [List.getElem?_map, List.getElem?_range hjp]; rfl)
  have hm : mxJ p q k j ∈ mxB p q k := List.mem_map.2 ⟨j, List.mem_range.2 hjp, rfl⟩
  have e : coef (mxR p q k).by_ j = (mxJ p q k j).tdiv (mxD p q k) := by unfold mxR; simp only; rw [coef_quos, hb]
  rw [e, ← Int.mul_assoc, Int.mul_comm (mxD p q k : Int), quo_mul (mxD_b hm)]
  unfold mxJ
  rw [Int.add_mul, Int.mul_assoc, Int.mul_assoc]
theorem mx_comb (h : Two ts.length p q k) (hp : Comb ts p) (hq : Comb ts q) : Comb ts (mxR p q k) := by
  have hd : (mxD p q k : Int) ≠ 0 := by have := h.d; omega
  refine ⟨?_, fun i hi => ?_⟩
  · refine Int.eq_of_mul_eq_mul_left hd ?_
    rw [lin_mx h, ← hp.c, ← hq.c]
    have : (mxR p q k).term.Const = (mxC p q k).tdiv (mxD p q k) := rfl
    rw [this, Int.mul_comm, quo_mul mxD_c]; rfl
  · refine Int.eq_of_mul_eq_mul_left hd ?_
    rw [lin_mx h, ← hp.f i hi, ← hq.f i hi, mxV_coef h i hi, Int.mul_comm, quo_mul (mxD_v (p := p) (q := q) (k := k) (List.mem_map.2 ⟨i, List.mem_range.2 hi, rfl⟩))]; rfl
end
theorem Comb.val {ts : List Term} {x : combination} (h : Comb ts x) (v : List Int) : val x.term v = lin ts x.by_ (fun t => val t v) ts.length := by
  rw [← val_lin]
  unfold Go.Mod.val
  rw [h.c, sumN_congr (f := fun i => coef x.term.Coeffs i * coef v i) 10 (fun i hi => by rw [h.f i hi])]
theorem lin_nonneg {ts : List Term} {ms : List Int} {g : Term → Int} (hm : ∀ j, 0 ≤ coef ms j) (hg : ∀ t ∈ ts, 0 ≤ g t) : 0 ≤ lin ts ms g ts.length := by
  unfold lin
  refine sumN_nonneg ts.length (fun j hj => Int.mul_nonneg (hm j) (hg _ ?_))
  rw [tAt_get (List.getElem?_eq_getElem hj)]; exact List.getElem_mem hj
theorem comb_hold {ts : List Term} {x : combination} {v : List Int} (h : Comb ts x) (hr : RowOK ts.length x) (ha : allHold ts v = true) : 0 ≤ Go.Mod.val x.term v := by
  rw [h.val]
  refine lin_nonneg (fun j => (hr.coefB j).1) (fun t ht => ?_)
  unfold allHold at ha
  have := List.all_eq_true.1 ha t ht
  simp only [Bool.not_eq_true', decide_eq_false_iff_not] at this
  omega
theorem elim_comb {ts : List Term} {ks : List Nat} {r : List combination × List combination} (h : ∀ t ∈ ts, vT t = true) (hl : ts.length ≤ 14) (hks : ∀ k ∈ ks, k < 10) (he : elimF ks (rows0 ts) [] = some r) :
    (∀ x ∈ r.1, RowOK ts.length x ∧ Comb ts x) ∧ r.1.length ≤ 60 ∧ ∀ x ∈ r.2, RowOK ts.length x ∧ Comb ts x := by
  have h0 := rows0_ok h hl
  exact elim_inv (Comb ts) hl (fun k p q _ hp hq two _ => mx_comb two hp hq) ks (rows0 ts) [] r hks (fun x hx => ⟨h0.1 x hx, rows0_comb ts x hx⟩) h0.2 (by simp) he
end Go.Mod
