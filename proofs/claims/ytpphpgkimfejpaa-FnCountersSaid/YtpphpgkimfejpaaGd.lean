import Derived.Test.YtpphpgkimfejpaaGc
namespace Go.Mod
open Go.AM
set_option linter.unusedVariables false
structure l00Src where
  code : List Int
  at_ : Int
  seed : Int
  deriving DecidableEq, Inhabited
structure Term where
  Const : Int
  Coeffs : List Int
  deriving DecidableEq, Inhabited
structure combination where
  term : Term
  by_ : List Int
  deriving DecidableEq, Inhabited
structure l06Row where
  c : Int
  list : List Int
  times : List Int
  deriving DecidableEq, Inhabited
structure Sequent where
  Facts : List Term
  Goal : Term
  deriving DecidableEq, Inhabited
structure Node where
  Kind : Int
  Fact : Int
  Term : Term
  Multipliers : List Int
  deriving DecidableEq, Inhabited
structure proving where
  budget : Int
  nodes : List Node
  failed : Bool
  deriving DecidableEq, Inhabited
def k_u8 (x : Int) : Prop := 0 ≤ x ∧ x ≤ 255
def kLa_u8 (x : List Int) : Prop := x.length ≤ 9223372036854775807 ∧ ∀ y ∈ x, k_u8 y
noncomputable def m_laws_b10Long (p0 : List Int) (p1 : List Int) : Option Bool :=
  some ((decide ((1048576 : Int) < (p0.length : Int))) || (decide ((1048576 : Int) < (p1.length : Int))))
noncomputable def m_spec_l00From (p0 : List Int) : Option l00Src :=
  some (l00Src.mk p0 (0 : Int) (0 : Int))
noncomputable def m_spec_l00Src_next_J0 (p0 : l00Src) (j0 : Int) : Option (Int × l00Src) :=
  bif (decide ((w64 (p0.at_ + (1 : Int))) ≤ (p0.code.length : Int))) then
    some (j0, (l00Src.mk p0.code (w64 (p0.at_ + (1 : Int))) (wu 64 ((wu 64 ((wu 64 (p0.seed * (6364136223846793005 : Int))) + (wu 64 j0))) + (1442695040888963407 : Int)))))
  else
    some ((w64 (andU 64 (Int.fdiv (wu 64 ((wu 64 ((wu 64 (p0.seed * (6364136223846793005 : Int))) + (wu 64 j0))) + (1442695040888963407 : Int))) (2 ^ 40)) (255 : Int))), (l00Src.mk p0.code (w64 (p0.at_ + (1 : Int))) (wu 64 ((wu 64 ((wu 64 (p0.seed * (6364136223846793005 : Int))) + (wu 64 j0))) + (1442695040888963407 : Int)))))
noncomputable def m_spec_l00Src_next (p0 : l00Src) : Option (Int × l00Src) :=
  bif (decide (p0.at_ < (p0.code.length : Int))) then
    (getI p0.code p0.at_).bind fun (x22 : Int) =>
    m_spec_l00Src_next_J0 p0 (w64 x22)
  else
    m_spec_l00Src_next_J0 p0 (0 : Int)
noncomputable def m_spec_l00Src_pick (p0 : l00Src) (p1 : Int) : Option (Int × l00Src) :=
  bif (decide (p1 ≤ (1 : Int))) then
    some ((0 : Int), p0)
  else
    (m_spec_l00Src_next p0).bind fun (r9 : Int × l00Src) =>
    bif (decide ((200 : Int) < p1)) then
      (m_spec_l00Src_next r9.2).bind fun (r15 : Int × l00Src) =>
      (remI (w64 ((w64 (r9.1 * (256 : Int))) + r15.1)) p1).bind fun (q19 : Int) =>
      some (q19, r15.2)
    else
      (remI r9.1 p1).bind fun (q19 : Int) =>
      some (q19, r9.2)
noncomputable def m_spec_l00Own (p0 : List Int) : Option (List Int) :=
  (capI (([] : List Int).length + p0.length) 8).bind fun (q5 : Unit) =>
  some (([] : List Int) ++ p0)
noncomputable def m_spec_l00In (p0 : Int) (p1 : Int) (p2 : Int) : Option Bool :=
  some ((decide (p1 ≤ p0)) && (decide (p0 ≤ p2)))
noncomputable def m_spec_l02Number (p0 : Int) : Option Bool :=
  (m_spec_l00In p0 (-1000000 : Int) (1000000 : Int)).bind fun (r4 : Bool) =>
  some r4
noncomputable def m_spec_l02Is_L0 (p0 : Term) (s0 : Int) : Option (Ctl Int (Unit ⊕ Bool)) :=
  bif (decide (s0 < (p0.Coeffs.length : Int))) then
    (getI p0.Coeffs s0).bind fun (x45 : Int) =>
    (m_spec_l02Number x45).bind fun (r47 : Bool) =>
    bif (!r47) then
      some (.out (.inr false))
    else
      some (.next (w64 (s0 + (1 : Int))))
  else
    some (.out (.inl ()))
noncomputable def m_spec_l02Is_A0 (u0 : Unit ⊕ Bool) : Option Bool :=
  match u0 with
  | .inl u0 =>
    some true
  | .inr u0 =>
    some u0
noncomputable def m_spec_l02Is_J0 (p0 : Term) (j0 : Unit) : Option Bool :=
  (iter (m_spec_l02Is_L0 p0) (0 : Int)).bind fun (u0 : Unit ⊕ Bool) =>
  m_spec_l02Is_A0 u0
noncomputable def m_spec_l02Is (p0 : Term) : Option Bool :=
  (m_spec_l02Number p0.Const).bind fun (r14 : Bool) =>
  bif ((!r14) || (decide ((10 : Int) < (p0.Coeffs.length : Int)))) then
    some false
  else
    bif (decide ((0 : Int) < (p0.Coeffs.length : Int))) then
      (getI p0.Coeffs (w64 ((p0.Coeffs.length : Int) - (1 : Int)))).bind fun (x30 : Int) =>
      bif (decide (x30 = (0 : Int))) then
        some false
      else
        m_spec_l02Is_J0 p0 ()
    else
      m_spec_l02Is_J0 p0 ()
noncomputable def m_spec_l02Make_L0 (p1 : List Int) (s0 : Int) : Option (Ctl Int Int) :=
  bif (decide ((0 : Int) < s0)) then
    (getI p1 (w64 (s0 - (1 : Int)))).bind fun (x16 : Int) =>
    bif (decide (x16 = (0 : Int))) then
      some (.next (w64 (s0 - (1 : Int))))
    else
      some (.out s0)
  else
    some (.out s0)
noncomputable def m_spec_l02Make_A0 (p0 : Int) (p1 : List Int) (u0 : Int) : Option (Term × Bool) :=
  (sliceI p1 (0 : Int) u0).bind fun (y25 : List Int) =>
  (m_spec_l00Own y25).bind fun (r26 : List Int) =>
  (m_spec_l02Is (Term.mk p0 r26)).bind fun (r28 : Bool) =>
  bif (!r28) then
    some ((Term.mk (0 : Int) ([] : List Int)), false)
  else
    some ((Term.mk p0 r26), true)
noncomputable def m_spec_l02Make (p0 : Int) (p1 : List Int) : Option (Term × Bool) :=
  (iter (m_spec_l02Make_L0 p1) (p1.length : Int)).bind fun (u0 : Int) =>
  m_spec_l02Make_A0 p0 p1 u0
noncomputable def m_spec_l00Src_one (p0 : l00Src) (p1 : Int) : Option (Bool × l00Src) :=
  (m_spec_l00Src_pick p0 p1).bind fun (r7 : Int × l00Src) =>
  some ((decide (r7.1 = (0 : Int))), r7.2)
noncomputable def m_spec_B10Facts_L1 (s1 : (List Int) × Int × Int × (List Int) × Int) : Option (Ctl ((List Int) × Int × Int × (List Int) × Int) (((List Int) × Int × Int × (List Int)))) :=
  bif (decide ((0 : Int) < s1.2.2.2.2)) then
    (m_spec_l00Src_pick (l00Src.mk s1.1 s1.2.1 s1.2.2.1) (7 : Int)).bind fun (r29 : Int × l00Src) =>
    (capI (s1.2.2.2.1.length + [(w64 (r29.1 - (3 : Int)))].length) 8).bind fun (q32 : Unit) =>
    some (.next (r29.2.code, r29.2.at_, r29.2.seed, (s1.2.2.2.1 ++ [(w64 (r29.1 - (3 : Int)))]), (w64 (s1.2.2.2.2 - (1 : Int)))))
  else
    some (.out (s1.1, s1.2.1, s1.2.2.1, s1.2.2.2.1))
noncomputable def m_spec_B10Values_L0 (s0 : (List Int) × Int × Int × (List Int) × Int) : Option (Ctl ((List Int) × Int × Int × (List Int) × Int) ((List Int))) :=
  bif (decide (s0.2.2.2.2 < (10 : Int))) then
    (m_spec_l00Src_pick (l00Src.mk s0.1 s0.2.1 s0.2.2.1) (13 : Int)).bind fun (r15 : Int × l00Src) =>
    (capI (s0.2.2.2.1.length + [(w64 (r15.1 - (6 : Int)))].length) 8).bind fun (q18 : Unit) =>
    some (.next (r15.2.code, r15.2.at_, r15.2.seed, (s0.2.2.2.1 ++ [(w64 (r15.1 - (6 : Int)))]), (w64 (s0.2.2.2.2 + (1 : Int)))))
  else
    some (.out s0.2.2.2.1)
noncomputable def m_spec_B10Values_A0 (u0 : (List Int)) : Option (List Int) :=
  some u0
noncomputable def m_spec_B10Values (p0 : List Int) : Option (List Int) :=
  (m_spec_l00From p0).bind fun (r7 : l00Src) =>
  (iter (m_spec_B10Values_L0) (r7.code, r7.at_, r7.seed, ([] : List Int), (0 : Int))).bind fun (u0 : (List Int)) =>
  m_spec_B10Values_A0 u0
noncomputable def m_impl_within (p0 : Int) (p1 : Int) (p2 : Int) : Option Bool :=
  some ((decide (p1 ≤ p0)) && (decide (p0 ≤ p2)))
noncomputable def m_impl_isCoeff (p0 : Int) : Option Bool :=
  (m_impl_within p0 (-1000000 : Int) (1000000 : Int)).bind fun (r4 : Bool) =>
  some r4
noncomputable def m_impl_allWithin_L0 (p1 : Int) (p2 : Int) (n0 : Nat) (x0 : Int) (s0 : Unit) : Option (Ctl Unit (Unit ⊕ Bool)) :=
  (m_impl_within x0 p1 p2).bind fun (r18 : Bool) =>
  bif (!r18) then
    some (.out (.inr false))
  else
    some (.next ())
noncomputable def m_impl_allWithin_A0 (u0 : Unit ⊕ Bool) : Option Bool :=
  match u0 with
  | .inl u0 =>
    some true
  | .inr u0 =>
    some u0
noncomputable def m_impl_allWithin (p0 : List Int) (p1 : Int) (p2 : Int) : Option Bool :=
  (forL (m_impl_allWithin_L0 p1 p2) (fun s0 => (.inl ())) 0 p0 ()).bind fun (u0 : Unit ⊕ Bool) =>
  m_impl_allWithin_A0 u0
noncomputable def m_impl_ValidTerm (p0 : Term) : Option Bool :=
  bif (decide ((p0.Coeffs.length : Int) ≤ (10 : Int))) then
    (m_impl_isCoeff p0.Const).bind fun (r12 : Bool) =>
    bif r12 then
      (m_impl_allWithin p0.Coeffs (-1000000 : Int) (1000000 : Int)).bind fun (r17 : Bool) =>
      bif r17 then
        bif (decide ((p0.Coeffs.length : Int) = (0 : Int))) then
          some true
        else
          (getI p0.Coeffs (w64 ((p0.Coeffs.length : Int) - (1 : Int)))).bind fun (x27 : Int) =>
          some (!decide (x27 = (0 : Int)))
      else
        some false
    else
      some false
  else
    some false
noncomputable def m_impl_areTerms_L0 (n0 : Nat) (x0 : Term) (s0 : Unit) : Option (Ctl Unit (Unit ⊕ Bool)) :=
  (m_impl_ValidTerm x0).bind fun (r18 : Bool) =>
  bif (!r18) then
    some (.out (.inr false))
  else
    some (.next ())
noncomputable def m_impl_areTerms_A0 (u0 : Unit ⊕ Bool) : Option Bool :=
  match u0 with
  | .inl u0 =>
    some true
  | .inr u0 =>
    some u0
noncomputable def m_impl_areTerms (p0 : List Term) (p1 : Int) : Option Bool :=
  bif (decide (p1 < (p0.length : Int))) then
    some false
  else
    (forL (m_impl_areTerms_L0) (fun s0 => (.inl ())) 0 p0 ()).bind fun (u0 : Unit ⊕ Bool) =>
    m_impl_areTerms_A0 u0
noncomputable def m_impl_ValidFacts (p0 : List Term) : Option Bool :=
  (m_impl_areTerms p0 (14 : Int)).bind fun (r4 : Bool) =>
  some r4
noncomputable def m_impl_allSymbols_L0 (p0 : Int) (s0 : (List Int) × Int) : Option (Ctl ((List Int) × Int) ((List Int))) :=
  bif (decide (s0.2 < p0)) then
    (capI (s0.1.length + [s0.2].length) 8).bind fun (q12 : Unit) =>
    some (.next ((s0.1 ++ [s0.2]), (w64 (s0.2 + (1 : Int)))))
  else
    some (.out s0.1)
noncomputable def m_impl_allSymbols_A0 (u0 : (List Int)) : Option (List Int) :=
  some u0
noncomputable def m_impl_allSymbols (p0 : Int) : Option (List Int) :=
  (iter (m_impl_allSymbols_L0 p0) (([] : List Int), (0 : Int))).bind fun (u0 : (List Int)) =>
  m_impl_allSymbols_A0 u0
noncomputable def m_impl_Term_coeff (p0 : Term) (p1 : Int) : Option Int :=
  bif (decide (p1 < (p0.Coeffs.length : Int))) then
    (getI p0.Coeffs p1).bind fun (x13 : Int) =>
    some x13
  else
    some (0 : Int)
noncomputable def m_impl_absolute (p0 : Int) : Option Int :=
  some (max p0 (w64 (0 - p0)))
noncomputable def m_impl_gcd_L1 (s1 : Int × Int) : Option (Ctl (Int × Int) Int) :=
  bif (!decide (s1.2 = (0 : Int))) then
    (remI s1.1 s1.2).bind fun (q22 : Int) =>
    some (.next (s1.2, q22))
  else
    some (.out s1.1)
noncomputable def m_impl_gcd_A1 (u1 : Int) : Option (Ctl Int Int) :=
  some (.next u1)
noncomputable def m_impl_gcd_L0 (n0 : Nat) (x0 : Int) (s0 : Int) : Option (Ctl Int Int) :=
  (m_impl_absolute x0).bind fun (r16 : Int) =>
  (iter (m_impl_gcd_L1) (s0, r16)).bind fun (u1 : Int) =>
  m_impl_gcd_A1 u1
noncomputable def m_impl_gcd_A0 (u0 : Int) : Option Int :=
  some u0
noncomputable def m_impl_gcd (p0 : List Int) : Option Int :=
  (forL (m_impl_gcd_L0) (fun s0 => s0) 0 p0 (0 : Int)).bind fun (u0 : Int) =>
  m_impl_gcd_A0 u0
noncomputable def m_impl_Term_trimmed_L0 (p0 : Term) (s0 : Int) : Option (Ctl Int Int) :=
  bif (decide ((0 : Int) < s0)) then
    (getI p0.Coeffs (w64 (s0 - (1 : Int)))).bind fun (x14 : Int) =>
    bif (decide (x14 = (0 : Int))) then
      some (.next (w64 (s0 - (1 : Int))))
    else
      some (.out s0)
  else
    some (.out s0)
noncomputable def m_impl_Term_trimmed_A0 (p0 : Term) (u0 : Int) : Option Term :=
  (sliceI p0.Coeffs (0 : Int) u0).bind fun (y23 : List Int) =>
  some (Term.mk p0.Const y23)
noncomputable def m_impl_Term_trimmed (p0 : Term) : Option Term :=
  (iter (m_impl_Term_trimmed_L0 p0) (p0.Coeffs.length : Int)).bind fun (u0 : Int) =>
  m_impl_Term_trimmed_A0 p0 u0
noncomputable def m_impl_combined_L1 (x23 : Int) (n1 : Nat) (x1 : Int) (s1 : List Int) : Option (Ctl (List Int) ((List Int))) :=
  (getI s1 (n1 : Int)).bind fun (x41 : Int) =>
  some (.next (s1.set (((n1 : Int)).toNat) (w64 (x41 + (w64 (x23 * x1))))))
noncomputable def m_impl_combined_A1 (s0 : Int × (List Int)) (x0 : Term) (x23 : Int) (u1 : (List Int)) : Option (Ctl (Int × (List Int)) ((Int × (List Int)))) :=
  some (.next ((w64 (s0.1 + (w64 (x23 * x0.Const)))), u1))
noncomputable def m_impl_combined_L0 (p1 : List Int) (n0 : Nat) (x0 : Term) (s0 : Int × (List Int)) : Option (Ctl (Int × (List Int)) ((Int × (List Int)))) :=
  (getI p1 (n0 : Int)).bind fun (x23 : Int) =>
  (forL (m_impl_combined_L1 x23) (fun s1 => s1) 0 x0.Coeffs s0.2).bind fun (u1 : (List Int)) =>
  m_impl_combined_A1 s0 x0 x23 u1
noncomputable def m_impl_combined_A0 (u0 : (Int × (List Int))) : Option Term :=
  (m_impl_Term_trimmed (Term.mk u0.1 u0.2)).bind fun (r54 : Term) =>
  some r54
noncomputable def m_impl_combined (p0 : List Term) (p1 : List Int) : Option Term :=
  (makeI (10 : Int) 8).bind fun (k10 : Nat) =>
  (forL (m_impl_combined_L0 p1) (fun s0 => (s0.1, s0.2)) 0 p0 ((0 : Int), (List.replicate k10 (0 : Int)))).bind fun (u0 : (Int × (List Int))) =>
  m_impl_combined_A0 u0
noncomputable def m_impl_cancelled_L0 (p1 : combination) (q31 : Int) (q34 : Int) (n0 : Nat) (x0 : Int) (s0 : List Int) : Option (Ctl (List Int) ((List Int))) :=
  (getI p1.by_ (n0 : Int)).bind fun (x62 : Int) =>
  (capI (s0.length + [(w64 ((w64 (q34 * x0)) + (w64 (q31 * x62))))].length) 8).bind fun (q67 : Unit) =>
  some (.next (s0 ++ [(w64 ((w64 (q34 * x0)) + (w64 (q31 * x62))))]))
noncomputable def m_impl_cancelled_L1 (r43 : Term) (r77 : Int) (s1 : (List Int) × Int) : Option (Ctl ((List Int) × Int) ((List Int))) :=
  bif (decide (s1.2 < (r43.Coeffs.length : Int))) then
    (getI s1.1 s1.2).bind fun (x92 : Int) =>
    (quoI x92 r77).bind fun (q95 : Int) =>
    some (.next ((s1.1.set ((s1.2).toNat) q95), (w64 (s1.2 + (1 : Int)))))
  else
    some (.out s1.1)
noncomputable def m_impl_cancelled_L2 (u0 : List Int) (r77 : Int) (s2 : (List Int) × Int) : Option (Ctl ((List Int) × Int) ((List Int))) :=
  bif (decide (s2.2 < (u0.length : Int))) then
    (getI s2.1 s2.2).bind fun (x105 : Int) =>
    (quoI x105 r77).bind fun (q108 : Int) =>
    some (.next ((s2.1.set ((s2.2).toNat) q108), (w64 (s2.2 + (1 : Int)))))
  else
    some (.out s2.1)
noncomputable def m_impl_cancelled_A2 (q81 : Int) (u1 : List Int) (u2 : (List Int)) : Option (combination × Bool) :=
  (m_impl_ValidTerm (Term.mk q81 u1)).bind fun (r115 : Bool) =>
  bif r115 then
    (m_impl_allWithin u2 (-1000000 : Int) (1000000 : Int)).bind fun (r118 : Bool) =>
    some ((combination.mk (Term.mk q81 u1) u2), r118)
  else
    some ((combination.mk (Term.mk q81 u1) u2), false)
noncomputable def m_impl_cancelled_A1 (u0 : List Int) (r77 : Int) (q81 : Int) (u1 : (List Int)) : Option (combination × Bool) :=
  (iter (m_impl_cancelled_L2 u0 r77) (u0, (0 : Int))).bind fun (u2 : (List Int)) =>
  m_impl_cancelled_A2 q81 u1 u2
noncomputable def m_impl_cancelled_A0 (r43 : Term) (u0 : (List Int)) : Option (combination × Bool) :=
  (capI ([r43.Const].length + r43.Coeffs.length) 8).bind fun (q74 : Unit) =>
  (capI (([r43.Const] ++ r43.Coeffs).length + u0.length) 8).bind fun (q76 : Unit) =>
  (m_impl_gcd (([r43.Const] ++ r43.Coeffs) ++ u0)).bind fun (r77 : Int) =>
  (quoI r43.Const r77).bind fun (q81 : Int) =>
  (iter (m_impl_cancelled_L1 r43 r77) (r43.Coeffs, (0 : Int))).bind fun (u1 : (List Int)) =>
  m_impl_cancelled_A1 u0 r77 q81 u1
noncomputable def m_impl_cancelled (p0 : combination) (p1 : combination) (p2 : Int) : Option (combination × Bool) :=
  (m_impl_Term_coeff p0.term p2).bind fun (r19 : Int) =>
  (m_impl_Term_coeff p1.term p2).bind fun (r23 : Int) =>
  (m_impl_gcd [r19, (w64 (0 - r23))]).bind fun (r28 : Int) =>
  (quoI r19 r28).bind fun (q31 : Int) =>
  (quoI (w64 (0 - r23)) r28).bind fun (q34 : Int) =>
  (m_impl_combined [p0.term, p1.term] [q34, q31]).bind fun (r43 : Term) =>
  (forL (m_impl_cancelled_L0 p1 q31 q34) (fun s0 => s0) 0 p0.by_ ([] : List Int)).bind fun (u0 : (List Int)) =>
  m_impl_cancelled_A0 r43 u0
noncomputable def m_impl_eliminated_L0 (p0 : List Term) (n0 : Nat) (x0 : Term) (s0 : List combination) : Option (Ctl (List combination) ((List combination))) :=
  (makeI (p0.length : Int) 8).bind fun (k32 : Nat) =>
  (getI (List.replicate k32 (0 : Int)) (n0 : Int)).bind fun (x35 : Int) =>
  (capI (s0.length + [(combination.mk x0 ((List.replicate k32 (0 : Int)).set (((n0 : Int)).toNat) (1 : Int)))].length) 56).bind fun (q41 : Unit) =>
  some (.next (s0 ++ [(combination.mk x0 ((List.replicate k32 (0 : Int)).set (((n0 : Int)).toNat) (1 : Int)))]))
noncomputable def m_impl_eliminated_L2 (x1 : Int) (n2 : Nat) (x2 : combination) (s2 : List combination) : Option (Ctl (List combination) ((List combination))) :=
  (m_impl_Term_coeff x2.term x1).bind fun (r58 : Int) =>
  bif (decide (r58 = (0 : Int))) then
    (capI (s2.length + [x2].length) 56).bind fun (q63 : Unit) =>
    some (.next (s2 ++ [x2]))
  else
    some (.next s2)
noncomputable def m_impl_eliminated_L4 (x1 : Int) (x3 : combination) (n4 : Nat) (x4 : combination) (s4 : (List combination) × (List combination)) : Option (Ctl ((List combination) × (List combination)) (((List combination) × (List combination)) ⊕ ((List combination) × (List combination) × Bool))) :=
  (m_impl_Term_coeff x3.term x1).bind fun (r80 : Int) =>
  bif (decide (r80 ≤ (0 : Int))) then
    some (.next (s4.1, s4.2))
  else
    (m_impl_Term_coeff x4.term x1).bind fun (r86 : Int) =>
    bif (decide ((0 : Int) ≤ r86)) then
      some (.next (s4.1, s4.2))
    else
      (m_impl_cancelled x3 x4 x1).bind fun (r93 : combination × Bool) =>
      bif ((!r93.2) || (decide ((s4.2.length : Int) = (60 : Int)))) then
        some (.out (.inr (([] : List combination), ([] : List combination), false)))
      else
        (capI (s4.2.length + [r93.1].length) 56).bind fun (q106 : Unit) =>
        (capI (s4.1.length + [r93.1].length) 56).bind fun (q110 : Unit) =>
        some (.next ((s4.1 ++ [r93.1]), (s4.2 ++ [r93.1])))
noncomputable def m_impl_eliminated_A4 (u4 : ((List combination) × (List combination)) ⊕ ((List combination) × (List combination) × Bool)) : Option (Ctl ((List combination) × (List combination)) (((List combination) × (List combination)) ⊕ ((List combination) × (List combination) × Bool))) :=
  match u4 with
  | .inl u4 =>
    some (.next (u4.1, u4.2))
  | .inr u4 =>
    some (.out (.inr (u4.1, u4.2.1, u4.2.2)))
noncomputable def m_impl_eliminated_L3 (s1 : (List combination) × (List combination)) (x1 : Int) (n3 : Nat) (x3 : combination) (s3 : (List combination) × (List combination)) : Option (Ctl ((List combination) × (List combination)) (((List combination) × (List combination)) ⊕ ((List combination) × (List combination) × Bool))) :=
  (forL (m_impl_eliminated_L4 x1 x3) (fun s4 => (.inl (s4.1, s4.2))) 0 s1.1 (s3.1, s3.2)).bind fun (u4 : ((List combination) × (List combination)) ⊕ ((List combination) × (List combination) × Bool)) =>
  m_impl_eliminated_A4 u4
noncomputable def m_impl_eliminated_A3 (u3 : ((List combination) × (List combination)) ⊕ ((List combination) × (List combination) × Bool)) : Option (Ctl ((List combination) × (List combination)) (((List combination) × (List combination)) ⊕ ((List combination) × (List combination) × Bool))) :=
  match u3 with
  | .inl u3 =>
    bif (decide ((60 : Int) < (u3.2.length : Int))) then
      some (.out (.inr (([] : List combination), ([] : List combination), false)))
    else
      some (.next (u3.2, u3.1))
  | .inr u3 =>
    some (.out (.inr (u3.1, u3.2.1, u3.2.2)))
noncomputable def m_impl_eliminated_A2 (s1 : (List combination) × (List combination)) (x1 : Int) (u2 : (List combination)) : Option (Ctl ((List combination) × (List combination)) (((List combination) × (List combination)) ⊕ ((List combination) × (List combination) × Bool))) :=
  (forL (m_impl_eliminated_L3 s1 x1) (fun s3 => (.inl (s3.1, s3.2))) 0 s1.1 (s1.2, u2)).bind fun (u3 : ((List combination) × (List combination)) ⊕ ((List combination) × (List combination) × Bool)) =>
  m_impl_eliminated_A3 u3
noncomputable def m_impl_eliminated_L1 (n1 : Nat) (x1 : Int) (s1 : (List combination) × (List combination)) : Option (Ctl ((List combination) × (List combination)) (((List combination) × (List combination)) ⊕ ((List combination) × (List combination) × Bool))) :=
  (forL (m_impl_eliminated_L2 x1) (fun s2 => s2) 0 s1.1 ([] : List combination)).bind fun (u2 : (List combination)) =>
  m_impl_eliminated_A2 s1 x1 u2
noncomputable def m_impl_eliminated_A1 (u1 : ((List combination) × (List combination)) ⊕ ((List combination) × (List combination) × Bool)) : Option ((List combination) × (List combination) × Bool) :=
  match u1 with
  | .inl u1 =>
    some (u1.1, u1.2, true)
  | .inr u1 =>
    some (u1.1, u1.2.1, u1.2.2)
noncomputable def m_impl_eliminated_A0 (p1 : List Int) (u0 : (List combination)) : Option ((List combination) × (List combination) × Bool) :=
  (forL (m_impl_eliminated_L1) (fun s1 => (.inl (s1.1, s1.2))) 0 p1 (u0, ([] : List combination))).bind fun (u1 : ((List combination) × (List combination)) ⊕ ((List combination) × (List combination) × Bool)) =>
  m_impl_eliminated_A1 u1
noncomputable def m_impl_eliminated (p0 : List Term) (p1 : List Int) : Option ((List combination) × (List combination) × Bool) :=
  (forL (m_impl_eliminated_L0 p0) (fun s0 => s0) 0 p0 ([] : List combination)).bind fun (u0 : (List combination)) =>
  m_impl_eliminated_A0 p1 u0
noncomputable def m_impl_copyInts (p0 : List Int) : Option (List Int) :=
  (capI (([] : List Int).length + p0.length) 8).bind fun (q5 : Unit) =>
  some (([] : List Int) ++ p0)
noncomputable def m_impl_RefuteFacts_L0 (n0 : Nat) (x0 : combination) (s0 : Unit) : Option (Ctl Unit (Unit ⊕ ((List Int) × Bool))) :=
  bif (decide (x0.term.Const < (0 : Int))) then
    (m_impl_copyInts x0.by_).bind fun (r33 : List Int) =>
    some (.out (.inr (r33, true)))
  else
    some (.next ())
noncomputable def m_impl_RefuteFacts_A0 (u0 : Unit ⊕ ((List Int) × Bool)) : Option ((List Int) × Bool) :=
  match u0 with
  | .inl u0 =>
    some (([] : List Int), false)
  | .inr u0 =>
    some (u0.1, u0.2)
noncomputable def m_impl_RefuteFacts (p0 : List Term) : Option ((List Int) × Bool) :=
  (m_impl_ValidFacts p0).bind fun (r10 : Bool) =>
  bif (!r10) then
    some (([] : List Int), false)
  else
    (m_impl_allSymbols (10 : Int)).bind fun (r14 : List Int) =>
    (m_impl_eliminated p0 r14).bind fun (r15 : (List combination) × (List combination) × Bool) =>
    bif (!r15.2.2) then
      some (([] : List Int), false)
    else
      (forL (m_impl_RefuteFacts_L0) (fun s0 => (.inl ())) 0 r15.1 ()).bind fun (u0 : Unit ⊕ ((List Int) × Bool)) =>
      m_impl_RefuteFacts_A0 u0
noncomputable def m_spec_l02All_L0 (p0 : List Term) (s0 : Int) : Option (Ctl Int (Unit ⊕ Bool)) :=
  bif (decide (s0 < (p0.length : Int))) then
    (getI p0 s0).bind fun (x14 : Term) =>
    (m_spec_l02Is x14).bind fun (r15 : Bool) =>
    bif (!r15) then
      some (.out (.inr false))
    else
      some (.next (w64 (s0 + (1 : Int))))
  else
    some (.out (.inl ()))
noncomputable def m_spec_l02All_A0 (p0 : List Term) (p1 : Int) (u0 : Unit ⊕ Bool) : Option Bool :=
  match u0 with
  | .inl u0 =>
    some (decide ((p0.length : Int) ≤ p1))
  | .inr u0 =>
    some u0
noncomputable def m_spec_l02All (p0 : List Term) (p1 : Int) : Option Bool :=
  (iter (m_spec_l02All_L0 p0) (0 : Int)).bind fun (u0 : Unit ⊕ Bool) =>
  m_spec_l02All_A0 p0 p1 u0
noncomputable def m_spec_l00Max (p0 : Int) (p1 : Int) : Option Int :=
  bif (decide (p1 < p0)) then
    some p0
  else
    some p1
noncomputable def m_impl_Term_own (p0 : Term) : Option Term :=
  (m_impl_copyInts p0.Coeffs).bind fun (r7 : List Int) =>
  some (Term.mk p0.Const r7)
noncomputable def m_laws_b10Value_L0 (p0 : Term) (p1 : List Int) (s0 : Int × Int) : Option (Ctl (Int × Int) Int) :=
  bif ((decide (s0.2 < (p0.Coeffs.length : Int))) && (decide (s0.2 < (p1.length : Int)))) then
    (getI p0.Coeffs s0.2).bind fun (x26 : Int) =>
    (getI p1 s0.2).bind fun (x30 : Int) =>
    some (.next ((w64 (s0.1 + (w64 (x26 * x30)))), (w64 (s0.2 + (1 : Int)))))
  else
    some (.out s0.1)
noncomputable def m_laws_b10Value_A0 (u0 : Int) : Option Int :=
  some u0
noncomputable def m_laws_b10Value (p0 : Term) (p1 : List Int) : Option Int :=
  (iter (m_laws_b10Value_L0 p0 p1) (p0.Const, (0 : Int))).bind fun (u0 : Int) =>
  m_laws_b10Value_A0 u0
noncomputable def m_laws_b10Hold_L0 (p0 : List Term) (p1 : List Int) (s0 : Int) : Option (Ctl Int (Unit ⊕ Bool)) :=
  bif (decide (s0 < (p0.length : Int))) then
    (getI p0 s0).bind fun (x14 : Term) =>
    (m_laws_b10Value x14 p1).bind fun (r17 : Int) =>
    bif (decide (r17 < (0 : Int))) then
      some (.out (.inr false))
    else
      some (.next (w64 (s0 + (1 : Int))))
  else
    some (.out (.inl ()))
noncomputable def m_laws_b10Hold_A0 (u0 : Unit ⊕ Bool) : Option Bool :=
  match u0 with
  | .inl u0 =>
    some true
  | .inr u0 =>
    some u0
noncomputable def m_laws_b10Hold (p0 : List Term) (p1 : List Int) : Option Bool :=
  (iter (m_laws_b10Hold_L0 p0 p1) (0 : Int)).bind fun (u0 : Unit ⊕ Bool) =>
  m_laws_b10Hold_A0 u0
noncomputable def m_impl_size (p0 : Int) : Option Int :=
  some p0
noncomputable def m_impl_symbolsOf_1 (p0 : Term) (p1_0 : Int) : Option Bool :=
  (m_impl_Term_coeff p0 p1_0).bind fun (r6 : Int) =>
  some (!decide (r6 = (0 : Int)))
noncomputable def m_slices_IndexFunc_impl_Term_impl_Term_fsymbolsOf_1_L0 (v1_0_0 : Int) (n0 : Nat) (x0 : Term) (s0 : Unit) : Option (Ctl Unit (Unit ⊕ Int)) :=
  (m_impl_symbolsOf_1 x0 v1_0_0).bind fun (r16 : Bool) =>
  bif r16 then
    some (.out (.inr (n0 : Int)))
  else
    some (.next ())
noncomputable def m_slices_IndexFunc_impl_Term_impl_Term_fsymbolsOf_1_A0 (u0 : Unit ⊕ Int) : Option Int :=
  match u0 with
  | .inl u0 =>
    some (-1 : Int)
  | .inr u0 =>
    some u0
noncomputable def m_slices_IndexFunc_impl_Term_impl_Term_fsymbolsOf_1 (p0 : List Term) (v1_0_0 : Int) : Option Int :=
  (forL (m_slices_IndexFunc_impl_Term_impl_Term_fsymbolsOf_1_L0 v1_0_0) (fun s0 => (.inl ())) 0 p0 ()).bind fun (u0 : Unit ⊕ Int) =>
  m_slices_IndexFunc_impl_Term_impl_Term_fsymbolsOf_1_A0 u0
noncomputable def m_slices_ContainsFunc_impl_Term_impl_Term_fsymbolsOf_1 (p0 : List Term) (v1_0_0 : Int) : Option Bool :=
  (m_slices_IndexFunc_impl_Term_impl_Term_fsymbolsOf_1 p0 v1_0_0).bind fun (r7 : Int) =>
  some (decide ((0 : Int) ≤ r7))
noncomputable def m_impl_symbolsOf_L0 (p0 : List Term) (s0 : (List Int) × Int) : Option (Ctl ((List Int) × Int) ((List Int))) :=
  bif (decide (s0.2 < (10 : Int))) then
    (m_slices_ContainsFunc_impl_Term_impl_Term_fsymbolsOf_1 p0 s0.2).bind fun (r11 : Bool) =>
    bif r11 then
      (capI (s0.1.length + [s0.2].length) 8).bind fun (q15 : Unit) =>
      some (.next ((s0.1 ++ [s0.2]), (w64 (s0.2 + (1 : Int)))))
    else
      some (.next (s0.1, (w64 (s0.2 + (1 : Int)))))
  else
    some (.out s0.1)
noncomputable def m_impl_symbolsOf_A0 (u0 : (List Int)) : Option (List Int) :=
  some u0
noncomputable def m_impl_symbolsOf (p0 : List Term) : Option (List Int) :=
  (iter (m_impl_symbolsOf_L0 p0) (([] : List Int), (0 : Int))).bind fun (u0 : (List Int)) =>
  m_impl_symbolsOf_A0 u0
noncomputable def m_spec_l02Divisor_L1 (s1 : Int × Int) : Option (Ctl (Int × Int) Int) :=
  bif (decide ((0 : Int) < s1.2)) then
    (remI s1.1 s1.2).bind fun (q36 : Int) =>
    some (.next (s1.2, q36))
  else
    some (.out s1.1)
noncomputable def m_spec_l02Divisor_A1 (s0 : Int × Int) (u1 : Int) : Option (Ctl (Int × Int) Int) :=
  some (.next (u1, (w64 (s0.2 + (1 : Int)))))
noncomputable def m_spec_l02Divisor_L0 (p0 : Term) (s0 : Int × Int) : Option (Ctl (Int × Int) Int) :=
  bif (decide (s0.2 < (p0.Coeffs.length : Int))) then
    (getI p0.Coeffs s0.2).bind fun (x21 : Int) =>
    (m_spec_l00Max x21 (w64 (0 - x21))).bind fun (r31 : Int) =>
    (iter (m_spec_l02Divisor_L1) (s0.1, r31)).bind fun (u1 : Int) =>
    m_spec_l02Divisor_A1 s0 u1
  else
    some (.out s0.1)
noncomputable def m_spec_l02Divisor_A0 (u0 : Int) : Option Int :=
  some u0
noncomputable def m_spec_l02Divisor (p0 : Term) : Option Int :=
  (iter (m_spec_l02Divisor_L0 p0) ((0 : Int), (0 : Int))).bind fun (u0 : Int) =>
  m_spec_l02Divisor_A0 u0
noncomputable def m_spec_l02Tight_L0 (p0 : Term) (r9 : Int) (s0 : (List Int) × Int) : Option (Ctl ((List Int) × Int) ((List Int))) :=
  bif (decide (s0.2 < (p0.Coeffs.length : Int))) then
    (getI p0.Coeffs s0.2).bind fun (x29 : Int) =>
    (quoI x29 r9).bind fun (q32 : Int) =>
    (capI (s0.1.length + [q32].length) 8).bind fun (q34 : Unit) =>
    some (.next ((s0.1 ++ [q32]), (w64 (s0.2 + (1 : Int)))))
  else
    some (.out s0.1)
noncomputable def m_spec_l02Tight_J0 (u0 : List Int) (j0 : Int) : Option (Term × Bool) :=
  (m_spec_l02Make j0 u0).bind fun (r52 : Term × Bool) =>
  some (r52.1, r52.2)
noncomputable def m_spec_l02Tight_A0 (p0 : Term) (r9 : Int) (u0 : (List Int)) : Option (Term × Bool) :=
  (quoI p0.Const r9).bind fun (q40 : Int) =>
  (remI p0.Const r9).bind fun (q46 : Int) =>
  bif (decide (q46 < (0 : Int))) then
    m_spec_l02Tight_J0 u0 (w64 (q40 - (1 : Int)))
  else
    m_spec_l02Tight_J0 u0 q40
noncomputable def m_spec_l02Tight (p0 : Term) : Option (Term × Bool) :=
  (m_spec_l02Divisor p0).bind fun (r9 : Int) =>
  bif (decide (r9 < (2 : Int))) then
    some ((Term.mk (0 : Int) ([] : List Int)), false)
  else
    (iter (m_spec_l02Tight_L0 p0 r9) (([] : List Int), (0 : Int))).bind fun (u0 : (List Int)) =>
    m_spec_l02Tight_A0 p0 r9 u0
noncomputable def m_impl_divFloor (p0 : Int) (p1 : Int) : Option Int :=
  (quoI p0 p1).bind fun (q8 : Int) =>
  (remI p0 p1).bind fun (q11 : Int) =>
  bif (decide (q11 < (0 : Int))) then
    some (w64 (q8 - (1 : Int)))
  else
    some q8
noncomputable def m_impl_Term_tightened_L0 (r9 : Int) (r14 : Term) (s0 : (List Int) × Int) : Option (Ctl ((List Int) × Int) ((List Int))) :=
  bif (decide (s0.2 < (r14.Coeffs.length : Int))) then
    (getI s0.1 s0.2).bind fun (x29 : Int) =>
    (quoI x29 r9).bind fun (q32 : Int) =>
    some (.next ((s0.1.set ((s0.2).toNat) q32), (w64 (s0.2 + (1 : Int)))))
  else
    some (.out s0.1)
noncomputable def m_impl_Term_tightened_A0 (r18 : Int) (u0 : (List Int)) : Option (Term × Bool) :=
  some ((Term.mk r18 u0), true)
noncomputable def m_impl_Term_tightened (p0 : Term) : Option (Term × Bool) :=
  (m_impl_gcd p0.Coeffs).bind fun (r9 : Int) =>
  bif (decide (r9 ≤ (1 : Int))) then
    some ((Term.mk (0 : Int) ([] : List Int)), false)
  else
    (m_impl_Term_own p0).bind fun (r14 : Term) =>
    (m_impl_divFloor p0.Const r9).bind fun (r18 : Int) =>
    (iter (m_impl_Term_tightened_L0 r9 r14) (r14.Coeffs, (0 : Int))).bind fun (u0 : (List Int)) =>
    m_impl_Term_tightened_A0 r18 u0
noncomputable def m_slices_Equal_int64_int64_L0 (p1 : List Int) (n0 : Nat) (x0 : Int) (s0 : Unit) : Option (Ctl Unit (Unit ⊕ Bool)) :=
  (getI p1 (n0 : Int)).bind fun (x22 : Int) =>
  bif (!decide (x0 = x22)) then
    some (.out (.inr false))
  else
    some (.next ())
noncomputable def m_slices_Equal_int64_int64_A0 (u0 : Unit ⊕ Bool) : Option Bool :=
  match u0 with
  | .inl u0 =>
    some true
  | .inr u0 =>
    some u0
noncomputable def m_slices_Equal_int64_int64 (p0 : List Int) (p1 : List Int) : Option Bool :=
  bif (!decide ((p0.length : Int) = (p1.length : Int))) then
    some false
  else
    (forL (m_slices_Equal_int64_int64_L0 p1) (fun s0 => (.inl ())) 0 p0 ()).bind fun (u0 : Unit ⊕ Bool) =>
    m_slices_Equal_int64_int64_A0 u0
noncomputable def m_impl_Term_equal (p0 : Term) (p1 : Term) : Option Bool :=
  bif (decide (p0.Const = p1.Const)) then
    (m_slices_Equal_int64_int64 p0.Coeffs p1.Coeffs).bind fun (r15 : Bool) =>
    some r15
  else
    some false
noncomputable def m_slices_IndexFunc_impl_Term_impl_Term_fequal_L0 (v1_0_0 : Int) (v1_0_1 : List Int) (n0 : Nat) (x0 : Term) (s0 : Unit) : Option (Ctl Unit (Unit ⊕ Int)) :=
  (m_impl_Term_equal (Term.mk v1_0_0 v1_0_1) x0).bind fun (r16 : Bool) =>
  bif r16 then
    some (.out (.inr (n0 : Int)))
  else
    some (.next ())
noncomputable def m_slices_IndexFunc_impl_Term_impl_Term_fequal_A0 (u0 : Unit ⊕ Int) : Option Int :=
  match u0 with
  | .inl u0 =>
    some (-1 : Int)
  | .inr u0 =>
    some u0
noncomputable def m_slices_IndexFunc_impl_Term_impl_Term_fequal (p0 : List Term) (v1_0_0 : Int) (v1_0_1 : List Int) : Option Int :=
  (forL (m_slices_IndexFunc_impl_Term_impl_Term_fequal_L0 v1_0_0 v1_0_1) (fun s0 => (.inl ())) 0 p0 ()).bind fun (u0 : Unit ⊕ Int) =>
  m_slices_IndexFunc_impl_Term_impl_Term_fequal_A0 u0
noncomputable def m_slices_ContainsFunc_impl_Term_impl_Term_fequal (p0 : List Term) (v1_0_0 : Int) (v1_0_1 : List Int) : Option Bool :=
  (m_slices_IndexFunc_impl_Term_impl_Term_fequal p0 v1_0_0 v1_0_1).bind fun (r7 : Int) =>
  some (decide ((0 : Int) ≤ r7))
noncomputable def m_impl_hasTerm (p0 : List Term) (p1 : Term) : Option Bool :=
  (m_slices_ContainsFunc_impl_Term_impl_Term_fequal p0 p1.Const p1.Coeffs).bind fun (r8 : Bool) =>
  some r8
noncomputable def m_impl_cuts (p0 : Term) (p1 : List Term) : Option (Term × Bool) :=
  (m_impl_gcd p0.Coeffs).bind fun (r11 : Int) =>
  bif (decide (r11 ≤ (1 : Int))) then
    some ((Term.mk (0 : Int) ([] : List Int)), false)
  else
    (remI p0.Const r11).bind fun (q18 : Int) =>
    bif (decide (q18 = (0 : Int))) then
      some ((Term.mk (0 : Int) ([] : List Int)), false)
    else
      (m_impl_Term_tightened p0).bind fun (r24 : Term × Bool) =>
      bif r24.2 then
        (m_impl_hasTerm p1 r24.1).bind fun (r32 : Bool) =>
        some (r24.1, (!r32))
      else
        some (r24.1, false)
noncomputable def m_impl_firstCut_L0 (p0 : List Term) (n0 : Nat) (x0 : combination) (s0 : Unit) : Option (Ctl Unit (Unit ⊕ (Int × (List Int) × Int × (List Int) × (List Int) × Bool))) :=
  (m_impl_cuts x0.term p0).bind fun (r33 : Term × Bool) =>
  bif r33.2 then
    some (.out (.inr (r33.1.Const, r33.1.Coeffs, x0.term.Const, x0.term.Coeffs, x0.by_, true)))
  else
    some (.next ())
noncomputable def m_impl_firstCut_A0 (u0 : Unit ⊕ (Int × (List Int) × Int × (List Int) × (List Int) × Bool)) : Option (Term × combination × Bool) :=
  match u0 with
  | .inl u0 =>
    some ((Term.mk (0 : Int) ([] : List Int)), (combination.mk (Term.mk (0 : Int) ([] : List Int)) ([] : List Int)), false)
  | .inr u0 =>
    some ((Term.mk u0.1 u0.2.1), (combination.mk (Term.mk u0.2.2.1 u0.2.2.2.1) u0.2.2.2.2.1), u0.2.2.2.2.2)
noncomputable def m_impl_firstCut (p0 : List Term) : Option (Term × combination × Bool) :=
  (m_impl_allSymbols (10 : Int)).bind fun (r14 : List Int) =>
  (m_impl_eliminated p0 r14).bind fun (r15 : (List combination) × (List combination) × Bool) =>
  bif (!r15.2.2) then
    some ((Term.mk (0 : Int) ([] : List Int)), (combination.mk (Term.mk (0 : Int) ([] : List Int)) ([] : List Int)), false)
  else
    (forL (m_impl_firstCut_L0 p0) (fun s0 => (.inl ())) 0 r15.2.1 ()).bind fun (u0 : Unit ⊕ (Int × (List Int) × Int × (List Int) × (List Int) × Bool)) =>
    m_impl_firstCut_A0 u0
noncomputable def m_slices_Clone_impl_Term_impl_Term (p0 : List Term) : Option (List Term) :=
  (capI (([] : List Term).length + p0.length) 32).bind fun (q7 : Unit) =>
  some (([] : List Term) ++ p0)
noncomputable def m_impl_with (p0 : List Term) (p1 : Term) : Option (List Term) :=
  (m_slices_Clone_impl_Term_impl_Term p0).bind fun (r6 : List Term) =>
  (capI (r6.length + [p1].length) 32).bind fun (q9 : Unit) =>
  some (r6 ++ [p1])
noncomputable def m_spec_l02Own (p0 : Term) : Option Term :=
  (m_spec_l00Own p0.Coeffs).bind fun (r11 : List Int) =>
  some (Term.mk p0.Const r11)
noncomputable def m_spec_l02OwnAll_L0 (p0 : List Term) (s0 : (List Term) × Int) : Option (Ctl ((List Term) × Int) ((List Term))) :=
  bif (decide (s0.2 < (p0.length : Int))) then
    (getI p0 s0.2).bind fun (x15 : Term) =>
    (m_spec_l02Own x15).bind fun (r16 : Term) =>
    (capI (s0.1.length + [r16].length) 32).bind fun (q18 : Unit) =>
    some (.next ((s0.1 ++ [r16]), (w64 (s0.2 + (1 : Int)))))
  else
    some (.out s0.1)
noncomputable def m_spec_l02OwnAll_A0 (u0 : (List Term)) : Option (List Term) :=
  some u0
noncomputable def m_spec_l02OwnAll (p0 : List Term) : Option (List Term) :=
  (iter (m_spec_l02OwnAll_L0 p0) (([] : List Term), (0 : Int))).bind fun (u0 : (List Term)) =>
  m_spec_l02OwnAll_A0 u0
noncomputable def m_spec_l02Combine_L1 (x20 : Int) (x24 : Term) (s1 : (List Int) × Int) : Option (Ctl ((List Int) × Int) ((List Int))) :=
  bif (decide (s1.2 < (x24.Coeffs.length : Int))) then
    (getI s1.1 s1.2).bind fun (x41 : Int) =>
    (getI x24.Coeffs s1.2).bind fun (x53 : Int) =>
    some (.next ((s1.1.set ((s1.2).toNat) (w64 (x41 + (w64 (x20 * x53))))), (w64 (s1.2 + (1 : Int)))))
  else
    some (.out s1.1)
noncomputable def m_spec_l02Combine_A1 (s0 : Int × (List Int) × Int) (x20 : Int) (x24 : Term) (u1 : (List Int)) : Option (Ctl (Int × (List Int) × Int) ((Int × (List Int)))) :=
  some (.next ((w64 (s0.1 + (w64 (x20 * x24.Const)))), u1, (w64 (s0.2.2 + (1 : Int)))))
noncomputable def m_spec_l02Combine_L0 (p0 : List Term) (p1 : List Int) (s0 : Int × (List Int) × Int) : Option (Ctl (Int × (List Int) × Int) ((Int × (List Int)))) :=
  bif (decide (s0.2.2 < (p0.length : Int))) then
    (getI p1 s0.2.2).bind fun (x20 : Int) =>
    (getI p0 s0.2.2).bind fun (x24 : Term) =>
    (iter (m_spec_l02Combine_L1 x20 x24) (s0.2.1, (0 : Int))).bind fun (u1 : (List Int)) =>
    m_spec_l02Combine_A1 s0 x20 x24 u1
  else
    some (.out (s0.1, s0.2.1))
noncomputable def m_spec_l02Combine_A0 (u0 : (Int × (List Int))) : Option (Term × Bool) :=
  (m_spec_l02Make u0.1 u0.2).bind fun (r60 : Term × Bool) =>
  some (r60.1, r60.2)
noncomputable def m_spec_l02Combine (p0 : List Term) (p1 : List Int) : Option (Term × Bool) :=
  (makeI (10 : Int) 8).bind fun (k10 : Nat) =>
  (iter (m_spec_l02Combine_L0 p0 p1) ((0 : Int), (List.replicate k10 (0 : Int)), (0 : Int))).bind fun (u0 : (Int × (List Int))) =>
  m_spec_l02Combine_A0 u0
noncomputable def m_spec_B10Sequent_L1 (s1 : (List Int) × Int × Int × (List Int) × Int) : Option (Ctl ((List Int) × Int × Int × (List Int) × Int) (((List Int) × Int × Int × (List Int)))) :=
  bif (decide ((0 : Int) < s1.2.2.2.2)) then
    (m_spec_l00Src_pick (l00Src.mk s1.1 s1.2.1 s1.2.2.1) (7 : Int)).bind fun (r35 : Int × l00Src) =>
    (capI (s1.2.2.2.1.length + [(w64 (r35.1 - (3 : Int)))].length) 8).bind fun (q38 : Unit) =>
    some (.next (r35.2.code, r35.2.at_, r35.2.seed, (s1.2.2.2.1 ++ [(w64 (r35.1 - (3 : Int)))]), (w64 (s1.2.2.2.2 - (1 : Int)))))
  else
    some (.out (s1.1, s1.2.1, s1.2.2.1, s1.2.2.2.1))
noncomputable def m_spec_B10Sequent_A1 (s0 : (List Int) × Int × Int × (List Term) × (List Int) × Int) (u1 : ((List Int) × Int × Int × (List Int))) : Option (Ctl ((List Int) × Int × Int × (List Term) × (List Int) × Int) (((List Int) × Int × Int × (List Term) × (List Int)))) :=
  (m_spec_l00Src_pick (l00Src.mk u1.1 u1.2.1 u1.2.2.1) (9 : Int)).bind fun (r41 : Int × l00Src) =>
  (m_spec_l02Make (w64 (r41.1 - (3 : Int))) u1.2.2.2).bind fun (r44 : Term × Bool) =>
  (capI (s0.2.2.2.1.length + [r44.1].length) 32).bind fun (q50 : Unit) =>
  (m_spec_l00Src_pick r41.2 (3 : Int)).bind fun (r53 : Int × l00Src) =>
  (capI (s0.2.2.2.2.1.length + [r53.1].length) 8).bind fun (q55 : Unit) =>
  some (.next (r53.2.code, r53.2.at_, r53.2.seed, (s0.2.2.2.1 ++ [r44.1]), (s0.2.2.2.2.1 ++ [r53.1]), (w64 (s0.2.2.2.2.2 - (1 : Int)))))
noncomputable def m_spec_B10Sequent_L0 (s0 : (List Int) × Int × Int × (List Term) × (List Int) × Int) : Option (Ctl ((List Int) × Int × Int × (List Term) × (List Int) × Int) (((List Int) × Int × Int × (List Term) × (List Int)))) :=
  bif (decide ((0 : Int) < s0.2.2.2.2.2)) then
    (m_spec_l00Src_pick (l00Src.mk s0.1 s0.2.1 s0.2.2.1) (4 : Int)).bind fun (r28 : Int × l00Src) =>
    (iter (m_spec_B10Sequent_L1) (r28.2.code, r28.2.at_, r28.2.seed, ([] : List Int), r28.1)).bind fun (u1 : ((List Int) × Int × Int × (List Int))) =>
    m_spec_B10Sequent_A1 s0 u1
  else
    some (.out (s0.1, s0.2.1, s0.2.2.1, s0.2.2.2.1, s0.2.2.2.2.1))
noncomputable def m_spec_B10Sequent_J1 (u0 : (List Int) × Int × Int × (List Term) × (List Int)) (j0 : Int × (List Int)) (j1 : (List Int) × Int × Int × Int) : Option Sequent :=
  (m_spec_l00Src_one (l00Src.mk j1.1 j1.2.1 j1.2.2.1) (3 : Int)).bind fun (r75 : Bool × l00Src) =>
  bif r75.1 then
    some (Sequent.mk u0.2.2.2.1 (Term.mk (w64 (j1.2.2.2 - (4 : Int))) j0.2))
  else
    some (Sequent.mk u0.2.2.2.1 (Term.mk j1.2.2.2 j0.2))
noncomputable def m_spec_B10Sequent_J0 (u0 : (List Int) × Int × Int × (List Term) × (List Int)) (j0 : Int × (List Int)) : Option Sequent :=
  (m_spec_l00Src_pick (l00Src.mk u0.1 u0.2.1 u0.2.2.1) (4 : Int)).bind fun (r71 : Int × l00Src) =>
  m_spec_B10Sequent_J1 u0 j0 (r71.2.code, r71.2.at_, r71.2.seed, (w64 (j0.1 + r71.1)))
noncomputable def m_spec_B10Sequent_A0 (u0 : ((List Int) × Int × Int × (List Term) × (List Int))) : Option Sequent :=
  (m_spec_l02Combine u0.2.2.2.1 u0.2.2.2.2).bind fun (r59 : Term × Bool) =>
  (m_spec_l02Tight r59.1).bind fun (r63 : Term × Bool) =>
  bif r63.2 then
    m_spec_B10Sequent_J0 u0 (r63.1.Const, r63.1.Coeffs)
  else
    m_spec_B10Sequent_J0 u0 (r59.1.Const, r59.1.Coeffs)
noncomputable def m_spec_B10Sequent (p0 : List Int) : Option Sequent :=
  (m_spec_l00From p0).bind fun (r16 : l00Src) =>
  (m_spec_l00Src_pick r16 (4 : Int)).bind fun (r20 : Int × l00Src) =>
  (iter (m_spec_B10Sequent_L0) (r20.2.code, r20.2.at_, r20.2.seed, ([] : List Term), ([] : List Int), (w64 ((1 : Int) + r20.1)))).bind fun (u0 : ((List Int) × Int × Int × (List Term) × (List Int))) =>
  m_spec_B10Sequent_A0 u0
noncomputable def m_impl_ValidSequent (p0 : Sequent) : Option Bool :=
  (m_impl_areTerms p0.Facts (13 : Int)).bind fun (r5 : Bool) =>
  bif r5 then
    (m_impl_ValidTerm p0.Goal).bind fun (r9 : Bool) =>
    some r9
  else
    some false
noncomputable def m_impl_Term_opposite (p0 : Term) : Option Term :=
  (m_impl_combined [p0] [(-1 : Int)]).bind fun (r7 : Term) =>
  some (Term.mk (w64 (r7.Const - (1 : Int))) r7.Coeffs)
noncomputable def m_impl_ownTerms_L0 (n0 : Nat) (x0 : Term) (s0 : List Term) : Option (Ctl (List Term) ((List Term))) :=
  (m_impl_Term_own x0).bind fun (r14 : Term) =>
  (capI (s0.length + [r14].length) 32).bind fun (q16 : Unit) =>
  some (.next (s0 ++ [r14]))
noncomputable def m_impl_ownTerms_A0 (u0 : (List Term)) : Option (List Term) :=
  some u0
noncomputable def m_impl_ownTerms (p0 : List Term) : Option (List Term) :=
  (forL (m_impl_ownTerms_L0) (fun s0 => s0) 0 p0 ([] : List Term)).bind fun (u0 : (List Term)) =>
  m_impl_ownTerms_A0 u0
noncomputable def m_impl_ContextOf (p0 : Sequent) : Option ((List Term) × Bool) :=
  (m_impl_ValidSequent p0).bind fun (r5 : Bool) =>
  bif (!r5) then
    some (([] : List Term), false)
  else
    (m_impl_Term_opposite p0.Goal).bind fun (r10 : Term) =>
    (m_impl_ValidTerm r10).bind fun (r11 : Bool) =>
    bif (!r11) then
      some (([] : List Term), false)
    else
      (m_impl_ownTerms p0.Facts).bind fun (r16 : List Term) =>
      (m_impl_Term_opposite p0.Goal).bind fun (r19 : Term) =>
      (m_impl_Term_own r19).bind fun (r20 : Term) =>
      (capI (r16.length + [r20].length) 32).bind fun (q22 : Unit) =>
      some ((r16 ++ [r20]), true)
noncomputable def m_impl_areValues (p0 : List Int) : Option Bool :=
  bif (decide ((p0.length : Int) = (10 : Int))) then
    (m_impl_allWithin p0 (-1000000000 : Int) (1000000000 : Int)).bind fun (r8 : Bool) =>
    some r8
  else
    some false
noncomputable def m_impl_Term_eval_L0 (p1 : List Int) (n0 : Nat) (x0 : Int) (s0 : Int) : Option (Ctl Int Int) :=
  (getI p1 (n0 : Int)).bind fun (x22 : Int) =>
  some (.next (w64 (s0 + (w64 (x0 * x22)))))
noncomputable def m_impl_Term_eval_A0 (u0 : Int) : Option Int :=
  some u0
noncomputable def m_impl_Term_eval (p0 : Term) (p1 : List Int) : Option Int :=
  (forL (m_impl_Term_eval_L0 p1) (fun s0 => s0) 0 p0.Coeffs p0.Const).bind fun (u0 : Int) =>
  m_impl_Term_eval_A0 u0
noncomputable def m_impl_hold_L0 (p1 : List Int) (n0 : Nat) (x0 : Term) (s0 : Unit) : Option (Ctl Unit (Unit ⊕ Bool)) :=
  (m_impl_Term_eval x0 p1).bind fun (r15 : Int) =>
  bif (decide (r15 < (0 : Int))) then
    some (.out (.inr false))
  else
    some (.next ())
noncomputable def m_impl_hold_A0 (u0 : Unit ⊕ Bool) : Option Bool :=
  match u0 with
  | .inl u0 =>
    some true
  | .inr u0 =>
    some u0
noncomputable def m_impl_hold (p0 : List Term) (p1 : List Int) : Option Bool :=
  (forL (m_impl_hold_L0 p1) (fun s0 => (.inl ())) 0 p0 ()).bind fun (u0 : Unit ⊕ Bool) =>
  m_impl_hold_A0 u0
noncomputable def m_impl_IsCounter (p0 : Sequent) (p1 : List Int) : Option Bool :=
  (m_impl_ValidSequent p0).bind fun (r6 : Bool) =>
  bif r6 then
    (m_impl_areValues p1).bind fun (r9 : Bool) =>
    bif r9 then
      (m_impl_hold p0.Facts p1).bind fun (r15 : Bool) =>
      bif r15 then
        (m_impl_Term_eval p0.Goal p1).bind fun (r21 : Int) =>
        some (decide (r21 < (0 : Int)))
      else
        some false
    else
      some false
  else
    some false
noncomputable def m_impl_LeastCounter_L0 (p1 : Int) (n0 : Nat) (x0 : Int) (s0 : List Int) : Option (Ctl (List Int) ((List Int))) :=
  (getI s0 x0).bind fun (x41 : Int) =>
  some (.next (s0.set ((x0).toNat) (w64 (0 - p1))))
noncomputable def m_impl_LeastCounter_L2 (p1 : Int) (j0 : List Int) (s2 : (List Int) × Int) : Option (Ctl ((List Int) × Int) (((List Int) × Int))) :=
  bif (decide ((0 : Int) ≤ s2.2)) then
    (getI j0 s2.2).bind fun (x56 : Int) =>
    (getI s2.1 x56).bind fun (x58 : Int) =>
    bif (decide (x58 = p1)) then
      some (.next ((s2.1.set ((x56).toNat) (w64 (0 - p1))), (w64 (s2.2 - (1 : Int)))))
    else
      some (.out (s2.1, s2.2))
  else
    some (.out (s2.1, s2.2))
noncomputable def m_impl_LeastCounter_A2 (j0 : List Int) (u2 : ((List Int) × Int)) : Option (Ctl (List Int) (((List Int) × Bool))) :=
  bif (decide (u2.2 < (0 : Int))) then
    some (.out (([] : List Int), false))
  else
    (getI j0 u2.2).bind fun (x78 : Int) =>
    (getI u2.1 x78).bind fun (x80 : Int) =>
    some (.next (u2.1.set ((x78).toNat) (w64 (x80 + (1 : Int)))))
noncomputable def m_impl_LeastCounter_L1 (p0 : Sequent) (p1 : Int) (j0 : List Int) (s1 : List Int) : Option (Ctl (List Int) (((List Int) × Bool))) :=
  (m_impl_IsCounter p0 s1).bind fun (r45 : Bool) =>
  bif r45 then
    some (.out (s1, true))
  else
    (iter (m_impl_LeastCounter_L2 p1 j0) (s1, (w64 ((j0.length : Int) - (1 : Int))))).bind fun (u2 : ((List Int) × Int)) =>
    m_impl_LeastCounter_A2 j0 u2
noncomputable def m_impl_LeastCounter_A1 (u1 : ((List Int) × Bool)) : Option ((List Int) × Bool) :=
  some (u1.1, u1.2)
noncomputable def m_impl_LeastCounter_A0 (p0 : Sequent) (p1 : Int) (j0 : List Int) (u0 : (List Int)) : Option ((List Int) × Bool) :=
  (iter (m_impl_LeastCounter_L1 p0 p1 j0) u0).bind fun (u1 : ((List Int) × Bool)) =>
  m_impl_LeastCounter_A1 u1
noncomputable def m_impl_LeastCounter_J0 (p0 : Sequent) (p1 : Int) (j0 : List Int) : Option ((List Int) × Bool) :=
  bif (decide ((4 : Int) < (j0.length : Int))) then
    some (([] : List Int), false)
  else
    (makeI (10 : Int) 8).bind fun (k30 : Nat) =>
    (forL (m_impl_LeastCounter_L0 p1) (fun s0 => s0) 0 j0 (List.replicate k30 (0 : Int))).bind fun (u0 : (List Int)) =>
    m_impl_LeastCounter_A0 p0 p1 j0 u0
noncomputable def m_impl_LeastCounter (p0 : Sequent) (p1 : Int) : Option ((List Int) × Bool) :=
  (m_impl_ValidSequent p0).bind fun (r12 : Bool) =>
  bif (!r12) then
    some (([] : List Int), false)
  else
    (m_impl_within p1 (0 : Int) (4 : Int)).bind fun (r16 : Bool) =>
    bif (!r16) then
      some (([] : List Int), false)
    else
      (m_slices_Clone_impl_Term_impl_Term p0.Facts).bind fun (r21 : List Term) =>
      (capI (r21.length + [p0.Goal].length) 32).bind fun (q25 : Unit) =>
      (m_impl_symbolsOf (r21 ++ [p0.Goal])).bind fun (r26 : List Int) =>
      m_impl_LeastCounter_J0 p0 p1 r26
noncomputable def m_impl_isBudget (p0 : Int) : Option Bool :=
  (m_impl_within p0 (1 : Int) (60 : Int)).bind fun (r4 : Bool) =>
  some r4
noncomputable def m_impl_proving_write_J0 (p0 : proving) (p1 : Node) (j0 : Bool) : Option proving :=
  bif j0 then
    some (proving.mk p0.budget p0.nodes true)
  else
    (capI (p0.nodes.length + [p1].length) 72).bind fun (q31 : Unit) =>
    some (proving.mk p0.budget (p0.nodes ++ [p1]) p0.failed)
noncomputable def m_impl_proving_write (p0 : proving) (p1 : Node) : Option proving :=
  (m_impl_size (p0.nodes.length : Int)).bind fun (r9 : Int) =>
  bif (decide (r9 = p0.budget)) then
    m_impl_proving_write_J0 p0 p1 true
  else
    (m_impl_allWithin p1.Multipliers (0 : Int) (1000000 : Int)).bind fun (r18 : Bool) =>
    m_impl_proving_write_J0 p0 p1 (!r18)
noncomputable def m_impl_proving_add (p0 : proving) (p1 : List Term) (p2 : Term) : Option ((List Term) × proving) :=
  bif (decide ((p1.length : Int) = (14 : Int))) then
    (m_impl_with p1 p2).bind fun (r15 : List Term) =>
    some (r15, (proving.mk p0.budget p0.nodes true))
  else
    (m_impl_with p1 p2).bind fun (r15 : List Term) =>
    some (r15, p0)
noncomputable def m_impl_proving_work_F_L1 (s0 : Int × (List Node) × Bool × (List Term)) (n1 : Nat) (x1 : Term) (s1 : Unit) : Option (Ctl Unit ((Int × (List Node) × Bool × (List Term) × Bool))) :=
  (m_impl_cuts x1 s0.2.2.2).bind fun (r29 : Term × Bool) =>
  bif r29.2 then
    (m_impl_proving_write (proving.mk s0.1 s0.2.1 s0.2.2.1) (Node.mk (3 : Int) (n1 : Int) (Term.mk (0 : Int) ([] : List Int)) ([] : List Int))).bind fun (r36 : proving) =>
    (m_impl_proving_add r36 s0.2.2.2 r29.1).bind fun (r40 : (List Term) × proving) =>
    some (.out (r40.2.budget, r40.2.nodes, r40.2.failed, r40.1, true))
  else
    some (.next ())
noncomputable def m_impl_proving_work_F_J0 (rec_impl_proving_work : proving → (List Term) → Option proving) (u1 : Int × (List Node) × Bool × (List Term) × Bool) (r55 : Term × combination × Bool) (j0 : Bool) : Option (Ctl (Int × (List Node) × Bool × (List Term)) ((Int × (List Node) × Bool) ⊕ (Int × (List Node) × Bool))) :=
  bif j0 then
    some (.out (.inr (u1.1, u1.2.1, true)))
  else
    (m_impl_Term_own r55.1).bind fun (r72 : Term) =>
    (m_impl_proving_write (proving.mk u1.1 u1.2.1 u1.2.2.1) (Node.mk (2 : Int) (0 : Int) r72 ([] : List Int))).bind fun (r74 : proving) =>
    (m_impl_proving_add r74 u1.2.2.2.1 r55.1).bind fun (r79 : (List Term) × proving) =>
    (rec_impl_proving_work r79.2 r79.1).bind fun (r80 : proving) =>
    (m_impl_copyInts r55.2.1.by_).bind fun (r84 : List Int) =>
    (m_impl_gcd r55.2.1.term.Coeffs).bind fun (r88 : Int) =>
    (capI (r84.length + [r88].length) 8).bind fun (q90 : Unit) =>
    (m_impl_proving_write r80 (Node.mk (1 : Int) (0 : Int) (Term.mk (0 : Int) ([] : List Int)) (r84 ++ [r88]))).bind fun (r92 : proving) =>
    some (.out (.inr (r92.budget, r92.nodes, r92.failed)))
noncomputable def m_impl_proving_work_F_A1 (rec_impl_proving_work : proving → (List Term) → Option proving) (u1 : (Int × (List Node) × Bool × (List Term) × Bool)) : Option (Ctl (Int × (List Node) × Bool × (List Term)) ((Int × (List Node) × Bool) ⊕ (Int × (List Node) × Bool))) :=
  bif u1.2.2.2.2 then
    some (.next (u1.1, u1.2.1, u1.2.2.1, u1.2.2.2.1))
  else
    (m_impl_RefuteFacts u1.2.2.2.1).bind fun (r45 : (List Int) × Bool) =>
    bif r45.2 then
      (m_impl_proving_write (proving.mk u1.1 u1.2.1 u1.2.2.1) (Node.mk (1 : Int) (0 : Int) (Term.mk (0 : Int) ([] : List Int)) r45.1)).bind fun (r52 : proving) =>
      some (.out (.inr (r52.budget, r52.nodes, r52.failed)))
    else
      (m_impl_firstCut u1.2.2.2.1).bind fun (r55 : Term × combination × Bool) =>
      bif (!r55.2.2) then
        m_impl_proving_work_F_J0 rec_impl_proving_work u1 r55 true
      else
        (m_impl_Term_opposite r55.1).bind fun (r63 : Term) =>
        (m_impl_ValidTerm r63).bind fun (r64 : Bool) =>
        m_impl_proving_work_F_J0 rec_impl_proving_work u1 r55 (!r64)
noncomputable def m_impl_proving_work_F_L0 (rec_impl_proving_work : proving → (List Term) → Option proving) (s0 : Int × (List Node) × Bool × (List Term)) : Option (Ctl (Int × (List Node) × Bool × (List Term)) ((Int × (List Node) × Bool) ⊕ (Int × (List Node) × Bool))) :=
  bif (!s0.2.2.1) then
    (forL (m_impl_proving_work_F_L1 s0) (fun s1 => (s0.1, s0.2.1, s0.2.2.1, s0.2.2.2, false)) 0 s0.2.2.2 ()).bind fun (u1 : (Int × (List Node) × Bool × (List Term) × Bool)) =>
    m_impl_proving_work_F_A1 rec_impl_proving_work u1
  else
    some (.out (.inl (s0.1, s0.2.1, s0.2.2.1)))
noncomputable def m_impl_proving_work_F_A0 (u0 : (Int × (List Node) × Bool) ⊕ (Int × (List Node) × Bool)) : Option proving :=
  match u0 with
  | .inl u0 =>
    some (proving.mk u0.1 u0.2.1 u0.2.2)
  | .inr u0 =>
    some (proving.mk u0.1 u0.2.1 u0.2.2)
noncomputable def m_impl_proving_work_F (rec_impl_proving_work : proving → (List Term) → Option proving) (p0 : proving) (p1 : List Term) : Option proving :=
  (iter (m_impl_proving_work_F_L0 rec_impl_proving_work) (p0.budget, p0.nodes, p0.failed, p1)).bind fun (u0 : (Int × (List Node) × Bool) ⊕ (Int × (List Node) × Bool)) =>
  m_impl_proving_work_F_A0 u0
noncomputable def m_impl_proving_work : Nat → proving → (List Term) → Option proving
  | 0, _, _ => none
  | n + 1, p0, p1 => m_impl_proving_work_F (m_impl_proving_work n) p0 p1
noncomputable def m_impl_ownNodes_L0 (n0 : Nat) (x0 : Node) (s0 : List Node) : Option (Ctl (List Node) ((List Node))) :=
  (m_impl_Term_own x0.Term).bind fun (r14 : Term) =>
  (m_impl_copyInts x0.Multipliers).bind fun (r17 : List Int) =>
  (capI (s0.length + [(Node.mk x0.Kind x0.Fact r14 r17)].length) 72).bind fun (q23 : Unit) =>
  some (.next (s0 ++ [(Node.mk x0.Kind x0.Fact r14 r17)]))
noncomputable def m_impl_ownNodes_A0 (u0 : (List Node)) : Option (List Node) :=
  some u0
noncomputable def m_impl_ownNodes (p0 : List Node) : Option (List Node) :=
  (forL (m_impl_ownNodes_L0) (fun s0 => s0) 0 p0 ([] : List Node)).bind fun (u0 : (List Node)) =>
  m_impl_ownNodes_A0 u0
noncomputable def m_impl_ProveSequent (p0 : Sequent) (p1 : Int) : Option ((List Node) × Bool) :=
  (m_impl_ContextOf p0).bind fun (r11 : (List Term) × Bool) =>
  bif (!r11.2) then
    some (([] : List Node), false)
  else
    (m_impl_isBudget p1).bind fun (r18 : Bool) =>
    bif (!r18) then
      some (([] : List Node), false)
    else
      (m_impl_proving_work 1000 (proving.mk p1 ([] : List Node) false) r11.1).bind fun (r26 : proving) =>
      bif r26.failed then
        some (([] : List Node), false)
      else
        (m_impl_ownNodes r26.nodes).bind fun (r35 : List Node) =>
        some (r35, true)
noncomputable def m_spec_l02Sequent (p0 : Sequent) : Option Bool :=
  (m_spec_l02All p0.Facts (13 : Int)).bind fun (r7 : Bool) =>
  bif r7 then
    (m_spec_l02Is p0.Goal).bind fun (r12 : Bool) =>
    some r12
  else
    some false
noncomputable def m_spec_l00Put_J0 (p0 : List Int) (s0 : (List Int) × Bool × Int) (j0 : (List Int) × Bool) : Option (Ctl ((List Int) × Bool × Int) (((List Int) × Bool))) :=
  (getI p0 s0.2.2).bind fun (x38 : Int) =>
  (capI (j0.1.length + [x38].length) 8).bind fun (q41 : Unit) =>
  some (.next ((j0.1 ++ [x38]), j0.2, (w64 (s0.2.2 + (1 : Int)))))
noncomputable def m_spec_l00Put_J1 (p0 : List Int) (p1 : Int) (s0 : (List Int) × Bool × Int) (j1 : Bool) : Option (Ctl ((List Int) × Bool × Int) (((List Int) × Bool))) :=
  bif j1 then
    (getI p0 s0.2.2).bind fun (x27 : Int) =>
    bif (decide (p1 < x27)) then
      (capI (s0.1.length + [p1].length) 8).bind fun (q34 : Unit) =>
      m_spec_l00Put_J0 p0 s0 ((s0.1 ++ [p1]), true)
    else
      m_spec_l00Put_J0 p0 s0 (s0.1, true)
  else
    m_spec_l00Put_J0 p0 s0 (s0.1, s0.2.1)
noncomputable def m_spec_l00Put_L0 (p0 : List Int) (p1 : Int) (s0 : (List Int) × Bool × Int) : Option (Ctl ((List Int) × Bool × Int) (((List Int) × Bool))) :=
  bif (decide (s0.2.2 < (p0.length : Int))) then
    bif (!s0.2.1) then
      (getI p0 s0.2.2).bind fun (x20 : Int) =>
      m_spec_l00Put_J1 p0 p1 s0 (decide (p1 ≤ x20))
    else
      m_spec_l00Put_J1 p0 p1 s0 false
  else
    some (.out (s0.1, s0.2.1))
noncomputable def m_spec_l00Put_A0 (p1 : Int) (u0 : ((List Int) × Bool)) : Option (List Int) :=
  bif (!u0.2) then
    (capI (u0.1.length + [p1].length) 8).bind fun (q47 : Unit) =>
    some (u0.1 ++ [p1])
  else
    some u0.1
noncomputable def m_spec_l00Put (p0 : List Int) (p1 : Int) : Option (List Int) :=
  (iter (m_spec_l00Put_L0 p0 p1) (([] : List Int), false, (0 : Int))).bind fun (u0 : ((List Int) × Bool)) =>
  m_spec_l00Put_A0 p1 u0
noncomputable def m_spec_l02Symbols_L1 (p0 : List Term) (s0 : (List Int) × Int) (s1 : (List Int) × Int) : Option (Ctl ((List Int) × Int) ((List Int))) :=
  (getI p0 s0.2).bind fun (x16 : Term) =>
  bif (decide (s1.2 < (x16.Coeffs.length : Int))) then
    (getI x16.Coeffs s1.2).bind fun (x29 : Int) =>
    bif (!decide (x29 = (0 : Int))) then
      (m_spec_l00Put s1.1 s1.2).bind fun (r34 : List Int) =>
      some (.next (r34, (w64 (s1.2 + (1 : Int)))))
    else
      some (.next (s1.1, (w64 (s1.2 + (1 : Int)))))
  else
    some (.out s1.1)
noncomputable def m_spec_l02Symbols_A1 (s0 : (List Int) × Int) (u1 : (List Int)) : Option (Ctl ((List Int) × Int) ((List Int))) :=
  some (.next (u1, (w64 (s0.2 + (1 : Int)))))
noncomputable def m_spec_l02Symbols_L0 (p0 : List Term) (s0 : (List Int) × Int) : Option (Ctl ((List Int) × Int) ((List Int))) :=
  bif (decide (s0.2 < (p0.length : Int))) then
    (iter (m_spec_l02Symbols_L1 p0 s0) (s0.1, (0 : Int))).bind fun (u1 : (List Int)) =>
    m_spec_l02Symbols_A1 s0 u1
  else
    some (.out s0.1)
noncomputable def m_spec_l02Symbols_A0 (u0 : (List Int)) : Option (List Int) :=
  some u0
noncomputable def m_spec_l02Symbols (p0 : List Term) : Option (List Int) :=
  (iter (m_spec_l02Symbols_L0 p0) (([] : List Int), (0 : Int))).bind fun (u0 : (List Int)) =>
  m_spec_l02Symbols_A0 u0
noncomputable def m_spec_l02Eval_L0 (p0 : Term) (p1 : List Int) (s0 : Int × Int) : Option (Ctl (Int × Int) Int) :=
  bif (decide (s0.2 < (p0.Coeffs.length : Int))) then
    (getI p0.Coeffs s0.2).bind fun (x26 : Int) =>
    (getI p1 s0.2).bind fun (x30 : Int) =>
    some (.next ((w64 (s0.1 + (w64 (x26 * x30)))), (w64 (s0.2 + (1 : Int)))))
  else
    some (.out s0.1)
noncomputable def m_spec_l02Eval_A0 (u0 : Int) : Option Int :=
  some u0
noncomputable def m_spec_l02Eval (p0 : Term) (p1 : List Int) : Option Int :=
  (iter (m_spec_l02Eval_L0 p0 p1) (p0.Const, (0 : Int))).bind fun (u0 : Int) =>
  m_spec_l02Eval_A0 u0
noncomputable def m_spec_l02Counter_L0 (p0 : Sequent) (p1 : List Int) (s0 : Int) : Option (Ctl Int (Unit ⊕ Bool)) :=
  bif (decide (s0 < (p0.Facts.length : Int))) then
    (getI p0.Facts s0).bind fun (x20 : Term) =>
    (m_spec_l02Eval x20 p1).bind fun (r22 : Int) =>
    bif (decide (r22 < (0 : Int))) then
      some (.out (.inr false))
    else
      some (.next (w64 (s0 + (1 : Int))))
  else
    some (.out (.inl ()))
noncomputable def m_spec_l02Counter_A0 (p0 : Sequent) (p1 : List Int) (u0 : Unit ⊕ Bool) : Option Bool :=
  match u0 with
  | .inl u0 =>
    (m_spec_l02Eval p0.Goal p1).bind fun (r28 : Int) =>
    some (decide (r28 < (0 : Int)))
  | .inr u0 =>
    some u0
noncomputable def m_spec_l02Counter (p0 : Sequent) (p1 : List Int) : Option Bool :=
  (iter (m_spec_l02Counter_L0 p0 p1) (0 : Int)).bind fun (u0 : Unit ⊕ Bool) =>
  m_spec_l02Counter_A0 p0 p1 u0
noncomputable def m_spec_l02Least_L0 (p1 : List Int) (p2 : Int) (s0 : (List Int) × Int) : Option (Ctl ((List Int) × Int) ((List Int))) :=
  bif (decide (s0.2 < (p1.length : Int))) then
    (getI p1 s0.2).bind fun (x21 : Int) =>
    (getI s0.1 x21).bind fun (x25 : Int) =>
    some (.next ((s0.1.set ((x21).toNat) (w64 (0 - p2))), (w64 (s0.2 + (1 : Int)))))
  else
    some (.out s0.1)
noncomputable def m_spec_l02Least_L2 (p1 : List Int) (p2 : Int) (s2 : (List Int) × Int) : Option (Ctl ((List Int) × Int) (((List Int) × Int))) :=
  bif (decide ((0 : Int) ≤ s2.2)) then
    (getI p1 s2.2).bind fun (x39 : Int) =>
    (getI s2.1 x39).bind fun (x41 : Int) =>
    bif (decide (x41 = p2)) then
      some (.next ((s2.1.set ((x39).toNat) (w64 (0 - p2))), (w64 (s2.2 - (1 : Int)))))
    else
      some (.out (s2.1, s2.2))
  else
    some (.out (s2.1, s2.2))
noncomputable def m_spec_l02Least_A2 (p1 : List Int) (u2 : ((List Int) × Int)) : Option (Ctl (List Int) (((List Int) × Bool))) :=
  bif (decide (u2.2 < (0 : Int))) then
    some (.out (([] : List Int), false))
  else
    (getI p1 u2.2).bind fun (x61 : Int) =>
    (getI u2.1 x61).bind fun (x63 : Int) =>
    some (.next (u2.1.set ((x61).toNat) (w64 (x63 + (1 : Int)))))
noncomputable def m_spec_l02Least_L1 (p0 : Sequent) (p1 : List Int) (p2 : Int) (s1 : List Int) : Option (Ctl (List Int) (((List Int) × Bool))) :=
  (m_spec_l02Counter p0 s1).bind fun (r28 : Bool) =>
  bif r28 then
    some (.out (s1, true))
  else
    (iter (m_spec_l02Least_L2 p1 p2) (s1, (w64 ((p1.length : Int) - (1 : Int))))).bind fun (u2 : ((List Int) × Int)) =>
    m_spec_l02Least_A2 p1 u2
noncomputable def m_spec_l02Least_A1 (u1 : ((List Int) × Bool)) : Option ((List Int) × Bool) :=
  some (u1.1, u1.2)
noncomputable def m_spec_l02Least_A0 (p0 : Sequent) (p1 : List Int) (p2 : Int) (u0 : (List Int)) : Option ((List Int) × Bool) :=
  (iter (m_spec_l02Least_L1 p0 p1 p2) u0).bind fun (u1 : ((List Int) × Bool)) =>
  m_spec_l02Least_A1 u1
noncomputable def m_spec_l02Least (p0 : Sequent) (p1 : List Int) (p2 : Int) : Option ((List Int) × Bool) :=
  (makeI (10 : Int) 8).bind fun (k11 : Nat) =>
  (iter (m_spec_l02Least_L0 p1 p2) ((List.replicate k11 (0 : Int)), (0 : Int))).bind fun (u0 : (List Int)) =>
  m_spec_l02Least_A0 p0 p1 p2 u0
noncomputable def m_spec_LeastCounter_J0 (p0 : Sequent) (p1 : Int) (j0 : List Int) : Option ((List Int) × Bool) :=
  bif (decide ((4 : Int) < (j0.length : Int))) then
    some (([] : List Int), false)
  else
    (m_spec_l02Least p0 j0 p1).bind fun (r27 : (List Int) × Bool) =>
    some (r27.1, r27.2)
noncomputable def m_spec_LeastCounter (p0 : Sequent) (p1 : Int) : Option ((List Int) × Bool) :=
  (m_spec_l02Sequent p0).bind fun (r7 : Bool) =>
  bif (!r7) then
    some (([] : List Int), false)
  else
    (m_spec_l00In p1 (0 : Int) (4 : Int)).bind fun (r11 : Bool) =>
    bif (!r11) then
      some (([] : List Int), false)
    else
      (m_spec_l02OwnAll p0.Facts).bind fun (r16 : List Term) =>
      (capI (r16.length + [p0.Goal].length) 32).bind fun (q20 : Unit) =>
      (m_spec_l02Symbols (r16 ++ [p0.Goal])).bind fun (r21 : List Int) =>
      m_spec_LeastCounter_J0 p0 p1 r21
noncomputable def m_laws_FnCounters (p0 : List Int) (p1 : List Int) : Option Bool :=
  (m_laws_b10Long p0 p1).bind fun (r17 : Bool) =>
  bif r17 then
    some true
  else
    (m_spec_B10Sequent p0).bind fun (r19 : Sequent) =>
    (m_spec_B10Values p1).bind fun (r21 : List Int) =>
    (m_impl_ContextOf r19).bind fun (r24 : (List Term) × Bool) =>
    bif ((!r24.2) || (!decide ((r24.1.length : Int) = (w64 ((r19.Facts.length : Int) + (1 : Int)))))) then
      some false
    else
      (m_impl_IsCounter r19 r21).bind fun (r41 : Bool) =>
      (m_laws_b10Hold r24.1 r21).bind fun (r44 : Bool) =>
      bif (!(r41 == r44)) then
        some false
      else
        (m_impl_LeastCounter r19 (2 : Int)).bind fun (r49 : (List Int) × Bool) =>
        (m_impl_ProveSequent r19 (60 : Int)).bind fun (r54 : (List Node) × Bool) =>
        (m_impl_IsCounter r19 r21).bind fun (r59 : Bool) =>
        bif (r59 && r54.2) then
          some false
        else
          bif (!r49.2) then
            (m_spec_LeastCounter r19 (2 : Int)).bind fun (r67 : (List Int) × Bool) =>
            some (!r67.2)
          else
            bif (decide ((r49.1.length : Int) = (10 : Int))) then
              (m_impl_IsCounter r19 r49.1).bind fun (r78 : Bool) =>
              some (r78 && (!r54.2))
            else
              some false
end Go.Mod

namespace Go.Mod
open Go.AM
set_option linter.unusedVariables false
set_option linter.unusedSimpArgs false
def cTerm (t : Term) : Nat := t.Coeffs.length
def inR (c : Int) : Bool := decide (-1000000 ≤ c) && decide (c ≤ 1000000)
theorem inR_iff {c : Int} : inR c = true ↔ -1000000 ≤ c ∧ c ≤ 1000000 := by simp [inR]
def lastOK (xs : List Int) : Bool := match xs.getLast? with | none => true | some x => !decide (x = 0)
def vT (t : Term) : Bool := inR t.Const && decide (t.Coeffs.length ≤ 10) && lastOK t.Coeffs && t.Coeffs.all inR
theorem vT_len {t : Term} (h : vT t = true) : t.Coeffs.length ≤ 10 := by simp [vT] at h; omega
theorem vT_const {t : Term} (h : vT t = true) : inR t.Const = true := by simp [vT] at h; exact h.1.1.1
theorem vT_coef {t : Term} (h : vT t = true) : ∀ x ∈ t.Coeffs, inR x = true := by simp [vT] at h; exact h.2
theorem getI_last {xs : List Int} (h0 : 0 < xs.length) (hl : xs.length ≤ 9223372036854775807) : getI xs (w64 ((xs.length : Int) - 1)) = xs.getLast? := by
  rw [w64_pred h0 hl, getI_nat, List.getLast?_eq_getElem?]
theorem spec_number (c : Int) : m_spec_l02Number c = some (inR c) := rfl
theorem spec_is_loop {t : Term} (hl : t.Coeffs.length ≤ 1048576) : iter (m_spec_l02Is_L0 t) 0 = some (bif t.Coeffs.all inR then .inl () else .inr false) := by
  have h := iter_for (step := m_spec_l02Is_L0 t) t.Coeffs (fun n (_ : Unit) => (n : Int)) (fun _ x _ => bif inR x then some (.next ()) else some (.out (.inr false))) (fun _ => .inl ())
    (fun n x r hx => by
      unfold m_spec_l02Is_L0
      rw [dec_lt (get_lt hx), cond_true, getI_some hx, Option.bind_some, spec_number, Option.bind_some]
      have hw : w64 ((n : Int) + 1) = ((n + 1 : Nat) : Int) := w64_succ (by have := get_lt hx; omega)
      cases inR x
      · rfl
      · rw [hw]; rfl)
    (fun r => by unfold m_spec_l02Is_L0; rw [dec_self]; rfl) ()
  rw [forL_all inR _ _ (fun n x _ => rfl)] at h
  exact h
theorem spec_is {t : Term} (hl : cTerm t ≤ 1048576) : m_spec_l02Is t = some (vT t) := by
  unfold cTerm at hl
  have hJ : m_spec_l02Is_J0 t () = some (t.Coeffs.all inR) := by
    unfold m_spec_l02Is_J0
    rw [spec_is_loop hl, Option.bind_some]
    cases t.Coeffs.all inR <;> rfl
  unfold m_spec_l02Is
  rw [spec_number, Option.bind_some]
  unfold vT
  cases h1 : inR t.Const with
  | false => rfl
  | true =>
    by_cases h2 : t.Coeffs.length ≤ 10
    · rw [decide_eq_true h2, decide_eq_false (show ¬ (10 : Int) < (t.Coeffs.length : Int) by omega)]
      simp only [Bool.not_true, Bool.false_or, cond_false, Bool.true_and]
      by_cases h3 : 0 < t.Coeffs.length
      · rw [decide_eq_true (show (0 : Int) < (t.Coeffs.length : Int) by omega), cond_true, getI_last h3 (by omega)]
        unfold lastOK
        cases h4 : t.Coeffs.getLast? with
        | none => rw [List.getLast?_eq_none_iff] at h4; rw [h4] at h3; exact absurd h3 (by simp)
        | some x =>
          simp only [Option.bind_some]
          by_cases h5 : x = 0
          · rw [decide_eq_true h5]; rfl
          · rw [decide_eq_false h5, cond_false, hJ]; rfl
      · rw [decide_eq_false (show ¬ (0 : Int) < (t.Coeffs.length : Int) by omega), cond_false, hJ]
        have : t.Coeffs = [] := List.length_eq_zero_iff.1 (by omega)
        rw [this]; rfl
    · rw [decide_eq_false h2, decide_eq_true (show (10 : Int) < (t.Coeffs.length : Int) by omega)]; rfl
theorem impl_all {xs : List Int} {a b : Int} : m_impl_allWithin xs a b = some (xs.all fun x => decide (a ≤ x) && decide (x ≤ b)) := by
  unfold m_impl_allWithin
  rw [forL_all (fun x => decide (a ≤ x) && decide (x ≤ b)) (f := .inr false) xs 0 (fun n x _ => by
    unfold m_impl_allWithin_L0 m_impl_within
    rw [Option.bind_some]
    cases (decide (a ≤ x) && decide (x ≤ b)) <;> rfl), Option.bind_some]
  cases xs.all fun x => decide (a ≤ x) && decide (x ≤ b) <;> rfl
theorem impl_valid (t : Term) : m_impl_ValidTerm t = some (vT t) := by
  unfold m_impl_ValidTerm vT
  by_cases h2 : t.Coeffs.length ≤ 10
  · rw [decide_eq_true h2, decide_eq_true (show (t.Coeffs.length : Int) ≤ (10 : Int) by omega), cond_true]
    rw [show m_impl_isCoeff t.Const = some (inR t.Const) from rfl, Option.bind_some]
    cases h1 : inR t.Const with
    | false => rfl
    | true =>
      rw [cond_true, impl_all, Option.bind_some]
      change (bif t.Coeffs.all inR then _ else _) = _
      cases h3 : t.Coeffs.all inR with
      | false => simp
      | true =>
        rw [cond_true]
        by_cases h4 : t.Coeffs.length = 0
        · rw [decide_eq_true (by omega), cond_true]
          rw [List.length_eq_zero_iff.1 h4]; rfl
        · rw [decide_eq_false (by omega), cond_false, getI_last (by omega) (by omega)]
          unfold lastOK
          cases h5 : t.Coeffs.getLast? with
          | none => rw [List.getLast?_eq_none_iff] at h5; rw [h5] at h4; exact absurd rfl h4
          | some x => simp
  · rw [decide_eq_false h2, decide_eq_false (show ¬ (t.Coeffs.length : Int) ≤ (10 : Int) by omega)]; simp
def tl (xs : List Int) : Nat → Nat
  | 0 => 0
  | n + 1 => if xs[n]? = some 0 then tl xs n else n + 1
theorem tl_le (xs : List Int) : ∀ n, tl xs n ≤ n := by
  intro n
  induction n with
  | zero => exact Nat.le_refl _
  | succ n ih => unfold tl; split <;> omega
def trim (xs : List Int) : List Int := xs.take (tl xs xs.length)
theorem trim_len (xs : List Int) : (trim xs).length ≤ xs.length := by unfold trim; simp; omega
theorem tl_iter {xs : List Int} {step : Int → Option (Ctl Int Int)}
    (hs : ∀ n : Int, step n = bif decide ((0 : Int) < n) then (getI xs (w64 (n - 1))).bind fun x => bif decide (x = 0) then some (.next (w64 (n - 1))) else some (.out n) else some (.out n))
    (hl : xs.length ≤ 1048576) : ∀ n : Nat, n ≤ xs.length → iter step (n : Int) = some ((tl xs n : Nat) : Int) := by
  intro n
  induction n with
  | zero => intro _; exact iter_out (by rw [hs]; rfl)
  | succ n ih =>
    intro hn
    have h := hs ((n + 1 : Nat) : Int)
    have hx : xs[n]? = some xs[n] := by simp
    rw [decide_eq_true (by omega), cond_true, w64_pred (by omega) (by omega), show n + 1 - 1 = n from rfl, getI_some hx, Option.bind_some] at h
    unfold tl
    by_cases h0 : xs[n] = 0
    · rw [decide_eq_true h0, cond_true] at h
      rw [iter_next h, ih (by omega), if_pos (by rw [hx, h0])]
    · rw [decide_eq_false h0, cond_false] at h
      rw [iter_out h, if_neg (by rw [hx]; simpa using h0)]
theorem slice_trim (xs : List Int) : sliceI xs 0 ((tl xs xs.length : Nat) : Int) = some (trim xs) := by
  rw [show (0 : Int) = ((0 : Nat) : Int) from rfl, sliceI_some (by omega) (tl_le _ _)]; rfl
def chk (t : Term) : Term × Bool := bif vT t then (t, true) else (Term.mk 0 [], false)
theorem spec_own {xs : List Int} (h : xs.length ≤ 1048576) : m_spec_l00Own xs = some xs := by
  unfold m_spec_l00Own; rw [capI_some (by simp; omega)]; simp
theorem spec_make {c : Int} {xs : List Int} (hl : xs.length ≤ 1048576) : m_spec_l02Make c xs = some (chk (Term.mk c (trim xs))) := by
  unfold m_spec_l02Make m_spec_l02Make_A0
  have h2 := trim_len xs
  rw [tl_iter (step := m_spec_l02Make_L0 xs) (fun n => rfl) hl _ (Nat.le_refl _), Option.bind_some, slice_trim, Option.bind_some, spec_own (by omega), Option.bind_some, spec_is (by unfold cTerm; simp only; omega), Option.bind_some]
  unfold chk
  cases vT (Term.mk c (trim xs)) <;> rfl
theorem impl_copy {xs : List Int} (h : xs.length ≤ 1048576) : m_impl_copyInts xs = some xs := by
  unfold m_impl_copyInts; rw [capI_some (by simp; omega)]; simp
theorem impl_own {t : Term} (h : t.Coeffs.length ≤ 1048576) : m_impl_Term_own t = some t := by
  unfold m_impl_Term_own; rw [impl_copy h]; rfl
theorem impl_trimmed {t : Term} (hl : t.Coeffs.length ≤ 1048576) : m_impl_Term_trimmed t = some (Term.mk t.Const (trim t.Coeffs)) := by
  unfold m_impl_Term_trimmed m_impl_Term_trimmed_A0
  rw [tl_iter (step := m_impl_Term_trimmed_L0 t) (fun n => rfl) hl _ (Nat.le_refl _), Option.bind_some, slice_trim, Option.bind_some]
def tab (f : Nat → Int) : List Int := (List.range 10).map f
theorem tab_len (f : Nat → Int) : (tab f).length = 10 := rfl
theorem tab_get {f : Nat → Int} {n : Nat} (h : n < 10) : (tab f)[n]? = some (f n) := by simp [tab, h]
theorem tab_set {f : Nat → Int} {n : Nat} {v : Int} (h : n < 10) : (tab f).set n v = tab fun i => if i = n then v else f i := by
  unfold tab
  apply List.ext_getElem?
  intro i
  rw [List.getElem?_set]
  by_cases hi : n = i
  · subst hi; simp [h]
  · rw [if_neg hi]
    have hi' : i ≠ n := Ne.symm hi
    by_cases h10 : i < 10
    · simp [h10, hi']
    · simp [h10]
theorem tab_zero : List.replicate 10 (0 : Int) = tab fun _ => 0 := rfl
def coef (xs : List Int) (i : Nat) : Int := xs[i]?.getD 0
theorem coef_get {xs : List Int} {i : Nat} {x : Int} (h : xs[i]? = some x) : coef xs i = x := by simp [coef, h]
theorem coef_no {xs : List Int} {i : Nat} (h : xs.length ≤ i) : coef xs i = 0 := by simp [coef, h]
theorem coef_rng {t : Term} (h : vT t = true) (i : Nat) : -1000000 ≤ coef t.Coeffs i ∧ coef t.Coeffs i ≤ 1000000 := by
  unfold coef
  cases hx : t.Coeffs[i]? with
  | none => simp
  | some x => exact inR_iff.1 (vT_coef h x (List.mem_of_getElem? hx))
theorem const_rng {t : Term} (h : vT t = true) : -1000000 ≤ t.Const ∧ t.Const ≤ 1000000 := inR_iff.1 (vT_const h)
theorem prod_rng {a b A B : Int} (h1 : -A ≤ a) (h2 : a ≤ A) (h3 : -B ≤ b) (h4 : b ≤ B) : -(A * B) ≤ a * b ∧ a * b ≤ A * B := by
  have hA : 0 ≤ A := by omega
  have hB : 0 ≤ B := by omega
  have p1 : 0 ≤ (A - a) * (B - b) := Int.mul_nonneg (by omega) (by omega)
  have p2 : 0 ≤ (A + a) * (B + b) := Int.mul_nonneg (by omega) (by omega)
  have p3 : 0 ≤ (A - a) * (B + b) := Int.mul_nonneg (by omega) (by omega)
  have p4 : 0 ≤ (A + a) * (B - b) := Int.mul_nonneg (by omega) (by omega)
  simp only [Int.sub_mul, Int.add_mul, Int.mul_sub, Int.mul_add] at p1 p2 p3 p4
  omega
def sumN (f : Nat → Int) : Nat → Int
  | 0 => 0
  | n + 1 => sumN f n + f n
theorem sumN_rng {f : Nat → Int} {B : Int} (h : ∀ i, -B ≤ f i ∧ f i ≤ B) : ∀ n : Nat, -(n * B) ≤ sumN f n ∧ sumN f n ≤ n * B := by
  intro n
  induction n with
  | zero => simp [sumN]
  | succ n ih =>
    have := h n
    have e : ((n + 1 : Nat) : Int) * B = n * B + B := by rw [Int.natCast_add]; simp [Int.add_mul]
    rw [e]
    unfold sumN
    omega
def tAt (ts : List Term) (k : Nat) : Term := ts[k]?.getD ⟨0, []⟩
def lin (ts : List Term) (ms : List Int) (g : Term → Int) (n : Nat) : Int := sumN (fun k => coef ms k * g (tAt ts k)) n
def mOK (m : Int) : Prop := -1000000 ≤ m ∧ m ≤ 1000000
def Lin (ts : List Term) (ms : List Int) : Prop := (∀ t ∈ ts, vT t = true) ∧ (∀ m ∈ ms, mOK m) ∧ ts.length ≤ 20 ∧ ms.length = ts.length
theorem tAt_valid {ts : List Term} (h : ∀ t ∈ ts, vT t = true) (k : Nat) : vT (tAt ts k) = true := by
  unfold tAt
  cases hx : ts[k]? with
  | none => rfl
  | some t => exact h t (List.mem_of_getElem? hx)
theorem coef_m {ms : List Int} (h : ∀ m ∈ ms, mOK m) (k : Nat) : -1000000 ≤ coef ms k ∧ coef ms k ≤ 1000000 := by
  unfold coef
  cases hx : ms[k]? with
  | none => simp
  | some m => exact h m (List.mem_of_getElem? hx)
theorem mul_rng {a b : Int} (h1 : -1000000 ≤ a ∧ a ≤ 1000000) (h2 : -1000000 ≤ b ∧ b ≤ 1000000) : -1000000000000 ≤ a * b ∧ a * b ≤ 1000000000000 := by
  have := prod_rng h1.1 h1.2 h2.1 h2.2
  omega
theorem lin_rng {ts : List Term} {ms : List Int} (h : Lin ts ms) {g : Term → Int} (hg : ∀ t, vT t = true → -1000000 ≤ g t ∧ g t ≤ 1000000) {n : Nat} (hn : n ≤ 20) :
    -20000000000000 ≤ lin ts ms g n ∧ lin ts ms g n ≤ 20000000000000 := by
  have := sumN_rng (f := fun k => coef ms k * g (tAt ts k)) (B := 1000000000000) (fun i => mul_rng (coef_m h.2.1 i) (hg _ (tAt_valid h.1 i))) n
  unfold lin
  omega
theorem inner {f : Nat → Int} {m : Int} {xs : List Int} (hm : mOK m) (hl : xs.length ≤ 10) (hx : ∀ x ∈ xs, inR x = true) (hf : ∀ i, -100000000000000 ≤ f i ∧ f i ≤ 100000000000000) :
    forL (m_impl_combined_L1 m) (fun s1 => s1) 0 xs (tab f) = some (tab fun i => f i + m * coef xs i) := by
  obtain ⟨t, h1, h2⟩ := forL_inv (step := m_impl_combined_L1 m) (fin := fun s1 => s1) (xs := xs) (fun n s => s = tab fun i => if i < n then f i + m * coef xs i else f i) (fun t => t = tab fun i => f i + m * coef xs i)
    (fun n x s hxn hs => by
      subst hs
      have hn := get_lt hxn
      refine .inl ⟨_, ?_, rfl⟩
      unfold m_impl_combined_L1
      rw [getI_some (tab_get (by omega)), Option.bind_some, if_neg (by omega)]
      have hp := mul_rng hm (inR_iff.1 (hx x (List.mem_of_getElem? hxn)))
      have := hf n
      rw [w64_eq (n := m * x) (by omega), w64_eq (by omega), Int.toNat_natCast, tab_set (by omega)]
      congr 2
      unfold tab
      apply List.map_congr_left
      intro i hi
      by_cases h1 : i = n
      · subst h1; rw [if_pos rfl, if_pos (by omega), coef_get hxn]
      · rw [if_neg h1]
        by_cases h2 : i < n
        · rw [if_pos h2, if_pos (by omega)]
        · rw [if_neg h2, if_neg (by omega)])
    (fun s hs => by
      subst hs
      unfold tab
      apply List.map_congr_left
      intro i hi
      by_cases h2 : i < xs.length
      · rw [if_pos h2]
      · rw [if_neg h2, coef_no (by omega)]; omega)
    (s := tab f) (by simp)
  rw [h1, h2]
theorem impl_combined {ts : List Term} {ms : List Int} (h : Lin ts ms) :
    m_impl_combined ts ms = some (Term.mk (lin ts ms Term.Const ts.length) (trim (tab fun i => lin ts ms (fun t => coef t.Coeffs i) ts.length))) := by
  unfold m_impl_combined
  rw [show (10 : Int) = ((10 : Nat) : Int) from rfl, makeI_some (by omega), Option.bind_some, tab_zero]
  obtain ⟨t, h1, h2⟩ := forL_inv (step := m_impl_combined_L0 ms) (fin := fun s0 => (s0.1, s0.2)) (xs := ts) (fun n s => s = (lin ts ms Term.Const n, tab fun i => lin ts ms (fun t => coef t.Coeffs i) n))
    (fun t => t = (lin ts ms Term.Const ts.length, tab fun i => lin ts ms (fun t => coef t.Coeffs i) ts.length))
    (fun n x s hxn hs => by
      subst hs
      have hn := get_lt hxn
      refine .inl ⟨_, ?_, rfl⟩
      unfold m_impl_combined_L0
      have hmn : n < ms.length := by rw [h.2.2.2]; exact hn
      have hm : ms[n]? = some ms[n] := by simp [hmn]
      have hv := h.1 x (List.mem_of_getElem? hxn)
      have hmo := h.2.1 _ (List.mem_of_getElem? hm)
      rw [getI_some hm, Option.bind_some, inner hmo (vT_len hv) (vT_coef hv)
        (fun i => by have := lin_rng h (g := fun t => coef t.Coeffs i) (fun t ht => coef_rng ht i) (n := n) (by have := h.2.2.1; omega); omega), Option.bind_some]
      unfold m_impl_combined_A1
      have hp := mul_rng hmo (const_rng hv)
      have hq := lin_rng h (g := Term.Const) (fun t ht => const_rng ht) (n := n) (by have := h.2.2.1; omega)
      simp only
      rw [w64_eq (n := ms[n] * x.Const) (by omega), w64_eq (by omega)]
      have e : ∀ g : Term → Int, lin ts ms g (n + 1) = lin ts ms g n + ms[n] * g x := by
        intro g
        unfold lin
        rw [show sumN (fun k => coef ms k * g (tAt ts k)) (n + 1) = sumN (fun k => coef ms k * g (tAt ts k)) n + coef ms n * g (tAt ts n) from rfl, coef_get hm]
        unfold tAt
        rw [hxn]; rfl
      simp only [e])
    (fun s hs => hs) rfl
  change (forL (m_impl_combined_L0 ms) (fun s0 => (s0.1, s0.2)) 0 ts (lin ts ms Term.Const 0, tab fun i => lin ts ms (fun t => coef t.Coeffs i) 0)).bind _ = _
  rw [h1, h2, Option.bind_some]
  unfold m_impl_combined_A0
  rw [impl_trimmed (by simp only [tab_len]; omega)]; rfl
theorem lin_one (p : Term) (m : Int) (g : Term → Int) : lin [p] [m] g 1 = m * g p := by
  unfold lin
  simp [sumN, coef, tAt]
def cTermS (ts : List Term) : Nat := ts.length + (ts.map cTerm).sum
theorem mem_sum {α : Type} {c : α → Nat} {xs : List α} {x : α} (h : x ∈ xs) : c x ≤ (xs.map c).sum := by
  induction xs with
  | nil => cases h
  | cons y r ih =>
    simp only [List.map_cons, List.sum_cons]
    rcases List.mem_cons.1 h with rfl | h
    · omega
    · have := ih h; omega
theorem cTermS_mem {ts : List Term} {t : Term} (h : t ∈ ts) : cTerm t ≤ cTermS ts := by have := mem_sum (c := cTerm) h; unfold cTermS; omega
theorem comb_loop {ts : List Term} {ms : List Int} (h : Lin ts ms) :
    forL (m_impl_combined_L0 ms) (fun s0 => (s0.1, s0.2)) 0 ts (0, tab fun _ => 0) = some (lin ts ms Term.Const ts.length, tab fun i => lin ts ms (fun t => coef t.Coeffs i) ts.length) := by
  obtain ⟨t, h1, h2⟩ := forL_inv (step := m_impl_combined_L0 ms) (fin := fun s0 => (s0.1, s0.2)) (xs := ts) (fun n s => s = (lin ts ms Term.Const n, tab fun i => lin ts ms (fun t => coef t.Coeffs i) n))
    (fun t => t = (lin ts ms Term.Const ts.length, tab fun i => lin ts ms (fun t => coef t.Coeffs i) ts.length))
    (fun n x s hxn hs => by
      subst hs
      have hn := get_lt hxn
      refine .inl ⟨_, ?_, rfl⟩
      unfold m_impl_combined_L0
      have hmn : n < ms.length := by rw [h.2.2.2]; exact hn
      have hm : ms[n]? = some ms[n] := by simp [hmn]
      have hv := h.1 x (List.mem_of_getElem? hxn)
      have hmo := h.2.1 _ (List.mem_of_getElem? hm)
      rw [getI_some hm, Option.bind_some, inner hmo (vT_len hv) (vT_coef hv)
        (fun i => by have := lin_rng h (g := fun t => coef t.Coeffs i) (fun t ht => coef_rng ht i) (n := n) (by have := h.2.2.1; omega); omega), Option.bind_some]
      unfold m_impl_combined_A1
      have hp := mul_rng hmo (const_rng hv)
      have hq := lin_rng h (g := Term.Const) (fun t ht => const_rng ht) (n := n) (by have := h.2.2.1; omega)
      simp only
      rw [w64_eq (n := ms[n] * x.Const) (by omega), w64_eq (by omega)]
      have e : ∀ g : Term → Int, lin ts ms g (n + 1) = lin ts ms g n + ms[n] * g x := by
        intro g
        unfold lin
        rw [show sumN (fun k => coef ms k * g (tAt ts k)) (n + 1) = sumN (fun k => coef ms k * g (tAt ts k)) n + coef ms n * g (tAt ts n) from rfl, coef_get hm]
        unfold tAt
        rw [hxn]; rfl
      simp only [e])
    (fun s hs => hs) rfl
  change forL (m_impl_combined_L0 ms) (fun s0 => (s0.1, s0.2)) 0 ts (lin ts ms Term.Const 0, tab fun i => lin ts ms (fun t => coef t.Coeffs i) 0) = _
  rw [h1, h2]
theorem spec_inner {m : Int} {t : Term} (hl : t.Coeffs.length ≤ 1048576) (s : List Int) :
    iter (m_spec_l02Combine_L1 m t) (s, 0) = forL (m_impl_combined_L1 m) (fun s1 => s1) 0 t.Coeffs s :=
  iter_for (step := m_spec_l02Combine_L1 m t) t.Coeffs (fun n (s : List Int) => (s, (n : Int))) (m_impl_combined_L1 m) (fun s1 => s1)
    (fun n x r hx => by
      unfold m_spec_l02Combine_L1 m_impl_combined_L1
      simp only
      rw [dec_lt (get_lt hx), cond_true]
      cases getI r (n : Int) with
      | none => rfl
      | some y =>
        simp only [Option.bind_some]
        rw [getI_some hx, Option.bind_some, w64_succ (by have := get_lt hx; omega)]; rfl)
    (fun r => by unfold m_spec_l02Combine_L1; simp only; rw [dec_self]; rfl) s
theorem spec_comb_loop {ts : List Term} {ms : List Int} (h1 : ∀ t ∈ ts, t.Coeffs.length ≤ 1048576) (h2 : ts.length ≤ 1048576) (s : Int × List Int) :
    iter (m_spec_l02Combine_L0 ts ms) (s.1, s.2, 0) = forL (m_impl_combined_L0 ms) (fun s0 => (s0.1, s0.2)) 0 ts s :=
  iter_for (step := m_spec_l02Combine_L0 ts ms) ts (fun n (s : Int × List Int) => (s.1, s.2, (n : Int))) (m_impl_combined_L0 ms) (fun s0 => (s0.1, s0.2))
    (fun n x r hx => by
      unfold m_spec_l02Combine_L0 m_impl_combined_L0
      simp only
      rw [dec_lt (get_lt hx), cond_true]
      cases getI ms (n : Int) with
      | none => rfl
      | some y =>
        simp only [Option.bind_some]
        rw [getI_some hx, Option.bind_some, spec_inner (h1 x (List.mem_of_getElem? hx))]
        cases forL (m_impl_combined_L1 y) (fun s1 => s1) 0 x.Coeffs r.2 with
        | none => rfl
        | some u =>
          simp only [Option.bind_some]
          unfold m_spec_l02Combine_A1 m_impl_combined_A1
          simp only
          rw [w64_succ (by have := get_lt hx; omega)]; rfl)
    (fun r => by unfold m_spec_l02Combine_L0; simp only; rw [dec_self]; rfl) s
theorem spec_combine {ts : List Term} {ms : List Int} (h : Lin ts ms) :
    m_spec_l02Combine ts ms = some (chk (Term.mk (lin ts ms Term.Const ts.length) (trim (tab fun i => lin ts ms (fun t => coef t.Coeffs i) ts.length)))) := by
  unfold m_spec_l02Combine
  rw [show (10 : Int) = ((10 : Nat) : Int) from rfl, makeI_some (by omega), Option.bind_some, tab_zero,
    show iter (m_spec_l02Combine_L0 ts ms) (0, tab (fun _ => 0), 0) = _ from spec_comb_loop (fun t ht => by have := vT_len (h.1 t ht); omega) (by have := h.2.2.1; omega) (0, tab fun _ => 0),
    comb_loop h, Option.bind_some]
  unfold m_spec_l02Combine_A0
  rw [spec_make (by simp only [tab_len]; omega)]; rfl
theorem dec_leN {a b : Nat} : decide ((a : Int) ≤ (b : Int)) = decide (a ≤ b) := by by_cases h : a ≤ b <;> simp [h]
theorem spec_all {ts : List Term} {k : Nat} (hl : cTermS ts ≤ 1048576) : m_spec_l02All ts (k : Int) = some (ts.all vT && decide (ts.length ≤ k)) := by
  have hlen : ts.length ≤ 1048576 := by unfold cTermS at hl; omega
  have h := iter_for (step := m_spec_l02All_L0 ts) ts (fun n (_ : Unit) => (n : Int)) (fun _ x _ => bif vT x then some (.next ()) else some (.out (.inr false))) (fun _ => .inl ())
    (fun n x r hx => by
      unfold m_spec_l02All_L0
      rw [dec_lt (get_lt hx), cond_true, getI_some hx, Option.bind_some, spec_is (by have := cTermS_mem (List.mem_of_getElem? hx); omega), Option.bind_some]
      have hw : w64 ((n : Int) + 1) = ((n + 1 : Nat) : Int) := w64_succ (by have := get_lt hx; omega)
      cases vT x
      · rfl
      · rw [hw]; rfl)
    (fun r => by unfold m_spec_l02All_L0; rw [dec_self]; rfl) ()
  rw [forL_all vT _ _ (fun n x _ => rfl)] at h
  unfold m_spec_l02All
  rw [show (0 : Int) = ((0 : Nat) : Int) from rfl, h, Option.bind_some]
  cases ts.all vT
  · rfl
  · change some (decide ((ts.length : Int) ≤ (k : Int))) = _
    rw [dec_leN]; rfl
theorem impl_terms {ts : List Term} {k : Nat} : m_impl_areTerms ts (k : Int) = some (decide (ts.length ≤ k) && ts.all vT) := by
  unfold m_impl_areTerms
  by_cases h : ts.length ≤ k
  · rw [decide_eq_false (by omega), cond_false, decide_eq_true h, Bool.true_and, forL_all vT (f := .inr false) ts 0 (fun n x _ => by
      unfold m_impl_areTerms_L0
      rw [impl_valid, Option.bind_some]
      cases vT x <;> rfl), Option.bind_some]
    cases ts.all vT <;> rfl
  · rw [decide_eq_true (by omega), decide_eq_false h]; rfl
def cSeq (s : Sequent) : Nat := cTermS s.Facts + cTerm s.Goal
theorem foldl_snoc {α : Type} (xs s : List α) : xs.foldl (fun s x => s ++ [x]) s = s ++ xs := by
  induction xs generalizing s with
  | nil => simp
  | cons x r ih => simp [ih]
theorem impl_ownTerms {ts : List Term} (hl : cTermS ts ≤ 1048576) : m_impl_ownTerms ts = some ts := by
  have hlen : ts.length ≤ 1048576 := by unfold cTermS at hl; omega
  unfold m_impl_ownTerms
  rw [forL_fold (fun s x => s ++ [x]) (fun k s => s.length = k) ts 0 [] rfl (fun n x s hx hs => by
    have := get_lt hx
    unfold m_impl_ownTerms_L0
    rw [impl_own (by have := cTermS_mem (List.mem_of_getElem? hx); unfold cTerm at this; omega), Option.bind_some, capI_some (by simp; omega), Option.bind_some]
    exact ⟨rfl, by simp [hs]⟩), Option.bind_some, foldl_snoc]
  rfl
theorem spec_ownAll {ts : List Term} (hl : cTermS ts ≤ 1048576) : m_spec_l02OwnAll ts = some ts := by
  have hlen : ts.length ≤ 1048576 := by unfold cTermS at hl; omega
  have h := iter_for (step := m_spec_l02OwnAll_L0 ts) ts (fun n (s : List Term) => (s, (n : Int))) m_impl_ownTerms_L0 (fun s0 => s0)
    (fun n x r hx => by
      unfold m_spec_l02OwnAll_L0 m_impl_ownTerms_L0 m_spec_l02Own
      have hc := cTermS_mem (List.mem_of_getElem? hx)
      unfold cTerm at hc
      simp only
      rw [dec_lt (get_lt hx), cond_true, getI_some hx, Option.bind_some, spec_own (by omega), Option.bind_some, Option.bind_some, impl_own (by omega), Option.bind_some]
      simp only [List.length_cons, List.length_nil, Nat.zero_add]
      cases capI (r.length + 1) 32 with
      | none => rfl
      | some u => simp only [Option.bind_some]; rw [w64_succ (by have := get_lt hx; omega)]; rfl)
    (fun r => by unfold m_spec_l02OwnAll_L0; simp only; rw [dec_self]; rfl) ([] : List Term)
  have h2 := impl_ownTerms hl
  unfold m_impl_ownTerms at h2
  unfold m_spec_l02OwnAll
  rw [show (0 : Int) = ((0 : Nat) : Int) from rfl, h]
  exact h2
def opp (t : Term) : Term := Term.mk (-t.Const - 1) (trim (tab fun i => -coef t.Coeffs i))
theorem impl_opposite {t : Term} (h : vT t = true) : m_impl_Term_opposite t = some (opp t) := by
  unfold m_impl_Term_opposite
  have := const_rng h
  rw [impl_combined ⟨by simp [h], by simp [mOK], by simp, rfl⟩]
  simp only [List.length_cons, List.length_nil, Nat.zero_add, lin_one, Option.bind_some, Int.neg_mul, Int.one_mul]
  rw [w64_eq (by omega)]; rfl
theorem opp_len (t : Term) : (opp t).Coeffs.length ≤ 10 := by unfold opp; have := trim_len (tab fun i => -coef t.Coeffs i); rw [tab_len] at this; exact this
def vSeq (s : Sequent) : Bool := s.Facts.all vT && decide (s.Facts.length ≤ 13) && vT s.Goal
def fCtx (s : Sequent) : List Term × Bool := bif vSeq s && vT (opp s.Goal) then (s.Facts ++ [opp s.Goal], true) else ([], false)
theorem impl_ctx {s : Sequent} (hl : cSeq s ≤ 1048576) : m_impl_ContextOf s = some (fCtx s) := by
  unfold cSeq at hl
  have hlen : s.Facts.length ≤ 1048576 := by have : s.Facts.length ≤ cTermS s.Facts := by { unfold cTermS; omega }; omega
  unfold m_impl_ContextOf m_impl_ValidSequent fCtx vSeq
  rw [show (13 : Int) = ((13 : Nat) : Int) from rfl, impl_terms, Option.bind_some, impl_valid, Bool.and_comm (decide (s.Facts.length ≤ 13))]
  cases h1 : s.Facts.all vT && decide (s.Facts.length ≤ 13) with
  | false => rfl
  | true =>
    cases h2 : vT s.Goal with
    | false => rfl
    | true =>
      simp only [cond_true, Option.bind_some, Bool.not_true, cond_false, Bool.true_and]
      rw [impl_opposite h2, Option.bind_some, impl_valid, Option.bind_some, impl_ownTerms (by omega), Option.bind_some, Option.bind_some, impl_own (by have := opp_len s.Goal; omega), Option.bind_some]
      cases h3 : vT (opp s.Goal) with
      | false => rfl
      | true =>
        simp only [cond_true, Bool.not_true, cond_false]
        rw [capI_some (by simp; omega)]; rfl
theorem euclid {step : Int × Int → Option (Ctl (Int × Int) Int)}
    (h0 : ∀ a : Nat, step ((a : Int), ((0 : Nat) : Int)) = some (.out (a : Int)))
    (hs : ∀ a b : Nat, 0 < b → step ((a : Int), (b : Int)) = some (.next ((b : Int), ((a % b : Nat) : Int)))) : ∀ (n b a : Nat), b < n → iter step ((a : Int), (b : Int)) = some ((Nat.gcd a b : Nat) : Int) := by
  intro n
  induction n with
  | zero => intro b a h; omega
  | succ n ih =>
    intro b a h
    by_cases hb : b = 0
    · subst hb; rw [iter_out (h0 a), Nat.gcd_zero_right]
    · rw [iter_next (hs a b (by omega)), ih (a % b) b (by have := Nat.mod_lt a (Nat.pos_of_ne_zero hb); omega)]
      congr 2
      rw [Nat.gcd_comm a b, Nat.gcd_rec b a, Nat.gcd_comm]
theorem rem_nat {a b : Nat} (hb : 0 < b) : remI (a : Int) (b : Int) = some ((a % b : Nat) : Int) := by
  unfold remI
  rw [decide_eq_false (by omega), cond_false]
  rfl
theorem spec_euclid (a b : Nat) : iter m_spec_l02Divisor_L1 ((a : Int), (b : Int)) = some ((Nat.gcd a b : Nat) : Int) :=
  euclid (fun a => rfl) (fun a b hb => by
    unfold m_spec_l02Divisor_L1
    simp only
    rw [decide_eq_true (by omega), cond_true, rem_nat hb]; rfl) (b + 1) b a (Nat.lt_succ_self _)
theorem impl_euclid (a b : Nat) : iter m_impl_gcd_L1 ((a : Int), (b : Int)) = some ((Nat.gcd a b : Nat) : Int) :=
  euclid (fun a => rfl) (fun a b hb => by
    unfold m_impl_gcd_L1
    simp only
    rw [decide_eq_false (by omega), Bool.not_false, cond_true, rem_nat hb]; rfl) (b + 1) b a (Nat.lt_succ_self _)
def gcdL (xs : List Int) : Nat := xs.foldl (fun d x => Nat.gcd d x.natAbs) 0
theorem foldl_cast (xs : List Int) : ∀ (d : Nat), xs.foldl (fun (d : Int) x => ((Nat.gcd d.toNat x.natAbs : Nat) : Int)) (d : Int) = ((xs.foldl (fun d x => Nat.gcd d x.natAbs) d : Nat) : Int) := by
  induction xs with
  | nil => intro d; rfl
  | cons x r ih => intro d; simp only [List.foldl_cons, Int.toNat_natCast]; exact ih _
theorem impl_gcd {xs : List Int} (h : ∀ x ∈ xs, inR x = true) : m_impl_gcd xs = some ((gcdL xs : Nat) : Int) := by
  unfold m_impl_gcd
  rw [forL_fold (fun (d : Int) x => ((Nat.gcd d.toNat x.natAbs : Nat) : Int)) (fun _ d => 0 ≤ d) xs 0 0 (Int.le_refl 0) (fun n x d hx hd => by
    have hr := inR_iff.1 (h x (List.mem_of_getElem? hx))
    unfold m_impl_gcd_L0 m_impl_absolute
    rw [Option.bind_some, w64_eq (by omega), show max x (0 - x) = ((x.natAbs : Nat) : Int) by omega, show d = ((d.toNat : Nat) : Int) by omega, impl_euclid, Option.bind_some]
    exact ⟨by rw [Int.toNat_natCast]; rfl, by omega⟩), Option.bind_some]
  have := foldl_cast xs 0
  exact congrArg some this
theorem spec_gcd {t : Term} (h : ∀ x ∈ t.Coeffs, inR x = true) (hl : t.Coeffs.length ≤ 1048576) : m_spec_l02Divisor t = some ((gcdL t.Coeffs : Nat) : Int) := by
  have h2 := iter_for (step := m_spec_l02Divisor_L0 t) t.Coeffs (fun n (d : Nat) => ((d : Int), (n : Int))) (fun n x d => some (.next (Nat.gcd d x.natAbs))) (fun d => ((d : Nat) : Int))
    (fun n x d hx => by
      have hr := inR_iff.1 (h x (List.mem_of_getElem? hx))
      unfold m_spec_l02Divisor_L0 m_spec_l00Max
      simp only
      rw [dec_lt (get_lt hx), cond_true, getI_some hx, Option.bind_some, w64_eq (n := 0 - x) (by omega)]
      have e : (bif decide (0 - x < x) then some x else some (0 - x)) = some ((x.natAbs : Nat) : Int) := by
        by_cases h : 0 - x < x
        · rw [decide_eq_true h, cond_true, show ((x.natAbs : Nat) : Int) = x by omega]
        · rw [decide_eq_false h, cond_false, show ((x.natAbs : Nat) : Int) = 0 - x by omega]
      rw [e, Option.bind_some, spec_euclid, Option.bind_some]
      unfold m_spec_l02Divisor_A1
      simp only
      rw [w64_succ (by have := get_lt hx; omega)]; rfl)
    (fun r => by unfold m_spec_l02Divisor_L0; simp only; rw [dec_self]; rfl) 0
  rw [forL_fold (fun (d : Nat) x => Nat.gcd d x.natAbs) (fun _ _ => True) t.Coeffs 0 0 trivial (fun n x d hx _ => ⟨rfl, trivial⟩)] at h2
  unfold m_spec_l02Divisor
  rw [show ((0 : Int), (0 : Int)) = (((0 : Nat) : Int), ((0 : Nat) : Int)) from rfl, h2]
  rfl
theorem foldl_dvd (xs : List Int) : ∀ (d : Nat), (xs.foldl (fun d x => Nat.gcd d x.natAbs) d) ∣ d ∧ ∀ x ∈ xs, (xs.foldl (fun d x => Nat.gcd d x.natAbs) d) ∣ x.natAbs := by
  induction xs with
  | nil => intro d; exact ⟨Nat.dvd_refl d, fun x h => by cases h⟩
  | cons y r ih =>
    intro d
    obtain ⟨h1, h2⟩ := ih (Nat.gcd d y.natAbs)
    simp only [List.foldl_cons]
    refine ⟨Nat.dvd_trans h1 (Nat.gcd_dvd_left _ _), fun x hx => ?_⟩
    rcases List.mem_cons.1 hx with rfl | hx
    · exact Nat.dvd_trans h1 (Nat.gcd_dvd_right _ _)
    · exact h2 x hx
theorem gcdL_dvd {xs : List Int} {x : Int} (h : x ∈ xs) : gcdL xs ∣ x.natAbs := (foldl_dvd xs 0).2 x h
theorem tdiv_rng {x : Int} {d : Nat} (hd : 2 ≤ d) (h : inR x = true) : inR (x.tdiv d) = true ∧ -500000 ≤ x.tdiv d ∧ x.tdiv d ≤ 500000 := by
  have hr := inR_iff.1 h
  have key : ∀ n : Nat, n ≤ 1000000 → n / d ≤ 500000 := by
    intro n hn
    rw [Nat.div_le_iff_le_mul_add_pred (by omega)]
    have : d * 500000 ≥ 2 * 500000 := Nat.mul_le_mul_right _ hd
    omega
  have : -500000 ≤ x.tdiv d ∧ x.tdiv d ≤ 500000 := by
    rcases Int.le_total 0 x with h0 | h0
    · obtain ⟨n, rfl⟩ := Int.eq_ofNat_of_zero_le h0
      have := key n (by omega)
      rw [show ((n : Int).tdiv (d : Int)) = ((n / d : Nat) : Int) from rfl]
      generalize n / d = q at this ⊢
      omega
    · obtain ⟨n, hn⟩ := Int.eq_ofNat_of_zero_le (show 0 ≤ -x by omega)
      have := key n (by omega)
      have e : x.tdiv d = -((n / d : Nat) : Int) := by
        rw [show x = -(n : Int) by omega, Int.neg_tdiv]; rfl
      rw [e]
      generalize n / d = q at this ⊢
      omega
  exact ⟨inR_iff.2 (by omega), this⟩
theorem tdiv_ne {x : Int} {d : Nat} (hd : 0 < d) (hx : x ≠ 0) (h : d ∣ x.natAbs) : x.tdiv d ≠ 0 := by
  obtain ⟨k, hk⟩ := h
  intro h0
  have h1 : (x.tdiv d) * d = x := Int.tdiv_mul_cancel (Int.natAbs_dvd_natAbs.1 (by simpa using ⟨k, hk⟩))
  rw [h0, Int.zero_mul] at h1
  exact hx h1.symm
theorem quo_nat {x : Int} {d : Nat} (hd : 2 ≤ d) (h : inR x = true) : quoI x (d : Int) = some (x.tdiv d) := by
  have := (tdiv_rng hd h).2
  unfold quoI
  rw [decide_eq_false (by omega), cond_false, w64_eq (by omega)]
def quos (xs : List Int) (d : Nat) : List Int := xs.map fun x => x.tdiv d
def flo (c : Int) (d : Nat) : Int := if c.tmod d < 0 then c.tdiv d - 1 else c.tdiv d
theorem flo_rng {c : Int} {d : Nat} (hd : 2 ≤ d) (h : inR c = true) : inR (flo c d) = true := by
  have := (tdiv_rng hd h).2
  unfold flo
  split <;> exact inR_iff.2 (by omega)
theorem trim_id {xs : List Int} (h : lastOK xs = true) : trim xs = xs := by
  unfold trim
  cases hn : xs.length with
  | zero => rw [List.length_eq_zero_iff.1 hn]; rfl
  | succ n =>
    have hl : xs.getLast? = xs[n]? := by rw [List.getLast?_eq_getElem?, hn]; rfl
    have hx : xs[n]? = some xs[n] := by simp
    unfold lastOK at h
    rw [hl, hx] at h
    simp at h
    unfold tl
    rw [if_neg (by rw [hx]; simpa using h), ← hn, List.take_length]
theorem quos_last {xs : List Int} {d : Nat} (hd : 0 < d) (h : lastOK xs = true) (hv : ∀ x ∈ xs, d ∣ x.natAbs) : lastOK (quos xs d) = true := by
  unfold lastOK quos at *
  rw [List.getLast?_map]
  cases hx : xs.getLast? with
  | none => rfl
  | some x =>
    rw [hx] at h
    simp at h
    have := tdiv_ne hd h (hv x (List.mem_of_getLast? hx))
    simpa using this
theorem vT_last {t : Term} (h : vT t = true) : lastOK t.Coeffs = true := by simp [vT] at h; exact h.1.2
theorem tight_valid {t : Term} (h : vT t = true) (hd : 2 ≤ gcdL t.Coeffs) : vT (Term.mk (flo t.Const (gcdL t.Coeffs)) (quos t.Coeffs (gcdL t.Coeffs))) = true := by
  have h1 := vT_len h
  have h2 := quos_last (d := gcdL t.Coeffs) (by omega) (vT_last h) (fun x hx => gcdL_dvd hx)
  have h3 := flo_rng hd (vT_const h)
  have h4 : (quos t.Coeffs (gcdL t.Coeffs)).all inR = true := by
    rw [List.all_eq_true]
    intro y hy
    obtain ⟨x, hx, rfl⟩ := List.mem_map.1 hy
    exact (tdiv_rng hd (vT_coef h x hx)).1
  unfold vT
  rw [h2, h3, h4]
  simp [quos, h1]
def fTight (t : Term) : Term × Bool :=
  bif vT t && decide (2 ≤ gcdL t.Coeffs) then (Term.mk (flo t.Const (gcdL t.Coeffs)) (quos t.Coeffs (gcdL t.Coeffs)), true) else (Term.mk 0 [], false)
theorem spec_quos {t : Term} {d : Nat} (hd : 2 ≤ d) (h : ∀ x ∈ t.Coeffs, inR x = true) (hl : t.Coeffs.length ≤ 1048576) : iter (m_spec_l02Tight_L0 t (d : Int)) ([], 0) = some (quos t.Coeffs d) := by
  have h2 := iter_for (step := m_spec_l02Tight_L0 t (d : Int)) t.Coeffs (fun n (s : List Int) => (s, (n : Int))) (fun n x s => (capI (s.length + 1) 8).bind fun _ => some (.next (s ++ [x.tdiv d]))) (fun s => s)
    (fun n x s hx => by
      unfold m_spec_l02Tight_L0
      simp only
      rw [dec_lt (get_lt hx), cond_true, getI_some hx, Option.bind_some, quo_nat hd (h x (List.mem_of_getElem? hx)), Option.bind_some]
      simp only [List.length_cons, List.length_nil, Nat.zero_add]
      cases capI (s.length + 1) 8 with
      | none => rfl
      | some u => simp only [Option.bind_some]; rw [w64_succ (by have := get_lt hx; omega)]; rfl)
    (fun r => by unfold m_spec_l02Tight_L0; simp only; rw [dec_self]; rfl) []
  rw [forL_fold (fun s x => s ++ [x.tdiv d]) (fun k s => s.length = k) t.Coeffs 0 [] rfl (fun n x s hx hs => by
    have := get_lt hx
    rw [capI_some (by omega), Option.bind_some]
    exact ⟨rfl, by simp [hs]⟩)] at h2
  rw [show (([] : List Int), (0 : Int)) = ([], ((0 : Nat) : Int)) from rfl, h2]
  congr 1
  have : ∀ (xs s : List Int), xs.foldl (fun s x => s ++ [x.tdiv d]) s = s ++ xs.map fun x => x.tdiv d := by
    intro xs
    induction xs with
    | nil => intro s; simp
    | cons x r ih => intro s; simp [ih]
  exact this t.Coeffs []
theorem impl_quos {t : Term} {d : Nat} (hd : 2 ≤ d) (h : ∀ x ∈ t.Coeffs, inR x = true) (hl : t.Coeffs.length ≤ 1048576) : iter (m_impl_Term_tightened_L0 (d : Int) t) (t.Coeffs, 0) = some (quos t.Coeffs d) := by
  have key : ∀ (m n : Nat), n + m = t.Coeffs.length → iter (m_impl_Term_tightened_L0 (d : Int) t) (quos (t.Coeffs.take n) d ++ t.Coeffs.drop n, (n : Int)) = some (quos t.Coeffs d) := by
    intro m
    induction m with
    | zero =>
      intro n hn
      obtain rfl : n = t.Coeffs.length := by omega
      rw [iter_out (t := quos t.Coeffs d)]
      unfold m_impl_Term_tightened_L0
      simp only
      rw [dec_self, cond_false]
      simp
    | succ m ih =>
      intro n hn
      have hlt : n < t.Coeffs.length := by omega
      have hx : t.Coeffs[n]? = some t.Coeffs[n] := by simp
      have hql : (quos (t.Coeffs.take n) d).length = n := by unfold quos; simp; omega
      have hg : (quos (t.Coeffs.take n) d ++ t.Coeffs.drop n)[n]? = some t.Coeffs[n] := by
        rw [List.getElem?_append_right (by omega), hql, Nat.sub_self]; simp
      rw [iter_next (s' := (quos (t.Coeffs.take (n + 1)) d ++ t.Coeffs.drop (n + 1), ((n + 1 : Nat) : Int)))]
      · exact ih (n + 1) (by omega)
      · unfold m_impl_Term_tightened_L0
        simp only
        rw [dec_lt hlt, cond_true, getI_some hg, Option.bind_some, quo_nat hd (h _ (List.mem_of_getElem? hx)), Option.bind_some, w64_succ (by omega), Int.toNat_natCast]
        congr 3
        rw [List.set_append_right _ _ (by omega), hql, Nat.sub_self, List.drop_eq_getElem_cons hlt, List.set_cons_zero, List.take_add_one, hx, Option.toList_some, show ∀ ys, quos (ys ++ [t.Coeffs[n]]) d = quos ys d ++ [t.Coeffs[n].tdiv d] by intro ys; simp [quos], List.append_assoc]
        rfl
  have := key t.Coeffs.length 0 (by omega)
  simpa [quos] using this
def unitT (n : Nat) : Term := Term.mk 0 ((List.replicate (n + 1) 0).set n 1)
def Src (s : l00Src) (k : Nat) : Prop := (∀ x ∈ s.code, 0 ≤ x ∧ x ≤ 255) ∧ s.code.length ≤ 1048576 ∧ 0 ≤ s.at_ ∧ s.at_ ≤ k
theorem Src.mono {s : l00Src} {k k' : Nat} (h : Src s k) (hk : k ≤ k') : Src s k' := ⟨h.1, h.2.1, h.2.2.1, by have := h.2.2.2; omega⟩
theorem and_rng (a : Int) : 0 ≤ andU 64 a 255 ∧ andU 64 a 255 ≤ 255 := by
  unfold andU
  have h : (BitVec.ofInt 64 a &&& BitVec.ofInt 64 255).toNat ≤ 255 := by
    rw [BitVec.toNat_and]
    have : (BitVec.ofInt 64 255).toNat = 255 := by decide
    rw [this]
    exact Nat.and_le_right
  generalize (BitVec.ofInt 64 a &&& BitVec.ofInt 64 255).toNat = q at h
  unfold wu
  omega
theorem next_ok {s : l00Src} {k : Nat} (h : Src s k) (hk : k ≤ 1000000000) : ∃ r s', m_spec_l00Src_next s = some (r, s') ∧ 0 ≤ r ∧ r ≤ 255 ∧ Src s' (k + 1) := by
  obtain ⟨h1, h2, h3, h4⟩ := h
  have hJ : ∀ j : Int, 0 ≤ j → j ≤ 255 → ∃ r s', m_spec_l00Src_next_J0 s j = some (r, s') ∧ 0 ≤ r ∧ r ≤ 255 ∧ Src s' (k + 1) := by
    intro j hj0 hj1
    unfold m_spec_l00Src_next_J0
    rw [w64_eq (n := s.at_ + 1) (by omega)]
    have hS : ∀ sd, Src (l00Src.mk s.code (s.at_ + 1) sd) (k + 1) := fun sd => ⟨h1, h2, by simp only; omega, by simp only; omega⟩
    by_cases hq : s.at_ + 1 ≤ (s.code.length : Int)
    · rw [decide_eq_true hq, cond_true]; exact ⟨_, _, rfl, hj0, hj1, hS _⟩
    · rw [decide_eq_false hq, cond_false]
      have := and_rng (Int.fdiv (wu 64 ((wu 64 ((wu 64 (s.seed * (6364136223846793005 : Int))) + (wu 64 j))) + (1442695040888963407 : Int))) (2 ^ 40))
      exact ⟨_, _, rfl, by rw [w64_eq (by omega)]; omega, by rw [w64_eq (by omega)]; omega, hS _⟩
  unfold m_spec_l00Src_next
  by_cases hq : s.at_ < (s.code.length : Int)
  · obtain ⟨n, hn⟩ := Int.eq_ofNat_of_zero_le h3
    have hlt : n < s.code.length := by omega
    have hx : s.code[n]? = some s.code[n] := by simp
    have hb := h1 _ (List.getElem_mem hlt)
    rw [decide_eq_true hq, cond_true, hn, getI_some hx, Option.bind_some, w64_eq (by omega)]
    exact hJ _ hb.1 hb.2
  · rw [decide_eq_false hq, cond_false]; exact hJ 0 (by omega) (by omega)
theorem pick_ok {s : l00Src} {k : Nat} {n : Int} (h : Src s k) (hk : k ≤ 100000000) (hn : n ≤ 200) : ∃ r s', m_spec_l00Src_pick s n = some (r, s') ∧ 0 ≤ r ∧ (r < n ∨ r = 0) ∧ Src s' (k + 1) := by
  unfold m_spec_l00Src_pick
  by_cases h1 : n ≤ 1
  · rw [decide_eq_true h1, cond_true]; exact ⟨_, _, rfl, by omega, .inr rfl, h.mono (by omega)⟩
  · rw [decide_eq_false h1, cond_false]
    obtain ⟨r, s', e1, e2, e3, e4⟩ := next_ok h (by omega)
    rw [e1, Option.bind_some, decide_eq_false (by omega), cond_false]
    simp only
    unfold remI
    rw [decide_eq_false (by omega), cond_false, Option.bind_some]
    exact ⟨_, _, rfl, Int.tmod_nonneg _ e2, .inl (Int.tmod_lt_of_pos _ (by omega)), e4⟩
theorem from_ok {code : List Int} (h1 : ∀ x ∈ code, 0 ≤ x ∧ x ≤ 255) (h2 : code.length ≤ 1048576) : m_spec_l00From code = some (l00Src.mk code 0 0) ∧ Src (l00Src.mk code 0 0) 0 :=
  ⟨rfl, h1, h2, Int.le_refl _, Int.le_refl _⟩
theorem tl_last {xs : List Int} : ∀ n, n ≤ xs.length → lastOK (xs.take (tl xs n)) = true := by
  intro n
  induction n with
  | zero => intro _; rfl
  | succ n ih =>
    intro hn
    unfold tl
    split
    · exact ih (by omega)
    · rename_i h
      have hx : xs[n]? = some xs[n] := by simp
      unfold lastOK
      rw [List.getLast?_eq_getElem?]
      have hl : (xs.take (n + 1)).length = n + 1 := by simp; omega
      rw [hl, show n + 1 - 1 = n from rfl, List.getElem?_take, if_pos (by omega), hx]
      rw [hx] at h
      simpa using h
theorem trim_last (xs : List Int) : lastOK (trim xs) = true := tl_last _ (Nat.le_refl _)
theorem tl_zero {xs : List Int} : ∀ n, n ≤ xs.length → ∀ i, tl xs n ≤ i → i < n → coef xs i = 0 := by
  intro n
  induction n with
  | zero => intro _ i _ h; omega
  | succ n ih =>
    intro hn i h1 h2
    unfold tl at h1
    split at h1
    · rename_i h
      by_cases hi : i = n
      · subst hi; exact coef_get h
      · exact ih (by omega) i h1 (by omega)
    · omega
theorem trim_coef (xs : List Int) (i : Nat) : coef (trim xs) i = coef xs i := by
  unfold trim
  by_cases h : i < tl xs xs.length
  · unfold coef; rw [List.getElem?_take, if_pos h]
  · rw [coef_no (by simp; omega)]
    by_cases h2 : i < xs.length
    · rw [tl_zero xs.length (Nat.le_refl _) i (by omega) h2]
    · rw [coef_no (by omega)]
theorem tab_coef (f : Nat → Int) (i : Nat) : coef (tab f) i = if i < 10 then f i else 0 := by
  by_cases h : i < 10
  · rw [if_pos h, coef_get (tab_get h)]
  · rw [if_neg h, coef_no (by rw [tab_len]; omega)]
def mkT (c : Int) (f : Nat → Int) : Term := Term.mk c (trim (tab f))
theorem mkT_coef (c : Int) (f : Nat → Int) (i : Nat) : coef (mkT c f).Coeffs i = if i < 10 then f i else 0 := by
  unfold mkT; rw [trim_coef, tab_coef]
theorem mkT_valid {c : Int} {f : Nat → Int} (hc : -1000000 ≤ c ∧ c ≤ 1000000) (hf : ∀ i, i < 10 → -1000000 ≤ f i ∧ f i ≤ 1000000) : vT (mkT c f) = true := by
  have h1 : (mkT c f).Coeffs.length ≤ 10 := by have := trim_len (tab f); rw [tab_len] at this; exact this
  have h2 : lastOK (mkT c f).Coeffs = true := trim_last _
  have h3 : (mkT c f).Coeffs.all inR = true := by
    rw [List.all_eq_true]
    intro x hx
    obtain ⟨i, hi⟩ := List.getElem?_of_mem hx
    have := mkT_coef c f i
    rw [coef_get hi] at this
    rw [this]
    have hlt := get_lt hi
    rw [if_pos (by omega)]
    exact inR_iff.2 (hf i (by omega))
  unfold vT
  rw [h2, h3, inR_iff.2 (show -1000000 ≤ (mkT c f).Const ∧ (mkT c f).Const ≤ 1000000 from hc)]
  simp [h1]
theorem mkT_chk {c : Int} {f : Nat → Int} (hc : -1000000 ≤ c ∧ c ≤ 1000000) (hf : ∀ i, i < 10 → -1000000 ≤ f i ∧ f i ≤ 1000000) : chk (Term.mk c (trim (tab f))) = (mkT c f, true) := by
  have := mkT_valid hc hf
  unfold chk
  rw [show Term.mk c (trim (tab f)) = mkT c f from rfl, this]; rfl
theorem sumN_congr {f g : Nat → Int} : ∀ n, (∀ i, i < n → f i = g i) → sumN f n = sumN g n := by
  intro n
  induction n with
  | zero => intro _; rfl
  | succ n ih => intro h; unfold sumN; rw [ih (fun i hi => h i (by omega)), h n (by omega)]
theorem sumN_neg (f : Nat → Int) : ∀ n, sumN (fun i => -f i) n = -sumN f n := by
  intro n
  induction n with
  | zero => rfl
  | succ n ih => unfold sumN; rw [ih]; omega
theorem sumN_add (f g : Nat → Int) : ∀ n, sumN (fun i => f i + g i) n = sumN f n + sumN g n := by
  intro n
  induction n with
  | zero => rfl
  | succ n ih => unfold sumN; rw [ih]; omega
theorem sumN_mul (c : Int) (f : Nat → Int) : ∀ n, sumN (fun i => c * f i) n = c * sumN f n := by
  intro n
  induction n with
  | zero => simp [sumN]
  | succ n ih => unfold sumN; rw [ih, Int.mul_add]
theorem sumN_zero : ∀ n, sumN (fun _ => 0) n = 0 := by
  intro n
  induction n with
  | zero => rfl
  | succ n ih => unfold sumN; rw [ih]; rfl
theorem sumN_stop {f : Nat → Int} {n : Nat} (h : ∀ i, n ≤ i → f i = 0) : ∀ m, n ≤ m → sumN f m = sumN f n := by
  intro m
  induction m with
  | zero => intro hm; rw [show n = 0 by omega]
  | succ m ih =>
    intro hm
    by_cases e : n = m + 1
    · rw [e]
    · rw [show sumN f (m + 1) = sumN f m + f m from rfl, ih (by omega), h m (by omega)]; omega
def val (t : Term) (v : List Int) : Int := t.Const + sumN (fun i => coef t.Coeffs i * coef v i) 10
def Vals (v : List Int) : Prop := v.length = 10 ∧ ∀ x ∈ v, -6 ≤ x ∧ x ≤ 6
theorem Vals.coef {v : List Int} (h : Vals v) (i : Nat) : -6 ≤ coef v i ∧ coef v i ≤ 6 := by
  unfold Mod.coef
  cases hx : v[i]? with
  | none => simp
  | some x => exact h.2 x (List.mem_of_getElem? hx)
theorem value_ok {t : Term} {v : List Int} (ht : vT t = true) (hv : Vals v) : m_laws_b10Value t v = some (val t v) := by
  have hl := vT_len ht
  have hp : ∀ i, -6000000 ≤ coef t.Coeffs i * coef v i ∧ coef t.Coeffs i * coef v i ≤ 6000000 := by
    intro i
    have h1 := coef_rng ht i
    have h2 := hv.coef i
    have := prod_rng h1.1 h1.2 h2.1 h2.2
    omega
  have hsum := sumN_rng (f := fun i => coef t.Coeffs i * coef v i) (B := 6000000) hp
  have hc := const_rng ht
  have key : ∀ (m n : Nat), n + m = t.Coeffs.length → iter (m_laws_b10Value_L0 t v) (t.Const + sumN (fun i => coef t.Coeffs i * coef v i) n, (n : Int)) = some (val t v) := by
    intro m
    induction m with
    | zero =>
      intro n hn
      obtain rfl : n = t.Coeffs.length := by omega
      refine iter_out ?_
      unfold m_laws_b10Value_L0
      simp only
      rw [dec_self, Bool.false_and, cond_false]
      unfold val
      rw [sumN_stop (n := t.Coeffs.length) (fun i hi => by rw [coef_no hi, Int.zero_mul]) 10 hl]
    | succ m ih =>
      intro n hn
      have hlt : n < t.Coeffs.length := by omega
      have hltv : n < v.length := by rw [hv.1]; omega
      have hx : t.Coeffs[n]? = some t.Coeffs[n] := by simp
      have hy : v[n]? = some v[n] := by simp
      have hs := hsum n
      have hpn := hp n
      rw [iter_next (s' := (t.Const + sumN (fun i => coef t.Coeffs i * coef v i) (n + 1), ((n + 1 : Nat) : Int)))]
      · exact ih (n + 1) (by omega)
      · unfold m_laws_b10Value_L0
        simp only
        rw [dec_lt hlt, dec_lt hltv, Bool.true_and, cond_true, getI_some hx, Option.bind_some, getI_some hy, Option.bind_some, w64_succ (by omega)]
        rw [coef_get hx, coef_get hy] at hpn
        rw [w64_eq (n := t.Coeffs[n] * v[n]) (by omega), w64_eq (by omega), sumN, coef_get hx, coef_get hy, Int.add_assoc]
  unfold m_laws_b10Value
  have := key t.Coeffs.length 0 (by omega)
  rw [show t.Const + sumN (fun i => coef t.Coeffs i * coef v i) 0 = t.Const by simp [sumN]] at this
  rw [show (0 : Int) = ((0 : Nat) : Int) from rfl, this]; rfl
structure Small (t : Term) : Prop where
  v : vT t = true
  c : -7 ≤ t.Const ∧ t.Const ≤ 7
  f : ∀ i, -4 ≤ coef t.Coeffs i ∧ coef t.Coeffs i ≤ 4
theorem list_coef {xs : List Int} {a b : Int} (h : ∀ x ∈ xs, a ≤ x ∧ x ≤ b) (h0 : a ≤ 0 ∧ 0 ≤ b) (i : Nat) : a ≤ coef xs i ∧ coef xs i ≤ b := by
  unfold coef
  cases hx : xs[i]? with
  | none => simpa using h0
  | some x => exact h x (List.mem_of_getElem? hx)
theorem values_ok {code : List Int} (h1 : ∀ x ∈ code, 0 ≤ x ∧ x ≤ 255) (h2 : code.length ≤ 1048576) : ∃ v, m_spec_B10Values code = some v ∧ Vals v := by
  unfold m_spec_B10Values
  obtain ⟨e0, hS0⟩ := from_ok h1 h2
  rw [e0, Option.bind_some]
  simp only
  obtain ⟨u, eu, hu⟩ := iter_inv (step := m_spec_B10Values_L0)
    (fun s => Src (l00Src.mk s.1 s.2.1 s.2.2.1) s.2.2.2.1.length ∧ s.2.2.2.2 = (s.2.2.2.1.length : Int) ∧ s.2.2.2.1.length ≤ 10 ∧ ∀ x ∈ s.2.2.2.1, -6 ≤ x ∧ x ≤ 6)
    (fun s => 10 - s.2.2.2.1.length) Vals
    (fun ⟨c, a, sd, xs, n⟩ ⟨i1, i2, i3, i4⟩ => by
      simp only at i1 i2 i3 i4
      unfold m_spec_B10Values_L0
      simp only
      by_cases hn : n < 10
      · left
        obtain ⟨r, s', e, r1, r2, hS⟩ := pick_ok (n := 13) i1 (by omega) (by omega)
        rw [decide_eq_true hn, cond_true, e, Option.bind_some, capI_some (by simp; omega), Option.bind_some, w64_eq (n := r - 6) (by omega), w64_eq (n := n + 1) (by omega)]
        refine ⟨_, rfl, ⟨?_, by simp; omega, by simp; omega, ?_⟩, by simp; omega⟩
        · simp only [List.length_append, List.length_cons, List.length_nil]; exact hS
        · intro x hx
          simp only [List.mem_append, List.mem_singleton] at hx
          rcases hx with hx | rfl
          · exact i4 x hx
          · omega
      · right
        rw [decide_eq_false hn, cond_false]
        exact ⟨_, rfl, by omega, i4⟩)
    (s := (code, 0, 0, [], 0)) ⟨hS0, rfl, by simp, by simp⟩
  rw [eu, Option.bind_some]
  exact ⟨_, rfl, hu⟩
theorem long_no {a b : List Int} (h1 : a.length ≤ 1048576) (h2 : b.length ≤ 1048576) : m_laws_b10Long a b = some false := by
  unfold m_laws_b10Long
  rw [decide_eq_false (by omega), decide_eq_false (by omega)]; rfl
theorem long_yes {a b : List Int} (h : ¬ (a.length ≤ 1048576 ∧ b.length ≤ 1048576)) : m_laws_b10Long a b = some true := by
  unfold m_laws_b10Long
  by_cases h1 : a.length ≤ 1048576
  · rw [decide_eq_false (show ¬ (1048576 : Int) < (a.length : Int) by omega), decide_eq_true (show (1048576 : Int) < (b.length : Int) by omega)]; rfl
  · rw [decide_eq_true (show (1048576 : Int) < (a.length : Int) by omega)]; rfl
theorem val_mkT (c : Int) (f : Nat → Int) (v : List Int) : val (mkT c f) v = c + sumN (fun i => f i * coef v i) 10 := by
  unfold val
  rw [sumN_congr (g := fun i => f i * coef v i) 10 (fun i hi => by rw [mkT_coef, if_pos hi])]
  rfl
theorem slices_eq {xs ys : List Int} : m_slices_Equal_int64_int64 xs ys = some (decide (xs = ys)) := by
  unfold m_slices_Equal_int64_int64
  by_cases h : xs.length = ys.length
  · rw [decide_eq_true (by omega), Bool.not_true, cond_false]
    have key : ∀ (as : List Int) (k : Nat), k + as.length = ys.length →
        forL (m_slices_Equal_int64_int64_L0 ys) (fun s0 => (Sum.inl ())) k as () = some (if as = ys.drop k then .inl () else .inr false) := by
      intro as
      induction as with
      | nil => intro k hk; rw [if_pos (by rw [List.drop_eq_nil_of_le (by simp at hk; omega)])]; rfl
      | cons a r ih =>
        intro k hk
        simp only [List.length_cons] at hk
        have hlt : k < ys.length := by omega
        rw [List.drop_eq_getElem_cons hlt]
        unfold forL m_slices_Equal_int64_int64_L0
        rw [getI_some (show ys[k]? = some ys[k] by simp), Option.bind_some]
        by_cases ha : a = ys[k]
        · rw [decide_eq_true ha, Bool.not_true, cond_false]
          have := ih (k + 1) (by omega)
          simp only
          refine Eq.trans this ?_
          congr 1
          by_cases h2 : r = ys.drop (k + 1)
          · rw [if_pos h2, if_pos (by rw [h2, ha])]
          · rw [if_neg h2, if_neg (fun e => h2 (List.cons.inj e).2)]
        · rw [decide_eq_false ha, Bool.not_false, cond_true, if_neg (fun e => ha (List.cons.inj e).1)]
    rw [key xs 0 (by omega), Option.bind_some, List.drop_zero]
    by_cases e : xs = ys
    · rw [if_pos e, decide_eq_true e]; rfl
    · rw [if_neg e, decide_eq_false e]; rfl
  · rw [decide_eq_false (by omega), decide_eq_false (fun e => h (by rw [e]))]; rfl
theorem dvd_foldl {k : Nat} : ∀ (xs : List Int) (d : Nat), k ∣ d → (∀ x ∈ xs, k ∣ x.natAbs) → k ∣ xs.foldl (fun d x => Nat.gcd d x.natAbs) d := by
  intro xs
  induction xs with
  | nil => intro d h _; exact h
  | cons x r ih => intro d h hx; exact ih _ (Nat.dvd_gcd h (hx x (by simp))) (fun y hy => hx y (by simp [hy]))
theorem dvd_gcdL {k : Nat} {xs : List Int} (h : ∀ x ∈ xs, k ∣ x.natAbs) : k ∣ gcdL xs := dvd_foldl xs 0 (Nat.dvd_zero k) h
theorem quo_mul {x : Int} {d : Nat} (h : d ∣ x.natAbs) : x.tdiv d * d = x := Int.tdiv_mul_cancel (Int.natAbs_dvd_natAbs.1 (by simpa using h))
theorem quos_coef {xs : List Int} {d : Nat} (h : ∀ x ∈ xs, d ∣ x.natAbs) (i : Nat) : coef xs i = (d : Int) * coef (quos xs d) i := by
  unfold coef quos
  rw [List.getElem?_map]
  cases hx : xs[i]? with
  | none => simp
  | some x =>
    have := quo_mul (h x (List.mem_of_getElem? hx))
    simp only [Option.getD_some, Option.map_some]
    rw [Int.mul_comm]; exact this.symm
theorem flo_spec (c : Int) {d : Nat} (hd : 0 < d) : (d : Int) * flo c d ≤ c ∧ c < (d : Int) * flo c d + d := by
  have h1 := Int.mul_tdiv_add_tmod c (d : Int)
  have h2 := Int.tmod_lt_of_pos c (show (0 : Int) < d by omega)
  have h3 : -(d : Int) < c.tmod d := by
    have := Int.tmod_lt_of_pos (-c) (show (0 : Int) < d by omega)
    rw [Int.neg_tmod] at this
    omega
  unfold flo
  split
  · rw [Int.mul_sub, Int.mul_one]; omega
  · omega
theorem sign_flo {c S : Int} {d : Nat} (hd : 0 < d) : (0 ≤ flo c d + S) ↔ (0 ≤ c + (d : Int) * S) := by
  obtain ⟨h1, h2⟩ := flo_spec c hd
  have e : (d : Int) * (flo c d + S) = (d : Int) * flo c d + d * S := Int.mul_add _ _ _
  constructor
  · intro h
    have := Int.mul_nonneg (show (0 : Int) ≤ d by omega) h
    omega
  · intro h
    apply Int.not_lt.1
    intro hlt
    have := Int.mul_le_mul_of_nonneg_left (show flo c d + S ≤ -1 by omega) (show (0 : Int) ≤ d by omega)
    rw [Int.mul_neg, Int.mul_one] at this
    omega
theorem fTight_val {t : Term} {v : List Int} (h : vT t = true) (hd : 2 ≤ gcdL t.Coeffs) : (0 ≤ val (Term.mk (flo t.Const (gcdL t.Coeffs)) (quos t.Coeffs (gcdL t.Coeffs))) v) ↔ (0 ≤ val t v) := by
  unfold val
  simp only
  rw [sign_flo (d := gcdL t.Coeffs) (by omega), ← sumN_mul]
  rw [sumN_congr (f := fun i => (gcdL t.Coeffs : Int) * (coef (quos t.Coeffs (gcdL t.Coeffs)) i * coef v i)) (g := fun i => coef t.Coeffs i * coef v i) 10 (fun i _ => by
    rw [quos_coef (d := gcdL t.Coeffs) (fun x hx => gcdL_dvd hx) i, Int.mul_assoc])]
theorem sumN_shift (f : Nat → Int) : ∀ n, sumN f (n + 1) = f 0 + sumN (fun i => f (i + 1)) n := by
  intro n
  induction n with
  | zero => simp [sumN]
  | succ n ih => rw [show sumN f (n + 1 + 1) = sumN f (n + 1) + f (n + 1) from rfl, ih, show sumN (fun i => f (i + 1)) (n + 1) = sumN (fun i => f (i + 1)) n + f (n + 1) from rfl]; omega
theorem lin_cons (t : Term) (ts : List Term) (m : Int) (ms : List Int) (g : Term → Int) (n : Nat) : lin (t :: ts) (m :: ms) g (n + 1) = m * g t + lin ts ms g n := by
  unfold lin
  rw [sumN_shift]
  rfl
theorem val_lin (ts : List Term) (ms : List Int) (v : List Int) : ∀ n, lin ts ms Term.Const n + sumN (fun i => lin ts ms (fun t => coef t.Coeffs i) n * coef v i) 10 = lin ts ms (fun t => val t v) n := by
  intro n
  induction n with
  | zero => simp [lin, sumN]
  | succ n ih =>
    have e : ∀ g : Term → Int, lin ts ms g (n + 1) = lin ts ms g n + coef ms n * g (tAt ts n) := fun g => rfl
    simp only [e]
    rw [← ih]
    have e2 : sumN (fun i => (lin ts ms (fun t => coef t.Coeffs i) n + coef ms n * coef (tAt ts n).Coeffs i) * coef v i) 10 =
        sumN (fun i => lin ts ms (fun t => coef t.Coeffs i) n * coef v i) 10 + coef ms n * sumN (fun i => coef (tAt ts n).Coeffs i * coef v i) 10 := by
      rw [← sumN_mul, ← sumN_add]
      exact sumN_congr 10 (fun i _ => by rw [Int.add_mul, Int.mul_assoc])
    rw [e2]
    unfold val
    rw [Int.mul_add]
    omega
theorem prod_small {a b : Int} {A B : Int} (h1 : -A ≤ a ∧ a ≤ A) (h2 : -B ≤ b ∧ b ≤ B) : -(A * B) ≤ a * b ∧ a * b ≤ A * B := prod_rng h1.1 h1.2 h2.1 h2.2
theorem values_yes {v : List Int} (hv : Vals v) : m_impl_areValues v = some true := by
  unfold m_impl_areValues
  rw [decide_eq_true (by have := hv.1; omega), cond_true, impl_all, Option.bind_some]
  congr 1
  rw [List.all_eq_true]
  intro x hx
  have := hv.2 x hx
  rw [decide_eq_true (by omega), decide_eq_true (by omega)]; rfl
structure Fact (t : Term) (c : Nat) : Prop where
  v : vT t = true
  c : -(c : Int) ≤ t.Const ∧ t.Const ≤ c
  f : ∀ i, -3 ≤ coef t.Coeffs i ∧ coef t.Coeffs i ≤ 3
theorem Fact.mono {t : Term} {c c' : Nat} (h : Fact t c) (hc : c ≤ c') : Fact t c' := ⟨h.v, by have := h.c; omega, h.f⟩
theorem facts_inner {s : l00Src} {k : Nat} {n : Int} (h : Src s k) (hk : k ≤ 1000000) (hn : 0 ≤ n ∧ n ≤ 3) :
    ∃ c a sd xs, iter m_spec_B10Facts_L1 (s.code, s.at_, s.seed, [], n) = some (c, a, sd, xs) ∧ Src (l00Src.mk c a sd) (k + 4) ∧ xs.length ≤ 3 ∧ ∀ x ∈ xs, -3 ≤ x ∧ x ≤ 3 := by
  obtain ⟨u, eu, hu⟩ := iter_inv (step := m_spec_B10Facts_L1)
    (fun s => Src (l00Src.mk s.1 s.2.1 s.2.2.1) (k + s.2.2.2.1.length) ∧ 0 ≤ s.2.2.2.2 ∧ (s.2.2.2.1.length : Int) + s.2.2.2.2 ≤ 3 ∧ ∀ x ∈ s.2.2.2.1, -3 ≤ x ∧ x ≤ 3)
    (fun s => s.2.2.2.2.toNat) (fun u => Src (l00Src.mk u.1 u.2.1 u.2.2.1) (k + 4) ∧ u.2.2.2.length ≤ 3 ∧ ∀ x ∈ u.2.2.2, -3 ≤ x ∧ x ≤ 3)
    (fun ⟨c, a, sd, xs, n⟩ ⟨i1, i2, i3, i4⟩ => by
      simp only at i1 i2 i3 i4
      unfold m_spec_B10Facts_L1
      simp only
      by_cases hn : 0 < n
      · left
        obtain ⟨r, s', e, r1, r2, hS⟩ := pick_ok (n := 7) i1 (by omega) (by omega)
        rw [decide_eq_true hn, cond_true, e, Option.bind_some, capI_some (by simp; omega), Option.bind_some, w64_eq (n := r - 3) (by omega), w64_eq (n := n - 1) (by omega)]
        refine ⟨_, rfl, ⟨?_, by simp only; omega, by simp; omega, ?_⟩, by simp only; omega⟩
        · simp only [List.length_append, List.length_cons, List.length_nil]; exact hS.mono (by omega)
        · intro x hx
          simp only [List.mem_append, List.mem_singleton] at hx
          rcases hx with hx | rfl
          · exact i4 x hx
          · omega
      · right
        rw [decide_eq_false hn, cond_false]
        exact ⟨_, rfl, i1.mono (by omega), by simp only; omega, i4⟩)
    (s := (s.code, s.at_, s.seed, [], n)) ⟨h, hn.1, by simp; omega, by simp⟩
  exact ⟨u.1, u.2.1, u.2.2.1, u.2.2.2, eu, hu⟩
theorem make_fact {c : Int} {xs : List Int} (hc : -5 ≤ c ∧ c ≤ 5) (h : ∀ x ∈ xs, -3 ≤ x ∧ x ≤ 3) : Fact (chk (Term.mk c (trim xs))).1 5 := by
  unfold chk
  cases hv : vT (Term.mk c (trim xs)) with
  | false => exact ⟨rfl, by simp only [cond_false]; decide, fun i => by rw [show coef (bif false then (Term.mk c (trim xs), true) else (Term.mk 0 [], false)).1.Coeffs i = 0 from rfl]; omega⟩
  | true =>
    refine ⟨hv, by simp only [cond_true]; omega, fun i => ?_⟩
    simp only [cond_true]
    rw [trim_coef]
    exact list_coef h (by omega) i
def allHold (ts : List Term) (v : List Int) : Bool := ts.all fun t => !decide (val t v < 0)
theorem hold_ok {ts : List Term} {v : List Int} (h : ∀ t ∈ ts, vT t = true) (hl : ts.length ≤ 1048576) (hv : Vals v) : m_laws_b10Hold ts v = some (allHold ts v) := by
  have h2 := iter_for (step := m_laws_b10Hold_L0 ts v) ts (fun n (_ : Unit) => (n : Int)) (fun _ t _ => bif !decide (val t v < 0) then some (.next ()) else some (.out (.inr false))) (fun _ => .inl ())
    (fun n x r hx => by
      unfold m_laws_b10Hold_L0
      rw [dec_lt (get_lt hx), cond_true, getI_some hx, Option.bind_some, value_ok (h x (List.mem_of_getElem? hx)) hv, Option.bind_some]
      have hw : w64 ((n : Int) + 1) = ((n + 1 : Nat) : Int) := w64_succ (by have := get_lt hx; omega)
      cases decide (val x v < 0)
      · rw [hw]; rfl
      · rfl)
    (fun r => by unfold m_laws_b10Hold_L0; rw [dec_self]; rfl) ()
  rw [forL_all (fun t => !decide (val t v < 0)) _ _ (fun n x _ => rfl)] at h2
  unfold m_laws_b10Hold
  rw [show (0 : Int) = ((0 : Nat) : Int) from rfl, h2, Option.bind_some]
  unfold allHold
  cases ts.all fun t => !decide (val t v < 0) <;> rfl
theorem sumN_nonneg {f : Nat → Int} : ∀ n, (∀ i, i < n → 0 ≤ f i) → 0 ≤ sumN f n := by
  intro n
  induction n with
  | zero => intro _; exact Int.le_refl 0
  | succ n ih => intro h; have := ih (fun i hi => h i (by omega)); have := h n (by omega); unfold sumN; omega
theorem sumN_bnd {f : Nat → Int} {B : Int} : ∀ n : Nat, (∀ i, i < n → -B ≤ f i ∧ f i ≤ B) → -(n * B) ≤ sumN f n ∧ sumN f n ≤ n * B := by
  intro n
  induction n with
  | zero => intro _; simp [sumN]
  | succ n ih =>
    intro h
    have h1 := ih (fun i hi => h i (by omega))
    have h2 := h n (by omega)
    have e : ((n + 1 : Nat) : Int) * B = n * B + B := by rw [Int.natCast_add]; simp [Int.add_mul]
    rw [e]; unfold sumN; omega
end Go.Mod

namespace Go.Mod
open Go.AM
set_option linter.unusedVariables false
set_option linter.unusedSimpArgs false
theorem iter_cnt {σ τ : Type} {step : σ → Option (Ctl σ τ)} (st : Nat → σ) (N : Nat) {t : τ} (hs : ∀ k, k < N → step (st k) = some (.next (st (k + 1)))) (he : step (st N) = some (.out t)) :
    iter step (st 0) = some t := by
  have key : ∀ (q k : Nat), k + q = N → iter step (st k) = some t := by
    intro q
    induction q with
    | zero => intro k hk; obtain rfl : k = N := by omega
              exact iter_out he
    | succ q ih => intro k hk; rw [iter_next (hs k (by omega))]; exact ih (k + 1) (by omega)
  exact key N 0 (by omega)
theorem forL_map {α β τ : Type} {body : Nat → α → List β → Option (Ctl (List β) τ)} {fin : List β → τ} (f : Nat → β) (xs : List α)
    (hb : ∀ n x, xs[n]? = some x → body n x ((List.range n).map f) = some (.next ((List.range n).map f ++ [f n]))) : forL body fin 0 xs [] = some (fin ((List.range xs.length).map f)) := by
  obtain ⟨t, h1, h2⟩ := forL_inv (xs := xs) (step := body) (fin := fin) (fun n s => s = (List.range n).map f) (fun t => t = fin ((List.range xs.length).map f))
    (fun n x s hx hI => .inl ⟨(List.range n).map f ++ [f n], by rw [hI]; exact hb n x hx, by rw [List.range_succ, List.map_append]; rfl⟩) (fun s hI => by rw [hI]) (s := []) rfl
  rw [h1, h2]
def Far (x : Int) : Prop := -4000000000000 ≤ x ∧ x ≤ 4000000000000
theorem impl_gcdW {xs : List Int} (h : ∀ x ∈ xs, Far x) : m_impl_gcd xs = some ((gcdL xs : Nat) : Int) := by
  unfold m_impl_gcd
  rw [forL_fold (fun (d : Int) x => ((Nat.gcd d.toNat x.natAbs : Nat) : Int)) (fun _ d => 0 ≤ d) xs 0 0 (Int.le_refl 0) (fun n x d hx hd => by
    have hr := h x (List.mem_of_getElem? hx)
    unfold Far at hr
    unfold m_impl_gcd_L0 m_impl_absolute
    rw [Option.bind_some, w64_eq (by omega), show max x (0 - x) = ((x.natAbs : Nat) : Int) by omega, show d = ((d.toNat : Nat) : Int) by omega, impl_euclid, Option.bind_some]
    exact ⟨by rw [Int.toNat_natCast]; rfl, by omega⟩), Option.bind_some]
  have := foldl_cast xs 0
  exact congrArg some this
theorem tdiv_le (x : Int) (d : Nat) : (x.tdiv d).natAbs ≤ x.natAbs := by
  rw [Int.natAbs_tdiv]; exact Nat.div_le_self _ _
theorem quo_far {x : Int} {d : Nat} (hd : 0 < d) (h : Far x) : quoI x (d : Int) = some (x.tdiv d) := by
  unfold Far at h
  have := tdiv_le x d
  unfold quoI
  rw [decide_eq_false (by omega), cond_false, w64_eq (by omega)]
def part (xs : List Int) (d k : Nat) : List Int := quos (xs.take k) d ++ xs.drop k
theorem part_get {xs : List Int} {d k : Nat} {x : Int} (h : xs[k]? = some x) : (part xs d k)[k]? = some x := by
  have hk := get_lt h
  unfold part quos
  rw [List.getElem?_append_right (by simp; omega)]
  simp only [List.length_map, List.length_take]
  rw [List.getElem?_drop, show k + (k - min k xs.length) = k by omega, h]
theorem part_set {xs : List Int} {d k : Nat} {x : Int} (h : xs[k]? = some x) : (part xs d k).set k (x.tdiv d) = part xs d (k + 1) := by
  have hk := get_lt h
  unfold part quos
  rw [List.set_append_right _ _ (by simp; omega)]
  simp only [List.length_map, List.length_take]
  rw [show k - min k xs.length = 0 by omega, List.take_add_one, h, List.map_append, List.append_assoc]
  congr 1
  rw [List.drop_eq_getElem_cons hk]
  have : xs[k] = x := by rw [List.getElem?_eq_getElem hk] at h; exact Option.some.inj h
  simp [this]
theorem part_zero (xs : List Int) (d : Nat) : part xs d 0 = xs := by simp [part, quos]
theorem part_end (xs : List Int) (d : Nat) : part xs d xs.length = quos xs d := by simp [part]
structure RowOK (n : Nat) (x : combination) : Prop where
  v : vT x.term = true
  len : x.by_.length = n
  rng : ∀ m ∈ x.by_, 0 ≤ m ∧ m ≤ 1000000
  pos : ∃ m ∈ x.by_, m ≠ 0
theorem RowOK.coefB {n : Nat} {x : combination} (h : RowOK n x) (j : Nat) : 0 ≤ coef x.by_ j ∧ coef x.by_ j ≤ 1000000 := by
  unfold coef
  cases hx : x.by_[j]? with
  | none => simp
  | some y => exact h.rng y (List.mem_of_getElem? hx)
def mxG (p q : combination) (k : Nat) : Nat := Nat.gcd (coef p.term.Coeffs k).natAbs (coef q.term.Coeffs k).natAbs
def mxM (p q : combination) (k : Nat) : Int := (coef p.term.Coeffs k).tdiv (mxG p q k)
def mxN (p q : combination) (k : Nat) : Int := (-coef q.term.Coeffs k).tdiv (mxG p q k)
def mxC (p q : combination) (k : Nat) : Int := mxN p q k * p.term.Const + mxM p q k * q.term.Const
def mxV (p q : combination) (k i : Nat) : Int := mxN p q k * coef p.term.Coeffs i + mxM p q k * coef q.term.Coeffs i
def mxJ (p q : combination) (k j : Nat) : Int := mxN p q k * coef p.by_ j + mxM p q k * coef q.by_ j
def mxB (p q : combination) (k : Nat) : List Int := (List.range p.by_.length).map (mxJ p q k)
def mxD (p q : combination) (k : Nat) : Nat := gcdL (mxC p q k :: (tab (mxV p q k) ++ mxB p q k))
def mxR (p q : combination) (k : Nat) : combination := combination.mk (Term.mk ((mxC p q k).tdiv (mxD p q k)) (quos (trim (tab (mxV p q k))) (mxD p q k))) (quos (mxB p q k) (mxD p q k))
def mixR (p q : combination) (k : Nat) : combination × Bool := (mxR p q k, vT (mxR p q k).term && (mxR p q k).by_.all inR)
structure Two (n : Nat) (p q : combination) (k : Nat) : Prop where
  rp : RowOK n p
  rq : RowOK n q
  a : 0 < coef p.term.Coeffs k
  b : coef q.term.Coeffs k < 0
  n : n ≤ 14
section
variable {n k : Nat} {p q : combination}
theorem Two.g (h : Two n p q k) : 0 < mxG p q k := Nat.gcd_pos_of_pos_left _ (by have := h.a; omega)
theorem Two.mEq (h : Two n p q k) : mxM p q k * (mxG p q k : Int) = coef p.term.Coeffs k := quo_mul (Nat.gcd_dvd_left _ _)
theorem Two.nEq (h : Two n p q k) : mxN p q k * (mxG p q k : Int) = -coef q.term.Coeffs k := quo_mul (by rw [Int.natAbs_neg]; exact Nat.gcd_dvd_right _ _)
theorem Two.m (h : Two n p q k) : 1 ≤ mxM p q k ∧ mxM p q k ≤ 1000000 := by
  have h1 := h.mEq; have h2 := h.a; have h3 := coef_rng h.rp.v k; have h4 := tdiv_le (coef p.term.Coeffs k) (mxG p q k)
  have h5 : 0 ≤ mxM p q k := Int.tdiv_nonneg (by omega) (by omega)
  have h6 : mxM p q k ≠ 0 := fun e => by rw [e, Int.zero_mul] at h1; omega
  unfold mxM at h5 h6 ⊢
  omega
theorem Two.nn (h : Two n p q k) : 1 ≤ mxN p q k ∧ mxN p q k ≤ 1000000 := by
  have h1 := h.nEq; have h2 := h.b; have h3 := coef_rng h.rq.v k; have h4 := tdiv_le (-coef q.term.Coeffs k) (mxG p q k)
  have h5 : 0 ≤ mxN p q k := Int.tdiv_nonneg (by omega) (by omega)
  have h6 : mxN p q k ≠ 0 := fun e => by rw [e, Int.zero_mul] at h1; omega
  unfold mxN at h5 h6 ⊢
  omega
theorem Two.two (h : Two n p q k) {x y : Int} (hx : -1000000 ≤ x ∧ x ≤ 1000000) (hy : -1000000 ≤ y ∧ y ≤ 1000000) :
    (-1000000000000 ≤ mxN p q k * x ∧ mxN p q k * x ≤ 1000000000000) ∧ (-1000000000000 ≤ mxM p q k * y ∧ mxM p q k * y ≤ 1000000000000) :=
  ⟨mul_rng (by have := h.nn; omega) hx, mul_rng (by have := h.m; omega) hy⟩
theorem Two.far (h : Two n p q k) {x y : Int} (hx : -1000000 ≤ x ∧ x ≤ 1000000) (hy : -1000000 ≤ y ∧ y ≤ 1000000) : Far (mxN p q k * x + mxM p q k * y) := by
  have := h.two hx hy; unfold Far; omega
theorem Two.wide (h : Two n p q k) {x y : Int} (hx : -1000000 ≤ x ∧ x ≤ 1000000) (hy : -1000000 ≤ y ∧ y ≤ 1000000) :
    w64 (w64 (mxN p q k * x) + w64 (mxM p q k * y)) = mxN p q k * x + mxM p q k * y := by
  have := h.two hx hy
  rw [w64_eq (n := mxN p q k * x) (by omega), w64_eq (n := mxM p q k * y) (by omega), w64_eq (by omega)]
theorem Two.farC (h : Two n p q k) : Far (mxC p q k) := h.far (const_rng h.rp.v) (const_rng h.rq.v)
theorem Two.farV (h : Two n p q k) (i : Nat) : Far (mxV p q k i) := h.far (coef_rng h.rp.v i) (coef_rng h.rq.v i)
theorem Two.farJ (h : Two n p q k) (j : Nat) : Far (mxJ p q k j) := h.far (by have := h.rp.coefB j; omega) (by have := h.rq.coefB j; omega)
theorem Two.farAll (h : Two n p q k) : ∀ x ∈ mxC p q k :: (tab (mxV p q k) ++ mxB p q k), Far x := by
  intro x hx
  simp only [List.mem_cons, List.mem_append] at hx
  rcases hx with rfl | hx | hx
  · exact h.farC
  · obtain ⟨i, _, rfl⟩ := List.mem_map.1 hx; exact h.farV i
  · obtain ⟨i, _, rfl⟩ := List.mem_map.1 hx; exact h.farJ i
theorem Two.bpos (h : Two n p q k) : ∃ j, j < p.by_.length ∧ 0 < mxJ p q k j := by
  obtain ⟨m, hm, hne⟩ := h.rp.pos
  obtain ⟨j, hj⟩ := List.getElem?_of_mem hm
  refine ⟨j, get_lt hj, ?_⟩
  have h1 := h.rp.rng m hm
  have h2 := h.nn.1; have h3 := h.m.1; have h4 := (h.rq.coefB j).1
  unfold mxJ
  rw [coef_get hj]
  have h5 : 0 < mxN p q k * m := Int.mul_pos (by omega) (by omega)
  have h6 : 0 ≤ mxM p q k * coef q.by_ j := Int.mul_nonneg (by omega) h4
  omega
theorem Two.d (h : Two n p q k) : 0 < mxD p q k := by
  obtain ⟨j, hj, hp⟩ := h.bpos
  have : mxD p q k ∣ (mxJ p q k j).natAbs := gcdL_dvd (by simp only [List.mem_cons, List.mem_append]; exact .inr (.inr (List.mem_map.2 ⟨j, List.mem_range.2 hj, rfl⟩)))
  exact Nat.pos_of_dvd_of_pos this (by omega)
theorem mxD_c : mxD p q k ∣ (mxC p q k).natAbs := gcdL_dvd (by simp)
theorem mxD_v {x : Int} (h : x ∈ tab (mxV p q k)) : mxD p q k ∣ x.natAbs := gcdL_dvd (by simp [h])
theorem mxD_b {x : Int} (h : x ∈ mxB p q k) : mxD p q k ∣ x.natAbs := gcdL_dvd (by simp [h])
theorem mem_trim {xs : List Int} {x : Int} (h : x ∈ trim xs) : x ∈ xs := List.mem_of_mem_take h
theorem trim_mem {xs : List Int} {x : Int} (h : x ∈ xs) (h0 : x ≠ 0) : x ∈ trim xs := by
  obtain ⟨i, hi⟩ := List.getElem?_of_mem h
  have := trim_coef xs i
  rw [coef_get hi] at this
  unfold coef at this
  cases ht : (trim xs)[i]? with
  | none => rw [ht] at this; exact absurd this.symm h0
  | some y => rw [ht] at this; simp only [Option.getD_some] at this; rw [← this]; exact List.mem_of_getElem? ht
theorem gcdL_trim (c : Int) (xs ys : List Int) : gcdL ([c] ++ trim xs ++ ys) = gcdL (c :: (xs ++ ys)) := by
  refine Nat.dvd_antisymm (dvd_gcdL fun x hx => ?_) (dvd_gcdL fun x hx => ?_)
  · simp only [List.mem_cons, List.mem_append] at hx
    by_cases h0 : x = 0
    · subst h0; exact Nat.dvd_zero _
    · refine gcdL_dvd ?_
      simp only [List.mem_append, List.mem_singleton]
      rcases hx with h | h | h
      · exact .inl (.inl h)
      · exact .inl (.inr (trim_mem h h0))
      · exact .inr h
  · simp only [List.mem_append, List.mem_singleton] at hx
    refine gcdL_dvd ?_
    simp only [List.mem_cons, List.mem_append]
    rcases hx with (h | h) | h
    · exact .inl h
    · exact .inr (.inl (mem_trim h))
    · exact .inr (.inr h)
theorem impl_coeff {t : Term} {i : Nat} (hl : t.Coeffs.length ≤ 10) : m_impl_Term_coeff t (i : Int) = some (coef t.Coeffs i) := by
  unfold m_impl_Term_coeff
  by_cases h : i < t.Coeffs.length
  · rw [decide_eq_true (by omega), cond_true, getI_some (List.getElem?_eq_getElem h), Option.bind_some, coef_get (List.getElem?_eq_getElem h)]
  · rw [decide_eq_false (by omega), cond_false, coef_no (by omega)]
theorem lin_two (p q : Term) (a b : Int) (g : Term → Int) : lin [p, q] [a, b] g 2 = a * g p + b * g q := by
  rw [show (2 : Nat) = 1 + 1 from rfl, lin_cons, lin_one]
theorem Two.negq (h : Two n p q k) : w64 (0 - coef q.term.Coeffs k) = -coef q.term.Coeffs k := by
  have := coef_rng h.rq.v k
  rw [w64_eq (by omega)]; omega
theorem iter_part {xs : List Int} {d : Nat} {step : List Int × Int → Option (Ctl (List Int × Int) (List Int))} (hd : 0 < d) (hl : xs.length ≤ 1000) (hx : ∀ x ∈ xs, Far x)
    (hs : ∀ (s : List Int) (i : Int), step (s, i) = bif decide (i < (xs.length : Int)) then (getI s i).bind fun x => (quoI x (d : Int)).bind fun q => some (.next (s.set i.toNat q, w64 (i + 1))) else some (.out s)) :
    iter step (xs, 0) = some (quos xs d) := by
  have h := iter_cnt (step := step) (fun k => (part xs d k, (k : Int))) xs.length (t := quos xs d) (fun k hk => by
    have hg : xs[k]? = some xs[k] := List.getElem?_eq_getElem hk
    rw [hs, dec_lt hk, cond_true, getI_some (part_get hg), Option.bind_some, quo_far hd (hx _ (List.getElem_mem hk)), Option.bind_some, Int.toNat_natCast, part_set hg, w64_succ (by omega)])
    (by rw [hs, dec_self, cond_false, part_end])
  rw [part_zero] at h
  exact h
theorem impl_mix (h : Two n p q k) (hk : k < 10) : m_impl_cancelled p q (k : Int) = some (mixR p q k) := by
  have lp := vT_len h.rp.v
  have lq := vT_len h.rq.v
  have hlen : p.by_.length ≤ 14 := by rw [h.rp.len]; exact h.n
  have hg : ∀ x ∈ [coef p.term.Coeffs k, -coef q.term.Coeffs k], Far x := by
    have h1 := coef_rng h.rp.v k; have h2 := coef_rng h.rq.v k
    intro x hx
    simp only [List.mem_cons, List.not_mem_nil, or_false] at hx
    unfold Far
    rcases hx with rfl | rfl <;> omega
  have hgc : gcdL [coef p.term.Coeffs k, -coef q.term.Coeffs k] = mxG p q k := by
    unfold gcdL mxG
    simp only [List.foldl_cons, List.foldl_nil, Nat.gcd_zero_left, Int.natAbs_neg]
  have hL : Lin [p.term, q.term] [mxN p q k, mxM p q k] := ⟨by simp [h.rp.v, h.rq.v], by
    have h1 := h.m; have h2 := h.nn
    intro x hx
    simp only [List.mem_cons, List.not_mem_nil, or_false] at hx
    unfold mOK
    rcases hx with rfl | rfl <;> omega, by simp, rfl⟩
  unfold m_impl_cancelled
  rw [impl_coeff lp, Option.bind_some, impl_coeff lq, Option.bind_some, h.negq, impl_gcdW hg, Option.bind_some, hgc]
  rw [quo_far h.g (hg _ (by simp)), Option.bind_some, quo_far h.g (hg _ (by simp)), Option.bind_some]
  rw [show (coef p.term.Coeffs k).tdiv (mxG p q k) = mxM p q k from rfl, show (-coef q.term.Coeffs k).tdiv (mxG p q k) = mxN p q k from rfl]
  rw [impl_combined hL, Option.bind_some]
  simp only [List.length_cons, List.length_nil, Nat.zero_add, Nat.reduceAdd, lin_two]
  rw [show mxN p q k * p.term.Const + mxM p q k * q.term.Const = mxC p q k from rfl, show (fun i => mxN p q k * coef p.term.Coeffs i + mxM p q k * coef q.term.Coeffs i) = mxV p q k from rfl]
  rw [forL_map (mxJ p q k) p.by_ (fun j x hx => by
    have hj := get_lt hx
    have hjq : j < q.by_.length := by rw [h.rq.len, ← h.rp.len]; exact hj
    unfold m_impl_cancelled_L0
    rw [getI_some (List.getElem?_eq_getElem hjq), Option.bind_some, ← coef_get hx, ← coef_get (List.getElem?_eq_getElem hjq)]
    rw [h.wide (by have := h.rp.coefB j; omega) (by have := h.rq.coefB j; omega), capI_some (by simp; omega)]; rfl), Option.bind_some]
  unfold m_impl_cancelled_A0
  have hbl : (mxB p q k).length = p.by_.length := by simp [mxB]
  have htl : (trim (tab (mxV p q k))).length ≤ 10 := by have := trim_len (tab (mxV p q k)); rw [tab_len] at this; exact this
  rw [show (List.range p.by_.length).map (mxJ p q k) = mxB p q k from rfl]
  simp only
  rw [capI_some (by simp; omega), Option.bind_some, capI_some (by simp; omega), Option.bind_some]
  have hall := h.farAll
  have hfar : ∀ x ∈ [mxC p q k] ++ trim (tab (mxV p q k)) ++ mxB p q k, Far x := fun x hx => by
    simp only [List.mem_append, List.mem_singleton] at hx
    refine hall x ?_
    simp only [List.mem_cons, List.mem_append]
    rcases hx with (h | h) | h
    · exact .inl h
    · exact .inr (.inl (mem_trim h))
    · exact .inr (.inr h)
  rw [impl_gcdW hfar, Option.bind_some, gcdL_trim, show gcdL (mxC p q k :: (tab (mxV p q k) ++ mxB p q k)) = mxD p q k from rfl, quo_far h.d h.farC, Option.bind_some]
  rw [iter_part (xs := trim (tab (mxV p q k))) (d := mxD p q k) h.d (by omega) (fun x hx => hfar x (by simp [hx])) (fun s i => rfl), Option.bind_some]
  unfold m_impl_cancelled_A1
  rw [iter_part (xs := mxB p q k) (d := mxD p q k) h.d (by omega) (fun x hx => hfar x (by simp [hx])) (fun s i => rfl), Option.bind_some]
  unfold m_impl_cancelled_A2
  rw [impl_valid, Option.bind_some, impl_all, Option.bind_some]
  unfold mixR
  rw [show Term.mk ((mxC p q k).tdiv (mxD p q k)) (quos (trim (tab (mxV p q k))) (mxD p q k)) = (mxR p q k).term from rfl]
  cases vT (mxR p q k).term <;> rfl
end
end Go.Mod

namespace Go.Mod
open Go.AM
set_option linter.unusedVariables false
set_option linter.unusedSimpArgs false
section
variable {n k : Nat} {p q : combination}
theorem coef_quos (xs : List Int) (d i : Nat) : coef (quos xs d) i = (coef xs i).tdiv d := by
  unfold coef quos
  rw [List.getElem?_map]
  cases xs[i]? with
  | none => simp
  | some x => rfl
theorem mxV_coef (h : Two n p q k) (i : Nat) (hi : i < 10) : coef (mxR p q k).term.Coeffs i = (mxV p q k i).tdiv (mxD p q k) := by
  unfold mxR
  simp only
  rw [coef_quos, trim_coef, tab_coef, if_pos hi]
theorem mx_ok (h : Two n p q k) (hf : (mixR p q k).2 = true) : RowOK n (mxR p q k) := by
  unfold mixR at hf
  simp only [Bool.and_eq_true, List.all_eq_true] at hf
  have hlen : (mxR p q k).by_.length = n := by unfold mxR mxB quos; simp; exact h.rp.len
  refine ⟨hf.1, hlen, fun m hm => ?_, ?_⟩
  · have h1 := inR_iff.1 (hf.2 m hm)
    refine ⟨?_, h1.2⟩
    unfold mxR quos at hm
    obtain ⟨y, hy, rfl⟩ := List.mem_map.1 hm
    unfold mxB at hy
    obtain ⟨j, _, rfl⟩ := List.mem_map.1 hy
    refine Int.tdiv_nonneg ?_ (Int.natCast_nonneg _)
    unfold mxJ
    have h2 := h.nn.1; have h3 := h.m.1
    exact Int.add_nonneg (Int.mul_nonneg (by omega) (h.rp.coefB j).1) (Int.mul_nonneg (by omega) (h.rq.coefB j).1)
  · obtain ⟨j, hj, hp⟩ := h.bpos
    have hm : mxJ p q k j ∈ mxB p q k := List.mem_map.2 ⟨j, List.mem_range.2 hj, rfl⟩
    exact ⟨(mxJ p q k j).tdiv (mxD p q k), List.mem_map.2 ⟨_, hm, rfl⟩, tdiv_ne h.d (by omega) (mxD_b hm)⟩
theorem mx_zero (h : Two n p q k) (hk : k < 10) : coef (mxR p q k).term.Coeffs k = 0 := by
  rw [mxV_coef h k hk]
  have : mxV p q k k = 0 := by
    unfold mxV
    have h1 := h.mEq; have h2 := h.nEq
    have e : coef q.term.Coeffs k = -(mxN p q k * (mxG p q k : Int)) := by omega
    rw [e, ← h1, Int.mul_neg, ← Int.mul_assoc, ← Int.mul_assoc, Int.mul_comm (mxN p q k)]
    omega
  rw [this]; simp
theorem mx_gone (h : Two n p q k) {i : Nat} (hi : i < 10) (hp : coef p.term.Coeffs i = 0) (hq : coef q.term.Coeffs i = 0) : coef (mxR p q k).term.Coeffs i = 0 := by
  rw [mxV_coef h i hi]
  unfold mxV
  rw [hp, hq]; simp
end
end Go.Mod

namespace Go.Mod
open Go.AM
set_option linter.unusedVariables false
set_option linter.unusedSimpArgs false
def keep (k : Nat) (rows : List combination) : List combination := rows.filter fun x => decide (coef x.term.Coeffs k = 0)
def inS (k cnt : Nat) (p : combination) : List combination → List combination → Option (List combination)
  | [], acc => some acc
  | q :: r, acc => if coef p.term.Coeffs k ≤ 0 then inS k cnt p r acc else if 0 ≤ coef q.term.Coeffs k then inS k cnt p r acc
    else if (mixR p q k).2 = false ∨ cnt + acc.length = 60 then none else inS k cnt p r (acc ++ [(mixR p q k).1])
def outS (k cnt : Nat) (rows : List combination) : List combination → List combination → Option (List combination)
  | [], acc => some acc
  | p :: r, acc => match inS k cnt p rows acc with
    | some a => outS k cnt rows r a
    | none => none
def stage (k : Nat) (rows : List combination) : Option (List combination) := outS k (keep k rows).length rows rows []
def elimF : List Nat → List combination → List combination → Option (List combination × List combination)
  | [], rows, news => some (rows, news)
  | k :: ks, rows, news => match stage k rows with
    | some a => elimF ks (keep k rows ++ a) (news ++ a)
    | none => none
theorem inner_inv {n k cnt : Nat} {p : combination} (I : combination → Prop) (hp : RowOK n p ∧ I p) (hn : n ≤ 14) (hm : ∀ p q, I p → I q → Two n p q k → (mixR p q k).2 = true → I (mxR p q k)) :
    ∀ (r acc a : List combination), (∀ x ∈ r, RowOK n x ∧ I x) → (∀ x ∈ acc, RowOK n x ∧ I x) → cnt + acc.length ≤ 60 → inS k cnt p r acc = some a → (∀ x ∈ a, RowOK n x ∧ I x) ∧ cnt + a.length ≤ 60 := by
  intro r
  induction r with
  | nil => intro acc a _ h2 h3 h; cases h; exact ⟨h2, h3⟩
  | cons q r ih =>
    intro acc a h1 h2 h3 h
    have hr : ∀ x ∈ r, RowOK n x ∧ I x := fun x hx => h1 x (by simp [hx])
    unfold inS at h
    by_cases c1 : coef p.term.Coeffs k ≤ 0
    · rw [if_pos c1] at h; exact ih acc a hr h2 h3 h
    · rw [if_neg c1] at h
      by_cases c2 : 0 ≤ coef q.term.Coeffs k
      · rw [if_pos c2] at h; exact ih acc a hr h2 h3 h
      · rw [if_neg c2] at h
        have hq := h1 q (by simp)
        have two : Two n p q k := ⟨hp.1, hq.1, by omega, by omega, hn⟩
        by_cases c3 : (mixR p q k).2 = false ∨ cnt + acc.length = 60
        · rw [if_pos c3] at h; cases h
        · rw [if_neg c3] at h
          have c4 : (mixR p q k).2 = true := by
            cases hf : (mixR p q k).2 with
            | true => rfl
            | false => exact absurd (.inl hf) c3
          have c5 : cnt + acc.length ≠ 60 := fun e => c3 (.inr e)
          refine ih _ a hr (fun x hx => ?_) (by simp; omega) h
          rcases List.mem_append.1 hx with hx | hx
          · exact h2 x hx
          · rw [List.mem_singleton.1 hx]; exact ⟨mx_ok two c4, hm _ _ hp.2 hq.2 two c4⟩
theorem outer_inv {n k cnt : Nat} {rows : List combination} (I : combination → Prop) (hrows : ∀ x ∈ rows, RowOK n x ∧ I x) (hn : n ≤ 14) (hm : ∀ p q, I p → I q → Two n p q k → (mixR p q k).2 = true → I (mxR p q k)) :
    ∀ (r acc a : List combination), (∀ x ∈ r, RowOK n x ∧ I x) → (∀ x ∈ acc, RowOK n x ∧ I x) → cnt + acc.length ≤ 60 → outS k cnt rows r acc = some a → (∀ x ∈ a, RowOK n x ∧ I x) ∧ cnt + a.length ≤ 60 := by
  intro r
  induction r with
  | nil => intro acc a _ h2 h3 h; cases h; exact ⟨h2, h3⟩
  | cons p r ih =>
    intro acc a h1 h2 h3 h
    unfold outS at h
    cases hi : inS k cnt p rows acc with
    | none => rw [hi] at h; cases h
    | some b =>
      rw [hi] at h
      obtain ⟨g1, g2⟩ := inner_inv I (h1 p (by simp)) hn hm rows acc b hrows h2 h3 hi
      exact ih b a (fun x hx => h1 x (by simp [hx])) g1 g2 h
theorem keep_len (k : Nat) (rows : List combination) : (keep k rows).length ≤ rows.length := List.length_filter_le _ _
theorem stage_inv {n k : Nat} {rows a : List combination} (I : combination → Prop) (hrows : ∀ x ∈ rows, RowOK n x ∧ I x) (hl : rows.length ≤ 60) (hn : n ≤ 14)
    (hm : ∀ p q, I p → I q → Two n p q k → (mixR p q k).2 = true → I (mxR p q k)) (h : stage k rows = some a) :
    (∀ x ∈ keep k rows ++ a, RowOK n x ∧ I x) ∧ (keep k rows ++ a).length ≤ 60 ∧ ∀ x ∈ a, RowOK n x ∧ I x := by
  have hk := keep_len k rows
  obtain ⟨g1, g2⟩ := outer_inv (cnt := (keep k rows).length) I hrows hn hm rows [] a hrows (by simp) (by simp; omega) h
  refine ⟨fun x hx => ?_, by simp; omega, g1⟩
  rcases List.mem_append.1 hx with hx | hx
  · exact hrows x (List.mem_filter.1 hx).1
  · exact g1 x hx
theorem impl_inner {n k : Nat} {p : combination} (hk : k < 10) (hn : n ≤ 14) (hp : RowOK n p) {kept news0 : List combination} (hnews : news0.length ≤ 1000) : ∀ (r acc : List combination) (m : Nat), (∀ x ∈ r, RowOK n x) → kept.length + acc.length ≤ 60 →
    forL (m_impl_eliminated_L4 (k : Int) p) (fun s4 => (.inl (s4.1, s4.2))) m r (news0 ++ acc, kept ++ acc) = some (match inS k kept.length p r acc with | some a => .inl (news0 ++ a, kept ++ a) | none => .inr ([], [], false)) := by
  intro r
  induction r with
  | nil => intro acc m _ _; rfl
  | cons q r ih =>
    intro acc m h1 h2
    have hq := h1 q (by simp)
    have hr : ∀ x ∈ r, RowOK n x := fun x hx => h1 x (by simp [hx])
    have lp := vT_len hp.v
    have lq := vT_len hq.v
    unfold forL inS
    by_cases c1 : coef p.term.Coeffs k ≤ 0
    · rw [show m_impl_eliminated_L4 (k : Int) p m q (news0 ++ acc, kept ++ acc) = some (.next (news0 ++ acc, kept ++ acc)) by
        unfold m_impl_eliminated_L4; rw [impl_coeff lp, Option.bind_some, decide_eq_true c1, cond_true], if_pos c1]
      exact ih acc (m + 1) hr h2
    · by_cases c2 : 0 ≤ coef q.term.Coeffs k
      · rw [show m_impl_eliminated_L4 (k : Int) p m q (news0 ++ acc, kept ++ acc) = some (.next (news0 ++ acc, kept ++ acc)) by
          unfold m_impl_eliminated_L4; rw [impl_coeff lp, Option.bind_some, decide_eq_false c1, cond_false, impl_coeff lq, Option.bind_some, decide_eq_true c2, cond_true], if_neg c1, if_pos c2]
        exact ih acc (m + 1) hr h2
      · have two : Two n p q k := ⟨hp, hq, by omega, by omega, hn⟩
        have hs : m_impl_eliminated_L4 (k : Int) p m q (news0 ++ acc, kept ++ acc) = bif (!(mixR p q k).2) || decide (((kept ++ acc).length : Int) = 60) then some (.out (.inr ([], [], false))) else
            some (.next (news0 ++ (acc ++ [(mixR p q k).1]), kept ++ (acc ++ [(mixR p q k).1]))) := by
          unfold m_impl_eliminated_L4
          rw [impl_coeff lp, Option.bind_some, decide_eq_false c1, cond_false, impl_coeff lq, Option.bind_some, decide_eq_false c2, cond_false, impl_mix two hk, Option.bind_some]
          simp only
          rw [capI_some (by simp; omega), Option.bind_some, capI_some (by simp; omega), Option.bind_some, List.append_assoc, List.append_assoc]
        rw [hs, if_neg c1, if_neg c2]
        by_cases c3 : (mixR p q k).2 = false ∨ kept.length + acc.length = 60
        · rw [if_pos c3]
          have : ((!(mixR p q k).2) || decide (((kept ++ acc).length : Int) = 60)) = true := by
            rcases c3 with c3 | c3
            · rw [c3]; rfl
            · rw [decide_eq_true (by rw [List.length_append, c3]; rfl), Bool.or_true]
          rw [this]; rfl
        · rw [if_neg c3]
          have c5 : kept.length + acc.length ≠ 60 := fun e => c3 (.inr e)
          have : ((!(mixR p q k).2) || decide (((kept ++ acc).length : Int) = 60)) = false := by
            rw [decide_eq_false (by simp; omega), Bool.or_false]
            cases hf : (mixR p q k).2 with
            | true => rfl
            | false => exact absurd (.inl hf) c3
          rw [this]
          exact ih _ (m + 1) hr (by simp; omega)
theorem impl_outer {n k : Nat} {rows nw : List combination} (hk : k < 10) (hn : n ≤ 14) (hrows : ∀ x ∈ rows, RowOK n x) {kept news0 : List combination} (hnews : news0.length ≤ 1000) : ∀ (r acc : List combination) (m : Nat), (∀ x ∈ r, RowOK n x) → (∀ x ∈ acc, RowOK n x) → kept.length + acc.length ≤ 60 →
    forL (m_impl_eliminated_L3 (rows, nw) (k : Int)) (fun s3 => (.inl (s3.1, s3.2))) m r (news0 ++ acc, kept ++ acc) = some (match outS k kept.length rows r acc with | some a => .inl (news0 ++ a, kept ++ a) | none => .inr ([], [], false)) := by
  intro r
  induction r with
  | nil => intro acc m _ _ _; rfl
  | cons p r ih =>
    intro acc m h1 h2 h3
    have hp := h1 p (by simp)
    have hs : m_impl_eliminated_L3 (rows, nw) (k : Int) m p (news0 ++ acc, kept ++ acc) = match inS k kept.length p rows acc with
        | some a => some (.next (news0 ++ a, kept ++ a)) | none => some (.out (.inr ([], [], false))) := by
      unfold m_impl_eliminated_L3
      simp only
      rw [impl_inner hk hn hp hnews rows acc 0 hrows h3, Option.bind_some]
      cases inS k kept.length p rows acc <;> rfl
    unfold forL outS
    rw [hs]
    cases hi : inS k kept.length p rows acc with
    | none => rfl
    | some b =>
      obtain ⟨g1, g2⟩ := inner_inv (fun _ => True) ⟨hp, trivial⟩ hn (fun _ _ _ _ _ _ => trivial) rows acc b (fun x hx => ⟨hrows x hx, trivial⟩) (fun x hx => ⟨h2 x hx, trivial⟩) h3 hi
      exact ih b (m + 1) (fun x hx => h1 x (by simp [hx])) (fun x hx => (g1 x hx).1) g2
theorem keep_take {k j : Nat} {rows : List combination} {x : combination} (hx : rows[j]? = some x) : keep k (rows.take (j + 1)) = bif decide (coef x.term.Coeffs k = 0) then keep k (rows.take j) ++ [x] else keep k (rows.take j) := by
  unfold keep
  rw [List.take_add_one, hx, List.filter_append]
  simp only [Option.toList_some]
  by_cases h : coef x.term.Coeffs k = 0
  · rw [decide_eq_true h, cond_true]; simp [h]
  · rw [decide_eq_false h, cond_false]; simp [h]
theorem impl_keep {n k : Nat} {rows : List combination} (hrows : ∀ x ∈ rows, RowOK n x) (hl : rows.length ≤ 60) : forL (m_impl_eliminated_L2 (k : Int)) (fun s2 => s2) 0 rows [] = some (keep k rows) := by
  obtain ⟨t, h1, h2⟩ := forL_inv (xs := rows) (step := m_impl_eliminated_L2 (k : Int)) (fin := fun s2 => s2) (fun j s => s = keep k (rows.take j)) (fun t => t = keep k rows)
    (fun j x s hx hI => .inl ⟨keep k (rows.take (j + 1)), by
      have hr := hrows x (List.mem_of_getElem? hx)
      have hkl := keep_len k (rows.take j)
      have hj := get_lt hx
      rw [List.length_take] at hkl
      unfold m_impl_eliminated_L2
      rw [impl_coeff (vT_len hr.v), Option.bind_some, keep_take hx, hI]
      cases decide (coef x.term.Coeffs k = 0) with
      | true => rw [cond_true, cond_true, capI_some (by simp; omega)]; rfl
      | false => rfl, rfl⟩)
    (fun s hI => by rw [hI, List.take_length]) (s := []) (by simp [keep])
  rw [h1, h2]
def Rws (n : Nat) (rows : List combination) : Prop := (∀ x ∈ rows, RowOK n x) ∧ rows.length ≤ 60
theorem Rws.next {n k : Nat} {rows a : List combination} (h : Rws n rows) (hn : n ≤ 14) (hs : stage k rows = some a) : Rws n (keep k rows ++ a) ∧ a.length ≤ 60 := by
  obtain ⟨h1, h2, _⟩ := stage_inv (fun _ => True) (fun x hx => ⟨h.1 x hx, trivial⟩) h.2 hn (fun _ _ _ _ _ _ => trivial) hs
  exact ⟨⟨fun x hx => (h1 x hx).1, h2⟩, by simp at h2; omega⟩
theorem impl_elim {n : Nat} (hn : n ≤ 14) : ∀ (ks : List Nat) (m : Nat) (rows news : List combination), (∀ k ∈ ks, k < 10) → Rws n rows → news.length + 60 * ks.length ≤ 1000 →
    forL m_impl_eliminated_L1 (fun s1 => (.inl (s1.1, s1.2))) m (ks.map fun (k : Nat) => (k : Int)) (rows, news) = some (match elimF ks rows news with | some r => .inl (r.1, r.2) | none => .inr ([], [], false)) := by
  intro ks
  induction ks with
  | nil => intro m rows news _ _ _; rfl
  | cons k ks ih =>
    intro m rows news hks hr hl
    have hk := hks k (by simp)
    have hkl := keep_len k rows
    have hl60 := hr.2
    have hs : m_impl_eliminated_L1 m (k : Int) (rows, news) = match stage k rows with
        | some a => some (.next (keep k rows ++ a, news ++ a)) | none => some (.out (.inr ([], [], false))) := by
      unfold m_impl_eliminated_L1
      simp only
      rw [impl_keep hr.1 hr.2, Option.bind_some]
      unfold m_impl_eliminated_A2
      simp only
      have := impl_outer (rows := rows) (nw := news) hk hn hr.1 (kept := keep k rows) (news0 := news) (by simp at hl; omega) rows [] 0 hr.1 (by simp) (by simp; omega)
      rw [List.append_nil, List.append_nil] at this
      rw [this, Option.bind_some]
      unfold stage
      cases ho : outS k (keep k rows).length rows rows [] with
      | none => rfl
      | some a =>
        obtain ⟨g1, g2⟩ := hr.next hn (show stage k rows = some a from ho)
        have := g1.2
        unfold m_impl_eliminated_A3
        simp only
        rw [decide_eq_false (by omega), cond_false]
    unfold elimF
    simp only [List.map_cons]
    unfold forL
    rw [hs]
    cases hst : stage k rows with
    | none => rfl
    | some a =>
      obtain ⟨g1, g2⟩ := hr.next hn hst
      exact ih (m + 1) _ _ (fun j hj => hks j (by simp [hj])) g1 (by simp at hl ⊢; omega)
def unitB (n i : Nat) : List Int := (List.replicate n (0 : Int)).set i 1
def row0 (ts : List Term) (i : Nat) : combination := combination.mk (tAt ts i) (unitB ts.length i)
def rows0 (ts : List Term) : List combination := (List.range ts.length).map (row0 ts)
theorem tAt_get {ts : List Term} {i : Nat} {t : Term} (h : ts[i]? = some t) : tAt ts i = t := by unfold tAt; rw [h]; rfl
theorem rows0_ok {ts : List Term} (h : ∀ t ∈ ts, vT t = true) (hl : ts.length ≤ 14) : Rws ts.length (rows0 ts) := by
  refine ⟨fun x hx => ?_, by simp [rows0]; omega⟩
  obtain ⟨i, hi, rfl⟩ := List.mem_map.1 hx
  have hi := List.mem_range.1 hi
  refine ⟨tAt_valid h i, by simp [row0, unitB], fun m hm => ?_, ⟨1, ?_, by decide⟩⟩
  · unfold row0 unitB at hm
    rcases List.mem_or_eq_of_mem_set hm with hm | rfl
    · rw [List.eq_of_mem_replicate hm]; omega
    · omega
  · unfold row0 unitB
    refine List.mem_of_getElem? (i := i) ?_
    rw [List.getElem?_set_self (by simpa using hi)]
theorem impl_eliminated {ts : List Term} {ks : List Nat} (h : ∀ t ∈ ts, vT t = true) (hl : ts.length ≤ 14) (hks : ∀ k ∈ ks, k < 10) (hkl : ks.length ≤ 10) :
    m_impl_eliminated ts (ks.map fun (k : Nat) => (k : Int)) = some (match elimF ks (rows0 ts) [] with | some r => (r.1, r.2, true) | none => ([], [], false)) := by
  unfold m_impl_eliminated
  rw [forL_map (row0 ts) ts (fun i x hx => by
    have hi := get_lt hx
    unfold m_impl_eliminated_L0
    rw [makeI_some (by omega), Option.bind_some, getI_some (x := 0) (by rw [List.getElem?_replicate, if_pos hi]), Option.bind_some, capI_some (by simp; omega), Option.bind_some, Int.toNat_natCast]
    unfold row0 unitB
    rw [tAt_get hx]), Option.bind_some]
  unfold m_impl_eliminated_A0
  rw [show (List.range ts.length).map (row0 ts) = rows0 ts from rfl, impl_elim hl ks 0 _ _ hks (rows0_ok h hl) (by simp; omega), Option.bind_some]
  cases elimF ks (rows0 ts) [] <;> rfl
end Go.Mod

namespace Go.Mod
open Go.AM
set_option linter.unusedVariables false
set_option linter.unusedSimpArgs false
end Go.Mod

namespace Go.Mod
open Go.AM
set_option linter.unusedVariables false
set_option linter.unusedSimpArgs false
def okFacts (ts : List Term) : Bool := ts.all vT && decide (ts.length ≤ 14)
theorem okFacts_iff {ts : List Term} : okFacts ts = true ↔ (∀ t ∈ ts, vT t = true) ∧ ts.length ≤ 14 := by simp [okFacts]
theorem Rws.v {n : Nat} {rows : List combination} (h : Rws n rows) : ∀ x ∈ rows, vT x.term = true := fun x hx => (h.1 x hx).v
end Go.Mod

namespace Go.Mod
open Go.AM
set_option linter.unusedVariables false
set_option linter.unusedSimpArgs false
theorem inner_new {n k cnt : Nat} {p : combination} (I J : combination → Prop) (hp : RowOK n p ∧ I p) (hn : n ≤ 14) (hm : ∀ p q, I p → I q → Two n p q k → (mixR p q k).2 = true → J (mxR p q k)) :
    ∀ (r acc a : List combination), (∀ x ∈ r, RowOK n x ∧ I x) → (∀ x ∈ acc, J x) → inS k cnt p r acc = some a → ∀ x ∈ a, J x := by
  intro r
  induction r with
  | nil => intro acc a _ h2 h; cases h; exact h2
  | cons q r ih =>
    intro acc a h1 h2 h
    have hr : ∀ x ∈ r, RowOK n x ∧ I x := fun x hx => h1 x (by simp [hx])
    unfold inS at h
    by_cases c1 : coef p.term.Coeffs k ≤ 0
    · rw [if_pos c1] at h; exact ih acc a hr h2 h
    · rw [if_neg c1] at h
      by_cases c2 : 0 ≤ coef q.term.Coeffs k
      · rw [if_pos c2] at h; exact ih acc a hr h2 h
      · rw [if_neg c2] at h
        have hq := h1 q (by simp)
        have two : Two n p q k := ⟨hp.1, hq.1, by omega, by omega, hn⟩
        by_cases c3 : (mixR p q k).2 = false ∨ cnt + acc.length = 60
        · rw [if_pos c3] at h; cases h
        · rw [if_neg c3] at h
          have c4 : (mixR p q k).2 = true := by
            cases hf : (mixR p q k).2 with
            | true => rfl
            | false => exact absurd (.inl hf) c3
          refine ih _ a hr (fun x hx => ?_) h
          rcases List.mem_append.1 hx with hx | hx
          · exact h2 x hx
          · rw [List.mem_singleton.1 hx]; exact hm _ _ hp.2 hq.2 two c4
theorem outer_new {n k cnt : Nat} {rows : List combination} (I J : combination → Prop) (hrows : ∀ x ∈ rows, RowOK n x ∧ I x) (hn : n ≤ 14) (hm : ∀ p q, I p → I q → Two n p q k → (mixR p q k).2 = true → J (mxR p q k)) :
    ∀ (r acc a : List combination), (∀ x ∈ r, RowOK n x ∧ I x) → (∀ x ∈ acc, J x) → outS k cnt rows r acc = some a → ∀ x ∈ a, J x := by
  intro r
  induction r with
  | nil => intro acc a _ h2 h; cases h; exact h2
  | cons p r ih =>
    intro acc a h1 h2 h
    unfold outS at h
    cases hi : inS k cnt p rows acc with
    | none => rw [hi] at h; cases h
    | some b =>
      rw [hi] at h
      exact ih b a (fun x hx => h1 x (by simp [hx])) (inner_new I J (h1 p (by simp)) hn hm rows acc b hrows h2 hi) h
theorem stage_zero {n k : Nat} {rows a : List combination} (I : combination → Prop) (hrows : ∀ x ∈ rows, RowOK n x ∧ I x) (hn : n ≤ 14)
    (hm : ∀ p q, I p → I q → Two n p q k → (mixR p q k).2 = true → I (mxR p q k)) (hk : k < 10) (h : stage k rows = some a) : ∀ x ∈ keep k rows ++ a, coef x.term.Coeffs k = 0 := by
  intro x hx
  rcases List.mem_append.1 hx with hx | hx
  · exact of_decide_eq_true (List.mem_filter.1 hx).2
  · exact outer_new I (fun x => coef x.term.Coeffs k = 0) hrows hn (fun p q _ _ two _ => mx_zero two hk) rows [] a hrows (by simp) h x hx
theorem elim_inv {n : Nat} (I : combination → Prop) (hn : n ≤ 14) (hm : ∀ k p q, k < 10 → I p → I q → Two n p q k → (mixR p q k).2 = true → I (mxR p q k)) : ∀ (ks : List Nat) (rows news : List combination) (r : List combination × List combination),
    (∀ k ∈ ks, k < 10) → (∀ x ∈ rows, RowOK n x ∧ I x) → rows.length ≤ 60 → (∀ x ∈ news, RowOK n x ∧ I x) → elimF ks rows news = some r → (∀ x ∈ r.1, RowOK n x ∧ I x) ∧ r.1.length ≤ 60 ∧ ∀ x ∈ r.2, RowOK n x ∧ I x := by
  intro ks
  induction ks with
  | nil => intro rows news r _ h1 h2 h3 h; cases h; exact ⟨h1, h2, h3⟩
  | cons k ks ih =>
    intro rows news r hks h1 h2 h3 h
    unfold elimF at h
    cases hs : stage k rows with
    | none => rw [hs] at h; cases h
    | some a =>
      rw [hs] at h
      obtain ⟨g1, g2, g3⟩ := stage_inv I h1 h2 hn (hm k · · (hks k (by simp))) hs
      refine ih _ _ r (fun j hj => hks j (by simp [hj])) g1 g2 (fun x hx => ?_) h
      rcases List.mem_append.1 hx with hx | hx
      · exact h3 x hx
      · exact g3 x hx
theorem elim_zero {n : Nat} (hn : n ≤ 14) : ∀ (ks : List Nat) (done : List Nat) (rows news : List combination) (r : List combination × List combination),
    (∀ k ∈ ks, k < 10) → (∀ k ∈ done, k < 10) → (∀ x ∈ rows, RowOK n x ∧ ∀ i ∈ done, coef x.term.Coeffs i = 0) → rows.length ≤ 60 → elimF ks rows news = some r → ∀ x ∈ r.1, ∀ i, i ∈ done ∨ i ∈ ks → coef x.term.Coeffs i = 0 := by
  intro ks
  induction ks with
  | nil => intro done rows news r _ _ h1 _ h; cases h; exact fun x hx i hi => by rcases hi with hi | hi; exact (h1 x hx).2 i hi; cases hi
  | cons k ks ih =>
    intro done rows news r hks hd h1 h2 h
    unfold elimF at h
    have hk := hks k (by simp)
    have hm : ∀ p q, (∀ i ∈ done, coef p.term.Coeffs i = 0) → (∀ i ∈ done, coef q.term.Coeffs i = 0) → Two n p q k → (mixR p q k).2 = true → (∀ i ∈ done, coef (mxR p q k).term.Coeffs i = 0) :=
      fun p q hp hq two _ i hi => mx_gone two (hd i hi) (hp i hi) (hq i hi)
    cases hs : stage k rows with
    | none => rw [hs] at h; cases h
    | some a =>
      rw [hs] at h
      obtain ⟨g1, g2, g3⟩ := stage_inv (fun x => ∀ i ∈ done, coef x.term.Coeffs i = 0) h1 h2 hn hm hs
      have gz := stage_zero (fun x => ∀ i ∈ done, coef x.term.Coeffs i = 0) h1 hn hm hk hs
      have := ih (k :: done) _ _ r (fun j hj => hks j (by simp [hj])) (fun j hj => by rcases List.mem_cons.1 hj with rfl | hj; exact hk; exact hd j hj)
        (fun x hx => ⟨(g1 x hx).1, fun i hi => by rcases List.mem_cons.1 hi with rfl | hi; exact gz x hx; exact (g1 x hx).2 i hi⟩) g2 h
      intro x hx i hi
      refine this x hx i ?_
      rcases hi with hi | hi
      · exact .inl (by simp [hi])
      · rcases List.mem_cons.1 hi with rfl | hi
        · exact .inl (by simp)
        · exact .inr hi
structure Comb (ts : List Term) (x : combination) : Prop where
  c : x.term.Const = lin ts x.by_ Term.Const ts.length
  f : ∀ i, i < 10 → coef x.term.Coeffs i = lin ts x.by_ (fun t => coef t.Coeffs i) ts.length
theorem unitB_coef {n i : Nat} (hi : i < n) (j : Nat) : coef (unitB n i) j = if j = i then 1 else 0 := by
  unfold coef unitB
  rw [List.getElem?_set]
  by_cases h : i = j
  · subst h; simp [hi]
  · rw [if_neg h, if_neg (fun e => h e.symm), List.getElem?_replicate]
    by_cases h2 : j < n <;> simp [h2]
theorem sumN_pick (g : Nat → Int) (i : Nat) : ∀ n, sumN (fun j => (if j = i then (1 : Int) else 0) * g j) n = if i < n then g i else 0 := by
  intro n
  induction n with
  | zero => simp [sumN]
  | succ n ih =>
    unfold sumN
    rw [ih]
    by_cases h : n = i
    · subst h; simp
    · by_cases h2 : i < n
      · rw [if_neg h, if_pos h2, if_pos (show i < n + 1 by omega)]; omega
      · rw [if_neg h, if_neg h2, if_neg (show ¬ i < n + 1 by omega)]; omega
theorem lin_unit {ts : List Term} {i : Nat} (hi : i < ts.length) (g : Term → Int) : lin ts (unitB ts.length i) g ts.length = g (tAt ts i) := by
  unfold lin
  rw [sumN_congr (g := fun j => (if j = i then (1 : Int) else 0) * g (tAt ts j)) ts.length (fun j _ => by rw [unitB_coef hi]), sumN_pick (fun j => g (tAt ts j)) i ts.length, if_pos hi]
theorem rows0_comb (ts : List Term) : ∀ x ∈ rows0 ts, Comb ts x := by
  intro x hx
  obtain ⟨i, hi, rfl⟩ := List.mem_map.1 hx
  have hi := List.mem_range.1 hi
  exact ⟨(lin_unit hi Term.Const).symm, fun j _ => (lin_unit hi (fun t => coef t.Coeffs j)).symm⟩
section
variable {ts : List Term} {k : Nat} {p q : combination}
theorem lin_mx (h : Two ts.length p q k) (g : Term → Int) : (mxD p q k : Int) * lin ts (mxR p q k).by_ g ts.length = mxN p q k * lin ts p.by_ g ts.length + mxM p q k * lin ts q.by_ g ts.length := by
  unfold lin
  rw [← sumN_mul, ← sumN_mul, ← sumN_mul, ← sumN_add]
  refine sumN_congr ts.length (fun j hj => ?_)
  have hjp : j < p.by_.length := by rw [h.rp.len]; exact hj
  have hb : coef (mxB p q k) j = mxJ p q k j := coef_get (by unfold mxB; rw [List.getElem?_map, List.getElem?_range hjp]; rfl)
  have hm : mxJ p q k j ∈ mxB p q k := List.mem_map.2 ⟨j, List.mem_range.2 hjp, rfl⟩
  have e : coef (mxR p q k).by_ j = (mxJ p q k j).tdiv (mxD p q k) := by unfold mxR; simp only; rw [coef_quos, hb]
  rw [e, ← Int.mul_assoc, Int.mul_comm (mxD p q k : Int), quo_mul (mxD_b hm)]
  unfold mxJ
  rw [Int.add_mul, Int.mul_assoc, Int.mul_assoc]
theorem mx_comb (h : Two ts.length p q k) (hp : Comb ts p) (hq : Comb ts q) : Comb ts (mxR p q k) := by
  have hd : (mxD p q k : Int) ≠ 0 := by have := h.d; omega
  refine ⟨?_, fun i hi => ?_⟩
  · refine Int.eq_of_mul_eq_mul_left hd ?_
    rw [lin_mx h, ← hp.c, ← hq.c]
    have : (mxR p q k).term.Const = (mxC p q k).tdiv (mxD p q k) := rfl
    rw [this, Int.mul_comm, quo_mul mxD_c]; rfl
  · refine Int.eq_of_mul_eq_mul_left hd ?_
    rw [lin_mx h, ← hp.f i hi, ← hq.f i hi, mxV_coef h i hi, Int.mul_comm, quo_mul (mxD_v (p := p) (q := q) (k := k) (List.mem_map.2 ⟨i, List.mem_range.2 hi, rfl⟩))]; rfl
end
theorem Comb.val {ts : List Term} {x : combination} (h : Comb ts x) (v : List Int) : val x.term v = lin ts x.by_ (fun t => val t v) ts.length := by
  rw [← val_lin]
  unfold Go.Mod.val
  rw [h.c, sumN_congr (f := fun i => coef x.term.Coeffs i * coef v i) 10 (fun i hi => by rw [h.f i hi])]
theorem lin_nonneg {ts : List Term} {ms : List Int} {g : Term → Int} (hm : ∀ j, 0 ≤ coef ms j) (hg : ∀ t ∈ ts, 0 ≤ g t) : 0 ≤ lin ts ms g ts.length := by
  unfold lin
  refine sumN_nonneg ts.length (fun j hj => Int.mul_nonneg (hm j) (hg _ ?_))
  rw [tAt_get (List.getElem?_eq_getElem hj)]; exact List.getElem_mem hj
theorem comb_hold {ts : List Term} {x : combination} {v : List Int} (h : Comb ts x) (hr : RowOK ts.length x) (ha : allHold ts v = true) : 0 ≤ Go.Mod.val x.term v := by
  rw [h.val]
  refine lin_nonneg (fun j => (hr.coefB j).1) (fun t ht => ?_)
  unfold allHold at ha
  have := List.all_eq_true.1 ha t ht
  simp only [Bool.not_eq_true', decide_eq_false_iff_not] at this
  omega
theorem elim_comb {ts : List Term} {ks : List Nat} {r : List combination × List combination} (h : ∀ t ∈ ts, vT t = true) (hl : ts.length ≤ 14) (hks : ∀ k ∈ ks, k < 10) (he : elimF ks (rows0 ts) [] = some r) :
    (∀ x ∈ r.1, RowOK ts.length x ∧ Comb ts x) ∧ r.1.length ≤ 60 ∧ ∀ x ∈ r.2, RowOK ts.length x ∧ Comb ts x := by
  have h0 := rows0_ok h hl
  exact elim_inv (Comb ts) hl (fun k p q _ hp hq two _ => mx_comb two hp hq) ks (rows0 ts) [] r hks (fun x hx => ⟨h0.1 x hx, rows0_comb ts x hx⟩) h0.2 (by simp) he
end Go.Mod

namespace Go.Mod
open Go.AM
set_option linter.unusedVariables false
set_option linter.unusedSimpArgs false
theorem impl_symbols : m_impl_allSymbols 10 = some ((List.range 10).map fun (k : Nat) => (k : Int)) := by
  unfold m_impl_allSymbols
  have h := iter_cnt (step := m_impl_allSymbols_L0 10) (fun j => ((List.range j).map (fun (k : Nat) => (k : Int)), (j : Int))) 10 (t := (List.range 10).map fun (k : Nat) => (k : Int)) (fun j hj => by
    unfold m_impl_allSymbols_L0
    simp only
    rw [decide_eq_true (by omega), cond_true, capI_some (by simp; omega), Option.bind_some, w64_succ (by omega), List.range_succ, List.map_append]; rfl)
    (by unfold m_impl_allSymbols_L0; rfl)
  rw [show iter (m_impl_allSymbols_L0 10) ([], 0) = _ from h]; rfl
def neg (x : combination) : Bool := decide (x.term.Const < 0)
def fRefute (ts : List Term) : List Int × Bool :=
  bif okFacts ts then (match elimF (List.range 10) (rows0 ts) [] with
    | some r => (match r.1.find? neg with | some x => (x.by_, true) | none => ([], false))
    | none => ([], false)) else ([], false)
theorem impl_find {n : Nat} {rows : List combination} (h : ∀ x ∈ rows, RowOK n x) (hn : n ≤ 14) : ∀ m, forL m_impl_RefuteFacts_L0 (fun s0 => (.inl ())) m rows () = some (match rows.find? neg with | some x => .inr (x.by_, true) | none => .inl ()) := by
  induction rows with
  | nil => intro m; rfl
  | cons x r ih =>
    intro m
    have hx := h x (by simp)
    unfold forL
    rw [List.find?_cons]
    have hs : m_impl_RefuteFacts_L0 m x () = bif neg x then some (.out (.inr (x.by_, true))) else some (.next ()) := by
      unfold m_impl_RefuteFacts_L0 neg
      rw [impl_copy (by rw [hx.len]; omega), Option.bind_some]
    rw [hs]
    cases neg x with
    | true => rfl
    | false => exact ih (fun y hy => h y (by simp [hy])) (m + 1)
theorem range10 : ∀ k ∈ List.range 10, k < 10 := fun k hk => List.mem_range.1 hk
theorem impl_refute {ts : List Term} : m_impl_RefuteFacts ts = some (fRefute ts) := by
  unfold m_impl_RefuteFacts m_impl_ValidFacts fRefute
  rw [show (14 : Int) = ((14 : Nat) : Int) from rfl, impl_terms, Option.bind_some, Option.bind_some]
  rw [show (decide (ts.length ≤ 14) && ts.all vT) = okFacts ts from Bool.and_comm _ _]
  cases h1 : okFacts ts with
  | false => rfl
  | true =>
    obtain ⟨g1, g2⟩ := okFacts_iff.1 h1
    rw [Bool.not_true, cond_false, impl_symbols, Option.bind_some, impl_eliminated g1 g2 range10 (by simp), Option.bind_some, cond_true]
    cases he : elimF (List.range 10) (rows0 ts) [] with
    | none => rfl
    | some r =>
      obtain ⟨e1, e2, e3⟩ := elim_comb g1 g2 range10 he
      simp only [Bool.not_true, cond_false]
      rw [impl_find (fun x hx => (e1 x hx).1) g2, Option.bind_some]
      cases r.1.find? neg <;> rfl
theorem fRefute_some {ts : List Term} (h : (fRefute ts).2 = true) : (∀ t ∈ ts, vT t = true) ∧ ts.length ≤ 14 ∧ ∃ x, fRefute ts = (x.by_, true) ∧ RowOK ts.length x ∧ Comb ts x ∧ x.term.Const < 0 ∧ ∀ i, i < 10 → coef x.term.Coeffs i = 0 := by
  unfold fRefute at h ⊢
  cases h1 : okFacts ts with
  | false => rw [h1] at h; cases h
  | true =>
    obtain ⟨g1, g2⟩ := okFacts_iff.1 h1
    rw [h1, cond_true] at h
    rw [cond_true]
    cases he : elimF (List.range 10) (rows0 ts) [] with
    | none => rw [he] at h; cases h
    | some r =>
      obtain ⟨e1, e2, e3⟩ := elim_comb g1 g2 range10 he
      have h0 := rows0_ok g1 g2
      have ez := elim_zero g2 (List.range 10) [] (rows0 ts) [] r range10 (by simp) (fun x hx => ⟨h0.1 x hx, by simp⟩) h0.2 he
      rw [he] at h
      simp only at h
      cases hf : r.1.find? neg with
      | none => rw [hf] at h; cases h
      | some x =>
        have hm := List.mem_of_find?_eq_some hf
        refine ⟨g1, g2, x, by simp only [hf], (e1 x hm).1, (e1 x hm).2, ?_, fun i hi => ez x hm i (.inr (List.mem_range.2 hi))⟩
        have := List.find?_some hf
        exact of_decide_eq_true this
end Go.Mod

namespace Go.Mod
open Go.AM
set_option linter.unusedVariables false
set_option linter.unusedSimpArgs false
def hasSym (ts : List Term) (k : Nat) : Bool := ts.any fun t => !decide (coef t.Coeffs k = 0)
theorem sym_index {k : Nat} (hk : k < 10) : ∀ (ts : List Term) (m : Nat), (∀ t ∈ ts, vT t = true) → ∃ u, forL (m_slices_IndexFunc_impl_Term_impl_Term_fsymbolsOf_1_L0 (k : Int)) (fun s0 => (.inl ())) m ts () = some u ∧
    (hasSym ts k = true → ∃ n : Nat, u = .inr (n : Int)) ∧ (hasSym ts k = false → u = .inl ()) := by
  intro ts
  induction ts with
  | nil => intro m _; exact ⟨.inl (), rfl, ⟨fun h => by simp [hasSym] at h, fun _ => rfl⟩⟩
  | cons t r ih =>
    intro m h
    have ht := vT_len (h t (by simp))
    have hs : m_slices_IndexFunc_impl_Term_impl_Term_fsymbolsOf_1_L0 (k : Int) m t () = bif !decide (coef t.Coeffs k = 0) then some (.out (.inr (m : Int))) else some (.next ()) := by
      unfold m_slices_IndexFunc_impl_Term_impl_Term_fsymbolsOf_1_L0 m_impl_symbolsOf_1
      rw [impl_coeff ht, Option.bind_some, Option.bind_some]
    obtain ⟨u, hu, h1, h2⟩ := ih (m + 1) (fun x hx => h x (by simp [hx]))
    have e : hasSym (t :: r) k = (!decide (coef t.Coeffs k = 0) || hasSym r k) := by unfold hasSym; rw [List.any_cons]
    unfold forL
    rw [hs, e]
    cases hc : !decide (coef t.Coeffs k = 0) with
    | true => exact ⟨.inr (m : Int), rfl, fun _ => ⟨m, rfl⟩, fun h => by cases h⟩
    | false => exact ⟨u, hu, fun h => h1 h, fun h => h2 h⟩
theorem sym_has {ts : List Term} {k : Nat} (hk : k < 10) (h : ∀ t ∈ ts, vT t = true) : m_slices_ContainsFunc_impl_Term_impl_Term_fsymbolsOf_1 ts (k : Int) = some (hasSym ts k) := by
  unfold m_slices_ContainsFunc_impl_Term_impl_Term_fsymbolsOf_1 m_slices_IndexFunc_impl_Term_impl_Term_fsymbolsOf_1
  obtain ⟨u, hu, h1, h2⟩ := sym_index hk ts 0 h
  rw [hu, Option.bind_some]
  unfold m_slices_IndexFunc_impl_Term_impl_Term_fsymbolsOf_1_A0
  cases hs : hasSym ts k with
  | true => obtain ⟨n, rfl⟩ := h1 hs; simp only [Option.bind_some]; rw [decide_eq_true (by omega)]
  | false => rw [h2 hs]; rfl
def symsL (ts : List Term) : List Int := ((List.range 10).filter (hasSym ts)).map fun (k : Nat) => (k : Int)
theorem impl_syms {ts : List Term} (h : ∀ t ∈ ts, vT t = true) : m_impl_symbolsOf ts = some (symsL ts) := by
  unfold m_impl_symbolsOf
  have h1 := iter_cnt (step := m_impl_symbolsOf_L0 ts) (fun j => (((List.range j).filter (hasSym ts)).map (fun (k : Nat) => (k : Int)), (j : Int))) 10 (t := symsL ts) (fun j hj => by
    have hl := List.length_filter_le (hasSym ts) (List.range j)
    rw [List.length_range] at hl
    unfold m_impl_symbolsOf_L0
    simp only
    rw [decide_eq_true (by omega), cond_true, sym_has hj h, Option.bind_some, w64_succ (by omega), List.range_succ, List.filter_append]
    cases hs : hasSym ts j with
    | true => rw [cond_true, capI_some (by simp; omega), Option.bind_some]; simp [hs]
    | false => simp [hs])
    (by unfold m_impl_symbolsOf_L0; rfl)
  rw [show iter (m_impl_symbolsOf_L0 ts) ([], 0) = _ from h1]; rfl
end Go.Mod

namespace Go.Mod
open Go.AM
set_option linter.unusedVariables false
set_option linter.unusedSimpArgs false
theorem rem_far {x : Int} {d : Nat} (hd : 0 < d) : remI x (d : Int) = some (x.tmod d) := by unfold remI; rw [decide_eq_false (by omega)]; rfl
theorem spec_tightP {t : Term} (h1 : vT t = true) : m_spec_l02Tight t = some (fTight t) := by
  have hl : t.Coeffs.length ≤ 1048576 := by have := vT_len h1; omega
  unfold m_spec_l02Tight fTight
  rw [spec_gcd (vT_coef h1) hl, Option.bind_some, h1]
  by_cases h2 : 2 ≤ gcdL t.Coeffs
  · have hv := tight_valid h1 h2
    rw [decide_eq_false (by omega), cond_false, spec_quos h2 (vT_coef h1) hl, decide_eq_true h2]
    simp only [Option.bind_some, Bool.true_and, cond_true]
    unfold m_spec_l02Tight_A0 m_spec_l02Tight_J0
    have hr := (tdiv_rng h2 (vT_const h1)).2
    have hm : ∀ c, m_spec_l02Make c (quos t.Coeffs (gcdL t.Coeffs)) = some (chk (Term.mk c (quos t.Coeffs (gcdL t.Coeffs)))) := by
      intro c
      rw [spec_make (by unfold quos; simp; have := vT_len h1; omega), trim_id (vT_last hv)]
    rw [quo_nat h2 (vT_const h1), Option.bind_some, rem_far (by omega), Option.bind_some, hm, hm, w64_eq (by omega)]
    have e : ∀ c, c = flo t.Const (gcdL t.Coeffs) → (chk (Term.mk c (quos t.Coeffs (gcdL t.Coeffs)))) = (Term.mk (flo t.Const (gcdL t.Coeffs)) (quos t.Coeffs (gcdL t.Coeffs)), true) := by
      rintro c rfl
      unfold chk; rw [hv]; rfl
    by_cases h3 : t.Const.tmod (gcdL t.Coeffs) < 0
    · rw [decide_eq_true h3, cond_true, e _ (by unfold flo; rw [if_pos h3])]; rfl
    · rw [decide_eq_false h3, cond_false, e _ (by unfold flo; rw [if_neg h3])]; rfl
  · rw [decide_eq_true (show ((gcdL t.Coeffs : Nat) : Int) < 2 by omega), decide_eq_false h2]; rfl
theorem impl_tightP {t : Term} (h1 : vT t = true) : m_impl_Term_tightened t = some (fTight t) := by
  have hl := vT_len h1
  unfold m_impl_Term_tightened fTight
  rw [impl_gcd (vT_coef h1), Option.bind_some, h1]
  by_cases h2 : 2 ≤ gcdL t.Coeffs
  · have hr := (tdiv_rng h2 (vT_const h1)).2
    rw [decide_eq_false (by omega), cond_false, impl_own (by omega), decide_eq_true h2]
    simp only [Option.bind_some, Bool.true_and, cond_true]
    unfold m_impl_divFloor
    rw [quo_nat h2 (vT_const h1), Option.bind_some, rem_far (by omega), Option.bind_some, w64_eq (by omega)]
    have e : (bif decide (t.Const.tmod (gcdL t.Coeffs) < 0) then some (t.Const.tdiv (gcdL t.Coeffs) - 1) else some (t.Const.tdiv (gcdL t.Coeffs))) = some (flo t.Const (gcdL t.Coeffs)) := by
      unfold flo
      by_cases h3 : t.Const.tmod (gcdL t.Coeffs) < 0
      · rw [decide_eq_true h3, if_pos h3]; rfl
      · rw [decide_eq_false h3, if_neg h3]; rfl
    rw [e, Option.bind_some, impl_quos h2 (vT_coef h1) (by omega)]; rfl
  · rw [decide_eq_true (show ((gcdL t.Coeffs : Nat) : Int) ≤ 1 by omega), decide_eq_false h2]; rfl
theorem impl_sameT (x y : Term) : m_impl_Term_equal x y = some (decide (x = y)) := by
  unfold m_impl_Term_equal
  rw [slices_eq]
  obtain ⟨a, as⟩ := x
  obtain ⟨b, bs⟩ := y
  by_cases h1 : a = b <;> by_cases h2 : as = bs <;> simp [h1, h2]
def hasB (ts : List Term) (t : Term) : Bool := ts.any fun x => decide (x = t)
theorem has_index (t : Term) : ∀ (ts : List Term) (m : Nat), ∃ u, forL (m_slices_IndexFunc_impl_Term_impl_Term_fequal_L0 t.Const t.Coeffs) (fun s0 => (.inl ())) m ts () = some u ∧
    (hasB ts t = true → ∃ n : Nat, u = .inr (n : Int)) ∧ (hasB ts t = false → u = .inl ()) := by
  intro ts
  induction ts with
  | nil => intro m; exact ⟨.inl (), rfl, ⟨fun h => by simp [hasB] at h, fun _ => rfl⟩⟩
  | cons x r ih =>
    intro m
    have hs : m_slices_IndexFunc_impl_Term_impl_Term_fequal_L0 t.Const t.Coeffs m x () = bif decide (x = t) then some (.out (.inr (m : Int))) else some (.next ()) := by
      unfold m_slices_IndexFunc_impl_Term_impl_Term_fequal_L0
      rw [impl_sameT, Option.bind_some]
      by_cases h : x = t
      · rw [decide_eq_true h, decide_eq_true (show Term.mk t.Const t.Coeffs = x from h.symm)]
      · rw [decide_eq_false h, decide_eq_false (show ¬ Term.mk t.Const t.Coeffs = x from fun e => h e.symm)]
    obtain ⟨u, hu, h1, h2⟩ := ih (m + 1)
    have e : hasB (x :: r) t = (decide (x = t) || hasB r t) := by unfold hasB; rw [List.any_cons]
    unfold forL
    rw [hs, e]
    cases hc : decide (x = t) with
    | true => exact ⟨.inr (m : Int), rfl, fun _ => ⟨m, rfl⟩, fun h => by cases h⟩
    | false => exact ⟨u, hu, fun h => h1 h, fun h => h2 h⟩
theorem impl_has (ts : List Term) (t : Term) : m_impl_hasTerm ts t = some (hasB ts t) := by
  unfold m_impl_hasTerm m_slices_ContainsFunc_impl_Term_impl_Term_fequal m_slices_IndexFunc_impl_Term_impl_Term_fequal
  obtain ⟨u, hu, h1, h2⟩ := has_index t ts 0
  rw [hu, Option.bind_some]
  unfold m_slices_IndexFunc_impl_Term_impl_Term_fequal_A0
  cases hs : hasB ts t with
  | true => obtain ⟨n, rfl⟩ := h1 hs; simp only [Option.bind_some]; rw [decide_eq_true (by omega)]
  | false => rw [h2 hs]; rfl
def fCut (ts : List Term) (t : Term) : Term × Bool :=
  bif decide (gcdL t.Coeffs < 2) || decide (t.Const.tmod (gcdL t.Coeffs) = 0) then (Term.mk 0 [], false)
  else ((fTight t).1, (fTight t).2 && !hasB ts (fTight t).1)
theorem impl_cuts {ts : List Term} {t : Term} (h : vT t = true) : m_impl_cuts t ts = some (fCut ts t) := by
  unfold m_impl_cuts fCut
  rw [impl_gcd (vT_coef h), Option.bind_some]
  by_cases h2 : gcdL t.Coeffs < 2
  · rw [decide_eq_true (show ((gcdL t.Coeffs : Nat) : Int) ≤ 1 by omega), decide_eq_true h2]; rfl
  · rw [decide_eq_false (show ¬ ((gcdL t.Coeffs : Nat) : Int) ≤ 1 by omega), decide_eq_false h2, cond_false, rem_far (by omega), Option.bind_some, Bool.false_or]
    cases decide (t.Const.tmod (gcdL t.Coeffs) = 0) with
    | true => rfl
    | false =>
      rw [cond_false, cond_false, impl_tightP h, Option.bind_some, impl_has]
      cases (fTight t).2 <;> rfl
def isCut (ts : List Term) (x : combination) : Bool := (fCut ts x.term).2
theorem impl_findC {ts : List Term} {rows : List combination} (h : ∀ x ∈ rows, vT x.term = true) : ∀ m, forL (m_impl_firstCut_L0 ts) (fun s0 => (.inl ())) m rows () =
    some (match rows.find? (isCut ts) with | some x => .inr ((fCut ts x.term).1.Const, (fCut ts x.term).1.Coeffs, x.term.Const, x.term.Coeffs, x.by_, true) | none => .inl ()) := by
  induction rows with
  | nil => intro m; rfl
  | cons x r ih =>
    intro m
    unfold forL
    rw [List.find?_cons]
    have hs : m_impl_firstCut_L0 ts m x () = bif isCut ts x then some (.out (.inr ((fCut ts x.term).1.Const, (fCut ts x.term).1.Coeffs, x.term.Const, x.term.Coeffs, x.by_, true))) else some (.next ()) := by
      unfold m_impl_firstCut_L0 isCut
      rw [impl_cuts (h x (by simp)), Option.bind_some]
    rw [hs]
    cases isCut ts x with
    | true => rfl
    | false => exact ih (fun y hy => h y (by simp [hy])) (m + 1)
end Go.Mod

namespace Go.Mod
open Go.AM
set_option linter.unusedVariables false
set_option linter.unusedSimpArgs false
end Go.Mod

namespace Go.Mod
open Go.AM
set_option linter.unusedVariables false
set_option linter.unusedSimpArgs false
def over (goal : Term) : Term := Term.mk (1 * (unitT 9).Const + -1 * goal.Const) (trim (tab fun i => 1 * coef (unitT 9).Coeffs i + -1 * coef goal.Coeffs i))
theorem impl_withT {ts : List Term} {t : Term} (hl : ts.length ≤ 1000) : m_impl_with ts t = some (ts ++ [t]) := by
  unfold m_impl_with m_slices_Clone_impl_Term_impl_Term
  rw [capI_some (by simp; omega), Option.bind_some, List.nil_append, Option.bind_some, capI_some (by simp; omega)]; rfl
end Go.Mod

namespace Go.Mod
open Go.AM
set_option linter.unusedVariables false
set_option linter.unusedSimpArgs false
structure Pst (p : proving) : Prop where
  b : p.budget = 60
  n : p.nodes.length ≤ 60
  x : ∀ x ∈ p.nodes, x.Term.Coeffs.length ≤ 10 ∧ x.Multipliers.length ≤ 1000
theorem write_ok {p : proving} (h : Pst p) {n : Node} (h1 : n.Term.Coeffs.length ≤ 10) (h2 : n.Multipliers.length ≤ 1000) :
    ∃ p', m_impl_proving_write p n = some p' ∧ Pst p' ∧ (p'.failed = false → p.failed = false) := by
  have bad : ∃ p', m_impl_proving_write_J0 p n true = some p' ∧ Pst p' ∧ (p'.failed = false → p.failed = false) := ⟨_, rfl, ⟨h.b, h.n, h.x⟩, fun h => by cases h⟩
  unfold m_impl_proving_write m_impl_size
  rw [Option.bind_some]
  by_cases hl : (p.nodes.length : Int) = p.budget
  · rw [decide_eq_true hl]; exact bad
  · rw [decide_eq_false hl, cond_false, impl_all, Option.bind_some]
    have hb := h.b
    have hn := h.n
    cases n.Multipliers.all fun x => decide (0 ≤ x) && decide (x ≤ 1000000) with
    | false => exact bad
    | true =>
      unfold m_impl_proving_write_J0
      rw [Bool.not_true, cond_false, capI_some (by simp; omega), Option.bind_some]
      refine ⟨_, rfl, ⟨h.b, by simp; omega, fun x hx => ?_⟩, fun h => h⟩
      rcases List.mem_append.1 hx with hx | hx
      · exact h.x x hx
      · rw [List.mem_singleton.1 hx]; exact ⟨h1, h2⟩
theorem add_ok {p : proving} (h : Pst p) {ts : List Term} (hl : ts.length ≤ 14) {t : Term} : ∃ p', m_impl_proving_add p ts t = some (ts ++ [t], p') ∧ Pst p' ∧ (p'.failed = false → p.failed = false ∧ ts.length ≤ 13) := by
  unfold m_impl_proving_add
  rw [impl_withT (by omega)]
  by_cases h14 : (ts.length : Int) = 14
  · rw [decide_eq_true h14, cond_true, Option.bind_some]; exact ⟨_, rfl, ⟨h.b, h.n, h.x⟩, fun h => by cases h⟩
  · rw [decide_eq_false h14, cond_false, Option.bind_some]; exact ⟨_, rfl, h, fun g => ⟨g, by omega⟩⟩
theorem hold_app {ts : List Term} {t : Term} {v : List Int} (h : allHold ts v = true) (g : 0 ≤ Go.Mod.val t v) : allHold (ts ++ [t]) v = true := by
  unfold allHold at *
  rw [List.all_append, h, Bool.true_and, List.all_cons, List.all_nil, Bool.and_true, decide_eq_false (by omega)]; rfl
theorem ok_app {ts : List Term} {t : Term} (h : okFacts ts = true) (hl : ts.length ≤ 13) (ht : vT t = true) : okFacts (ts ++ [t]) = true := by
  obtain ⟨h1, h2⟩ := okFacts_iff.1 h
  refine okFacts_iff.2 ⟨fun x hx => ?_, by simp; omega⟩
  rcases List.mem_append.1 hx with hx | hx
  · exact h1 x hx
  · rw [List.mem_singleton.1 hx]; exact ht
theorem cut_ok {ts : List Term} {t : Term} (h : vT t = true) (hc : (fCut ts t).2 = true) : vT (fCut ts t).1 = true ∧ ∀ v, 0 ≤ Go.Mod.val t v → 0 ≤ Go.Mod.val (fCut ts t).1 v := by
  unfold fCut at hc ⊢
  cases hb : decide (gcdL t.Coeffs < 2) || decide (t.Const.tmod (gcdL t.Coeffs) = 0) with
  | true => rw [hb] at hc; cases hc
  | false =>
    simp only [Bool.or_eq_false_iff, decide_eq_false_iff_not] at hb
    have hd : 2 ≤ gcdL t.Coeffs := by omega
    have ht : (fTight t).1 = Term.mk (flo t.Const (gcdL t.Coeffs)) (quos t.Coeffs (gcdL t.Coeffs)) := by unfold fTight; rw [h, decide_eq_true hd]; rfl
    rw [cond_false]
    simp only
    rw [ht]
    exact ⟨tight_valid h hd, fun v hv => (fTight_val h hd).2 hv⟩
theorem first_in {ts : List Term} (h : okFacts ts = true) : ∃ r : Term × combination × Bool, m_impl_firstCut ts = some r ∧ (r.2.2 = true → vT r.1 = true ∧ RowOK ts.length r.2.1 ∧ ∀ v, allHold ts v = true → 0 ≤ Go.Mod.val r.1 v) := by
  obtain ⟨g1, g2⟩ := okFacts_iff.1 h
  unfold m_impl_firstCut
  rw [impl_symbols, Option.bind_some, impl_eliminated g1 g2 range10 (by simp), Option.bind_some]
  cases he : elimF (List.range 10) (rows0 ts) [] with
  | none => exact ⟨_, rfl, fun h => by cases h⟩
  | some r =>
    obtain ⟨e1, e2, e3⟩ := elim_comb g1 g2 range10 he
    simp only [Bool.not_true, cond_false]
    rw [impl_findC (fun x hx => (e3 x hx).1.v), Option.bind_some]
    cases hf : r.2.find? (isCut ts) with
    | none => exact ⟨_, rfl, fun h => by cases h⟩
    | some x =>
      obtain ⟨hx, hc⟩ := e3 x (List.mem_of_find?_eq_some hf)
      have hcut := List.find?_some hf
      obtain ⟨c1, c2⟩ := cut_ok hx.v hcut
      exact ⟨_, rfl, fun _ => ⟨c1, hx, fun v hv => c2 v (comb_hold hc hx hv)⟩⟩
theorem cut_loop {nodes : List Node} {ts : List Term} (hp : Pst ⟨60, nodes, false⟩) (hts : okFacts ts = true) : ∀ (r : List Term) (m : Nat), (∀ t ∈ r, t ∈ ts) →
    ∃ u, forL (m_impl_proving_work_F_L1 (60, nodes, false, ts)) (fun s1 => ((60 : Int), nodes, false, ts, false)) m r () = some u ∧
      (u = (60, nodes, false, ts, false) ∨ ∃ (p' : proving) (t : Term), u = (60, p'.nodes, p'.failed, ts ++ [t], true) ∧ Pst p' ∧ vT t = true ∧ (∀ v, allHold ts v = true → 0 ≤ Go.Mod.val t v) ∧ (p'.failed = false → ts.length ≤ 13))
  | [], m, _ => ⟨_, rfl, .inl rfl⟩
  | x :: r, m, h => by
    obtain ⟨g1, g2⟩ := okFacts_iff.1 hts
    have hx := g1 x (h x (by simp))
    unfold forL
    unfold m_impl_proving_work_F_L1
    simp only
    rw [impl_cuts hx, Option.bind_some]
    cases hc : (fCut ts x).2 with
    | false =>
      rw [cond_false]
      exact cut_loop hp hts r (m + 1) (fun t ht => h t (by simp [ht]))
    | true =>
      obtain ⟨c1, c2⟩ := cut_ok hx hc
      obtain ⟨p1, e1, w1, _⟩ := write_ok hp (n := Node.mk 3 (m : Int) (Term.mk 0 []) []) (by simp) (by simp)
      obtain ⟨p2, e2, w2, f2⟩ := add_ok w1 g2 (t := (fCut ts x).1)
      rw [cond_true, e1, Option.bind_some, e2, Option.bind_some]
      refine ⟨_, rfl, .inr ⟨p2, _, ?_, w2, c1, fun v hv => c2 v ?_, fun g => (f2 g).2⟩⟩
      · simp only; rw [w2.b]
      · unfold allHold at hv
        have := List.all_eq_true.1 hv x (h x (by simp))
        simpa using this
def Sound (ts : List Term) (p : proving) : Prop := Pst p ∧ (p.failed = false → ∀ v, allHold ts v = true → False)
def outP (u : (Int × (List Node) × Bool) ⊕ (Int × (List Node) × Bool)) : proving := u.elim (fun u => ⟨u.1, u.2.1, u.2.2⟩) (fun u => ⟨u.1, u.2.1, u.2.2⟩)
theorem work_loop {rec : proving → List Term → Option proving} {l : Nat} (hrec : ∀ (p : proving) (ts : List Term), Pst p → (p.failed = false → okFacts ts = true) → l + 1 ≤ ts.length → ts.length ≤ 15 → ∃ p', rec p ts = some p' ∧ Sound ts p' ∧ (p'.failed = false → p.failed = false)) :
    ∀ (m : Nat) (nodes : List Node) (failed : Bool) (ts : List Term), 15 ≤ m + ts.length → l ≤ ts.length → ts.length ≤ 15 → Pst ⟨60, nodes, failed⟩ → (failed = false → okFacts ts = true) →
    ∃ u, iter (m_impl_proving_work_F_L0 rec) (60, nodes, failed, ts) = some u ∧ Sound ts (outP u) ∧ ((outP u).failed = false → failed = false) := by
  have stop : ∀ (nodes : List Node) (ts : List Term), Pst ⟨60, nodes, true⟩ → ∃ u, iter (m_impl_proving_work_F_L0 rec) (60, nodes, true, ts) = some u ∧ Sound ts (outP u) ∧ ((outP u).failed = false → true = false) := by
    intro nodes ts hp
    refine ⟨.inl (60, nodes, true), iter_out rfl, ⟨hp, fun h => by cases h⟩, fun h => by cases h⟩
  intro m
  induction m with
  | zero =>
    intro nodes failed ts h1 h2 h3 hp hok
    cases failed with
    | true => exact stop nodes ts hp
    | false => have := (okFacts_iff.1 (hok rfl)).2; omega
  | succ m ih =>
    intro nodes failed ts h1 h2 h3 hp hok
    cases failed with
    | true => exact stop nodes ts hp
    | false =>
      have hts := hok rfl
      obtain ⟨g1, g2⟩ := okFacts_iff.1 hts
      obtain ⟨u, e1, hu⟩ := cut_loop hp hts ts 0 (fun t h => h)
      have hL0 : m_impl_proving_work_F_L0 rec (60, nodes, false, ts) = m_impl_proving_work_F_A1 rec u := by
        unfold m_impl_proving_work_F_L0
        simp only [Bool.not_false, cond_true]
        rw [e1, Option.bind_some]
      rcases hu with rfl | ⟨p', t, rfl, w, ht, hv, hf⟩
      · -- no cut of a fact
        suffices hA : ∃ p' : proving, Sound ts p' ∧ m_impl_proving_work_F_A1 rec (60, nodes, false, ts, false) = some (.out (.inr (p'.budget, p'.nodes, p'.failed))) by
          obtain ⟨p', hs, he⟩ := hA
          rw [he] at hL0
          exact ⟨_, iter_out hL0, hs, fun _ => rfl⟩
        unfold m_impl_proving_work_F_A1
        simp only [cond_false]
        rw [impl_refute, Option.bind_some]
        cases hr : (fRefute ts).2 with
        | true =>
          obtain ⟨_, _, x, q1, q2, q3, q4, q5⟩ := fRefute_some hr
          obtain ⟨p1, e2, w1, _⟩ := write_ok hp (n := Node.mk 1 0 (Term.mk 0 []) (fRefute ts).1) (by simp) (by rw [q1]; simp only; rw [q2.len]; omega)
          rw [cond_true, e2, Option.bind_some]
          refine ⟨p1, ⟨w1, fun _ v hv => ?_⟩, rfl⟩
          have h5 := comb_hold q3 q2 hv
          have h6 : Go.Mod.val x.term v = x.term.Const := by
            show x.term.Const + sumN (fun i => coef x.term.Coeffs i * coef v i) 10 = x.term.Const
            rw [sumN_congr (g := fun _ => 0) 10 (fun i hi => by rw [q5 i hi, Int.zero_mul]), sumN_zero]; omega
          omega
        | false =>
          rw [cond_false]
          obtain ⟨r, e2, hr2⟩ := first_in hts
          rw [e2, Option.bind_some]
          have fail : m_impl_proving_work_F_J0 rec ((60 : Int), nodes, false, ts, false) r true = some (.out (.inr (60, nodes, true))) := rfl
          cases h22 : r.2.2 with
          | false =>
            rw [Bool.not_false, cond_true, fail]
            exact ⟨⟨60, nodes, true⟩, ⟨⟨hp.b, hp.n, hp.x⟩, fun h => by cases h⟩, rfl⟩
          | true =>
            obtain ⟨c1, c2, c3⟩ := hr2 h22
            rw [Bool.not_true, cond_false, impl_opposite c1, Option.bind_some, impl_valid, Option.bind_some]
            cases vT (opp r.1) with
            | false =>
              rw [Bool.not_false, fail]
              exact ⟨⟨60, nodes, true⟩, ⟨⟨hp.b, hp.n, hp.x⟩, fun h => by cases h⟩, rfl⟩
            | true =>
              have hl10 := vT_len c1
              obtain ⟨p1, e3, w1, f1⟩ := write_ok hp (n := Node.mk 2 0 r.1 []) (by simpa using hl10) (by simp)
              obtain ⟨p2, e4, w2, f2⟩ := add_ok w1 g2 (t := r.1)
              obtain ⟨p3, e5, s3, f3⟩ := hrec p2 (ts ++ [r.1]) w2 (fun g => ok_app hts (f2 g).2 c1) (by simp; omega) (by simp; omega)
              have hby := c2.len
              obtain ⟨p4, e6, w4, f4⟩ := write_ok s3.1 (n := Node.mk 1 0 (Term.mk 0 []) (r.2.1.by_ ++ [((gcdL r.2.1.term.Coeffs : Nat) : Int)])) (by simp) (by simp; omega)
              unfold m_impl_proving_work_F_J0
              simp only [Bool.not_true, cond_false]
              rw [impl_own (by omega), Option.bind_some, e3, Option.bind_some, e4, Option.bind_some]
              simp only
              rw [e5, Option.bind_some, impl_copy (by omega), Option.bind_some, impl_gcd (vT_coef c2.v), Option.bind_some, capI_some (by simp; omega), Option.bind_some, e6, Option.bind_some]
              exact ⟨p4, ⟨w4, fun g v hv => s3.2 (f4 g) v (hold_app hv (c3 v hv))⟩, rfl⟩
      · -- a sharper fact
        have hst : m_impl_proving_work_F_L0 rec (60, nodes, false, ts) = some (.next (60, p'.nodes, p'.failed, ts ++ [t])) := by rw [hL0]; rfl
        have hP : Pst ⟨60, p'.nodes, p'.failed⟩ := ⟨rfl, w.n, w.x⟩
        rw [iter_next hst]
        obtain ⟨u, e2, s2, f2⟩ := ih p'.nodes p'.failed (ts ++ [t]) (by simp; omega) (by simp; omega) (by simp; omega) hP (fun g => ok_app hts (hf g) ht)
        exact ⟨u, e2, ⟨s2.1, fun g v hv' => s2.2 g v (hold_app hv' (hv v hv'))⟩, fun _ => rfl⟩
theorem work_ok : ∀ (n : Nat) (p : proving) (ts : List Term), Pst p → (p.failed = false → okFacts ts = true) → 16 ≤ n + ts.length → ts.length ≤ 15 → ∃ p', m_impl_proving_work n p ts = some p' ∧ Sound ts p' ∧ (p'.failed = false → p.failed = false)
  | 0, p, ts, hp, hok, h1, h2 => by omega
  | n + 1, p, ts, hp, hok, h1, h2 => by
    have hb := hp.b
    obtain ⟨b, nodes, failed⟩ := p
    simp only at hb
    subst hb
    have hrec : ∀ (p : proving) (ts' : List Term), Pst p → (p.failed = false → okFacts ts' = true) → ts.length + 1 ≤ ts'.length → ts'.length ≤ 15 → ∃ p', m_impl_proving_work n p ts' = some p' ∧ Sound ts' p' ∧ (p'.failed = false → p.failed = false) := by
      intro p ts' hp hok hl h15
      exact work_ok n p ts' hp hok (by omega) h15
    obtain ⟨u, e, s, f⟩ := work_loop hrec (15 - ts.length) nodes failed ts (by omega) (Nat.le_refl _) h2 hp hok
    refine ⟨outP u, ?_, s, f⟩
    unfold m_impl_proving_work m_impl_proving_work_F
    simp only
    rw [e, Option.bind_some]
    unfold m_impl_proving_work_F_A0 outP
    cases u <;> rfl
theorem own_nodes : ∀ (r : List Node) (m : Nat) (acc : List Node), (∀ x ∈ r, x.Term.Coeffs.length ≤ 10 ∧ x.Multipliers.length ≤ 1000) → acc.length + r.length ≤ 100 → forL m_impl_ownNodes_L0 (fun s0 => s0) m r acc = some (acc ++ r)
  | [], m, acc, _, _ => by simp [forL]
  | x :: r, m, acc, h, hl => by
    obtain ⟨h1, h2⟩ := h x (by simp)
    simp only [List.length_cons] at hl
    have hst : m_impl_ownNodes_L0 m x acc = some (.next (acc ++ [x])) := by
      unfold m_impl_ownNodes_L0
      rw [impl_own (by omega), Option.bind_some, impl_copy (by omega), Option.bind_some, capI_some (by simp; omega), Option.bind_some]
    unfold forL
    rw [hst]
    simp only
    rw [own_nodes r (m + 1) _ (fun y hy => h y (by simp [hy])) (by simp; omega)]
    simp
theorem prove_ok {s : Sequent} (hs : cSeq s ≤ 1048576) : ∃ r, m_impl_ProveSequent s 60 = some r ∧ (r.2 = true → ∀ v, allHold (fCtx s).1 v = true → False) := by
  unfold m_impl_ProveSequent
  rw [impl_ctx hs, Option.bind_some]
  cases h2 : (fCtx s).2 with
  | false => exact ⟨_, rfl, fun h => by cases h⟩
  | true =>
    have hok : okFacts (fCtx s).1 = true ∧ (fCtx s).1.length ≤ 15 := by
      unfold fCtx at h2 ⊢
      cases hc : vSeq s && vT (opp s.Goal) with
      | false => rw [hc] at h2; cases h2
      | true =>
        rw [cond_true]
        simp only [vSeq, Bool.and_eq_true, List.all_eq_true, decide_eq_true_eq] at hc
        obtain ⟨⟨⟨q1, q2⟩, q3⟩, q4⟩ := hc
        refine ⟨okFacts_iff.2 ⟨fun x hx => ?_, by simp; omega⟩, by simp; omega⟩
        rcases List.mem_append.1 hx with hx | hx
        · exact q1 x hx
        · rw [List.mem_singleton.1 hx]; exact q4
    obtain ⟨p', e, ⟨w, sd⟩, _⟩ := work_ok 1000 ⟨60, [], false⟩ (fCtx s).1 ⟨rfl, by simp, by simp⟩ (fun _ => hok.1) (by omega) hok.2
    rw [Bool.not_true, cond_false, show m_impl_isBudget 60 = some true from rfl, Option.bind_some, Bool.not_true, cond_false, e, Option.bind_some]
    cases hf : p'.failed with
    | true => exact ⟨_, rfl, fun h => by cases h⟩
    | false =>
      rw [cond_false]
      unfold m_impl_ownNodes
      rw [own_nodes p'.nodes 0 [] w.x (by have := w.n; simp; omega), Option.bind_some]
      exact ⟨_, rfl, fun _ => sd hf⟩
end Go.Mod
