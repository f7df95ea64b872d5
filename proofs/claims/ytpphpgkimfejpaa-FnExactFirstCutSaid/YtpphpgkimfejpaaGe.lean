import Derived.Test.YtpphpgkimfejpaaGc
/- Printed by a program. -/
namespace Go.Mod
open Go.AM
set_option linter.unusedVariables false
structure l00Src where
  code : List Int
  at_ : Int
  seed : Int
  deriving DecidableEq, Inhabited
theorem l00Src.eta (t : l00Src) : l00Src.mk t.code t.at_ t.seed = t := rfl
structure Term where
  Const : Int
  Coeffs : List Int
  deriving DecidableEq, Inhabited
theorem Term.eta (t : Term) : Term.mk t.Const t.Coeffs = t := rfl
structure combination where
  term : Term
  by_ : List Int
  deriving DecidableEq, Inhabited
theorem combination.eta (t : combination) : combination.mk t.term t.by_ = t := rfl
structure l06Row where
  c : Int
  list : List Int
  times : List Int
  deriving DecidableEq, Inhabited
theorem l06Row.eta (t : l06Row) : l06Row.mk t.c t.list t.times = t := rfl
structure Sequent where
  Facts : List Term
  Goal : Term
  deriving DecidableEq, Inhabited
theorem Sequent.eta (t : Sequent) : Sequent.mk t.Facts t.Goal = t := rfl
def k_u8 (x : Int) : Prop := 0 ≤ x ∧ x ≤ 255
def kLa_u8 (x : List Int) : Prop := x.length ≤ 9223372036854775807 ∧ ∀ y ∈ x, k_u8 y
def k_i64 (x : Int) : Prop := -9223372036854775808 ≤ x ∧ x ≤ 9223372036854775807
def kLa_i64 (x : List Int) : Prop := x.length ≤ 9223372036854775807 ∧ ∀ y ∈ x, k_i64 y
def k_Term (x : Term) : Prop := k_i64 x.Const ∧ kLa_i64 x.Coeffs
def kLa_Term (x : List Term) : Prop := x.length ≤ 9223372036854775807 ∧ ∀ y ∈ x, k_Term y

noncomputable def m_laws_b10Long (p0 : List Int) (p1 : List Int) : Option Bool :=
  some ((decide ((1048576 : Int) < (p0.length : Int))) || (decide ((1048576 : Int) < (p1.length : Int))))

noncomputable def m_spec_l00From (p0 : List Int) : Option l00Src :=
  some (l00Src.mk p0 (0 : Int) (0 : Int))

noncomputable def m_spec_l00Src_next_J0 (p0 : l00Src) (j0 : Int) : Option (Int × l00Src) :=
  bif (decide ((w64 (p0.at_ + (1 : Int))) ≤ (p0.code.length : Int))) then
    some (j0, (l00Src.mk p0.code (w64 (p0.at_ + (1 : Int))) (wu 64 ((wu 64 ((wu 64 (p0.seed * (6364136223846793005 : Int))) + (wu 64 j0))) + (1442695040888963407 : Int)))))
  else
    some ((w64 (andU 64 (Int.fdiv (wu 64 ((wu 64 ((wu 64 (p0.seed * (6364136223846793005 : Int))) + (wu 64 j0))) + (1442695040888963407 : Int))) (2 ^ 40)) (255 : Int))), (l00Src.mk p0.code (w64 (p0.at_ + (1 : Int))) (wu 64 ((wu 64 ((wu 64 (p0.seed * (6364136223846793005 : Int))) + (wu 64 j0))) + (1442695040888963407 : Int)))))

noncomputable def m_spec_l00Src_next (p0 : l00Src) : Option (Int × l00Src) :=
  bif (decide (p0.at_ < (p0.code.length : Int))) then
    (getI p0.code p0.at_).bind fun (x22 : Int) =>
    m_spec_l00Src_next_J0 p0 (w64 x22)
  else
    m_spec_l00Src_next_J0 p0 (0 : Int)

noncomputable def m_spec_l00Src_pick (p0 : l00Src) (p1 : Int) : Option (Int × l00Src) :=
  bif (decide (p1 ≤ (1 : Int))) then
    some ((0 : Int), p0)
  else
    (m_spec_l00Src_next p0).bind fun (r9 : Int × l00Src) =>
    bif (decide ((200 : Int) < p1)) then
      (m_spec_l00Src_next r9.2).bind fun (r15 : Int × l00Src) =>
      (remI (w64 ((w64 (r9.1 * (256 : Int))) + r15.1)) p1).bind fun (q19 : Int) =>
      some (q19, r15.2)
    else
      (remI r9.1 p1).bind fun (q19 : Int) =>
      some (q19, r9.2)

noncomputable def m_spec_l00Own (p0 : List Int) : Option (List Int) :=
  (capI (([] : List Int).length + p0.length) 8).bind fun (q5 : Unit) =>
  some (([] : List Int) ++ p0)

noncomputable def m_spec_l00In (p0 : Int) (p1 : Int) (p2 : Int) : Option Bool :=
  some ((decide (p1 ≤ p0)) && (decide (p0 ≤ p2)))

noncomputable def m_spec_l02Number (p0 : Int) : Option Bool :=
  (m_spec_l00In p0 (-1000000 : Int) (1000000 : Int)).bind fun (r4 : Bool) =>
  some r4

noncomputable def m_spec_l02Is_L0 (p0 : Term) (s0 : Int) : Option (Ctl Int (Unit ⊕ Bool)) :=
  bif (decide (s0 < (p0.Coeffs.length : Int))) then
    (getI p0.Coeffs s0).bind fun (x45 : Int) =>
    (m_spec_l02Number x45).bind fun (r47 : Bool) =>
    bif (!r47) then
      some (.out (.inr false))
    else
      some (.next (w64 (s0 + (1 : Int))))
  else
    some (.out (.inl ()))

noncomputable def m_spec_l02Is_A0 (u0 : Unit ⊕ Bool) : Option Bool :=
  match u0 with
  | .inl u0 =>
    some true
  | .inr u0 =>
    some u0

noncomputable def m_spec_l02Is_J0 (p0 : Term) (j0 : Unit) : Option Bool :=
  (iter (m_spec_l02Is_L0 p0) (0 : Int)).bind fun (u0 : Unit ⊕ Bool) =>
  m_spec_l02Is_A0 u0

noncomputable def m_spec_l02Is (p0 : Term) : Option Bool :=
  (m_spec_l02Number p0.Const).bind fun (r14 : Bool) =>
  bif ((!r14) || (decide ((10 : Int) < (p0.Coeffs.length : Int)))) then
    some false
  else
    bif (decide ((0 : Int) < (p0.Coeffs.length : Int))) then
      (getI p0.Coeffs (w64 ((p0.Coeffs.length : Int) - (1 : Int)))).bind fun (x30 : Int) =>
      bif (decide (x30 = (0 : Int))) then
        some false
      else
        m_spec_l02Is_J0 p0 ()
    else
      m_spec_l02Is_J0 p0 ()

noncomputable def m_spec_l02Make_L0 (p1 : List Int) (s0 : Int) : Option (Ctl Int Int) :=
  bif (decide ((0 : Int) < s0)) then
    (getI p1 (w64 (s0 - (1 : Int)))).bind fun (x16 : Int) =>
    bif (decide (x16 = (0 : Int))) then
      some (.next (w64 (s0 - (1 : Int))))
    else
      some (.out s0)
  else
    some (.out s0)

noncomputable def m_spec_l02Make_A0 (p0 : Int) (p1 : List Int) (u0 : Int) : Option (Term × Bool) :=
  (sliceI p1 (0 : Int) u0).bind fun (y25 : List Int) =>
  (m_spec_l00Own y25).bind fun (r26 : List Int) =>
  (m_spec_l02Is (Term.mk p0 r26)).bind fun (r28 : Bool) =>
  bif (!r28) then
    some ((Term.mk (0 : Int) ([] : List Int)), false)
  else
    some ((Term.mk p0 r26), true)

noncomputable def m_spec_l02Make (p0 : Int) (p1 : List Int) : Option (Term × Bool) :=
  (iter (m_spec_l02Make_L0 p1) (p1.length : Int)).bind fun (u0 : Int) =>
  m_spec_l02Make_A0 p0 p1 u0

noncomputable def m_spec_l00Src_one (p0 : l00Src) (p1 : Int) : Option (Bool × l00Src) :=
  (m_spec_l00Src_pick p0 p1).bind fun (r7 : Int × l00Src) =>
  some ((decide (r7.1 = (0 : Int))), r7.2)

noncomputable def m_spec_l02Coeff (p0 : Term) (p1 : Int) : Option Int :=
  bif (decide (p1 < (p0.Coeffs.length : Int))) then
    (getI p0.Coeffs p1).bind fun (x17 : Int) =>
    some x17
  else
    some (0 : Int)

noncomputable def m_spec_l02Sum_L0 (p0 : Term) (p1 : Int) (p2 : Term) (p3 : Int) (s0 : (List Int) × Int) : Option (Ctl ((List Int) × Int) ((List Int))) :=
  bif (decide (s0.2 < (10 : Int))) then
    (m_spec_l02Coeff p0 s0.2).bind fun (r21 : Int) =>
    (m_spec_l02Coeff p2 s0.2).bind fun (r26 : Int) =>
    (capI (s0.1.length + [(w64 ((w64 (p1 * r21)) + (w64 (p3 * r26))))].length) 8).bind fun (q30 : Unit) =>
    some (.next ((s0.1 ++ [(w64 ((w64 (p1 * r21)) + (w64 (p3 * r26))))]), (w64 (s0.2 + (1 : Int)))))
  else
    some (.out s0.1)

noncomputable def m_spec_l02Sum_A0 (p0 : Term) (p1 : Int) (p2 : Term) (p3 : Int) (u0 : (List Int)) : Option (Term × Bool) :=
  (m_spec_l02Make (w64 ((w64 (p1 * p0.Const)) + (w64 (p3 * p2.Const)))) u0).bind fun (r45 : Term × Bool) =>
  some (r45.1, r45.2)

noncomputable def m_spec_l02Sum (p0 : Term) (p1 : Int) (p2 : Term) (p3 : Int) : Option (Term × Bool) :=
  (iter (m_spec_l02Sum_L0 p0 p1 p2 p3) (([] : List Int), (0 : Int))).bind fun (u0 : (List Int)) =>
  m_spec_l02Sum_A0 p0 p1 p2 p3 u0

noncomputable def m_spec_l02Opposite (p0 : Term) : Option (Term × Bool) :=
  (m_spec_l02Sum p0 (-1 : Int) (Term.mk (1 : Int) ([] : List Int)) (-1 : Int)).bind fun (r7 : Term × Bool) =>
  some (r7.1, r7.2)

noncomputable def m_spec_B10Facts_L1 (s1 : (List Int) × Int × Int × (List Int) × Int) : Option (Ctl ((List Int) × Int × Int × (List Int) × Int) (((List Int) × Int × Int × (List Int)))) :=
  bif (decide ((0 : Int) < s1.2.2.2.2)) then
    (m_spec_l00Src_pick (l00Src.mk s1.1 s1.2.1 s1.2.2.1) (7 : Int)).bind fun (r29 : Int × l00Src) =>
    (capI (s1.2.2.2.1.length + [(w64 (r29.1 - (3 : Int)))].length) 8).bind fun (q32 : Unit) =>
    some (.next (r29.2.code, r29.2.at_, r29.2.seed, (s1.2.2.2.1 ++ [(w64 (r29.1 - (3 : Int)))]), (w64 (s1.2.2.2.2 - (1 : Int)))))
  else
    some (.out (s1.1, s1.2.1, s1.2.2.1, s1.2.2.2.1))

noncomputable def m_spec_B10Facts_J0 (s0 : (List Int) × Int × Int × (List Term) × Int) (r38 : Term × Bool) (j0 : (List Int) × Int × Int × Bool) : Option (Ctl ((List Int) × Int × Int × (List Term) × Int) ((List Term))) :=
  bif j0.2.2.2 then
    (m_spec_l00Src_pick (l00Src.mk j0.1 j0.2.1 j0.2.2.1) (s0.2.2.2.1.length : Int)).bind fun (r53 : Int × l00Src) =>
    (getI s0.2.2.2.1 r53.1).bind fun (x54 : Term) =>
    (m_spec_l02Opposite x54).bind fun (r55 : Term × Bool) =>
    (m_spec_l00Src_pick r53.2 (7 : Int)).bind fun (r61 : Int × l00Src) =>
    (capI (s0.2.2.2.1.length + [(Term.mk (w64 (r55.1.Const + r61.1)) r55.1.Coeffs)].length) 32).bind fun (q67 : Unit) =>
    some (.next (r61.2.code, r61.2.at_, r61.2.seed, (s0.2.2.2.1 ++ [(Term.mk (w64 (r55.1.Const + r61.1)) r55.1.Coeffs)]), (w64 (s0.2.2.2.2 - (1 : Int)))))
  else
    (capI (s0.2.2.2.1.length + [r38.1].length) 32).bind fun (q67 : Unit) =>
    some (.next (j0.1, j0.2.1, j0.2.2.1, (s0.2.2.2.1 ++ [r38.1]), (w64 (s0.2.2.2.2 - (1 : Int)))))

noncomputable def m_spec_B10Facts_A1 (s0 : (List Int) × Int × Int × (List Term) × Int) (u1 : ((List Int) × Int × Int × (List Int))) : Option (Ctl ((List Int) × Int × Int × (List Term) × Int) ((List Term))) :=
  (m_spec_l00Src_pick (l00Src.mk u1.1 u1.2.1 u1.2.2.1) (9 : Int)).bind fun (r35 : Int × l00Src) =>
  (m_spec_l02Make (w64 (r35.1 - (3 : Int))) u1.2.2.2).bind fun (r38 : Term × Bool) =>
  bif (decide ((0 : Int) < (s0.2.2.2.1.length : Int))) then
    (m_spec_l00Src_one r35.2 (3 : Int)).bind fun (r46 : Bool × l00Src) =>
    m_spec_B10Facts_J0 s0 r38 (r46.2.code, r46.2.at_, r46.2.seed, r46.1)
  else
    m_spec_B10Facts_J0 s0 r38 (r35.2.code, r35.2.at_, r35.2.seed, false)

noncomputable def m_spec_B10Facts_L0 (s0 : (List Int) × Int × Int × (List Term) × Int) : Option (Ctl ((List Int) × Int × Int × (List Term) × Int) ((List Term))) :=
  bif (decide ((0 : Int) < s0.2.2.2.2)) then
    (m_spec_l00Src_pick (l00Src.mk s0.1 s0.2.1 s0.2.2.1) (4 : Int)).bind fun (r22 : Int × l00Src) =>
    (iter (m_spec_B10Facts_L1) (r22.2.code, r22.2.at_, r22.2.seed, ([] : List Int), r22.1)).bind fun (u1 : ((List Int) × Int × Int × (List Int))) =>
    m_spec_B10Facts_A1 s0 u1
  else
    some (.out s0.2.2.2.1)

noncomputable def m_spec_B10Facts_A0 (u0 : (List Term)) : Option (List Term) :=
  some u0

noncomputable def m_spec_B10Facts (p0 : List Int) : Option (List Term) :=
  (m_spec_l00From p0).bind fun (r11 : l00Src) =>
  (m_spec_l00Src_pick r11 (5 : Int)).bind fun (r14 : Int × l00Src) =>
  (iter (m_spec_B10Facts_L0) (r14.2.code, r14.2.at_, r14.2.seed, ([] : List Term), (w64 ((1 : Int) + r14.1)))).bind fun (u0 : (List Term)) =>
  m_spec_B10Facts_A0 u0

noncomputable def m_spec_B10Values_L0 (s0 : (List Int) × Int × Int × (List Int) × Int) : Option (Ctl ((List Int) × Int × Int × (List Int) × Int) ((List Int))) :=
  bif (decide (s0.2.2.2.2 < (10 : Int))) then
    (m_spec_l00Src_pick (l00Src.mk s0.1 s0.2.1 s0.2.2.1) (13 : Int)).bind fun (r15 : Int × l00Src) =>
    (capI (s0.2.2.2.1.length + [(w64 (r15.1 - (6 : Int)))].length) 8).bind fun (q18 : Unit) =>
    some (.next (r15.2.code, r15.2.at_, r15.2.seed, (s0.2.2.2.1 ++ [(w64 (r15.1 - (6 : Int)))]), (w64 (s0.2.2.2.2 + (1 : Int)))))
  else
    some (.out s0.2.2.2.1)

noncomputable def m_spec_B10Values_A0 (u0 : (List Int)) : Option (List Int) :=
  some u0

noncomputable def m_spec_B10Values (p0 : List Int) : Option (List Int) :=
  (m_spec_l00From p0).bind fun (r7 : l00Src) =>
  (iter (m_spec_B10Values_L0) (r7.code, r7.at_, r7.seed, ([] : List Int), (0 : Int))).bind fun (u0 : (List Int)) =>
  m_spec_B10Values_A0 u0

noncomputable def m_impl_within (p0 : Int) (p1 : Int) (p2 : Int) : Option Bool :=
  some ((decide (p1 ≤ p0)) && (decide (p0 ≤ p2)))

noncomputable def m_impl_isCoeff (p0 : Int) : Option Bool :=
  (m_impl_within p0 (-1000000 : Int) (1000000 : Int)).bind fun (r4 : Bool) =>
  some r4

noncomputable def m_impl_allWithin_L0 (p1 : Int) (p2 : Int) (n0 : Nat) (x0 : Int) (s0 : Unit) : Option (Ctl Unit (Unit ⊕ Bool)) :=
  (m_impl_within x0 p1 p2).bind fun (r18 : Bool) =>
  bif (!r18) then
    some (.out (.inr false))
  else
    some (.next ())

noncomputable def m_impl_allWithin_A0 (u0 : Unit ⊕ Bool) : Option Bool :=
  match u0 with
  | .inl u0 =>
    some true
  | .inr u0 =>
    some u0

noncomputable def m_impl_allWithin (p0 : List Int) (p1 : Int) (p2 : Int) : Option Bool :=
  (forL (m_impl_allWithin_L0 p1 p2) (fun s0 => (.inl ())) 0 p0 ()).bind fun (u0 : Unit ⊕ Bool) =>
  m_impl_allWithin_A0 u0

noncomputable def m_impl_ValidTerm (p0 : Term) : Option Bool :=
  bif (decide ((p0.Coeffs.length : Int) ≤ (10 : Int))) then
    (m_impl_isCoeff p0.Const).bind fun (r12 : Bool) =>
    bif r12 then
      (m_impl_allWithin p0.Coeffs (-1000000 : Int) (1000000 : Int)).bind fun (r17 : Bool) =>
      bif r17 then
        bif (decide ((p0.Coeffs.length : Int) = (0 : Int))) then
          some true
        else
          (getI p0.Coeffs (w64 ((p0.Coeffs.length : Int) - (1 : Int)))).bind fun (x27 : Int) =>
          some (!decide (x27 = (0 : Int)))
      else
        some false
    else
      some false
  else
    some false

noncomputable def m_impl_areTerms_L0 (n0 : Nat) (x0 : Term) (s0 : Unit) : Option (Ctl Unit (Unit ⊕ Bool)) :=
  (m_impl_ValidTerm x0).bind fun (r18 : Bool) =>
  bif (!r18) then
    some (.out (.inr false))
  else
    some (.next ())

noncomputable def m_impl_areTerms_A0 (u0 : Unit ⊕ Bool) : Option Bool :=
  match u0 with
  | .inl u0 =>
    some true
  | .inr u0 =>
    some u0

noncomputable def m_impl_areTerms (p0 : List Term) (p1 : Int) : Option Bool :=
  bif (decide (p1 < (p0.length : Int))) then
    some false
  else
    (forL (m_impl_areTerms_L0) (fun s0 => (.inl ())) 0 p0 ()).bind fun (u0 : Unit ⊕ Bool) =>
    m_impl_areTerms_A0 u0

noncomputable def m_impl_ValidFacts (p0 : List Term) : Option Bool :=
  (m_impl_areTerms p0 (14 : Int)).bind fun (r4 : Bool) =>
  some r4

noncomputable def m_impl_allSymbols_L0 (p0 : Int) (s0 : (List Int) × Int) : Option (Ctl ((List Int) × Int) ((List Int))) :=
  bif (decide (s0.2 < p0)) then
    (capI (s0.1.length + [s0.2].length) 8).bind fun (q12 : Unit) =>
    some (.next ((s0.1 ++ [s0.2]), (w64 (s0.2 + (1 : Int)))))
  else
    some (.out s0.1)

noncomputable def m_impl_allSymbols_A0 (u0 : (List Int)) : Option (List Int) :=
  some u0

noncomputable def m_impl_allSymbols (p0 : Int) : Option (List Int) :=
  (iter (m_impl_allSymbols_L0 p0) (([] : List Int), (0 : Int))).bind fun (u0 : (List Int)) =>
  m_impl_allSymbols_A0 u0

noncomputable def m_impl_Term_coeff (p0 : Term) (p1 : Int) : Option Int :=
  bif (decide (p1 < (p0.Coeffs.length : Int))) then
    (getI p0.Coeffs p1).bind fun (x13 : Int) =>
    some x13
  else
    some (0 : Int)

noncomputable def m_impl_absolute (p0 : Int) : Option Int :=
  some (max p0 (w64 (0 - p0)))

noncomputable def m_impl_gcd_L1 (s1 : Int × Int) : Option (Ctl (Int × Int) Int) :=
  bif (!decide (s1.2 = (0 : Int))) then
    (remI s1.1 s1.2).bind fun (q22 : Int) =>
    some (.next (s1.2, q22))
  else
    some (.out s1.1)

noncomputable def m_impl_gcd_A1 (u1 : Int) : Option (Ctl Int Int) :=
  some (.next u1)

noncomputable def m_impl_gcd_L0 (n0 : Nat) (x0 : Int) (s0 : Int) : Option (Ctl Int Int) :=
  (m_impl_absolute x0).bind fun (r16 : Int) =>
  (iter (m_impl_gcd_L1) (s0, r16)).bind fun (u1 : Int) =>
  m_impl_gcd_A1 u1

noncomputable def m_impl_gcd_A0 (u0 : Int) : Option Int :=
  some u0

noncomputable def m_impl_gcd (p0 : List Int) : Option Int :=
  (forL (m_impl_gcd_L0) (fun s0 => s0) 0 p0 (0 : Int)).bind fun (u0 : Int) =>
  m_impl_gcd_A0 u0

noncomputable def m_impl_Term_trimmed_L0 (p0 : Term) (s0 : Int) : Option (Ctl Int Int) :=
  bif (decide ((0 : Int) < s0)) then
    (getI p0.Coeffs (w64 (s0 - (1 : Int)))).bind fun (x14 : Int) =>
    bif (decide (x14 = (0 : Int))) then
      some (.next (w64 (s0 - (1 : Int))))
    else
      some (.out s0)
  else
    some (.out s0)

noncomputable def m_impl_Term_trimmed_A0 (p0 : Term) (u0 : Int) : Option Term :=
  (sliceI p0.Coeffs (0 : Int) u0).bind fun (y23 : List Int) =>
  some (Term.mk p0.Const y23)

noncomputable def m_impl_Term_trimmed (p0 : Term) : Option Term :=
  (iter (m_impl_Term_trimmed_L0 p0) (p0.Coeffs.length : Int)).bind fun (u0 : Int) =>
  m_impl_Term_trimmed_A0 p0 u0

noncomputable def m_impl_combined_L1 (x23 : Int) (n1 : Nat) (x1 : Int) (s1 : List Int) : Option (Ctl (List Int) ((List Int))) :=
  (getI s1 (n1 : Int)).bind fun (x41 : Int) =>
  some (.next (s1.set (((n1 : Int)).toNat) (w64 (x41 + (w64 (x23 * x1))))))

noncomputable def m_impl_combined_A1 (s0 : Int × (List Int)) (x0 : Term) (x23 : Int) (u1 : (List Int)) : Option (Ctl (Int × (List Int)) ((Int × (List Int)))) :=
  some (.next ((w64 (s0.1 + (w64 (x23 * x0.Const)))), u1))

noncomputable def m_impl_combined_L0 (p1 : List Int) (n0 : Nat) (x0 : Term) (s0 : Int × (List Int)) : Option (Ctl (Int × (List Int)) ((Int × (List Int)))) :=
  (getI p1 (n0 : Int)).bind fun (x23 : Int) =>
  (forL (m_impl_combined_L1 x23) (fun s1 => s1) 0 x0.Coeffs s0.2).bind fun (u1 : (List Int)) =>
  m_impl_combined_A1 s0 x0 x23 u1

noncomputable def m_impl_combined_A0 (u0 : (Int × (List Int))) : Option Term :=
  (m_impl_Term_trimmed (Term.mk u0.1 u0.2)).bind fun (r54 : Term) =>
  some r54

noncomputable def m_impl_combined (p0 : List Term) (p1 : List Int) : Option Term :=
  (makeI (10 : Int) 8).bind fun (k10 : Nat) =>
  (forL (m_impl_combined_L0 p1) (fun s0 => (s0.1, s0.2)) 0 p0 ((0 : Int), (List.replicate k10 (0 : Int)))).bind fun (u0 : (Int × (List Int))) =>
  m_impl_combined_A0 u0

noncomputable def m_impl_cancelled_L0 (p1 : combination) (q31 : Int) (q34 : Int) (n0 : Nat) (x0 : Int) (s0 : List Int) : Option (Ctl (List Int) ((List Int))) :=
  (getI p1.by_ (n0 : Int)).bind fun (x62 : Int) =>
  (capI (s0.length + [(w64 ((w64 (q34 * x0)) + (w64 (q31 * x62))))].length) 8).bind fun (q67 : Unit) =>
  some (.next (s0 ++ [(w64 ((w64 (q34 * x0)) + (w64 (q31 * x62))))]))

noncomputable def m_impl_cancelled_L1 (r43 : Term) (r77 : Int) (s1 : (List Int) × Int) : Option (Ctl ((List Int) × Int) ((List Int))) :=
  bif (decide (s1.2 < (r43.Coeffs.length : Int))) then
    (getI s1.1 s1.2).bind fun (x92 : Int) =>
    (quoI x92 r77).bind fun (q95 : Int) =>
    some (.next ((s1.1.set ((s1.2).toNat) q95), (w64 (s1.2 + (1 : Int)))))
  else
    some (.out s1.1)

noncomputable def m_impl_cancelled_L2 (u0 : List Int) (r77 : Int) (s2 : (List Int) × Int) : Option (Ctl ((List Int) × Int) ((List Int))) :=
  bif (decide (s2.2 < (u0.length : Int))) then
    (getI s2.1 s2.2).bind fun (x105 : Int) =>
    (quoI x105 r77).bind fun (q108 : Int) =>
    some (.next ((s2.1.set ((s2.2).toNat) q108), (w64 (s2.2 + (1 : Int)))))
  else
    some (.out s2.1)

noncomputable def m_impl_cancelled_A2 (q81 : Int) (u1 : List Int) (u2 : (List Int)) : Option (combination × Bool) :=
  (m_impl_ValidTerm (Term.mk q81 u1)).bind fun (r115 : Bool) =>
  bif r115 then
    (m_impl_allWithin u2 (-1000000 : Int) (1000000 : Int)).bind fun (r118 : Bool) =>
    some ((combination.mk (Term.mk q81 u1) u2), r118)
  else
    some ((combination.mk (Term.mk q81 u1) u2), false)

noncomputable def m_impl_cancelled_A1 (u0 : List Int) (r77 : Int) (q81 : Int) (u1 : (List Int)) : Option (combination × Bool) :=
  (iter (m_impl_cancelled_L2 u0 r77) (u0, (0 : Int))).bind fun (u2 : (List Int)) =>
  m_impl_cancelled_A2 q81 u1 u2

noncomputable def m_impl_cancelled_A0 (r43 : Term) (u0 : (List Int)) : Option (combination × Bool) :=
  (capI ([r43.Const].length + r43.Coeffs.length) 8).bind fun (q74 : Unit) =>
  (capI (([r43.Const] ++ r43.Coeffs).length + u0.length) 8).bind fun (q76 : Unit) =>
  (m_impl_gcd (([r43.Const] ++ r43.Coeffs) ++ u0)).bind fun (r77 : Int) =>
  (quoI r43.Const r77).bind fun (q81 : Int) =>
  (iter (m_impl_cancelled_L1 r43 r77) (r43.Coeffs, (0 : Int))).bind fun (u1 : (List Int)) =>
  m_impl_cancelled_A1 u0 r77 q81 u1

noncomputable def m_impl_cancelled (p0 : combination) (p1 : combination) (p2 : Int) : Option (combination × Bool) :=
  (m_impl_Term_coeff p0.term p2).bind fun (r19 : Int) =>
  (m_impl_Term_coeff p1.term p2).bind fun (r23 : Int) =>
  (m_impl_gcd [r19, (w64 (0 - r23))]).bind fun (r28 : Int) =>
  (quoI r19 r28).bind fun (q31 : Int) =>
  (quoI (w64 (0 - r23)) r28).bind fun (q34 : Int) =>
  (m_impl_combined [p0.term, p1.term] [q34, q31]).bind fun (r43 : Term) =>
  (forL (m_impl_cancelled_L0 p1 q31 q34) (fun s0 => s0) 0 p0.by_ ([] : List Int)).bind fun (u0 : (List Int)) =>
  m_impl_cancelled_A0 r43 u0

noncomputable def m_impl_eliminated_L0 (p0 : List Term) (n0 : Nat) (x0 : Term) (s0 : List combination) : Option (Ctl (List combination) ((List combination))) :=
  (makeI (p0.length : Int) 8).bind fun (k32 : Nat) =>
  (getI (List.replicate k32 (0 : Int)) (n0 : Int)).bind fun (x35 : Int) =>
  (capI (s0.length + [(combination.mk x0 ((List.replicate k32 (0 : Int)).set (((n0 : Int)).toNat) (1 : Int)))].length) 56).bind fun (q41 : Unit) =>
  some (.next (s0 ++ [(combination.mk x0 ((List.replicate k32 (0 : Int)).set (((n0 : Int)).toNat) (1 : Int)))]))

noncomputable def m_impl_eliminated_L2 (x1 : Int) (n2 : Nat) (x2 : combination) (s2 : List combination) : Option (Ctl (List combination) ((List combination))) :=
  (m_impl_Term_coeff x2.term x1).bind fun (r58 : Int) =>
  bif (decide (r58 = (0 : Int))) then
    (capI (s2.length + [x2].length) 56).bind fun (q63 : Unit) =>
    some (.next (s2 ++ [x2]))
  else
    some (.next s2)

noncomputable def m_impl_eliminated_L4 (x1 : Int) (x3 : combination) (n4 : Nat) (x4 : combination) (s4 : (List combination) × (List combination)) : Option (Ctl ((List combination) × (List combination)) (((List combination) × (List combination)) ⊕ ((List combination) × (List combination) × Bool))) :=
  (m_impl_Term_coeff x3.term x1).bind fun (r80 : Int) =>
  bif (decide (r80 ≤ (0 : Int))) then
    some (.next (s4.1, s4.2))
  else
    (m_impl_Term_coeff x4.term x1).bind fun (r86 : Int) =>
    bif (decide ((0 : Int) ≤ r86)) then
      some (.next (s4.1, s4.2))
    else
      (m_impl_cancelled x3 x4 x1).bind fun (r93 : combination × Bool) =>
      bif ((!r93.2) || (decide ((s4.2.length : Int) = (60 : Int)))) then
        some (.out (.inr (([] : List combination), ([] : List combination), false)))
      else
        (capI (s4.2.length + [r93.1].length) 56).bind fun (q106 : Unit) =>
        (capI (s4.1.length + [r93.1].length) 56).bind fun (q110 : Unit) =>
        some (.next ((s4.1 ++ [r93.1]), (s4.2 ++ [r93.1])))

noncomputable def m_impl_eliminated_A4 (u4 : ((List combination) × (List combination)) ⊕ ((List combination) × (List combination) × Bool)) : Option (Ctl ((List combination) × (List combination)) (((List combination) × (List combination)) ⊕ ((List combination) × (List combination) × Bool))) :=
  match u4 with
  | .inl u4 =>
    some (.next (u4.1, u4.2))
  | .inr u4 =>
    some (.out (.inr (u4.1, u4.2.1, u4.2.2)))

noncomputable def m_impl_eliminated_L3 (s1 : (List combination) × (List combination)) (x1 : Int) (n3 : Nat) (x3 : combination) (s3 : (List combination) × (List combination)) : Option (Ctl ((List combination) × (List combination)) (((List combination) × (List combination)) ⊕ ((List combination) × (List combination) × Bool))) :=
  (forL (m_impl_eliminated_L4 x1 x3) (fun s4 => (.inl (s4.1, s4.2))) 0 s1.1 (s3.1, s3.2)).bind fun (u4 : ((List combination) × (List combination)) ⊕ ((List combination) × (List combination) × Bool)) =>
  m_impl_eliminated_A4 u4

noncomputable def m_impl_eliminated_A3 (u3 : ((List combination) × (List combination)) ⊕ ((List combination) × (List combination) × Bool)) : Option (Ctl ((List combination) × (List combination)) (((List combination) × (List combination)) ⊕ ((List combination) × (List combination) × Bool))) :=
  match u3 with
  | .inl u3 =>
    bif (decide ((60 : Int) < (u3.2.length : Int))) then
      some (.out (.inr (([] : List combination), ([] : List combination), false)))
    else
      some (.next (u3.2, u3.1))
  | .inr u3 =>
    some (.out (.inr (u3.1, u3.2.1, u3.2.2)))

noncomputable def m_impl_eliminated_A2 (s1 : (List combination) × (List combination)) (x1 : Int) (u2 : (List combination)) : Option (Ctl ((List combination) × (List combination)) (((List combination) × (List combination)) ⊕ ((List combination) × (List combination) × Bool))) :=
  (forL (m_impl_eliminated_L3 s1 x1) (fun s3 => (.inl (s3.1, s3.2))) 0 s1.1 (s1.2, u2)).bind fun (u3 : ((List combination) × (List combination)) ⊕ ((List combination) × (List combination) × Bool)) =>
  m_impl_eliminated_A3 u3

noncomputable def m_impl_eliminated_L1 (n1 : Nat) (x1 : Int) (s1 : (List combination) × (List combination)) : Option (Ctl ((List combination) × (List combination)) (((List combination) × (List combination)) ⊕ ((List combination) × (List combination) × Bool))) :=
  (forL (m_impl_eliminated_L2 x1) (fun s2 => s2) 0 s1.1 ([] : List combination)).bind fun (u2 : (List combination)) =>
  m_impl_eliminated_A2 s1 x1 u2

noncomputable def m_impl_eliminated_A1 (u1 : ((List combination) × (List combination)) ⊕ ((List combination) × (List combination) × Bool)) : Option ((List combination) × (List combination) × Bool) :=
  match u1 with
  | .inl u1 =>
    some (u1.1, u1.2, true)
  | .inr u1 =>
    some (u1.1, u1.2.1, u1.2.2)

noncomputable def m_impl_eliminated_A0 (p1 : List Int) (u0 : (List combination)) : Option ((List combination) × (List combination) × Bool) :=
  (forL (m_impl_eliminated_L1) (fun s1 => (.inl (s1.1, s1.2))) 0 p1 (u0, ([] : List combination))).bind fun (u1 : ((List combination) × (List combination)) ⊕ ((List combination) × (List combination) × Bool)) =>
  m_impl_eliminated_A1 u1

noncomputable def m_impl_eliminated (p0 : List Term) (p1 : List Int) : Option ((List combination) × (List combination) × Bool) :=
  (forL (m_impl_eliminated_L0 p0) (fun s0 => s0) 0 p0 ([] : List combination)).bind fun (u0 : (List combination)) =>
  m_impl_eliminated_A0 p1 u0

noncomputable def m_impl_copyInts (p0 : List Int) : Option (List Int) :=
  (capI (([] : List Int).length + p0.length) 8).bind fun (q5 : Unit) =>
  some (([] : List Int) ++ p0)

noncomputable def m_impl_RefuteFacts_L0 (n0 : Nat) (x0 : combination) (s0 : Unit) : Option (Ctl Unit (Unit ⊕ ((List Int) × Bool))) :=
  bif (decide (x0.term.Const < (0 : Int))) then
    (m_impl_copyInts x0.by_).bind fun (r33 : List Int) =>
    some (.out (.inr (r33, true)))
  else
    some (.next ())

noncomputable def m_impl_RefuteFacts_A0 (u0 : Unit ⊕ ((List Int) × Bool)) : Option ((List Int) × Bool) :=
  match u0 with
  | .inl u0 =>
    some (([] : List Int), false)
  | .inr u0 =>
    some (u0.1, u0.2)

noncomputable def m_impl_RefuteFacts (p0 : List Term) : Option ((List Int) × Bool) :=
  (m_impl_ValidFacts p0).bind fun (r10 : Bool) =>
  bif (!r10) then
    some (([] : List Int), false)
  else
    (m_impl_allSymbols (10 : Int)).bind fun (r14 : List Int) =>
    (m_impl_eliminated p0 r14).bind fun (r15 : (List combination) × (List combination) × Bool) =>
    bif (!r15.2.2) then
      some (([] : List Int), false)
    else
      (forL (m_impl_RefuteFacts_L0) (fun s0 => (.inl ())) 0 r15.1 ()).bind fun (u0 : Unit ⊕ ((List Int) × Bool)) =>
      m_impl_RefuteFacts_A0 u0

noncomputable def m_spec_l02All_L0 (p0 : List Term) (s0 : Int) : Option (Ctl Int (Unit ⊕ Bool)) :=
  bif (decide (s0 < (p0.length : Int))) then
    (getI p0 s0).bind fun (x14 : Term) =>
    (m_spec_l02Is x14).bind fun (r15 : Bool) =>
    bif (!r15) then
      some (.out (.inr false))
    else
      some (.next (w64 (s0 + (1 : Int))))
  else
    some (.out (.inl ()))

noncomputable def m_spec_l02All_A0 (p0 : List Term) (p1 : Int) (u0 : Unit ⊕ Bool) : Option Bool :=
  match u0 with
  | .inl u0 =>
    some (decide ((p0.length : Int) ≤ p1))
  | .inr u0 =>
    some u0

noncomputable def m_spec_l02All (p0 : List Term) (p1 : Int) : Option Bool :=
  (iter (m_spec_l02All_L0 p0) (0 : Int)).bind fun (u0 : Unit ⊕ Bool) =>
  m_spec_l02All_A0 p0 p1 u0

noncomputable def m_spec_l06Rows_L1 (p0 : List Term) (s0 : (List l06Row) × Int) (s1 : (List Int) × Int) : Option (Ctl ((List Int) × Int) ((List Int))) :=
  bif (decide (s1.2 < (10 : Int))) then
    (getI p0 s0.2).bind fun (x31 : Term) =>
    (m_spec_l02Coeff x31 s1.2).bind fun (r33 : Int) =>
    (capI (s1.1.length + [r33].length) 8).bind fun (q35 : Unit) =>
    some (.next ((s1.1 ++ [r33]), (w64 (s1.2 + (1 : Int)))))
  else
    some (.out s1.1)

noncomputable def m_spec_l06Rows_A1 (s0 : (List l06Row) × Int) (j0 : Int × (List Int)) (u1 : (List Int)) : Option (Ctl ((List l06Row) × Int) ((List l06Row))) :=
  (getI j0.2 s0.2).bind fun (x40 : Int) =>
  (capI (s0.1.length + [(l06Row.mk j0.1 u1 (j0.2.set ((s0.2).toNat) (1 : Int)))].length) 56).bind fun (q44 : Unit) =>
  some (.next ((s0.1 ++ [(l06Row.mk j0.1 u1 (j0.2.set ((s0.2).toNat) (1 : Int)))]), (w64 (s0.2 + (1 : Int)))))

noncomputable def m_spec_l06Rows_J0 (p0 : List Term) (s0 : (List l06Row) × Int) (j0 : Int × (List Int)) : Option (Ctl ((List l06Row) × Int) ((List l06Row))) :=
  (iter (m_spec_l06Rows_L1 p0 s0) (([] : List Int), (0 : Int))).bind fun (u1 : (List Int)) =>
  m_spec_l06Rows_A1 s0 j0 u1

noncomputable def m_spec_l06Rows_L0 (p0 : List Term) (s0 : (List l06Row) × Int) : Option (Ctl ((List l06Row) × Int) ((List l06Row))) :=
  bif (decide (s0.2 < (p0.length : Int))) then
    (getI p0 s0.2).bind fun (x16 : Term) =>
    (makeI (p0.length : Int) 8).bind fun (k21 : Nat) =>
    m_spec_l06Rows_J0 p0 s0 (x16.Const, (List.replicate k21 (0 : Int)))
  else
    some (.out s0.1)

noncomputable def m_spec_l06Rows_A0 (u0 : (List l06Row)) : Option (List l06Row) :=
  some u0

noncomputable def m_spec_l06Rows (p0 : List Term) : Option (List l06Row) :=
  (iter (m_spec_l06Rows_L0 p0) (([] : List l06Row), (0 : Int))).bind fun (u0 : (List l06Row)) =>
  m_spec_l06Rows_A0 u0

noncomputable def m_spec_l00Max (p0 : Int) (p1 : Int) : Option Int :=
  bif (decide (p1 < p0)) then
    some p0
  else
    some p1

noncomputable def m_spec_l06Gcd_L0 (s0 : Int × Int) : Option (Ctl (Int × Int) Int) :=
  bif (decide ((0 : Int) < s0.2)) then
    (remI s0.1 s0.2).bind fun (q14 : Int) =>
    some (.next (s0.2, q14))
  else
    some (.out s0.1)

noncomputable def m_spec_l06Gcd_A0 (u0 : Int) : Option Int :=
  some u0

noncomputable def m_spec_l06Gcd (p0 : Int) (p1 : Int) : Option Int :=
  (m_spec_l00Max p1 (w64 (0 - p1))).bind fun (r9 : Int) =>
  (iter (m_spec_l06Gcd_L0) (p0, r9)).bind fun (u0 : Int) =>
  m_spec_l06Gcd_A0 u0

noncomputable def m_spec_l06Mix_J0 (s0 : Int × (List Int) × Int) (j0 : List Int) : Option (Ctl (Int × (List Int) × Int) ((Int × (List Int)))) :=
  (getI j0 s0.2.2).bind fun (x95 : Int) =>
  (m_spec_l06Gcd s0.1 x95).bind fun (r97 : Int) =>
  some (.next (r97, j0, (w64 (s0.2.2 + (1 : Int)))))

noncomputable def m_spec_l06Mix_L0 (p0 : l06Row) (p1 : l06Row) (q37 : Int) (q40 : Int) (s0 : Int × (List Int) × Int) : Option (Ctl (Int × (List Int) × Int) ((Int × (List Int)))) :=
  bif (decide (s0.2.2 < (p0.list.length : Int))) then
    (getI p0.list s0.2.2).bind fun (x75 : Int) =>
    (getI p1.list s0.2.2).bind fun (x84 : Int) =>
    (capI (s0.2.1.length + [(w64 ((w64 (q40 * x75)) + (w64 (q37 * x84))))].length) 8).bind fun (q89 : Unit) =>
    m_spec_l06Mix_J0 s0 (s0.2.1 ++ [(w64 ((w64 (q40 * x75)) + (w64 (q37 * x84))))])
  else
    some (.out (s0.1, s0.2.1))

noncomputable def m_spec_l06Mix_J1 (s1 : Int × (List Int) × Int) (j1 : List Int) : Option (Ctl (Int × (List Int) × Int) ((Int × (List Int)))) :=
  (getI j1 s1.2.2).bind fun (x135 : Int) =>
  (m_spec_l06Gcd s1.1 x135).bind fun (r137 : Int) =>
  some (.next (r137, j1, (w64 (s1.2.2 + (1 : Int)))))

noncomputable def m_spec_l06Mix_L1 (p0 : l06Row) (p1 : l06Row) (q37 : Int) (q40 : Int) (s1 : Int × (List Int) × Int) : Option (Ctl (Int × (List Int) × Int) ((Int × (List Int)))) :=
  bif (decide (s1.2.2 < (p0.times.length : Int))) then
    (getI p0.times s1.2.2).bind fun (x115 : Int) =>
    (getI p1.times s1.2.2).bind fun (x124 : Int) =>
    (capI (s1.2.1.length + [(w64 ((w64 (q40 * x115)) + (w64 (q37 * x124))))].length) 8).bind fun (q129 : Unit) =>
    m_spec_l06Mix_J1 s1 (s1.2.1 ++ [(w64 ((w64 (q40 * x115)) + (w64 (q37 * x124))))])
  else
    some (.out (s1.1, s1.2.1))

noncomputable def m_spec_l06Mix_L2 (u1 : Int × (List Int)) (s2 : (List Int) × Bool × Int) : Option (Ctl ((List Int) × Bool × Int) (((List Int) × Bool))) :=
  bif (decide (s2.2.2 < (s2.1.length : Int))) then
    (getI s2.1 s2.2.2).bind fun (x156 : Int) =>
    (quoI x156 u1.1).bind fun (q159 : Int) =>
    bif s2.2.1 then
      (getI (s2.1.set ((s2.2.2).toNat) q159) s2.2.2).bind fun (x166 : Int) =>
      (m_spec_l02Number x166).bind fun (r168 : Bool) =>
      some (.next ((s2.1.set ((s2.2.2).toNat) q159), r168, (w64 (s2.2.2 + (1 : Int)))))
    else
      some (.next ((s2.1.set ((s2.2.2).toNat) q159), false, (w64 (s2.2.2 + (1 : Int)))))
  else
    some (.out (s2.1, s2.2.1))

noncomputable def m_spec_l06Mix_L3 (u1 : Int × (List Int)) (s3 : (List Int) × Bool × Int) : Option (Ctl ((List Int) × Bool × Int) (((List Int) × Bool))) :=
  bif (decide (s3.2.2 < (s3.1.length : Int))) then
    (getI s3.1 s3.2.2).bind fun (x180 : Int) =>
    (quoI x180 u1.1).bind fun (q183 : Int) =>
    bif s3.2.1 then
      (getI (s3.1.set ((s3.2.2).toNat) q183) s3.2.2).bind fun (x190 : Int) =>
      (m_spec_l02Number x190).bind fun (r192 : Bool) =>
      some (.next ((s3.1.set ((s3.2.2).toNat) q183), r192, (w64 (s3.2.2 + (1 : Int)))))
    else
      some (.next ((s3.1.set ((s3.2.2).toNat) q183), false, (w64 (s3.2.2 + (1 : Int)))))
  else
    some (.out (s3.1, s3.2.1))

noncomputable def m_spec_l06Mix_A3 (q141 : Int) (u2 : (List Int) × Bool) (u3 : ((List Int) × Bool)) : Option (l06Row × Bool) :=
  some ((l06Row.mk q141 u2.1 u3.1), u3.2)

noncomputable def m_spec_l06Mix_A2 (u1 : Int × (List Int)) (q141 : Int) (u2 : ((List Int) × Bool)) : Option (l06Row × Bool) :=
  (iter (m_spec_l06Mix_L3 u1) (u1.2, u2.2, (0 : Int))).bind fun (u3 : ((List Int) × Bool)) =>
  m_spec_l06Mix_A3 q141 u2 u3

noncomputable def m_spec_l06Mix_A1 (p0 : l06Row) (p1 : l06Row) (q37 : Int) (q40 : Int) (u0 : Int × (List Int)) (u1 : (Int × (List Int))) : Option (l06Row × Bool) :=
  (quoI (w64 ((w64 (q40 * p0.c)) + (w64 (q37 * p1.c)))) u1.1).bind fun (q141 : Int) =>
  (m_spec_l02Number q141).bind fun (r145 : Bool) =>
  (iter (m_spec_l06Mix_L2 u1) (u0.2, r145, (0 : Int))).bind fun (u2 : ((List Int) × Bool)) =>
  m_spec_l06Mix_A2 u1 q141 u2

noncomputable def m_spec_l06Mix_A0 (p0 : l06Row) (p1 : l06Row) (q37 : Int) (q40 : Int) (u0 : (Int × (List Int))) : Option (l06Row × Bool) :=
  (iter (m_spec_l06Mix_L1 p0 p1 q37 q40) (u0.1, ([] : List Int), (0 : Int))).bind fun (u1 : (Int × (List Int))) =>
  m_spec_l06Mix_A1 p0 p1 q37 q40 u0 u1

noncomputable def m_spec_l06Mix (p0 : l06Row) (p1 : l06Row) (p2 : Int) : Option (l06Row × Bool) :=
  (getI p0.list p2).bind fun (x22 : Int) =>
  (getI p1.list p2).bind fun (x29 : Int) =>
  (m_spec_l06Gcd x22 (w64 (0 - x29))).bind fun (r34 : Int) =>
  (quoI x22 r34).bind fun (q37 : Int) =>
  (quoI (w64 (0 - x29)) r34).bind fun (q40 : Int) =>
  (m_spec_l06Gcd (0 : Int) (w64 ((w64 (q40 * p0.c)) + (w64 (q37 * p1.c))))).bind fun (r57 : Int) =>
  (iter (m_spec_l06Mix_L0 p0 p1 q37 q40) (r57, ([] : List Int), (0 : Int))).bind fun (u0 : (Int × (List Int))) =>
  m_spec_l06Mix_A0 p0 p1 q37 q40 u0

noncomputable def m_spec_l06Stage_L0 (p0 : List l06Row) (p1 : Int) (s0 : (List l06Row) × Int) : Option (Ctl ((List l06Row) × Int) ((List l06Row))) :=
  bif (decide (s0.2 < (p0.length : Int))) then
    (getI p0 s0.2).bind fun (x23 : l06Row) =>
    (getI x23.list p1).bind fun (x27 : Int) =>
    bif (decide (x27 = (0 : Int))) then
      (capI (s0.1.length + [x23].length) 56).bind fun (q36 : Unit) =>
      some (.next ((s0.1 ++ [x23]), (w64 (s0.2 + (1 : Int)))))
    else
      some (.next (s0.1, (w64 (s0.2 + (1 : Int)))))
  else
    some (.out s0.1)

noncomputable def m_spec_l06Stage_J0 (s2 : (List l06Row) × Int) (j0 : Int × (List Int) × (List Int) × Bool) : Option (Ctl ((List l06Row) × Int) ((List l06Row) ⊕ ((List l06Row) × Int × Bool))) :=
  bif ((!j0.2.2.2) || (decide ((s2.1.length : Int) = (60 : Int)))) then
    some (.out (.inr (([] : List l06Row), (0 : Int), false)))
  else
    (capI (s2.1.length + [(l06Row.mk j0.1 j0.2.1 j0.2.2.1)].length) 56).bind fun (q92 : Unit) =>
    some (.next ((s2.1 ++ [(l06Row.mk j0.1 j0.2.1 j0.2.2.1)]), (w64 (s2.2 + (1 : Int)))))

noncomputable def m_spec_l06Stage_L2 (p0 : List l06Row) (p1 : Int) (s1 : (List l06Row) × Int) (s2 : (List l06Row) × Int) : Option (Ctl ((List l06Row) × Int) ((List l06Row) ⊕ ((List l06Row) × Int × Bool))) :=
  bif (decide (s2.2 < (p0.length : Int))) then
    (getI p0 s1.2).bind fun (x53 : l06Row) =>
    (getI x53.list p1).bind fun (x57 : Int) =>
    bif (decide (x57 ≤ (0 : Int))) then
      some (.next (s2.1, (w64 (s2.2 + (1 : Int)))))
    else
      (getI p0 s2.2).bind fun (x63 : l06Row) =>
      (getI x63.list p1).bind fun (x67 : Int) =>
      bif (decide ((0 : Int) ≤ x67)) then
        some (.next (s2.1, (w64 (s2.2 + (1 : Int)))))
      else
        (m_spec_l06Mix x53 x63 p1).bind fun (r79 : l06Row × Bool) =>
        m_spec_l06Stage_J0 s2 (r79.1.c, r79.1.list, r79.1.times, r79.2)
  else
    some (.out (.inl s2.1))

noncomputable def m_spec_l06Stage_A2 (s1 : (List l06Row) × Int) (u2 : (List l06Row) ⊕ ((List l06Row) × Int × Bool)) : Option (Ctl ((List l06Row) × Int) ((List l06Row) ⊕ ((List l06Row) × Int × Bool))) :=
  match u2 with
  | .inl u2 =>
    some (.next (u2, (w64 (s1.2 + (1 : Int)))))
  | .inr u2 =>
    some (.out (.inr (u2.1, u2.2.1, u2.2.2)))

noncomputable def m_spec_l06Stage_L1 (p0 : List l06Row) (p1 : Int) (s1 : (List l06Row) × Int) : Option (Ctl ((List l06Row) × Int) ((List l06Row) ⊕ ((List l06Row) × Int × Bool))) :=
  bif (decide (s1.2 < (p0.length : Int))) then
    (iter (m_spec_l06Stage_L2 p0 p1 s1) (s1.1, (0 : Int))).bind fun (u2 : (List l06Row) ⊕ ((List l06Row) × Int × Bool)) =>
    m_spec_l06Stage_A2 s1 u2
  else
    some (.out (.inl s1.1))

noncomputable def m_spec_l06Stage_A1 (u0 : List l06Row) (u1 : (List l06Row) ⊕ ((List l06Row) × Int × Bool)) : Option ((List l06Row) × Int × Bool) :=
  match u1 with
  | .inl u1 =>
    some (u1, (u0.length : Int), true)
  | .inr u1 =>
    some (u1.1, u1.2.1, u1.2.2)

noncomputable def m_spec_l06Stage_A0 (p0 : List l06Row) (p1 : Int) (u0 : (List l06Row)) : Option ((List l06Row) × Int × Bool) :=
  (iter (m_spec_l06Stage_L1 p0 p1) (u0, (0 : Int))).bind fun (u1 : (List l06Row) ⊕ ((List l06Row) × Int × Bool)) =>
  m_spec_l06Stage_A1 u0 u1

noncomputable def m_spec_l06Stage (p0 : List l06Row) (p1 : Int) : Option ((List l06Row) × Int × Bool) :=
  (iter (m_spec_l06Stage_L0 p0 p1) (([] : List l06Row), (0 : Int))).bind fun (u0 : (List l06Row)) =>
  m_spec_l06Stage_A0 p0 p1 u0

noncomputable def m_spec_l06Every_L0 (s0 : (List l06Row) × (List l06Row) × Int) : Option (Ctl ((List l06Row) × (List l06Row) × Int) (((List l06Row) × (List l06Row)) ⊕ ((List l06Row) × (List l06Row) × Bool))) :=
  bif (decide (s0.2.2 < (10 : Int))) then
    (m_spec_l06Stage s0.1 s0.2.2).bind fun (r21 : (List l06Row) × Int × Bool) =>
    bif (!r21.2.2) then
      some (.out (.inr (([] : List l06Row), ([] : List l06Row), false)))
    else
      (sliceI r21.1 r21.2.1 (r21.1.length : Int)).bind fun (y30 : List l06Row) =>
      (capI (s0.2.1.length + y30.length) 56).bind fun (q31 : Unit) =>
      some (.next (r21.1, (s0.2.1 ++ y30), (w64 (s0.2.2 + (1 : Int)))))
  else
    some (.out (.inl (s0.1, s0.2.1)))

noncomputable def m_spec_l06Every_A0 (u0 : ((List l06Row) × (List l06Row)) ⊕ ((List l06Row) × (List l06Row) × Bool)) : Option ((List l06Row) × (List l06Row) × Bool) :=
  match u0 with
  | .inl u0 =>
    some (u0.1, u0.2, true)
  | .inr u0 =>
    some (u0.1, u0.2.1, u0.2.2)

noncomputable def m_spec_l06Every (p0 : List Term) : Option ((List l06Row) × (List l06Row) × Bool) :=
  (m_spec_l06Rows p0).bind fun (r12 : List l06Row) =>
  (iter (m_spec_l06Every_L0) (r12, ([] : List l06Row), (0 : Int))).bind fun (u0 : ((List l06Row) × (List l06Row)) ⊕ ((List l06Row) × (List l06Row) × Bool)) =>
  m_spec_l06Every_A0 u0

noncomputable def m_spec_l06Refute_L0 (r10 : (List l06Row) × (List l06Row) × Bool) (s0 : Int) : Option (Ctl Int (Unit ⊕ ((List Int) × Bool))) :=
  bif (decide (s0 < (r10.1.length : Int))) then
    (getI r10.1 s0).bind fun (x24 : l06Row) =>
    bif (decide (x24.c < (0 : Int))) then
      some (.out (.inr (x24.times, true)))
    else
      some (.next (w64 (s0 + (1 : Int))))
  else
    some (.out (.inl ()))

noncomputable def m_spec_l06Refute_A0 (u0 : Unit ⊕ ((List Int) × Bool)) : Option ((List Int) × Bool) :=
  match u0 with
  | .inl u0 =>
    some (([] : List Int), false)
  | .inr u0 =>
    some (u0.1, u0.2)

noncomputable def m_spec_l06Refute (p0 : List Term) : Option ((List Int) × Bool) :=
  (m_spec_l06Every p0).bind fun (r10 : (List l06Row) × (List l06Row) × Bool) =>
  bif (!r10.2.2) then
    some (([] : List Int), false)
  else
    (iter (m_spec_l06Refute_L0 r10) (0 : Int)).bind fun (u0 : Unit ⊕ ((List Int) × Bool)) =>
    m_spec_l06Refute_A0 u0

noncomputable def m_spec_RefuteFacts (p0 : List Term) : Option ((List Int) × Bool) :=
  (m_spec_l02All p0 (14 : Int)).bind fun (r7 : Bool) =>
  bif (!r7) then
    some (([] : List Int), false)
  else
    (m_spec_l06Refute p0).bind fun (r11 : (List Int) × Bool) =>
    bif (!r11.2) then
      some (([] : List Int), false)
    else
      (m_spec_l00Own r11.1).bind fun (r17 : List Int) =>
      some (r17, true)

noncomputable def m_impl_Term_own (p0 : Term) : Option Term :=
  (m_impl_copyInts p0.Coeffs).bind fun (r7 : List Int) =>
  some (Term.mk p0.Const r7)

noncomputable def m_impl_Term_checked (p0 : Term) : Option (Term × Bool) :=
  (m_impl_ValidTerm p0).bind fun (r5 : Bool) =>
  bif (!r5) then
    some ((Term.mk (0 : Int) ([] : List Int)), false)
  else
    (m_impl_Term_own p0).bind fun (r9 : Term) =>
    some (r9, true)

noncomputable def m_impl_CombineTerms (p0 : List Term) (p1 : List Int) : Option (Term × Bool) :=
  (m_impl_ValidFacts p0).bind fun (r7 : Bool) =>
  bif ((!r7) || (!decide ((p1.length : Int) = (p0.length : Int)))) then
    some ((Term.mk (0 : Int) ([] : List Int)), false)
  else
    (m_impl_allWithin p1 (0 : Int) (1000000 : Int)).bind fun (r18 : Bool) =>
    bif (!r18) then
      some ((Term.mk (0 : Int) ([] : List Int)), false)
    else
      (m_impl_combined p0 p1).bind fun (r24 : Term) =>
      (m_impl_Term_checked r24).bind fun (r25 : Term × Bool) =>
      some (r25.1, r25.2)

noncomputable def m_impl_IsRefuted (p0 : List Term) (p1 : List Int) : Option Bool :=
  (m_impl_CombineTerms p0 p1).bind fun (r10 : Term × Bool) =>
  some ((r10.2 && (decide ((r10.1.Coeffs.length : Int) = (0 : Int)))) && (decide (r10.1.Const < (0 : Int))))

noncomputable def m_laws_b10Value_L0 (p0 : Term) (p1 : List Int) (s0 : Int × Int) : Option (Ctl (Int × Int) Int) :=
  bif ((decide (s0.2 < (p0.Coeffs.length : Int))) && (decide (s0.2 < (p1.length : Int)))) then
    (getI p0.Coeffs s0.2).bind fun (x26 : Int) =>
    (getI p1 s0.2).bind fun (x30 : Int) =>
    some (.next ((w64 (s0.1 + (w64 (x26 * x30)))), (w64 (s0.2 + (1 : Int)))))
  else
    some (.out s0.1)

noncomputable def m_laws_b10Value_A0 (u0 : Int) : Option Int :=
  some u0

noncomputable def m_laws_b10Value (p0 : Term) (p1 : List Int) : Option Int :=
  (iter (m_laws_b10Value_L0 p0 p1) (p0.Const, (0 : Int))).bind fun (u0 : Int) =>
  m_laws_b10Value_A0 u0

noncomputable def m_laws_b10Hold_L0 (p0 : List Term) (p1 : List Int) (s0 : Int) : Option (Ctl Int (Unit ⊕ Bool)) :=
  bif (decide (s0 < (p0.length : Int))) then
    (getI p0 s0).bind fun (x14 : Term) =>
    (m_laws_b10Value x14 p1).bind fun (r17 : Int) =>
    bif (decide (r17 < (0 : Int))) then
      some (.out (.inr false))
    else
      some (.next (w64 (s0 + (1 : Int))))
  else
    some (.out (.inl ()))

noncomputable def m_laws_b10Hold_A0 (u0 : Unit ⊕ Bool) : Option Bool :=
  match u0 with
  | .inl u0 =>
    some true
  | .inr u0 =>
    some u0

noncomputable def m_laws_b10Hold (p0 : List Term) (p1 : List Int) : Option Bool :=
  (iter (m_laws_b10Hold_L0 p0 p1) (0 : Int)).bind fun (u0 : Unit ⊕ Bool) =>
  m_laws_b10Hold_A0 u0

noncomputable def m_laws_FnRefuting (p0 : List Int) (p1 : List Int) : Option Bool :=
  (m_laws_b10Long p0 p1).bind fun (r13 : Bool) =>
  bif r13 then
    some true
  else
    (m_spec_B10Facts p0).bind fun (r15 : List Term) =>
    (m_spec_B10Values p1).bind fun (r17 : List Int) =>
    (m_impl_RefuteFacts r15).bind fun (r20 : (List Int) × Bool) =>
    (m_spec_RefuteFacts r15).bind fun (r25 : (List Int) × Bool) =>
    bif (!(r20.2 == r25.2)) then
      some false
    else
      bif (!r20.2) then
        some true
      else
        (m_impl_IsRefuted r15 r20.1).bind fun (r35 : Bool) =>
        bif r35 then
          (m_laws_b10Hold r15 r17).bind fun (r39 : Bool) =>
          some (!r39)
        else
          some false

noncomputable def m_laws_szInt64S (p0 : List Int) (p1 : Int) : Option Int :=
  bif (decide ((w64 (p1 - (p0.length : Int))) < (0 : Int))) then
    some (-1 : Int)
  else
    some (w64 (p1 - (p0.length : Int)))

noncomputable def m_laws_szTerm (p0 : Term) (p1 : Int) : Option Int :=
  (m_laws_szInt64S p0.Coeffs p1).bind fun (r8 : Int) =>
  bif (decide (r8 < (0 : Int))) then
    some (-1 : Int)
  else
    some r8

noncomputable def m_laws_szTermS_L0 (p0 : List Term) (s0 : Int × Int) : Option (Ctl (Int × Int) (Int ⊕ Int)) :=
  bif (decide (s0.2 < (p0.length : Int))) then
    (getI p0 s0.2).bind fun (x20 : Term) =>
    (m_laws_szTerm x20 s0.1).bind fun (r23 : Int) =>
    bif (decide (r23 < (0 : Int))) then
      some (.out (.inr (-1 : Int)))
    else
      some (.next (r23, (w64 (s0.2 + (1 : Int)))))
  else
    some (.out (.inl s0.1))

noncomputable def m_laws_szTermS_A0 (u0 : Int ⊕ Int) : Option Int :=
  match u0 with
  | .inl u0 =>
    some u0
  | .inr u0 =>
    some u0

noncomputable def m_laws_szTermS (p0 : List Term) (p1 : Int) : Option Int :=
  bif (decide ((w64 (p1 - (p0.length : Int))) < (0 : Int))) then
    some (-1 : Int)
  else
    (iter (m_laws_szTermS_L0 p0) ((w64 (p1 - (p0.length : Int))), (0 : Int))).bind fun (u0 : Int ⊕ Int) =>
    m_laws_szTermS_A0 u0

noncomputable def m_laws_toInt64S_L0 (p0 : List Int) (s0 : (List Int) × Int) : Option (Ctl ((List Int) × Int) ((List Int))) :=
  bif (decide (s0.2 < (p0.length : Int))) then
    (getI p0 s0.2).bind fun (x18 : Int) =>
    (getI s0.1 s0.2).bind fun (x20 : Int) =>
    some (.next ((s0.1.set ((s0.2).toNat) x18), (w64 (s0.2 + (1 : Int)))))
  else
    some (.out s0.1)

noncomputable def m_laws_toInt64S_A0 (u0 : (List Int)) : Option (List Int) :=
  some u0

noncomputable def m_laws_toInt64S (p0 : List Int) : Option (List Int) :=
  (makeI (p0.length : Int) 8).bind fun (k7 : Nat) =>
  (iter (m_laws_toInt64S_L0 p0) ((List.replicate k7 (0 : Int)), (0 : Int))).bind fun (u0 : (List Int)) =>
  m_laws_toInt64S_A0 u0

noncomputable def m_laws_toTerm (p0 : Term) : Option Term :=
  (m_laws_toInt64S p0.Coeffs).bind fun (r9 : List Int) =>
  some (Term.mk p0.Const r9)

noncomputable def m_laws_toTermS_L0 (p0 : List Term) (s0 : (List Term) × Int) : Option (Ctl ((List Term) × Int) ((List Term))) :=
  bif (decide (s0.2 < (p0.length : Int))) then
    (getI p0 s0.2).bind fun (x18 : Term) =>
    (m_laws_toTerm x18).bind fun (r20 : Term) =>
    (getI s0.1 s0.2).bind fun (x21 : Term) =>
    some (.next ((s0.1.set ((s0.2).toNat) r20), (w64 (s0.2 + (1 : Int)))))
  else
    some (.out s0.1)

noncomputable def m_laws_toTermS_A0 (u0 : (List Term)) : Option (List Term) :=
  some u0

noncomputable def m_laws_toTermS (p0 : List Term) : Option (List Term) :=
  (makeI (p0.length : Int) 32).bind fun (k7 : Nat) =>
  (iter (m_laws_toTermS_L0 p0) ((List.replicate k7 (Term.mk (0 : Int) ([] : List Int))), (0 : Int))).bind fun (u0 : (List Term)) =>
  m_laws_toTermS_A0 u0

noncomputable def m_spec_l06Term (p0 : l06Row) : Option Term :=
  (m_spec_l02Make p0.c p0.list).bind fun (r14 : Term × Bool) =>
  some r14.1

noncomputable def m_spec_EliminateSymbol_L0 (r23 : (List l06Row) × Int × Bool) (s0 : (List Term) × Int) : Option (Ctl ((List Term) × Int) ((List Term))) :=
  bif (decide (s0.2 < (r23.1.length : Int))) then
    (getI r23.1 s0.2).bind fun (x39 : l06Row) =>
    (m_spec_l06Term x39).bind fun (r40 : Term) =>
    (capI (s0.1.length + [r40].length) 32).bind fun (q42 : Unit) =>
    some (.next ((s0.1 ++ [r40]), (w64 (s0.2 + (1 : Int)))))
  else
    some (.out s0.1)

noncomputable def m_spec_EliminateSymbol_A0 (u0 : (List Term)) : Option ((List Term) × Bool) :=
  some (u0, true)

noncomputable def m_spec_EliminateSymbol (p0 : List Term) (p1 : Int) : Option ((List Term) × Bool) :=
  (m_spec_l02All p0 (14 : Int)).bind fun (r12 : Bool) =>
  bif (!r12) then
    some (([] : List Term), false)
  else
    (m_spec_l00In p1 (0 : Int) (9 : Int)).bind fun (r16 : Bool) =>
    bif (!r16) then
      some (([] : List Term), false)
    else
      (m_spec_l06Rows p0).bind fun (r21 : List l06Row) =>
      (m_spec_l06Stage r21 p1).bind fun (r23 : (List l06Row) × Int × Bool) =>
      bif (!r23.2.2) then
        some (([] : List Term), false)
      else
        (iter (m_spec_EliminateSymbol_L0 r23) (([] : List Term), (0 : Int))).bind fun (u0 : (List Term)) =>
        m_spec_EliminateSymbol_A0 u0

noncomputable def m_impl_size (p0 : Int) : Option Int :=
  some p0

noncomputable def m_impl_isIndex (p0 : Int) (p1 : Int) : Option Bool :=
  (m_impl_size p1).bind fun (r7 : Int) =>
  (m_impl_within p0 (0 : Int) (w64 (r7 - (1 : Int)))).bind fun (r9 : Bool) =>
  some r9

noncomputable def m_impl_EliminateSymbol_L0 (n0 : Nat) (x0 : combination) (s0 : List Term) : Option (Ctl (List Term) ((List Term))) :=
  (m_impl_Term_own x0.term).bind fun (r39 : Term) =>
  (capI (s0.length + [r39].length) 32).bind fun (q41 : Unit) =>
  some (.next (s0 ++ [r39]))

noncomputable def m_impl_EliminateSymbol_A0 (u0 : (List Term)) : Option ((List Term) × Bool) :=
  some (u0, true)

noncomputable def m_impl_EliminateSymbol (p0 : List Term) (p1 : Int) : Option ((List Term) × Bool) :=
  (m_impl_ValidFacts p0).bind fun (r13 : Bool) =>
  bif (!r13) then
    some (([] : List Term), false)
  else
    (m_impl_isIndex p1 (10 : Int)).bind fun (r17 : Bool) =>
    bif (!r17) then
      some (([] : List Term), false)
    else
      (m_impl_eliminated p0 [p1]).bind fun (r24 : (List combination) × (List combination) × Bool) =>
      bif (!r24.2.2) then
        some (([] : List Term), false)
      else
        (forL (m_impl_EliminateSymbol_L0) (fun s0 => s0) 0 r24.1 ([] : List Term)).bind fun (u0 : (List Term)) =>
        m_impl_EliminateSymbol_A0 u0

noncomputable def m_laws_eqInt64S_L0 (p0 : List Int) (p1 : List Int) (s0 : Int) : Option (Ctl Int (Unit ⊕ Bool)) :=
  bif (decide (s0 < (p0.length : Int))) then
    (getI p0 s0).bind fun (x19 : Int) =>
    (getI p1 s0).bind fun (x23 : Int) =>
    bif (!decide (x19 = x23)) then
      some (.out (.inr false))
    else
      some (.next (w64 (s0 + (1 : Int))))
  else
    some (.out (.inl ()))

noncomputable def m_laws_eqInt64S_A0 (u0 : Unit ⊕ Bool) : Option Bool :=
  match u0 with
  | .inl u0 =>
    some true
  | .inr u0 =>
    some u0

noncomputable def m_laws_eqInt64S (p0 : List Int) (p1 : List Int) : Option Bool :=
  bif (!decide ((p0.length : Int) = (p1.length : Int))) then
    some false
  else
    (iter (m_laws_eqInt64S_L0 p0 p1) (0 : Int)).bind fun (u0 : Unit ⊕ Bool) =>
    m_laws_eqInt64S_A0 u0

noncomputable def m_laws_eqTerm (p0 : Term) (p1 : Term) : Option Bool :=
  bif (!decide (p0.Const = p1.Const)) then
    some false
  else
    (m_laws_eqInt64S p0.Coeffs p1.Coeffs).bind fun (r14 : Bool) =>
    bif (!r14) then
      some false
    else
      some true

noncomputable def m_laws_eqTermS_L0 (p0 : List Term) (p1 : List Term) (s0 : Int) : Option (Ctl Int (Unit ⊕ Bool)) :=
  bif (decide (s0 < (p0.length : Int))) then
    (getI p0 s0).bind fun (x19 : Term) =>
    (getI p1 s0).bind fun (x23 : Term) =>
    (m_laws_eqTerm x19 x23).bind fun (r25 : Bool) =>
    bif (!r25) then
      some (.out (.inr false))
    else
      some (.next (w64 (s0 + (1 : Int))))
  else
    some (.out (.inl ()))

noncomputable def m_laws_eqTermS_A0 (u0 : Unit ⊕ Bool) : Option Bool :=
  match u0 with
  | .inl u0 =>
    some true
  | .inr u0 =>
    some u0

noncomputable def m_laws_eqTermS (p0 : List Term) (p1 : List Term) : Option Bool :=
  bif (!decide ((p0.length : Int) = (p1.length : Int))) then
    some false
  else
    (iter (m_laws_eqTermS_L0 p0 p1) (0 : Int)).bind fun (u0 : Unit ⊕ Bool) =>
    m_laws_eqTermS_A0 u0

noncomputable def m_laws_markInt64S_L0 (s0 : (List Int) × Int × Int) : Option (Ctl ((List Int) × Int × Int) ((Int × (List Int)))) :=
  bif (decide (s0.2.2 < (s0.1.length : Int))) then
    (getI s0.1 s0.2.2).bind fun (x15 : Int) =>
    some (.next ((s0.1.set ((s0.2.2).toNat) s0.2.1), (w64 (s0.2.1 + (1 : Int))), (w64 (s0.2.2 + (1 : Int)))))
  else
    some (.out (s0.2.1, s0.1))

noncomputable def m_laws_markInt64S_A0 (u0 : (Int × (List Int))) : Option (Int × (List Int)) :=
  some (u0.1, u0.2)

noncomputable def m_laws_markInt64S (p0 : List Int) (p1 : Int) : Option (Int × (List Int)) :=
  (iter (m_laws_markInt64S_L0) (p0, p1, (0 : Int))).bind fun (u0 : (Int × (List Int))) =>
  m_laws_markInt64S_A0 u0

noncomputable def m_laws_markTermS_L0 (s0 : (List Term) × Int × Int) : Option (Ctl ((List Term) × Int × Int) ((Int × (List Term)))) :=
  bif (decide (s0.2.2 < (s0.1.length : Int))) then
    (getI s0.1 s0.2.2).bind fun (x15 : Term) =>
    (getI (s0.1.set ((s0.2.2).toNat) (Term.mk s0.2.1 x15.Coeffs)) s0.2.2).bind fun (x21 : Term) =>
    (m_laws_markInt64S x21.Coeffs (w64 (s0.2.1 + (1 : Int)))).bind fun (r25 : Int × (List Int)) =>
    some (.next (((s0.1.set ((s0.2.2).toNat) (Term.mk s0.2.1 x15.Coeffs)).set ((s0.2.2).toNat) (Term.mk x21.Const r25.2)), r25.1, (w64 (s0.2.2 + (1 : Int)))))
  else
    some (.out (s0.2.1, s0.1))

noncomputable def m_laws_markTermS_A0 (u0 : (Int × (List Term))) : Option (Int × (List Term)) :=
  some (u0.1, u0.2)

noncomputable def m_laws_markTermS (p0 : List Term) (p1 : Int) : Option (Int × (List Term)) :=
  (iter (m_laws_markTermS_L0) (p0, p1, (0 : Int))).bind fun (u0 : (Int × (List Term))) =>
  m_laws_markTermS_A0 u0

noncomputable def m_laws_heldInt64S_L0 (p0 : List Int) (s0 : Int × Int) : Option (Ctl (Int × Int) (Int ⊕ Int)) :=
  bif (decide (s0.2 < (p0.length : Int))) then
    (getI p0 s0.2).bind fun (x14 : Int) =>
    bif (!decide (x14 = s0.1)) then
      some (.out (.inr (-1 : Int)))
    else
      some (.next ((w64 (s0.1 + (1 : Int))), (w64 (s0.2 + (1 : Int)))))
  else
    some (.out (.inl s0.1))

noncomputable def m_laws_heldInt64S_A0 (u0 : Int ⊕ Int) : Option Int :=
  match u0 with
  | .inl u0 =>
    some u0
  | .inr u0 =>
    some u0

noncomputable def m_laws_heldInt64S (p0 : List Int) (p1 : Int) : Option Int :=
  (iter (m_laws_heldInt64S_L0 p0) (p1, (0 : Int))).bind fun (u0 : Int ⊕ Int) =>
  m_laws_heldInt64S_A0 u0

noncomputable def m_laws_heldTermS_L0 (p0 : List Term) (s0 : Int × Int) : Option (Ctl (Int × Int) (Int ⊕ Int)) :=
  bif (decide (s0.2 < (p0.length : Int))) then
    (getI p0 s0.2).bind fun (x14 : Term) =>
    bif (!decide (x14.Const = s0.1)) then
      some (.out (.inr (-1 : Int)))
    else
      (m_laws_heldInt64S x14.Coeffs (w64 (s0.1 + (1 : Int)))).bind fun (r27 : Int) =>
      bif (decide (r27 < (0 : Int))) then
        some (.out (.inr (-1 : Int)))
      else
        some (.next (r27, (w64 (s0.2 + (1 : Int)))))
  else
    some (.out (.inl s0.1))

noncomputable def m_laws_heldTermS_A0 (u0 : Int ⊕ Int) : Option Int :=
  match u0 with
  | .inl u0 =>
    some u0
  | .inr u0 =>
    some u0

noncomputable def m_laws_heldTermS (p0 : List Term) (p1 : Int) : Option Int :=
  (iter (m_laws_heldTermS_L0 p0) (p1, (0 : Int))).bind fun (u0 : Int ⊕ Int) =>
  m_laws_heldTermS_A0 u0

noncomputable def m_laws_FnExactEliminateSymbol (p0 : List Term) (p1 : Int) : Option Bool :=
  (m_laws_szTermS p0 (1048576 : Int)).bind fun (r18 : Int) =>
  bif (decide (r18 < (0 : Int))) then
    some true
  else
    (m_laws_toTermS p0).bind fun (r23 : List Term) =>
    (m_spec_EliminateSymbol r23 p1).bind fun (r25 : (List Term) × Bool) =>
    (m_laws_toTermS p0).bind fun (r29 : List Term) =>
    (m_impl_EliminateSymbol r29 p1).bind fun (r33 : (List Term) × Bool) =>
    (m_laws_eqTermS r33.1 r25.1).bind fun (r38 : Bool) =>
    bif ((!r38) || (!(r33.2 == r25.2))) then
      some false
    else
      (m_laws_toTermS p0).bind fun (r47 : List Term) =>
      (m_laws_eqTermS r29 r47).bind fun (r48 : Bool) =>
      bif (!r48) then
        some false
      else
        (m_laws_markTermS r29 (1 : Int)).bind fun (r52 : Int × (List Term)) =>
        bif (decide (r52.1 < (0 : Int))) then
          some false
        else
          (m_laws_eqTermS r33.1 r25.1).bind fun (r58 : Bool) =>
          bif ((!r58) || (!(r33.2 == r25.2))) then
            some false
          else
            (m_laws_markTermS r33.1 (1 : Int)).bind fun (r68 : Int × (List Term)) =>
            (m_laws_heldTermS r68.2 (1 : Int)).bind fun (r71 : Int) =>
            bif (decide (r71 < (0 : Int))) then
              some false
            else
              bif (!decide (r71 = r68.1)) then
                some false
              else
                (m_laws_toTermS p0).bind fun (r79 : List Term) =>
                (m_impl_EliminateSymbol r79 p1).bind fun (r81 : (List Term) × Bool) =>
                (m_laws_eqTermS r81.1 r25.1).bind fun (r86 : Bool) =>
                bif ((!r86) || (!(r81.2 == r25.2))) then
                  some false
                else
                  (m_laws_heldTermS r68.2 (1 : Int)).bind fun (r95 : Int) =>
                  bif (decide (r95 < (0 : Int))) then
                    some false
                  else
                    bif (!decide (r95 = r68.1)) then
                      some false
                    else
                      some true

noncomputable def m_laws_b10At (p0 : List Int) (p1 : Int) (p2 : Int) : Option Int :=
  bif (decide (p2 ≤ (1 : Int))) then
    some (0 : Int)
  else
    bif (decide (p1 < (p0.length : Int))) then
      (getI p0 p1).bind fun (x15 : Int) =>
      (remI (w64 x15) p2).bind fun (q19 : Int) =>
      some q19
    else
      (remI (w64 ((w64 (p1 * (37 : Int))) + (11 : Int))) p2).bind fun (q24 : Int) =>
      some q24

noncomputable def m_impl_symbolsOf_1 (p0 : Term) (p1_0 : Int) : Option Bool :=
  (m_impl_Term_coeff p0 p1_0).bind fun (r6 : Int) =>
  some (!decide (r6 = (0 : Int)))

noncomputable def m_slices_IndexFunc_impl_Term_impl_Term_fsymbolsOf_1_L0 (v1_0_0 : Int) (n0 : Nat) (x0 : Term) (s0 : Unit) : Option (Ctl Unit (Unit ⊕ Int)) :=
  (m_impl_symbolsOf_1 x0 v1_0_0).bind fun (r16 : Bool) =>
  bif r16 then
    some (.out (.inr (n0 : Int)))
  else
    some (.next ())

noncomputable def m_slices_IndexFunc_impl_Term_impl_Term_fsymbolsOf_1_A0 (u0 : Unit ⊕ Int) : Option Int :=
  match u0 with
  | .inl u0 =>
    some (-1 : Int)
  | .inr u0 =>
    some u0

noncomputable def m_slices_IndexFunc_impl_Term_impl_Term_fsymbolsOf_1 (p0 : List Term) (v1_0_0 : Int) : Option Int :=
  (forL (m_slices_IndexFunc_impl_Term_impl_Term_fsymbolsOf_1_L0 v1_0_0) (fun s0 => (.inl ())) 0 p0 ()).bind fun (u0 : Unit ⊕ Int) =>
  m_slices_IndexFunc_impl_Term_impl_Term_fsymbolsOf_1_A0 u0

noncomputable def m_slices_ContainsFunc_impl_Term_impl_Term_fsymbolsOf_1 (p0 : List Term) (v1_0_0 : Int) : Option Bool :=
  (m_slices_IndexFunc_impl_Term_impl_Term_fsymbolsOf_1 p0 v1_0_0).bind fun (r7 : Int) =>
  some (decide ((0 : Int) ≤ r7))

noncomputable def m_impl_symbolsOf_L0 (p0 : List Term) (s0 : (List Int) × Int) : Option (Ctl ((List Int) × Int) ((List Int))) :=
  bif (decide (s0.2 < (10 : Int))) then
    (m_slices_ContainsFunc_impl_Term_impl_Term_fsymbolsOf_1 p0 s0.2).bind fun (r11 : Bool) =>
    bif r11 then
      (capI (s0.1.length + [s0.2].length) 8).bind fun (q15 : Unit) =>
      some (.next ((s0.1 ++ [s0.2]), (w64 (s0.2 + (1 : Int)))))
    else
      some (.next (s0.1, (w64 (s0.2 + (1 : Int)))))
  else
    some (.out s0.1)

noncomputable def m_impl_symbolsOf_A0 (u0 : (List Int)) : Option (List Int) :=
  some u0

noncomputable def m_impl_symbolsOf (p0 : List Term) : Option (List Int) :=
  (iter (m_impl_symbolsOf_L0 p0) (([] : List Int), (0 : Int))).bind fun (u0 : (List Int)) =>
  m_impl_symbolsOf_A0 u0

noncomputable def m_impl_SymbolsOf (p0 : List Term) : Option ((List Int) × Bool) :=
  (m_impl_ValidFacts p0).bind fun (r5 : Bool) =>
  bif (!r5) then
    some (([] : List Int), false)
  else
    (m_impl_symbolsOf p0).bind fun (r8 : List Int) =>
    some (r8, true)

noncomputable def m_laws_b10Has_L0 (p0 : List Int) (p1 : Int) (s0 : Int) : Option (Ctl Int (Unit ⊕ Bool)) :=
  bif (decide (s0 < (p0.length : Int))) then
    (getI p0 s0).bind fun (x14 : Int) =>
    bif (decide (x14 = p1)) then
      some (.out (.inr true))
    else
      some (.next (w64 (s0 + (1 : Int))))
  else
    some (.out (.inl ()))

noncomputable def m_laws_b10Has_A0 (u0 : Unit ⊕ Bool) : Option Bool :=
  match u0 with
  | .inl u0 =>
    some false
  | .inr u0 =>
    some u0

noncomputable def m_laws_b10Has (p0 : List Int) (p1 : Int) : Option Bool :=
  (iter (m_laws_b10Has_L0 p0 p1) (0 : Int)).bind fun (u0 : Unit ⊕ Bool) =>
  m_laws_b10Has_A0 u0

noncomputable def m_laws_FnEliminated_L0 (r23 : Int) (r27 : (List Term) × Bool) (s0 : Int) : Option (Ctl Int (Unit ⊕ Bool)) :=
  bif (decide (s0 < (r27.1.length : Int))) then
    (getI r27.1 s0).bind fun (x48 : Term) =>
    bif (decide (r23 < (x48.Coeffs.length : Int))) then
      (getI x48.Coeffs r23).bind fun (x61 : Int) =>
      bif (!decide (x61 = (0 : Int))) then
        some (.out (.inr false))
      else
        some (.next (w64 (s0 + (1 : Int))))
    else
      some (.next (w64 (s0 + (1 : Int))))
  else
    some (.out (.inl ()))

noncomputable def m_laws_FnEliminated_A0 (r19 : List Term) (r21 : List Int) (r23 : Int) (r27 : (List Term) × Bool) (u0 : Unit ⊕ Bool) : Option Bool :=
  match u0 with
  | .inl u0 =>
    (m_impl_SymbolsOf r19).bind fun (r67 : (List Int) × Bool) =>
    bif r67.2 then
      bif (decide ((0 : Int) < (r27.1.length : Int))) then
        (m_laws_b10Hold r19 r21).bind fun (r84 : Bool) =>
        bif (!r84) then
          some true
        else
          (m_laws_b10Hold r27.1 r21).bind fun (r89 : Bool) =>
          some r89
      else
        (m_laws_b10Has r67.1 r23).bind fun (r78 : Bool) =>
        bif r78 then
          (m_laws_b10Hold r19 r21).bind fun (r84 : Bool) =>
          bif (!r84) then
            some true
          else
            (m_laws_b10Hold r27.1 r21).bind fun (r89 : Bool) =>
            some r89
        else
          some false
    else
      some false
  | .inr u0 =>
    some u0

noncomputable def m_laws_FnEliminated (p0 : List Int) (p1 : List Int) : Option Bool :=
  (m_laws_b10Long p0 p1).bind fun (r17 : Bool) =>
  bif r17 then
    some true
  else
    (m_spec_B10Facts p0).bind fun (r19 : List Term) =>
    (m_spec_B10Values p1).bind fun (r21 : List Int) =>
    (m_laws_b10At p1 (0 : Int) (4 : Int)).bind fun (r23 : Int) =>
    (m_impl_EliminateSymbol r19 r23).bind fun (r27 : (List Term) × Bool) =>
    bif (!r27.2) then
      (m_spec_EliminateSymbol r19 r23).bind fun (r35 : (List Term) × Bool) =>
      some (!r35.2)
    else
      (iter (m_laws_FnEliminated_L0 r23 r27) (0 : Int)).bind fun (u0 : Unit ⊕ Bool) =>
      m_laws_FnEliminated_A0 r19 r21 r23 r27 u0

noncomputable def m_spec_l02Divisor_L1 (s1 : Int × Int) : Option (Ctl (Int × Int) Int) :=
  bif (decide ((0 : Int) < s1.2)) then
    (remI s1.1 s1.2).bind fun (q36 : Int) =>
    some (.next (s1.2, q36))
  else
    some (.out s1.1)

noncomputable def m_spec_l02Divisor_A1 (s0 : Int × Int) (u1 : Int) : Option (Ctl (Int × Int) Int) :=
  some (.next (u1, (w64 (s0.2 + (1 : Int)))))

noncomputable def m_spec_l02Divisor_L0 (p0 : Term) (s0 : Int × Int) : Option (Ctl (Int × Int) Int) :=
  bif (decide (s0.2 < (p0.Coeffs.length : Int))) then
    (getI p0.Coeffs s0.2).bind fun (x21 : Int) =>
    (m_spec_l00Max x21 (w64 (0 - x21))).bind fun (r31 : Int) =>
    (iter (m_spec_l02Divisor_L1) (s0.1, r31)).bind fun (u1 : Int) =>
    m_spec_l02Divisor_A1 s0 u1
  else
    some (.out s0.1)

noncomputable def m_spec_l02Divisor_A0 (u0 : Int) : Option Int :=
  some u0

noncomputable def m_spec_l02Divisor (p0 : Term) : Option Int :=
  (iter (m_spec_l02Divisor_L0 p0) ((0 : Int), (0 : Int))).bind fun (u0 : Int) =>
  m_spec_l02Divisor_A0 u0

noncomputable def m_spec_l02Tight_L0 (p0 : Term) (r9 : Int) (s0 : (List Int) × Int) : Option (Ctl ((List Int) × Int) ((List Int))) :=
  bif (decide (s0.2 < (p0.Coeffs.length : Int))) then
    (getI p0.Coeffs s0.2).bind fun (x29 : Int) =>
    (quoI x29 r9).bind fun (q32 : Int) =>
    (capI (s0.1.length + [q32].length) 8).bind fun (q34 : Unit) =>
    some (.next ((s0.1 ++ [q32]), (w64 (s0.2 + (1 : Int)))))
  else
    some (.out s0.1)

noncomputable def m_spec_l02Tight_J0 (u0 : List Int) (j0 : Int) : Option (Term × Bool) :=
  (m_spec_l02Make j0 u0).bind fun (r52 : Term × Bool) =>
  some (r52.1, r52.2)

noncomputable def m_spec_l02Tight_A0 (p0 : Term) (r9 : Int) (u0 : (List Int)) : Option (Term × Bool) :=
  (quoI p0.Const r9).bind fun (q40 : Int) =>
  (remI p0.Const r9).bind fun (q46 : Int) =>
  bif (decide (q46 < (0 : Int))) then
    m_spec_l02Tight_J0 u0 (w64 (q40 - (1 : Int)))
  else
    m_spec_l02Tight_J0 u0 q40

noncomputable def m_spec_l02Tight (p0 : Term) : Option (Term × Bool) :=
  (m_spec_l02Divisor p0).bind fun (r9 : Int) =>
  bif (decide (r9 < (2 : Int))) then
    some ((Term.mk (0 : Int) ([] : List Int)), false)
  else
    (iter (m_spec_l02Tight_L0 p0 r9) (([] : List Int), (0 : Int))).bind fun (u0 : (List Int)) =>
    m_spec_l02Tight_A0 p0 r9 u0

noncomputable def m_spec_l00Same_L0 (p0 : List Int) (p1 : List Int) (s0 : Int) : Option (Ctl Int (Unit ⊕ Bool)) :=
  bif (decide (s0 < (p0.length : Int))) then
    (getI p0 s0).bind fun (x19 : Int) =>
    (getI p1 s0).bind fun (x23 : Int) =>
    bif (!decide (x19 = x23)) then
      some (.out (.inr false))
    else
      some (.next (w64 (s0 + (1 : Int))))
  else
    some (.out (.inl ()))

noncomputable def m_spec_l00Same_A0 (u0 : Unit ⊕ Bool) : Option Bool :=
  match u0 with
  | .inl u0 =>
    some true
  | .inr u0 =>
    some u0

noncomputable def m_spec_l00Same (p0 : List Int) (p1 : List Int) : Option Bool :=
  bif (!decide ((p0.length : Int) = (p1.length : Int))) then
    some false
  else
    (iter (m_spec_l00Same_L0 p0 p1) (0 : Int)).bind fun (u0 : Unit ⊕ Bool) =>
    m_spec_l00Same_A0 u0

noncomputable def m_spec_l02Same (p0 : Term) (p1 : Term) : Option Bool :=
  bif (decide (p0.Const = p1.Const)) then
    (m_spec_l00Same p0.Coeffs p1.Coeffs).bind fun (r23 : Bool) =>
    some r23
  else
    some false

noncomputable def m_spec_l06Known_L0 (p0 : List Term) (p1 : Term) (s0 : Int) : Option (Ctl Int (Unit ⊕ Bool)) :=
  bif (decide (s0 < (p0.length : Int))) then
    (getI p0 s0).bind fun (x14 : Term) =>
    (m_spec_l02Same x14 p1).bind fun (r16 : Bool) =>
    bif r16 then
      some (.out (.inr true))
    else
      some (.next (w64 (s0 + (1 : Int))))
  else
    some (.out (.inl ()))

noncomputable def m_spec_l06Known_A0 (u0 : Unit ⊕ Bool) : Option Bool :=
  match u0 with
  | .inl u0 =>
    some false
  | .inr u0 =>
    some u0

noncomputable def m_spec_l06Known (p0 : List Term) (p1 : Term) : Option Bool :=
  (iter (m_spec_l06Known_L0 p0 p1) (0 : Int)).bind fun (u0 : Unit ⊕ Bool) =>
  m_spec_l06Known_A0 u0

noncomputable def m_spec_l06Sharper (p0 : List Term) (p1 : Term) : Option (Term × Bool) :=
  (m_spec_l02Divisor p1).bind fun (r10 : Int) =>
  bif (decide (r10 < (2 : Int))) then
    some ((Term.mk (0 : Int) ([] : List Int)), false)
  else
    (remI p1.Const r10).bind fun (q19 : Int) =>
    bif (decide (q19 = (0 : Int))) then
      some ((Term.mk (0 : Int) ([] : List Int)), false)
    else
      (m_spec_l02Tight p1).bind fun (r25 : Term × Bool) =>
      bif r25.2 then
        (m_spec_l06Known p0 r25.1).bind fun (r32 : Bool) =>
        some (r25.1, (!r32))
      else
        some (r25.1, false)

noncomputable def m_spec_l06Cut_L0 (p0 : List Term) (r15 : (List l06Row) × (List l06Row) × Bool) (s0 : Int) : Option (Ctl Int (Unit ⊕ (Int × (List Int) × (List Int) × Int × Bool))) :=
  bif (decide (s0 < (r15.2.1.length : Int))) then
    (getI r15.2.1 s0).bind fun (x30 : l06Row) =>
    (m_spec_l06Term x30).bind fun (r31 : Term) =>
    (m_spec_l06Sharper p0 r31).bind fun (r34 : Term × Bool) =>
    bif r34.2 then
      (m_spec_l02Divisor r31).bind fun (r44 : Int) =>
      some (.out (.inr (r34.1.Const, r34.1.Coeffs, x30.times, r44, true)))
    else
      some (.next (w64 (s0 + (1 : Int))))
  else
    some (.out (.inl ()))

noncomputable def m_spec_l06Cut_A0 (u0 : Unit ⊕ (Int × (List Int) × (List Int) × Int × Bool)) : Option (Term × (List Int) × Int × Bool) :=
  match u0 with
  | .inl u0 =>
    some ((Term.mk (0 : Int) ([] : List Int)), ([] : List Int), (0 : Int), false)
  | .inr u0 =>
    some ((Term.mk u0.1 u0.2.1), u0.2.2.1, u0.2.2.2.1, u0.2.2.2.2)

noncomputable def m_spec_l06Cut (p0 : List Term) : Option (Term × (List Int) × Int × Bool) :=
  (m_spec_l06Every p0).bind fun (r15 : (List l06Row) × (List l06Row) × Bool) =>
  bif (!r15.2.2) then
    some ((Term.mk (0 : Int) ([] : List Int)), ([] : List Int), (0 : Int), false)
  else
    (iter (m_spec_l06Cut_L0 p0 r15) (0 : Int)).bind fun (u0 : Unit ⊕ (Int × (List Int) × (List Int) × Int × Bool)) =>
    m_spec_l06Cut_A0 u0

noncomputable def m_spec_FirstCut (p0 : List Term) : Option (Term × (List Int) × Bool) :=
  (m_spec_l02All p0 (14 : Int)).bind fun (r10 : Bool) =>
  bif (!r10) then
    some ((Term.mk (0 : Int) ([] : List Int)), ([] : List Int), false)
  else
    (m_spec_l06Cut p0).bind fun (r15 : Term × (List Int) × Int × Bool) =>
    bif (!r15.2.2.2) then
      some ((Term.mk (0 : Int) ([] : List Int)), ([] : List Int), false)
    else
      (m_spec_l00Own r15.2.1).bind fun (r25 : List Int) =>
      some (r15.1, r25, true)

noncomputable def m_impl_divFloor (p0 : Int) (p1 : Int) : Option Int :=
  (quoI p0 p1).bind fun (q8 : Int) =>
  (remI p0 p1).bind fun (q11 : Int) =>
  bif (decide (q11 < (0 : Int))) then
    some (w64 (q8 - (1 : Int)))
  else
    some q8

noncomputable def m_impl_Term_tightened_L0 (r9 : Int) (r14 : Term) (s0 : (List Int) × Int) : Option (Ctl ((List Int) × Int) ((List Int))) :=
  bif (decide (s0.2 < (r14.Coeffs.length : Int))) then
    (getI s0.1 s0.2).bind fun (x29 : Int) =>
    (quoI x29 r9).bind fun (q32 : Int) =>
    some (.next ((s0.1.set ((s0.2).toNat) q32), (w64 (s0.2 + (1 : Int)))))
  else
    some (.out s0.1)

noncomputable def m_impl_Term_tightened_A0 (r18 : Int) (u0 : (List Int)) : Option (Term × Bool) :=
  some ((Term.mk r18 u0), true)

noncomputable def m_impl_Term_tightened (p0 : Term) : Option (Term × Bool) :=
  (m_impl_gcd p0.Coeffs).bind fun (r9 : Int) =>
  bif (decide (r9 ≤ (1 : Int))) then
    some ((Term.mk (0 : Int) ([] : List Int)), false)
  else
    (m_impl_Term_own p0).bind fun (r14 : Term) =>
    (m_impl_divFloor p0.Const r9).bind fun (r18 : Int) =>
    (iter (m_impl_Term_tightened_L0 r9 r14) (r14.Coeffs, (0 : Int))).bind fun (u0 : (List Int)) =>
    m_impl_Term_tightened_A0 r18 u0

noncomputable def m_slices_Equal_int64_int64_L0 (p1 : List Int) (n0 : Nat) (x0 : Int) (s0 : Unit) : Option (Ctl Unit (Unit ⊕ Bool)) :=
  (getI p1 (n0 : Int)).bind fun (x22 : Int) =>
  bif (!decide (x0 = x22)) then
    some (.out (.inr false))
  else
    some (.next ())

noncomputable def m_slices_Equal_int64_int64_A0 (u0 : Unit ⊕ Bool) : Option Bool :=
  match u0 with
  | .inl u0 =>
    some true
  | .inr u0 =>
    some u0

noncomputable def m_slices_Equal_int64_int64 (p0 : List Int) (p1 : List Int) : Option Bool :=
  bif (!decide ((p0.length : Int) = (p1.length : Int))) then
    some false
  else
    (forL (m_slices_Equal_int64_int64_L0 p1) (fun s0 => (.inl ())) 0 p0 ()).bind fun (u0 : Unit ⊕ Bool) =>
    m_slices_Equal_int64_int64_A0 u0

noncomputable def m_impl_Term_equal (p0 : Term) (p1 : Term) : Option Bool :=
  bif (decide (p0.Const = p1.Const)) then
    (m_slices_Equal_int64_int64 p0.Coeffs p1.Coeffs).bind fun (r15 : Bool) =>
    some r15
  else
    some false

noncomputable def m_slices_IndexFunc_impl_Term_impl_Term_fequal_L0 (v1_0_0 : Int) (v1_0_1 : List Int) (n0 : Nat) (x0 : Term) (s0 : Unit) : Option (Ctl Unit (Unit ⊕ Int)) :=
  (m_impl_Term_equal (Term.mk v1_0_0 v1_0_1) x0).bind fun (r16 : Bool) =>
  bif r16 then
    some (.out (.inr (n0 : Int)))
  else
    some (.next ())

noncomputable def m_slices_IndexFunc_impl_Term_impl_Term_fequal_A0 (u0 : Unit ⊕ Int) : Option Int :=
  match u0 with
  | .inl u0 =>
    some (-1 : Int)
  | .inr u0 =>
    some u0

noncomputable def m_slices_IndexFunc_impl_Term_impl_Term_fequal (p0 : List Term) (v1_0_0 : Int) (v1_0_1 : List Int) : Option Int :=
  (forL (m_slices_IndexFunc_impl_Term_impl_Term_fequal_L0 v1_0_0 v1_0_1) (fun s0 => (.inl ())) 0 p0 ()).bind fun (u0 : Unit ⊕ Int) =>
  m_slices_IndexFunc_impl_Term_impl_Term_fequal_A0 u0

noncomputable def m_slices_ContainsFunc_impl_Term_impl_Term_fequal (p0 : List Term) (v1_0_0 : Int) (v1_0_1 : List Int) : Option Bool :=
  (m_slices_IndexFunc_impl_Term_impl_Term_fequal p0 v1_0_0 v1_0_1).bind fun (r7 : Int) =>
  some (decide ((0 : Int) ≤ r7))

noncomputable def m_impl_hasTerm (p0 : List Term) (p1 : Term) : Option Bool :=
  (m_slices_ContainsFunc_impl_Term_impl_Term_fequal p0 p1.Const p1.Coeffs).bind fun (r8 : Bool) =>
  some r8

noncomputable def m_impl_cuts (p0 : Term) (p1 : List Term) : Option (Term × Bool) :=
  (m_impl_gcd p0.Coeffs).bind fun (r11 : Int) =>
  bif (decide (r11 ≤ (1 : Int))) then
    some ((Term.mk (0 : Int) ([] : List Int)), false)
  else
    (remI p0.Const r11).bind fun (q18 : Int) =>
    bif (decide (q18 = (0 : Int))) then
      some ((Term.mk (0 : Int) ([] : List Int)), false)
    else
      (m_impl_Term_tightened p0).bind fun (r24 : Term × Bool) =>
      bif r24.2 then
        (m_impl_hasTerm p1 r24.1).bind fun (r32 : Bool) =>
        some (r24.1, (!r32))
      else
        some (r24.1, false)

noncomputable def m_impl_firstCut_L0 (p0 : List Term) (n0 : Nat) (x0 : combination) (s0 : Unit) : Option (Ctl Unit (Unit ⊕ (Int × (List Int) × Int × (List Int) × (List Int) × Bool))) :=
  (m_impl_cuts x0.term p0).bind fun (r33 : Term × Bool) =>
  bif r33.2 then
    some (.out (.inr (r33.1.Const, r33.1.Coeffs, x0.term.Const, x0.term.Coeffs, x0.by_, true)))
  else
    some (.next ())

noncomputable def m_impl_firstCut_A0 (u0 : Unit ⊕ (Int × (List Int) × Int × (List Int) × (List Int) × Bool)) : Option (Term × combination × Bool) :=
  match u0 with
  | .inl u0 =>
    some ((Term.mk (0 : Int) ([] : List Int)), (combination.mk (Term.mk (0 : Int) ([] : List Int)) ([] : List Int)), false)
  | .inr u0 =>
    some ((Term.mk u0.1 u0.2.1), (combination.mk (Term.mk u0.2.2.1 u0.2.2.2.1) u0.2.2.2.2.1), u0.2.2.2.2.2)

noncomputable def m_impl_firstCut (p0 : List Term) : Option (Term × combination × Bool) :=
  (m_impl_allSymbols (10 : Int)).bind fun (r14 : List Int) =>
  (m_impl_eliminated p0 r14).bind fun (r15 : (List combination) × (List combination) × Bool) =>
  bif (!r15.2.2) then
    some ((Term.mk (0 : Int) ([] : List Int)), (combination.mk (Term.mk (0 : Int) ([] : List Int)) ([] : List Int)), false)
  else
    (forL (m_impl_firstCut_L0 p0) (fun s0 => (.inl ())) 0 r15.2.1 ()).bind fun (u0 : Unit ⊕ (Int × (List Int) × Int × (List Int) × (List Int) × Bool)) =>
    m_impl_firstCut_A0 u0

noncomputable def m_impl_FirstCut (p0 : List Term) : Option (Term × (List Int) × Bool) :=
  (m_impl_ValidFacts p0).bind fun (r9 : Bool) =>
  bif (!r9) then
    some ((Term.mk (0 : Int) ([] : List Int)), ([] : List Int), false)
  else
    (m_impl_firstCut p0).bind fun (r14 : Term × combination × Bool) =>
    bif (!r14.2.2) then
      some ((Term.mk (0 : Int) ([] : List Int)), ([] : List Int), false)
    else
      (m_impl_copyInts r14.2.1.by_).bind fun (r24 : List Int) =>
      some (r14.1, r24, true)

noncomputable def m_laws_markTerm (p0 : Term) (p1 : Int) : Option (Int × (List Int)) :=
  (m_laws_markInt64S p0.Coeffs p1).bind fun (r8 : Int × (List Int)) =>
  some (r8.1, r8.2)

noncomputable def m_laws_heldTerm (p0 : Term) (p1 : Int) : Option Int :=
  (m_laws_heldInt64S p0.Coeffs p1).bind fun (r8 : Int) =>
  bif (decide (r8 < (0 : Int))) then
    some (-1 : Int)
  else
    some r8

noncomputable def m_laws_FnExactFirstCut (p0 : List Term) : Option Bool :=
  (m_laws_szTermS p0 (1048576 : Int)).bind fun (r19 : Int) =>
  bif (decide (r19 < (0 : Int))) then
    some true
  else
    (m_laws_toTermS p0).bind fun (r24 : List Term) =>
    (m_spec_FirstCut r24).bind fun (r25 : Term × (List Int) × Bool) =>
    (m_laws_toTermS p0).bind fun (r30 : List Term) =>
    (m_impl_FirstCut r30).bind fun (r33 : Term × (List Int) × Bool) =>
    (m_laws_eqTerm r33.1 r25.1).bind fun (r39 : Bool) =>
    bif (!r39) then
      some false
    else
      (m_laws_eqInt64S r33.2.1 r25.2.1).bind fun (r44 : Bool) =>
      bif ((!r44) || (!(r33.2.2 == r25.2.2))) then
        some false
      else
        (m_laws_toTermS p0).bind fun (r54 : List Term) =>
        (m_laws_eqTermS r30 r54).bind fun (r55 : Bool) =>
        bif (!r55) then
          some false
        else
          (m_laws_markTermS r30 (1 : Int)).bind fun (r59 : Int × (List Term)) =>
          bif (decide (r59.1 < (0 : Int))) then
            some false
          else
            (m_laws_eqTerm r33.1 r25.1).bind fun (r65 : Bool) =>
            bif (!r65) then
              some false
            else
              (m_laws_eqInt64S r33.2.1 r25.2.1).bind fun (r71 : Bool) =>
              bif ((!r71) || (!(r33.2.2 == r25.2.2))) then
                some false
              else
                (m_laws_markTerm r33.1 (1 : Int)).bind fun (r81 : Int × (List Int)) =>
                (m_laws_markInt64S r33.2.1 r81.1).bind fun (r84 : Int × (List Int)) =>
                (m_laws_heldTerm (Term.mk r33.1.Const r81.2) (1 : Int)).bind fun (r87 : Int) =>
                bif (decide (r87 < (0 : Int))) then
                  some false
                else
                  (m_laws_heldInt64S r84.2 r87).bind fun (r92 : Int) =>
                  bif (decide (r92 < (0 : Int))) then
                    some false
                  else
                    bif (!decide (r92 = r84.1)) then
                      some false
                    else
                      (m_laws_toTermS p0).bind fun (r100 : List Term) =>
                      (m_impl_FirstCut r100).bind fun (r101 : Term × (List Int) × Bool) =>
                      (m_laws_eqTerm r101.1 r25.1).bind fun (r107 : Bool) =>
                      bif (!r107) then
                        some false
                      else
                        (m_laws_eqInt64S r101.2.1 r25.2.1).bind fun (r112 : Bool) =>
                        bif ((!r112) || (!(r101.2.2 == r25.2.2))) then
                          some false
                        else
                          (m_laws_heldTerm (Term.mk r33.1.Const r81.2) (1 : Int)).bind fun (r122 : Int) =>
                          bif (decide (r122 < (0 : Int))) then
                            some false
                          else
                            (m_laws_heldInt64S r84.2 r122).bind fun (r127 : Int) =>
                            bif (decide (r127 < (0 : Int))) then
                              some false
                            else
                              bif (!decide (r127 = r84.1)) then
                                some false
                              else
                                some true

noncomputable def m_impl_symbolTerm (p0 : Int) : Option Term :=
  (makeI (w64 (p0 + (1 : Int))) 8).bind fun (k6 : Nat) =>
  (getI (List.replicate k6 (0 : Int)) p0).bind fun (x11 : Int) =>
  some (Term.mk (0 : Int) ((List.replicate k6 (0 : Int)).set ((p0).toNat) (1 : Int)))

noncomputable def m_slices_Clone_impl_Term_impl_Term (p0 : List Term) : Option (List Term) :=
  (capI (([] : List Term).length + p0.length) 32).bind fun (q7 : Unit) =>
  some (([] : List Term) ++ p0)

noncomputable def m_impl_with (p0 : List Term) (p1 : Term) : Option (List Term) :=
  (m_slices_Clone_impl_Term_impl_Term p0).bind fun (r6 : List Term) =>
  (capI (r6.length + [p1].length) 32).bind fun (q9 : Unit) =>
  some (r6 ++ [p1])

noncomputable def m_impl_LeastOf_L0 (n0 : Nat) (x0 : Term) (s0 : Unit) : Option (Ctl Unit (Unit ⊕ (Int × Bool))) :=
  (m_impl_Term_coeff x0 (9 : Int)).bind fun (r41 : Int) =>
  bif (!decide (r41 = (0 : Int))) then
    some (.out (.inr ((0 : Int), false)))
  else
    some (.next ())

noncomputable def m_impl_LeastOf_L1 (n1 : Nat) (x1 : combination) (s1 : Int × Bool) : Option (Ctl (Int × Bool) ((Int × Bool) ⊕ (Int × Bool))) :=
  (m_impl_Term_coeff x1.term (9 : Int)).bind fun (r74 : Int) =>
  bif (decide (r74 = (0 : Int))) then
    bif (decide (x1.term.Const < (0 : Int))) then
      some (.out (.inr ((0 : Int), false)))
    else
      some (.next (s1.1, s1.2))
  else
    (m_impl_divFloor x1.term.Const r74).bind fun (r85 : Int) =>
    bif ((!s1.2) || (decide (s1.1 < (w64 (0 - r85))))) then
      some (.next ((w64 (0 - r85)), true))
    else
      some (.next (s1.1, s1.2))

noncomputable def m_impl_LeastOf_A1 (u1 : (Int × Bool) ⊕ (Int × Bool)) : Option (Int × Bool) :=
  match u1 with
  | .inl u1 =>
    some (u1.1, u1.2)
  | .inr u1 =>
    some (u1.1, u1.2)

noncomputable def m_impl_LeastOf_J0 (p0 : List Term) (j0 : Int × (List Int)) : Option (Int × Bool) :=
  (m_impl_ValidTerm (Term.mk j0.1 j0.2)).bind fun (r51 : Bool) =>
  bif (!r51) then
    some ((0 : Int), false)
  else
    (m_impl_with p0 (Term.mk j0.1 j0.2)).bind fun (r56 : List Term) =>
    (m_impl_allSymbols (9 : Int)).bind fun (r58 : List Int) =>
    (m_impl_eliminated r56 r58).bind fun (r59 : (List combination) × (List combination) × Bool) =>
    bif (!r59.2.2) then
      some ((0 : Int), false)
    else
      (forL (m_impl_LeastOf_L1) (fun s1 => (.inl (s1.1, s1.2))) 0 r59.1 ((0 : Int), false)).bind fun (u1 : (Int × Bool) ⊕ (Int × Bool)) =>
      m_impl_LeastOf_A1 u1

noncomputable def m_impl_LeastOf_A0 (p0 : List Term) (p1 : Term) (u0 : Unit ⊕ (Int × Bool)) : Option (Int × Bool) :=
  match u0 with
  | .inl u0 =>
    (m_impl_symbolTerm (9 : Int)).bind fun (r45 : Term) =>
    (m_impl_combined [r45, p1] [(1 : Int), (-1 : Int)]).bind fun (r49 : Term) =>
    m_impl_LeastOf_J0 p0 (r49.Const, r49.Coeffs)
  | .inr u0 =>
    some (u0.1, u0.2)

noncomputable def m_impl_LeastOf (p0 : List Term) (p1 : Term) : Option (Int × Bool) :=
  (m_impl_areTerms p0 (13 : Int)).bind fun (r20 : Bool) =>
  bif (!r20) then
    some ((0 : Int), false)
  else
    (m_impl_ValidTerm p1).bind fun (r24 : Bool) =>
    bif (!r24) then
      some ((0 : Int), false)
    else
      (m_impl_Term_coeff p1 (9 : Int)).bind fun (r30 : Int) =>
      bif (!decide (r30 = (0 : Int))) then
        some ((0 : Int), false)
      else
        (forL (m_impl_LeastOf_L0) (fun s0 => (.inl ())) 0 p0 ()).bind fun (u0 : Unit ⊕ (Int × Bool)) =>
        m_impl_LeastOf_A0 p0 p1 u0

noncomputable def m_spec_l02Own (p0 : Term) : Option Term :=
  (m_spec_l00Own p0.Coeffs).bind fun (r11 : List Int) =>
  some (Term.mk p0.Const r11)

noncomputable def m_spec_l02OwnAll_L0 (p0 : List Term) (s0 : (List Term) × Int) : Option (Ctl ((List Term) × Int) ((List Term))) :=
  bif (decide (s0.2 < (p0.length : Int))) then
    (getI p0 s0.2).bind fun (x15 : Term) =>
    (m_spec_l02Own x15).bind fun (r16 : Term) =>
    (capI (s0.1.length + [r16].length) 32).bind fun (q18 : Unit) =>
    some (.next ((s0.1 ++ [r16]), (w64 (s0.2 + (1 : Int)))))
  else
    some (.out s0.1)

noncomputable def m_spec_l02OwnAll_A0 (u0 : (List Term)) : Option (List Term) :=
  some u0

noncomputable def m_spec_l02OwnAll (p0 : List Term) : Option (List Term) :=
  (iter (m_spec_l02OwnAll_L0 p0) (([] : List Term), (0 : Int))).bind fun (u0 : (List Term)) =>
  m_spec_l02OwnAll_A0 u0

noncomputable def m_spec_l06Up (p0 : Int) (p1 : Int) : Option Int :=
  (quoI (w64 (0 - p0)) p1).bind fun (q9 : Int) =>
  bif (decide ((w64 (q9 * p1)) < (w64 (0 - p0)))) then
    some (w64 (q9 + (1 : Int)))
  else
    some q9

noncomputable def m_spec_LeastOf_L0 (r28 : List Term) (r29 : Term) (s0 : Int) : Option (Ctl Int (Unit ⊕ (Int × Bool))) :=
  bif (decide (s0 < ((r28 ++ [r29]).length : Int))) then
    (getI (r28 ++ [r29]) s0).bind fun (x40 : Term) =>
    bif (decide ((x40.Coeffs.length : Int) = (10 : Int))) then
      some (.out (.inr ((0 : Int), false)))
    else
      some (.next (w64 (s0 + (1 : Int))))
  else
    some (.out (.inl ()))

noncomputable def m_spec_LeastOf_L1 (s1 : (List l06Row) × Int) : Option (Ctl ((List l06Row) × Int) ((List l06Row) ⊕ (Int × Bool))) :=
  bif (decide ((w64 (s1.2 + (1 : Int))) < (10 : Int))) then
    (m_spec_l06Stage s1.1 s1.2).bind fun (r70 : (List l06Row) × Int × Bool) =>
    bif (!r70.2.2) then
      some (.out (.inr ((0 : Int), false)))
    else
      some (.next (r70.1, (w64 (s1.2 + (1 : Int)))))
  else
    some (.out (.inl s1.1))

noncomputable def m_spec_LeastOf_J0 (s2 : Bool × Int × Int) (x85 : l06Row) (x88 : Int) (j0 : Unit) : Option (Ctl (Bool × Int × Int) ((Bool × Int) ⊕ (Int × Bool))) :=
  bif (decide (x88 = (0 : Int))) then
    some (.next (s2.1, s2.2.1, (w64 (s2.2.2 + (1 : Int)))))
  else
    (m_spec_l06Up x85.c x88).bind fun (r108 : Int) =>
    bif ((!s2.1) || (decide (s2.2.1 < r108))) then
      some (.next (true, r108, (w64 (s2.2.2 + (1 : Int)))))
    else
      some (.next (true, s2.2.1, (w64 (s2.2.2 + (1 : Int)))))

noncomputable def m_spec_LeastOf_L2 (u1 : List l06Row) (s2 : Bool × Int × Int) : Option (Ctl (Bool × Int × Int) ((Bool × Int) ⊕ (Int × Bool))) :=
  bif (decide (s2.2.2 < (u1.length : Int))) then
    (getI u1 s2.2.2).bind fun (x85 : l06Row) =>
    (getI x85.list (9 : Int)).bind fun (x88 : Int) =>
    bif (decide (x88 = (0 : Int))) then
      bif (decide (x85.c < (0 : Int))) then
        some (.out (.inr ((0 : Int), false)))
      else
        m_spec_LeastOf_J0 s2 x85 x88 ()
    else
      m_spec_LeastOf_J0 s2 x85 x88 ()
  else
    some (.out (.inl (s2.1, s2.2.1)))

noncomputable def m_spec_LeastOf_A2 (u2 : (Bool × Int) ⊕ (Int × Bool)) : Option (Int × Bool) :=
  match u2 with
  | .inl u2 =>
    some (u2.2, u2.1)
  | .inr u2 =>
    some (u2.1, u2.2)

noncomputable def m_spec_LeastOf_A1 (u1 : (List l06Row) ⊕ (Int × Bool)) : Option (Int × Bool) :=
  match u1 with
  | .inl u1 =>
    (iter (m_spec_LeastOf_L2 u1) (false, (0 : Int), (0 : Int))).bind fun (u2 : (Bool × Int) ⊕ (Int × Bool)) =>
    m_spec_LeastOf_A2 u2
  | .inr u1 =>
    some (u1.1, u1.2)

noncomputable def m_spec_LeastOf_A0 (p1 : Term) (r28 : List Term) (r29 : Term) (u0 : Unit ⊕ (Int × Bool)) : Option (Int × Bool) :=
  match u0 with
  | .inl u0 =>
    (m_spec_l02Sum (Term.mk (0 : Int) [(0 : Int), (0 : Int), (0 : Int), (0 : Int), (0 : Int), (0 : Int), (0 : Int), (0 : Int), (0 : Int), (1 : Int)]) (1 : Int) p1 (-1 : Int)).bind fun (r49 : Term × Bool) =>
    bif (!r49.2) then
      some ((0 : Int), false)
    else
      (getI (r28 ++ [r29]) (w64 (((r28 ++ [r29]).length : Int) - (1 : Int)))).bind fun (x59 : Term) =>
      (m_spec_l06Rows ((r28 ++ [r29]).set (((w64 (((r28 ++ [r29]).length : Int) - (1 : Int)))).toNat) r49.1)).bind fun (r61 : List l06Row) =>
      (iter (m_spec_LeastOf_L1) (r61, (0 : Int))).bind fun (u1 : (List l06Row) ⊕ (Int × Bool)) =>
      m_spec_LeastOf_A1 u1
  | .inr u0 =>
    some (u0.1, u0.2)

noncomputable def m_spec_LeastOf (p0 : List Term) (p1 : Term) : Option (Int × Bool) :=
  (m_spec_l02All p0 (13 : Int)).bind fun (r21 : Bool) =>
  bif (!r21) then
    some ((0 : Int), false)
  else
    (m_spec_l02Is p1).bind fun (r24 : Bool) =>
    bif (!r24) then
      some ((0 : Int), false)
    else
      (m_spec_l02OwnAll p0).bind fun (r28 : List Term) =>
      (m_spec_l02Own p1).bind fun (r29 : Term) =>
      (capI (r28.length + [r29].length) 32).bind fun (q31 : Unit) =>
      (iter (m_spec_LeastOf_L0 r28 r29) (0 : Int)).bind fun (u0 : Unit ⊕ (Int × Bool)) =>
      m_spec_LeastOf_A0 p1 r28 r29 u0

noncomputable def m_laws_FnCuts_J1 (p1 : List Int) (r22 : List Term) (r24 : List Int) (j1 : Unit) : Option Bool :=
  (m_laws_b10At p1 (0 : Int) (3 : Int)).bind fun (r63 : Int) =>
  (m_impl_LeastOf r22 (Term.mk (0 : Int) [(1 : Int), (w64 (r63 + (1 : Int)))])).bind fun (r70 : Int × Bool) =>
  (m_spec_LeastOf r22 (Term.mk (0 : Int) [(1 : Int), (w64 (r63 + (1 : Int)))])).bind fun (r76 : Int × Bool) =>
  bif (r70.2 == r76.2) then
    bif (!r70.2) then
      some true
    else
      (m_laws_b10Hold r22 r24).bind fun (r88 : Bool) =>
      bif (!r88) then
        some true
      else
        (m_laws_b10Value (Term.mk (0 : Int) [(1 : Int), (w64 (r63 + (1 : Int)))]) r24).bind fun (r94 : Int) =>
        some (decide (r70.1 ≤ r94))
  else
    some false

noncomputable def m_laws_FnCuts_J0 (p1 : List Int) (r22 : List Term) (r24 : List Int) (r27 : Term × (List Int) × Bool) (j0 : Unit) : Option Bool :=
  bif r27.2.2 then
    (m_laws_b10Hold r22 r24).bind fun (r54 : Bool) =>
    bif r54 then
      (m_laws_b10Value r27.1 r24).bind fun (r59 : Int) =>
      bif (decide (r59 < (0 : Int))) then
        some false
      else
        m_laws_FnCuts_J1 p1 r22 r24 ()
    else
      m_laws_FnCuts_J1 p1 r22 r24 ()
  else
    m_laws_FnCuts_J1 p1 r22 r24 ()

noncomputable def m_laws_FnCuts (p0 : List Int) (p1 : List Int) : Option Bool :=
  (m_laws_b10Long p0 p1).bind fun (r20 : Bool) =>
  bif r20 then
    some true
  else
    (m_spec_B10Facts p0).bind fun (r22 : List Term) =>
    (m_spec_B10Values p1).bind fun (r24 : List Int) =>
    (m_impl_FirstCut r22).bind fun (r27 : Term × (List Int) × Bool) =>
    (m_spec_FirstCut r22).bind fun (r33 : Term × (List Int) × Bool) =>
    bif (!(r27.2.2 == r33.2.2)) then
      some false
    else
      bif r27.2.2 then
        bif (!decide ((r27.2.1.length : Int) = (r22.length : Int))) then
          some false
        else
          m_laws_FnCuts_J0 p1 r22 r24 r27 ()
      else
        m_laws_FnCuts_J0 p1 r22 r24 r27 ()

noncomputable def m_spec_l02Combine_L1 (x20 : Int) (x24 : Term) (s1 : (List Int) × Int) : Option (Ctl ((List Int) × Int) ((List Int))) :=
  bif (decide (s1.2 < (x24.Coeffs.length : Int))) then
    (getI s1.1 s1.2).bind fun (x41 : Int) =>
    (getI x24.Coeffs s1.2).bind fun (x53 : Int) =>
    some (.next ((s1.1.set ((s1.2).toNat) (w64 (x41 + (w64 (x20 * x53))))), (w64 (s1.2 + (1 : Int)))))
  else
    some (.out s1.1)

noncomputable def m_spec_l02Combine_A1 (s0 : Int × (List Int) × Int) (x20 : Int) (x24 : Term) (u1 : (List Int)) : Option (Ctl (Int × (List Int) × Int) ((Int × (List Int)))) :=
  some (.next ((w64 (s0.1 + (w64 (x20 * x24.Const)))), u1, (w64 (s0.2.2 + (1 : Int)))))

noncomputable def m_spec_l02Combine_L0 (p0 : List Term) (p1 : List Int) (s0 : Int × (List Int) × Int) : Option (Ctl (Int × (List Int) × Int) ((Int × (List Int)))) :=
  bif (decide (s0.2.2 < (p0.length : Int))) then
    (getI p1 s0.2.2).bind fun (x20 : Int) =>
    (getI p0 s0.2.2).bind fun (x24 : Term) =>
    (iter (m_spec_l02Combine_L1 x20 x24) (s0.2.1, (0 : Int))).bind fun (u1 : (List Int)) =>
    m_spec_l02Combine_A1 s0 x20 x24 u1
  else
    some (.out (s0.1, s0.2.1))

noncomputable def m_spec_l02Combine_A0 (u0 : (Int × (List Int))) : Option (Term × Bool) :=
  (m_spec_l02Make u0.1 u0.2).bind fun (r60 : Term × Bool) =>
  some (r60.1, r60.2)

noncomputable def m_spec_l02Combine (p0 : List Term) (p1 : List Int) : Option (Term × Bool) :=
  (makeI (10 : Int) 8).bind fun (k10 : Nat) =>
  (iter (m_spec_l02Combine_L0 p0 p1) ((0 : Int), (List.replicate k10 (0 : Int)), (0 : Int))).bind fun (u0 : (Int × (List Int))) =>
  m_spec_l02Combine_A0 u0

noncomputable def m_spec_B10Sequent_L1 (s1 : (List Int) × Int × Int × (List Int) × Int) : Option (Ctl ((List Int) × Int × Int × (List Int) × Int) (((List Int) × Int × Int × (List Int)))) :=
  bif (decide ((0 : Int) < s1.2.2.2.2)) then
    (m_spec_l00Src_pick (l00Src.mk s1.1 s1.2.1 s1.2.2.1) (7 : Int)).bind fun (r35 : Int × l00Src) =>
    (capI (s1.2.2.2.1.length + [(w64 (r35.1 - (3 : Int)))].length) 8).bind fun (q38 : Unit) =>
    some (.next (r35.2.code, r35.2.at_, r35.2.seed, (s1.2.2.2.1 ++ [(w64 (r35.1 - (3 : Int)))]), (w64 (s1.2.2.2.2 - (1 : Int)))))
  else
    some (.out (s1.1, s1.2.1, s1.2.2.1, s1.2.2.2.1))

noncomputable def m_spec_B10Sequent_A1 (s0 : (List Int) × Int × Int × (List Term) × (List Int) × Int) (u1 : ((List Int) × Int × Int × (List Int))) : Option (Ctl ((List Int) × Int × Int × (List Term) × (List Int) × Int) (((List Int) × Int × Int × (List Term) × (List Int)))) :=
  (m_spec_l00Src_pick (l00Src.mk u1.1 u1.2.1 u1.2.2.1) (9 : Int)).bind fun (r41 : Int × l00Src) =>
  (m_spec_l02Make (w64 (r41.1 - (3 : Int))) u1.2.2.2).bind fun (r44 : Term × Bool) =>
  (capI (s0.2.2.2.1.length + [r44.1].length) 32).bind fun (q50 : Unit) =>
  (m_spec_l00Src_pick r41.2 (3 : Int)).bind fun (r53 : Int × l00Src) =>
  (capI (s0.2.2.2.2.1.length + [r53.1].length) 8).bind fun (q55 : Unit) =>
  some (.next (r53.2.code, r53.2.at_, r53.2.seed, (s0.2.2.2.1 ++ [r44.1]), (s0.2.2.2.2.1 ++ [r53.1]), (w64 (s0.2.2.2.2.2 - (1 : Int)))))

noncomputable def m_spec_B10Sequent_L0 (s0 : (List Int) × Int × Int × (List Term) × (List Int) × Int) : Option (Ctl ((List Int) × Int × Int × (List Term) × (List Int) × Int) (((List Int) × Int × Int × (List Term) × (List Int)))) :=
  bif (decide ((0 : Int) < s0.2.2.2.2.2)) then
    (m_spec_l00Src_pick (l00Src.mk s0.1 s0.2.1 s0.2.2.1) (4 : Int)).bind fun (r28 : Int × l00Src) =>
    (iter (m_spec_B10Sequent_L1) (r28.2.code, r28.2.at_, r28.2.seed, ([] : List Int), r28.1)).bind fun (u1 : ((List Int) × Int × Int × (List Int))) =>
    m_spec_B10Sequent_A1 s0 u1
  else
    some (.out (s0.1, s0.2.1, s0.2.2.1, s0.2.2.2.1, s0.2.2.2.2.1))

noncomputable def m_spec_B10Sequent_J1 (u0 : (List Int) × Int × Int × (List Term) × (List Int)) (j0 : Int × (List Int)) (j1 : (List Int) × Int × Int × Int) : Option Sequent :=
  (m_spec_l00Src_one (l00Src.mk j1.1 j1.2.1 j1.2.2.1) (3 : Int)).bind fun (r75 : Bool × l00Src) =>
  bif r75.1 then
    some (Sequent.mk u0.2.2.2.1 (Term.mk (w64 (j1.2.2.2 - (4 : Int))) j0.2))
  else
    some (Sequent.mk u0.2.2.2.1 (Term.mk j1.2.2.2 j0.2))

noncomputable def m_spec_B10Sequent_J0 (u0 : (List Int) × Int × Int × (List Term) × (List Int)) (j0 : Int × (List Int)) : Option Sequent :=
  (m_spec_l00Src_pick (l00Src.mk u0.1 u0.2.1 u0.2.2.1) (4 : Int)).bind fun (r71 : Int × l00Src) =>
  m_spec_B10Sequent_J1 u0 j0 (r71.2.code, r71.2.at_, r71.2.seed, (w64 (j0.1 + r71.1)))

noncomputable def m_spec_B10Sequent_A0 (u0 : ((List Int) × Int × Int × (List Term) × (List Int))) : Option Sequent :=
  (m_spec_l02Combine u0.2.2.2.1 u0.2.2.2.2).bind fun (r59 : Term × Bool) =>
  (m_spec_l02Tight r59.1).bind fun (r63 : Term × Bool) =>
  bif r63.2 then
    m_spec_B10Sequent_J0 u0 (r63.1.Const, r63.1.Coeffs)
  else
    m_spec_B10Sequent_J0 u0 (r59.1.Const, r59.1.Coeffs)

noncomputable def m_spec_B10Sequent (p0 : List Int) : Option Sequent :=
  (m_spec_l00From p0).bind fun (r16 : l00Src) =>
  (m_spec_l00Src_pick r16 (4 : Int)).bind fun (r20 : Int × l00Src) =>
  (iter (m_spec_B10Sequent_L0) (r20.2.code, r20.2.at_, r20.2.seed, ([] : List Term), ([] : List Int), (w64 ((1 : Int) + r20.1)))).bind fun (u0 : ((List Int) × Int × Int × (List Term) × (List Int))) =>
  m_spec_B10Sequent_A0 u0

noncomputable def m_impl_ValidSequent (p0 : Sequent) : Option Bool :=
  (m_impl_areTerms p0.Facts (13 : Int)).bind fun (r5 : Bool) =>
  bif r5 then
    (m_impl_ValidTerm p0.Goal).bind fun (r9 : Bool) =>
    some r9
  else
    some false

noncomputable def m_impl_Term_opposite (p0 : Term) : Option Term :=
  (m_impl_combined [p0] [(-1 : Int)]).bind fun (r7 : Term) =>
  some (Term.mk (w64 (r7.Const - (1 : Int))) r7.Coeffs)

noncomputable def m_impl_ownTerms_L0 (n0 : Nat) (x0 : Term) (s0 : List Term) : Option (Ctl (List Term) ((List Term))) :=
  (m_impl_Term_own x0).bind fun (r14 : Term) =>
  (capI (s0.length + [r14].length) 32).bind fun (q16 : Unit) =>
  some (.next (s0 ++ [r14]))

noncomputable def m_impl_ownTerms_A0 (u0 : (List Term)) : Option (List Term) :=
  some u0

noncomputable def m_impl_ownTerms (p0 : List Term) : Option (List Term) :=
  (forL (m_impl_ownTerms_L0) (fun s0 => s0) 0 p0 ([] : List Term)).bind fun (u0 : (List Term)) =>
  m_impl_ownTerms_A0 u0

noncomputable def m_impl_ContextOf (p0 : Sequent) : Option ((List Term) × Bool) :=
  (m_impl_ValidSequent p0).bind fun (r5 : Bool) =>
  bif (!r5) then
    some (([] : List Term), false)
  else
    (m_impl_Term_opposite p0.Goal).bind fun (r10 : Term) =>
    (m_impl_ValidTerm r10).bind fun (r11 : Bool) =>
    bif (!r11) then
      some (([] : List Term), false)
    else
      (m_impl_ownTerms p0.Facts).bind fun (r16 : List Term) =>
      (m_impl_Term_opposite p0.Goal).bind fun (r19 : Term) =>
      (m_impl_Term_own r19).bind fun (r20 : Term) =>
      (capI (r16.length + [r20].length) 32).bind fun (q22 : Unit) =>
      some ((r16 ++ [r20]), true)

noncomputable def m_impl_areValues (p0 : List Int) : Option Bool :=
  bif (decide ((p0.length : Int) = (10 : Int))) then
    (m_impl_allWithin p0 (-1000000000 : Int) (1000000000 : Int)).bind fun (r8 : Bool) =>
    some r8
  else
    some false

noncomputable def m_impl_Term_eval_L0 (p1 : List Int) (n0 : Nat) (x0 : Int) (s0 : Int) : Option (Ctl Int Int) :=
  (getI p1 (n0 : Int)).bind fun (x22 : Int) =>
  some (.next (w64 (s0 + (w64 (x0 * x22)))))

noncomputable def m_impl_Term_eval_A0 (u0 : Int) : Option Int :=
  some u0

noncomputable def m_impl_Term_eval (p0 : Term) (p1 : List Int) : Option Int :=
  (forL (m_impl_Term_eval_L0 p1) (fun s0 => s0) 0 p0.Coeffs p0.Const).bind fun (u0 : Int) =>
  m_impl_Term_eval_A0 u0

noncomputable def m_impl_hold_L0 (p1 : List Int) (n0 : Nat) (x0 : Term) (s0 : Unit) : Option (Ctl Unit (Unit ⊕ Bool)) :=
  (m_impl_Term_eval x0 p1).bind fun (r15 : Int) =>
  bif (decide (r15 < (0 : Int))) then
    some (.out (.inr false))
  else
    some (.next ())

noncomputable def m_impl_hold_A0 (u0 : Unit ⊕ Bool) : Option Bool :=
  match u0 with
  | .inl u0 =>
    some true
  | .inr u0 =>
    some u0

noncomputable def m_impl_hold (p0 : List Term) (p1 : List Int) : Option Bool :=
  (forL (m_impl_hold_L0 p1) (fun s0 => (.inl ())) 0 p0 ()).bind fun (u0 : Unit ⊕ Bool) =>
  m_impl_hold_A0 u0

noncomputable def m_impl_IsCounter (p0 : Sequent) (p1 : List Int) : Option Bool :=
  (m_impl_ValidSequent p0).bind fun (r6 : Bool) =>
  bif r6 then
    (m_impl_areValues p1).bind fun (r9 : Bool) =>
    bif r9 then
      (m_impl_hold p0.Facts p1).bind fun (r15 : Bool) =>
      bif r15 then
        (m_impl_Term_eval p0.Goal p1).bind fun (r21 : Int) =>
        some (decide (r21 < (0 : Int)))
      else
        some false
    else
      some false
  else
    some false
end Go.Mod
