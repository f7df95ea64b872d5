import Derived.Test.YtlijhkhbdfgapaaGc
import Derived.Test.YtlijhkhbdfgapaaGd
/- Printed by a program. -/
namespace Go.Mod
open Go.AM
set_option linter.unusedVariables false
structure l00Src where
  code : List Int
  at_ : Int
  seed : Int
  deriving DecidableEq, Inhabited
theorem l00Src.eta (t : l00Src) : l00Src.mk t.code t.at_ t.seed = t := rfl
structure Term where
  Const : Int
  Coeffs : List Int
  deriving DecidableEq, Inhabited
theorem Term.eta (t : Term) : Term.mk t.Const t.Coeffs = t := rfl
structure Sequent where
  Facts : List Term
  Goal : Term
  deriving DecidableEq, Inhabited
theorem Sequent.eta (t : Sequent) : Sequent.mk t.Facts t.Goal = t := rfl
def k_u8 (x : Int) : Prop := 0 ≤ x ∧ x ≤ 255
def kLa_u8 (x : List Int) : Prop := x.length ≤ 9223372036854775807 ∧ ∀ y ∈ x, k_u8 y
def k_i64 (x : Int) : Prop := -9223372036854775808 ≤ x ∧ x ≤ 9223372036854775807
def kLa_i64 (x : List Int) : Prop := x.length ≤ 9223372036854775807 ∧ ∀ y ∈ x, k_i64 y
def k_Term (x : Term) : Prop := k_i64 x.Const ∧ kLa_i64 x.Coeffs
def kLa_Term (x : List Term) : Prop := x.length ≤ 9223372036854775807 ∧ ∀ y ∈ x, k_Term y
def k_Sequent (x : Sequent) : Prop := kLa_Term x.Facts ∧ k_Term x.Goal

noncomputable def m_laws_b10Long (p0 : List Int) (p1 : List Int) : Option Bool :=
  some ((decide ((1048576 : Int) < (p0.length : Int))) || (decide ((1048576 : Int) < (p1.length : Int))))

noncomputable def m_spec_l00From (p0 : List Int) : Option l00Src :=
  some (l00Src.mk p0 (0 : Int) (0 : Int))

noncomputable def m_spec_l00Src_next_J0 (p0 : l00Src) (j0 : Int) : Option (Int × l00Src) :=
  bif (decide ((w64 (p0.at_ + (1 : Int))) ≤ (p0.code.length : Int))) then
    some (j0, (l00Src.mk p0.code (w64 (p0.at_ + (1 : Int))) (wu 64 ((wu 64 ((wu 64 (p0.seed * (6364136223846793005 : Int))) + (wu 64 j0))) + (1442695040888963407 : Int)))))
  else
    some ((w64 (andU 64 (Int.fdiv (wu 64 ((wu 64 ((wu 64 (p0.seed * (6364136223846793005 : Int))) + (wu 64 j0))) + (1442695040888963407 : Int))) (2 ^ 40)) (255 : Int))), (l00Src.mk p0.code (w64 (p0.at_ + (1 : Int))) (wu 64 ((wu 64 ((wu 64 (p0.seed * (6364136223846793005 : Int))) + (wu 64 j0))) + (1442695040888963407 : Int)))))

noncomputable def m_spec_l00Src_next (p0 : l00Src) : Option (Int × l00Src) :=
  bif (decide (p0.at_ < (p0.code.length : Int))) then
    (getI p0.code p0.at_).bind fun (x22 : Int) =>
    m_spec_l00Src_next_J0 p0 (w64 x22)
  else
    m_spec_l00Src_next_J0 p0 (0 : Int)

noncomputable def m_spec_l00Src_pick (p0 : l00Src) (p1 : Int) : Option (Int × l00Src) :=
  bif (decide (p1 ≤ (1 : Int))) then
    some ((0 : Int), p0)
  else
    (m_spec_l00Src_next p0).bind fun (r9 : Int × l00Src) =>
    bif (decide ((200 : Int) < p1)) then
      (m_spec_l00Src_next r9.2).bind fun (r15 : Int × l00Src) =>
      (remI (w64 ((w64 (r9.1 * (256 : Int))) + r15.1)) p1).bind fun (q19 : Int) =>
      some (q19, r15.2)
    else
      (remI r9.1 p1).bind fun (q19 : Int) =>
      some (q19, r9.2)

noncomputable def m_spec_l00Own (p0 : List Int) : Option (List Int) :=
  (capI (([] : List Int).length + p0.length) 8).bind fun (q5 : Unit) =>
  some (([] : List Int) ++ p0)

noncomputable def m_spec_l00In (p0 : Int) (p1 : Int) (p2 : Int) : Option Bool :=
  some ((decide (p1 ≤ p0)) && (decide (p0 ≤ p2)))

noncomputable def m_spec_l02Number (p0 : Int) : Option Bool :=
  (m_spec_l00In p0 (-1000000 : Int) (1000000 : Int)).bind fun (r4 : Bool) =>
  some r4

noncomputable def m_spec_l02Is_L0 (p0 : Term) (s0 : Int) : Option (Ctl Int (Unit ⊕ Bool)) :=
  bif (decide (s0 < (p0.Coeffs.length : Int))) then
    (getI p0.Coeffs s0).bind fun (x45 : Int) =>
    (m_spec_l02Number x45).bind fun (r47 : Bool) =>
    bif (!r47) then
      some (.out (.inr false))
    else
      some (.next (w64 (s0 + (1 : Int))))
  else
    some (.out (.inl ()))

noncomputable def m_spec_l02Is_A0 (u0 : Unit ⊕ Bool) : Option Bool :=
  match u0 with
  | .inl u0 =>
    some true
  | .inr u0 =>
    some u0

noncomputable def m_spec_l02Is_J0 (p0 : Term) (j0 : Unit) : Option Bool :=
  (iter (m_spec_l02Is_L0 p0) (0 : Int)).bind fun (u0 : Unit ⊕ Bool) =>
  m_spec_l02Is_A0 u0

noncomputable def m_spec_l02Is (p0 : Term) : Option Bool :=
  (m_spec_l02Number p0.Const).bind fun (r14 : Bool) =>
  bif ((!r14) || (decide ((10 : Int) < (p0.Coeffs.length : Int)))) then
    some false
  else
    bif (decide ((0 : Int) < (p0.Coeffs.length : Int))) then
      (getI p0.Coeffs (w64 ((p0.Coeffs.length : Int) - (1 : Int)))).bind fun (x30 : Int) =>
      bif (decide (x30 = (0 : Int))) then
        some false
      else
        m_spec_l02Is_J0 p0 ()
    else
      m_spec_l02Is_J0 p0 ()

noncomputable def m_spec_l02Make_L0 (p1 : List Int) (s0 : Int) : Option (Ctl Int Int) :=
  bif (decide ((0 : Int) < s0)) then
    (getI p1 (w64 (s0 - (1 : Int)))).bind fun (x16 : Int) =>
    bif (decide (x16 = (0 : Int))) then
      some (.next (w64 (s0 - (1 : Int))))
    else
      some (.out s0)
  else
    some (.out s0)

noncomputable def m_spec_l02Make_A0 (p0 : Int) (p1 : List Int) (u0 : Int) : Option (Term × Bool) :=
  (sliceI p1 (0 : Int) u0).bind fun (y25 : List Int) =>
  (m_spec_l00Own y25).bind fun (r26 : List Int) =>
  (m_spec_l02Is (Term.mk p0 r26)).bind fun (r28 : Bool) =>
  bif (!r28) then
    some ((Term.mk (0 : Int) ([] : List Int)), false)
  else
    some ((Term.mk p0 r26), true)

noncomputable def m_spec_l02Make (p0 : Int) (p1 : List Int) : Option (Term × Bool) :=
  (iter (m_spec_l02Make_L0 p1) (p1.length : Int)).bind fun (u0 : Int) =>
  m_spec_l02Make_A0 p0 p1 u0

noncomputable def m_spec_B10Term_L0 (s0 : (List Int) × Int × Int × (List Int) × Int) : Option (Ctl ((List Int) × Int × Int × (List Int) × Int) (((List Int) × Int × Int × (List Int)))) :=
  bif (decide ((0 : Int) < s0.2.2.2.2)) then
    (m_spec_l00Src_pick (l00Src.mk s0.1 s0.2.1 s0.2.2.1) (9 : Int)).bind fun (r19 : Int × l00Src) =>
    (capI (s0.2.2.2.1.length + [(w64 (r19.1 - (4 : Int)))].length) 8).bind fun (q22 : Unit) =>
    some (.next (r19.2.code, r19.2.at_, r19.2.seed, (s0.2.2.2.1 ++ [(w64 (r19.1 - (4 : Int)))]), (w64 (s0.2.2.2.2 - (1 : Int)))))
  else
    some (.out (s0.1, s0.2.1, s0.2.2.1, s0.2.2.2.1))

noncomputable def m_spec_B10Term_A0 (u0 : ((List Int) × Int × Int × (List Int))) : Option Term :=
  (m_spec_l00Src_pick (l00Src.mk u0.1 u0.2.1 u0.2.2.1) (15 : Int)).bind fun (r25 : Int × l00Src) =>
  (m_spec_l02Make (w64 (r25.1 - (7 : Int))) u0.2.2.2).bind fun (r28 : Term × Bool) =>
  some r28.1

noncomputable def m_spec_B10Term (p0 : List Int) : Option Term :=
  (m_spec_l00From p0).bind fun (r9 : l00Src) =>
  (m_spec_l00Src_pick r9 (11 : Int)).bind fun (r12 : Int × l00Src) =>
  (iter (m_spec_B10Term_L0) (r12.2.code, r12.2.at_, r12.2.seed, ([] : List Int), r12.1)).bind fun (u0 : ((List Int) × Int × Int × (List Int))) =>
  m_spec_B10Term_A0 u0

noncomputable def m_spec_B10Values_L0 (s0 : (List Int) × Int × Int × (List Int) × Int) : Option (Ctl ((List Int) × Int × Int × (List Int) × Int) ((List Int))) :=
  bif (decide (s0.2.2.2.2 < (10 : Int))) then
    (m_spec_l00Src_pick (l00Src.mk s0.1 s0.2.1 s0.2.2.1) (13 : Int)).bind fun (r15 : Int × l00Src) =>
    (capI (s0.2.2.2.1.length + [(w64 (r15.1 - (6 : Int)))].length) 8).bind fun (q18 : Unit) =>
    some (.next (r15.2.code, r15.2.at_, r15.2.seed, (s0.2.2.2.1 ++ [(w64 (r15.1 - (6 : Int)))]), (w64 (s0.2.2.2.2 + (1 : Int)))))
  else
    some (.out s0.2.2.2.1)

noncomputable def m_spec_B10Values_A0 (u0 : (List Int)) : Option (List Int) :=
  some u0

noncomputable def m_spec_B10Values (p0 : List Int) : Option (List Int) :=
  (m_spec_l00From p0).bind fun (r7 : l00Src) =>
  (iter (m_spec_B10Values_L0) (r7.code, r7.at_, r7.seed, ([] : List Int), (0 : Int))).bind fun (u0 : (List Int)) =>
  m_spec_B10Values_A0 u0

noncomputable def m_impl_within (p0 : Int) (p1 : Int) (p2 : Int) : Option Bool :=
  some ((decide (p1 ≤ p0)) && (decide (p0 ≤ p2)))

noncomputable def m_impl_isCoeff (p0 : Int) : Option Bool :=
  (m_impl_within p0 (-1000000 : Int) (1000000 : Int)).bind fun (r4 : Bool) =>
  some r4

noncomputable def m_impl_allWithin_L0 (p1 : Int) (p2 : Int) (n0 : Nat) (x0 : Int) (s0 : Unit) : Option (Ctl Unit (Unit ⊕ Bool)) :=
  (m_impl_within x0 p1 p2).bind fun (r18 : Bool) =>
  bif (!r18) then
    some (.out (.inr false))
  else
    some (.next ())

noncomputable def m_impl_allWithin_A0 (u0 : Unit ⊕ Bool) : Option Bool :=
  match u0 with
  | .inl u0 =>
    some true
  | .inr u0 =>
    some u0

noncomputable def m_impl_allWithin (p0 : List Int) (p1 : Int) (p2 : Int) : Option Bool :=
  (forL (m_impl_allWithin_L0 p1 p2) (fun s0 => (.inl ())) 0 p0 ()).bind fun (u0 : Unit ⊕ Bool) =>
  m_impl_allWithin_A0 u0

noncomputable def m_impl_ValidTerm (p0 : Term) : Option Bool :=
  bif (decide ((p0.Coeffs.length : Int) ≤ (10 : Int))) then
    (m_impl_isCoeff p0.Const).bind fun (r12 : Bool) =>
    bif r12 then
      (m_impl_allWithin p0.Coeffs (-1000000 : Int) (1000000 : Int)).bind fun (r17 : Bool) =>
      bif r17 then
        bif (decide ((p0.Coeffs.length : Int) = (0 : Int))) then
          some true
        else
          (getI p0.Coeffs (w64 ((p0.Coeffs.length : Int) - (1 : Int)))).bind fun (x27 : Int) =>
          some (!decide (x27 = (0 : Int)))
      else
        some false
    else
      some false
  else
    some false

noncomputable def m_impl_Term_trimmed_L0 (p0 : Term) (s0 : Int) : Option (Ctl Int Int) :=
  bif (decide ((0 : Int) < s0)) then
    (getI p0.Coeffs (w64 (s0 - (1 : Int)))).bind fun (x14 : Int) =>
    bif (decide (x14 = (0 : Int))) then
      some (.next (w64 (s0 - (1 : Int))))
    else
      some (.out s0)
  else
    some (.out s0)

noncomputable def m_impl_Term_trimmed_A0 (p0 : Term) (u0 : Int) : Option Term :=
  (sliceI p0.Coeffs (0 : Int) u0).bind fun (y23 : List Int) =>
  some (Term.mk p0.Const y23)

noncomputable def m_impl_Term_trimmed (p0 : Term) : Option Term :=
  (iter (m_impl_Term_trimmed_L0 p0) (p0.Coeffs.length : Int)).bind fun (u0 : Int) =>
  m_impl_Term_trimmed_A0 p0 u0

noncomputable def m_impl_combined_L1 (x23 : Int) (n1 : Nat) (x1 : Int) (s1 : List Int) : Option (Ctl (List Int) ((List Int))) :=
  (getI s1 (n1 : Int)).bind fun (x41 : Int) =>
  some (.next (s1.set (((n1 : Int)).toNat) (w64 (x41 + (w64 (x23 * x1))))))

noncomputable def m_impl_combined_A1 (s0 : Int × (List Int)) (x0 : Term) (x23 : Int) (u1 : (List Int)) : Option (Ctl (Int × (List Int)) ((Int × (List Int)))) :=
  some (.next ((w64 (s0.1 + (w64 (x23 * x0.Const)))), u1))

noncomputable def m_impl_combined_L0 (p1 : List Int) (n0 : Nat) (x0 : Term) (s0 : Int × (List Int)) : Option (Ctl (Int × (List Int)) ((Int × (List Int)))) :=
  (getI p1 (n0 : Int)).bind fun (x23 : Int) =>
  (forL (m_impl_combined_L1 x23) (fun s1 => s1) 0 x0.Coeffs s0.2).bind fun (u1 : (List Int)) =>
  m_impl_combined_A1 s0 x0 x23 u1

noncomputable def m_impl_combined_A0 (u0 : (Int × (List Int))) : Option Term :=
  (m_impl_Term_trimmed (Term.mk u0.1 u0.2)).bind fun (r54 : Term) =>
  some r54

noncomputable def m_impl_combined (p0 : List Term) (p1 : List Int) : Option Term :=
  (makeI (10 : Int) 8).bind fun (k10 : Nat) =>
  (forL (m_impl_combined_L0 p1) (fun s0 => (s0.1, s0.2)) 0 p0 ((0 : Int), (List.replicate k10 (0 : Int)))).bind fun (u0 : (Int × (List Int))) =>
  m_impl_combined_A0 u0

noncomputable def m_impl_Term_opposite (p0 : Term) : Option Term :=
  (m_impl_combined [p0] [(-1 : Int)]).bind fun (r7 : Term) =>
  some (Term.mk (w64 (r7.Const - (1 : Int))) r7.Coeffs)

noncomputable def m_impl_copyInts (p0 : List Int) : Option (List Int) :=
  (capI (([] : List Int).length + p0.length) 8).bind fun (q5 : Unit) =>
  some (([] : List Int) ++ p0)

noncomputable def m_impl_Term_own (p0 : Term) : Option Term :=
  (m_impl_copyInts p0.Coeffs).bind fun (r7 : List Int) =>
  some (Term.mk p0.Const r7)

noncomputable def m_impl_Term_checked (p0 : Term) : Option (Term × Bool) :=
  (m_impl_ValidTerm p0).bind fun (r5 : Bool) =>
  bif (!r5) then
    some ((Term.mk (0 : Int) ([] : List Int)), false)
  else
    (m_impl_Term_own p0).bind fun (r9 : Term) =>
    some (r9, true)

noncomputable def m_impl_OppositeOf (p0 : Term) : Option (Term × Bool) :=
  (m_impl_ValidTerm p0).bind fun (r5 : Bool) =>
  bif (!r5) then
    some ((Term.mk (0 : Int) ([] : List Int)), false)
  else
    (m_impl_Term_opposite p0).bind fun (r9 : Term) =>
    (m_impl_Term_checked r9).bind fun (r10 : Term × Bool) =>
    some (r10.1, r10.2)

noncomputable def m_slices_Equal_int64_int64_L0 (p1 : List Int) (n0 : Nat) (x0 : Int) (s0 : Unit) : Option (Ctl Unit (Unit ⊕ Bool)) :=
  (getI p1 (n0 : Int)).bind fun (x22 : Int) =>
  bif (!decide (x0 = x22)) then
    some (.out (.inr false))
  else
    some (.next ())

noncomputable def m_slices_Equal_int64_int64_A0 (u0 : Unit ⊕ Bool) : Option Bool :=
  match u0 with
  | .inl u0 =>
    some true
  | .inr u0 =>
    some u0

noncomputable def m_slices_Equal_int64_int64 (p0 : List Int) (p1 : List Int) : Option Bool :=
  bif (!decide ((p0.length : Int) = (p1.length : Int))) then
    some false
  else
    (forL (m_slices_Equal_int64_int64_L0 p1) (fun s0 => (.inl ())) 0 p0 ()).bind fun (u0 : Unit ⊕ Bool) =>
    m_slices_Equal_int64_int64_A0 u0

noncomputable def m_impl_Term_equal (p0 : Term) (p1 : Term) : Option Bool :=
  bif (decide (p0.Const = p1.Const)) then
    (m_slices_Equal_int64_int64 p0.Coeffs p1.Coeffs).bind fun (r15 : Bool) =>
    some r15
  else
    some false

noncomputable def m_impl_SameTerm (p0 : Term) (p1 : Term) : Option Bool :=
  (m_impl_ValidTerm p0).bind fun (r6 : Bool) =>
  bif r6 then
    (m_impl_ValidTerm p1).bind fun (r9 : Bool) =>
    bif r9 then
      (m_impl_Term_equal p0 p1).bind fun (r14 : Bool) =>
      some r14
    else
      some false
  else
    some false

noncomputable def m_laws_b10Value_L0 (p0 : Term) (p1 : List Int) (s0 : Int × Int) : Option (Ctl (Int × Int) Int) :=
  bif ((decide (s0.2 < (p0.Coeffs.length : Int))) && (decide (s0.2 < (p1.length : Int)))) then
    (getI p0.Coeffs s0.2).bind fun (x26 : Int) =>
    (getI p1 s0.2).bind fun (x30 : Int) =>
    some (.next ((w64 (s0.1 + (w64 (x26 * x30)))), (w64 (s0.2 + (1 : Int)))))
  else
    some (.out s0.1)

noncomputable def m_laws_b10Value_A0 (u0 : Int) : Option Int :=
  some u0

noncomputable def m_laws_b10Value (p0 : Term) (p1 : List Int) : Option Int :=
  (iter (m_laws_b10Value_L0 p0 p1) (p0.Const, (0 : Int))).bind fun (u0 : Int) =>
  m_laws_b10Value_A0 u0

noncomputable def m_laws_FnOpposite (p0 : List Int) (p1 : List Int) : Option Bool :=
  (m_laws_b10Long p0 p1).bind fun (r13 : Bool) =>
  bif r13 then
    some true
  else
    (m_spec_B10Term p0).bind fun (r15 : Term) =>
    (m_spec_B10Values p1).bind fun (r17 : List Int) =>
    (m_impl_OppositeOf r15).bind fun (r20 : Term × Bool) =>
    (m_impl_OppositeOf r20.1).bind fun (r25 : Term × Bool) =>
    bif r20.2 then
      bif r25.2 then
        (m_impl_SameTerm r25.1 r15).bind fun (r35 : Bool) =>
        bif r35 then
          (m_laws_b10Value r15 r17).bind fun (r40 : Int) =>
          (m_laws_b10Value r20.1 r17).bind fun (r44 : Int) =>
          some (!((decide ((0 : Int) ≤ r40)) == (decide ((0 : Int) ≤ r44))))
        else
          some false
      else
        some false
    else
      some false

noncomputable def m_laws_b10At (p0 : List Int) (p1 : Int) (p2 : Int) : Option Int :=
  bif (decide (p2 ≤ (1 : Int))) then
    some (0 : Int)
  else
    bif (decide (p1 < (p0.length : Int))) then
      (getI p0 p1).bind fun (x15 : Int) =>
      (remI (w64 x15) p2).bind fun (q19 : Int) =>
      some q19
    else
      (remI (w64 ((w64 (p1 * (37 : Int))) + (11 : Int))) p2).bind fun (q24 : Int) =>
      some q24

noncomputable def m_impl_ScaleTerm (p0 : Term) (p1 : Int) : Option (Term × Bool) :=
  (m_impl_ValidTerm p0).bind fun (r7 : Bool) =>
  bif (!r7) then
    some ((Term.mk (0 : Int) ([] : List Int)), false)
  else
    (m_impl_isCoeff p1).bind fun (r11 : Bool) =>
    bif (!r11) then
      some ((Term.mk (0 : Int) ([] : List Int)), false)
    else
      (m_impl_combined [p0] [p1]).bind fun (r19 : Term) =>
      (m_impl_Term_checked r19).bind fun (r20 : Term × Bool) =>
      some (r20.1, r20.2)

noncomputable def m_impl_absolute (p0 : Int) : Option Int :=
  some (max p0 (w64 (0 - p0)))

noncomputable def m_impl_gcd_L1 (s1 : Int × Int) : Option (Ctl (Int × Int) Int) :=
  bif (!decide (s1.2 = (0 : Int))) then
    (remI s1.1 s1.2).bind fun (q22 : Int) =>
    some (.next (s1.2, q22))
  else
    some (.out s1.1)

noncomputable def m_impl_gcd_A1 (u1 : Int) : Option (Ctl Int Int) :=
  some (.next u1)

noncomputable def m_impl_gcd_L0 (n0 : Nat) (x0 : Int) (s0 : Int) : Option (Ctl Int Int) :=
  (m_impl_absolute x0).bind fun (r16 : Int) =>
  (iter (m_impl_gcd_L1) (s0, r16)).bind fun (u1 : Int) =>
  m_impl_gcd_A1 u1

noncomputable def m_impl_gcd_A0 (u0 : Int) : Option Int :=
  some u0

noncomputable def m_impl_gcd (p0 : List Int) : Option Int :=
  (forL (m_impl_gcd_L0) (fun s0 => s0) 0 p0 (0 : Int)).bind fun (u0 : Int) =>
  m_impl_gcd_A0 u0

noncomputable def m_impl_divFloor (p0 : Int) (p1 : Int) : Option Int :=
  (quoI p0 p1).bind fun (q8 : Int) =>
  (remI p0 p1).bind fun (q11 : Int) =>
  bif (decide (q11 < (0 : Int))) then
    some (w64 (q8 - (1 : Int)))
  else
    some q8

noncomputable def m_impl_Term_tightened_L0 (r9 : Int) (r14 : Term) (s0 : (List Int) × Int) : Option (Ctl ((List Int) × Int) ((List Int))) :=
  bif (decide (s0.2 < (r14.Coeffs.length : Int))) then
    (getI s0.1 s0.2).bind fun (x29 : Int) =>
    (quoI x29 r9).bind fun (q32 : Int) =>
    some (.next ((s0.1.set ((s0.2).toNat) q32), (w64 (s0.2 + (1 : Int)))))
  else
    some (.out s0.1)

noncomputable def m_impl_Term_tightened_A0 (r18 : Int) (u0 : (List Int)) : Option (Term × Bool) :=
  some ((Term.mk r18 u0), true)

noncomputable def m_impl_Term_tightened (p0 : Term) : Option (Term × Bool) :=
  (m_impl_gcd p0.Coeffs).bind fun (r9 : Int) =>
  bif (decide (r9 ≤ (1 : Int))) then
    some ((Term.mk (0 : Int) ([] : List Int)), false)
  else
    (m_impl_Term_own p0).bind fun (r14 : Term) =>
    (m_impl_divFloor p0.Const r9).bind fun (r18 : Int) =>
    (iter (m_impl_Term_tightened_L0 r9 r14) (r14.Coeffs, (0 : Int))).bind fun (u0 : (List Int)) =>
    m_impl_Term_tightened_A0 r18 u0

noncomputable def m_impl_TightenTerm (p0 : Term) : Option (Term × Bool) :=
  (m_impl_ValidTerm p0).bind fun (r5 : Bool) =>
  bif (!r5) then
    some ((Term.mk (0 : Int) ([] : List Int)), false)
  else
    (m_impl_Term_tightened p0).bind fun (r9 : Term × Bool) =>
    some (r9.1, r9.2)

noncomputable def m_laws_FnTightened_J0 (r18 : Term) (r25 : Term × Bool) (r29 : List Int) (j0 : Int) : Option Bool :=
  (m_impl_TightenTerm (Term.mk j0 r25.1.Coeffs)).bind fun (r44 : Term × Bool) =>
  bif (!(r44.2 == (decide ((0 : Int) < (r18.Coeffs.length : Int))))) then
    some false
  else
    bif (!r44.2) then
      some true
    else
      (m_impl_TightenTerm r44.1).bind fun (r57 : Term × Bool) =>
      bif (!r57.2) then
        (m_laws_b10Value r44.1 r29).bind fun (r65 : Int) =>
        (m_laws_b10Value (Term.mk j0 r25.1.Coeffs) r29).bind fun (r69 : Int) =>
        some ((decide ((0 : Int) ≤ r65)) == (decide ((0 : Int) ≤ r69)))
      else
        some false

noncomputable def m_laws_FnTightened (p0 : List Int) (p1 : List Int) : Option Bool :=
  (m_laws_b10Long p0 p1).bind fun (r16 : Bool) =>
  bif r16 then
    some true
  else
    (m_spec_B10Term p0).bind fun (r18 : Term) =>
    (m_laws_b10At p1 (0 : Int) (4 : Int)).bind fun (r20 : Int) =>
    (m_impl_ScaleTerm r18 (w64 ((2 : Int) + r20))).bind fun (r25 : Term × Bool) =>
    (m_spec_B10Values p1).bind fun (r29 : List Int) =>
    bif (!r25.2) then
      some false
    else
      bif (decide (r25.1.Const < (999991 : Int))) then
        (m_laws_b10At p1 (1 : Int) (7 : Int)).bind fun (r38 : Int) =>
        m_laws_FnTightened_J0 r18 r25 r29 (w64 (r25.1.Const + (w64 (r38 - (3 : Int)))))
      else
        m_laws_FnTightened_J0 r18 r25 r29 r25.1.Const

noncomputable def m_laws_szInt64S (p0 : List Int) (p1 : Int) : Option Int :=
  bif (decide ((w64 (p1 - (p0.length : Int))) < (0 : Int))) then
    some (-1 : Int)
  else
    some (w64 (p1 - (p0.length : Int)))

noncomputable def m_laws_szTerm (p0 : Term) (p1 : Int) : Option Int :=
  (m_laws_szInt64S p0.Coeffs p1).bind fun (r8 : Int) =>
  bif (decide (r8 < (0 : Int))) then
    some (-1 : Int)
  else
    some r8

noncomputable def m_laws_toInt64S_L0 (p0 : List Int) (s0 : (List Int) × Int) : Option (Ctl ((List Int) × Int) ((List Int))) :=
  bif (decide (s0.2 < (p0.length : Int))) then
    (getI p0 s0.2).bind fun (x18 : Int) =>
    (getI s0.1 s0.2).bind fun (x20 : Int) =>
    some (.next ((s0.1.set ((s0.2).toNat) x18), (w64 (s0.2 + (1 : Int)))))
  else
    some (.out s0.1)

noncomputable def m_laws_toInt64S_A0 (u0 : (List Int)) : Option (List Int) :=
  some u0

noncomputable def m_laws_toInt64S (p0 : List Int) : Option (List Int) :=
  (makeI (p0.length : Int) 8).bind fun (k7 : Nat) =>
  (iter (m_laws_toInt64S_L0 p0) ((List.replicate k7 (0 : Int)), (0 : Int))).bind fun (u0 : (List Int)) =>
  m_laws_toInt64S_A0 u0

noncomputable def m_laws_toTerm (p0 : Term) : Option Term :=
  (m_laws_toInt64S p0.Coeffs).bind fun (r9 : List Int) =>
  some (Term.mk p0.Const r9)

noncomputable def m_spec_l02Coeff (p0 : Term) (p1 : Int) : Option Int :=
  bif (decide (p1 < (p0.Coeffs.length : Int))) then
    (getI p0.Coeffs p1).bind fun (x17 : Int) =>
    some x17
  else
    some (0 : Int)

noncomputable def m_spec_l02Sum_L0 (p0 : Term) (p1 : Int) (p2 : Term) (p3 : Int) (s0 : (List Int) × Int) : Option (Ctl ((List Int) × Int) ((List Int))) :=
  bif (decide (s0.2 < (10 : Int))) then
    (m_spec_l02Coeff p0 s0.2).bind fun (r21 : Int) =>
    (m_spec_l02Coeff p2 s0.2).bind fun (r26 : Int) =>
    (capI (s0.1.length + [(w64 ((w64 (p1 * r21)) + (w64 (p3 * r26))))].length) 8).bind fun (q30 : Unit) =>
    some (.next ((s0.1 ++ [(w64 ((w64 (p1 * r21)) + (w64 (p3 * r26))))]), (w64 (s0.2 + (1 : Int)))))
  else
    some (.out s0.1)

noncomputable def m_spec_l02Sum_A0 (p0 : Term) (p1 : Int) (p2 : Term) (p3 : Int) (u0 : (List Int)) : Option (Term × Bool) :=
  (m_spec_l02Make (w64 ((w64 (p1 * p0.Const)) + (w64 (p3 * p2.Const)))) u0).bind fun (r45 : Term × Bool) =>
  some (r45.1, r45.2)

noncomputable def m_spec_l02Sum (p0 : Term) (p1 : Int) (p2 : Term) (p3 : Int) : Option (Term × Bool) :=
  (iter (m_spec_l02Sum_L0 p0 p1 p2 p3) (([] : List Int), (0 : Int))).bind fun (u0 : (List Int)) =>
  m_spec_l02Sum_A0 p0 p1 p2 p3 u0

noncomputable def m_spec_l02Add (p0 : Term) (p1 : Term) : Option (Term × Bool) :=
  (m_spec_l02Sum p0 (1 : Int) p1 (1 : Int)).bind fun (r8 : Term × Bool) =>
  some (r8.1, r8.2)

noncomputable def m_spec_AddTerms (p0 : Term) (p1 : Term) : Option (Term × Bool) :=
  (m_spec_l02Is p0).bind fun (r6 : Bool) =>
  bif (!r6) then
    some ((Term.mk (0 : Int) ([] : List Int)), false)
  else
    (m_spec_l02Is p1).bind fun (r9 : Bool) =>
    bif (!r9) then
      some ((Term.mk (0 : Int) ([] : List Int)), false)
    else
      (m_spec_l02Add p0 p1).bind fun (r13 : Term × Bool) =>
      some (r13.1, r13.2)

noncomputable def m_impl_AddTerms (p0 : Term) (p1 : Term) : Option (Term × Bool) :=
  (m_impl_ValidTerm p0).bind fun (r7 : Bool) =>
  bif (!r7) then
    some ((Term.mk (0 : Int) ([] : List Int)), false)
  else
    (m_impl_ValidTerm p1).bind fun (r11 : Bool) =>
    bif (!r11) then
      some ((Term.mk (0 : Int) ([] : List Int)), false)
    else
      (m_impl_combined [p0, p1] [(1 : Int), (1 : Int)]).bind fun (r19 : Term) =>
      (m_impl_Term_checked r19).bind fun (r20 : Term × Bool) =>
      some (r20.1, r20.2)

noncomputable def m_laws_eqInt64S_L0 (p0 : List Int) (p1 : List Int) (s0 : Int) : Option (Ctl Int (Unit ⊕ Bool)) :=
  bif (decide (s0 < (p0.length : Int))) then
    (getI p0 s0).bind fun (x19 : Int) =>
    (getI p1 s0).bind fun (x23 : Int) =>
    bif (!decide (x19 = x23)) then
      some (.out (.inr false))
    else
      some (.next (w64 (s0 + (1 : Int))))
  else
    some (.out (.inl ()))

noncomputable def m_laws_eqInt64S_A0 (u0 : Unit ⊕ Bool) : Option Bool :=
  match u0 with
  | .inl u0 =>
    some true
  | .inr u0 =>
    some u0

noncomputable def m_laws_eqInt64S (p0 : List Int) (p1 : List Int) : Option Bool :=
  bif (!decide ((p0.length : Int) = (p1.length : Int))) then
    some false
  else
    (iter (m_laws_eqInt64S_L0 p0 p1) (0 : Int)).bind fun (u0 : Unit ⊕ Bool) =>
    m_laws_eqInt64S_A0 u0

noncomputable def m_laws_eqTerm (p0 : Term) (p1 : Term) : Option Bool :=
  bif (!decide (p0.Const = p1.Const)) then
    some false
  else
    (m_laws_eqInt64S p0.Coeffs p1.Coeffs).bind fun (r14 : Bool) =>
    bif (!r14) then
      some false
    else
      some true

noncomputable def m_laws_markInt64S_L0 (s0 : (List Int) × Int × Int) : Option (Ctl ((List Int) × Int × Int) ((Int × (List Int)))) :=
  bif (decide (s0.2.2 < (s0.1.length : Int))) then
    (getI s0.1 s0.2.2).bind fun (x15 : Int) =>
    some (.next ((s0.1.set ((s0.2.2).toNat) s0.2.1), (w64 (s0.2.1 + (1 : Int))), (w64 (s0.2.2 + (1 : Int)))))
  else
    some (.out (s0.2.1, s0.1))

noncomputable def m_laws_markInt64S_A0 (u0 : (Int × (List Int))) : Option (Int × (List Int)) :=
  some (u0.1, u0.2)

noncomputable def m_laws_markInt64S (p0 : List Int) (p1 : Int) : Option (Int × (List Int)) :=
  (iter (m_laws_markInt64S_L0) (p0, p1, (0 : Int))).bind fun (u0 : (Int × (List Int))) =>
  m_laws_markInt64S_A0 u0

noncomputable def m_laws_markTerm (p0 : Term) (p1 : Int) : Option (Int × (List Int)) :=
  (m_laws_markInt64S p0.Coeffs p1).bind fun (r8 : Int × (List Int)) =>
  some (r8.1, r8.2)

noncomputable def m_laws_heldInt64S_L0 (p0 : List Int) (s0 : Int × Int) : Option (Ctl (Int × Int) (Int ⊕ Int)) :=
  bif (decide (s0.2 < (p0.length : Int))) then
    (getI p0 s0.2).bind fun (x14 : Int) =>
    bif (!decide (x14 = s0.1)) then
      some (.out (.inr (-1 : Int)))
    else
      some (.next ((w64 (s0.1 + (1 : Int))), (w64 (s0.2 + (1 : Int)))))
  else
    some (.out (.inl s0.1))

noncomputable def m_laws_heldInt64S_A0 (u0 : Int ⊕ Int) : Option Int :=
  match u0 with
  | .inl u0 =>
    some u0
  | .inr u0 =>
    some u0

noncomputable def m_laws_heldInt64S (p0 : List Int) (p1 : Int) : Option Int :=
  (iter (m_laws_heldInt64S_L0 p0) (p1, (0 : Int))).bind fun (u0 : Int ⊕ Int) =>
  m_laws_heldInt64S_A0 u0

noncomputable def m_laws_heldTerm (p0 : Term) (p1 : Int) : Option Int :=
  (m_laws_heldInt64S p0.Coeffs p1).bind fun (r8 : Int) =>
  bif (decide (r8 < (0 : Int))) then
    some (-1 : Int)
  else
    some r8

noncomputable def m_laws_FnExactAddTerms_J1 (j0 : Int × (List Int) × Bool) (r42 : Term × Bool) (r85 : Int × (List Int)) (j1 : Int × (List Int) × Bool) : Option Bool :=
  (m_laws_eqTerm (Term.mk j1.1 j1.2.1) (Term.mk j0.1 j0.2.1)).bind fun (r104 : Bool) =>
  bif ((!r104) || (!(j1.2.2 == j0.2.2))) then
    some false
  else
    (m_laws_heldTerm (Term.mk r42.1.Const r85.2) (1 : Int)).bind fun (r113 : Int) =>
    bif (decide (r113 < (0 : Int))) then
      some false
    else
      bif (!decide (r113 = r85.1)) then
        some false
      else
        some true

noncomputable def m_laws_FnExactAddTerms_J0 (p0 : Term) (p1 : Term) (j0 : Int × (List Int) × Bool) : Option Bool :=
  (m_laws_toTerm p0).bind fun (r36 : Term) =>
  (m_laws_toTerm p1).bind fun (r38 : Term) =>
  (m_impl_AddTerms r36 r38).bind fun (r42 : Term × Bool) =>
  (m_laws_eqTerm r42.1 (Term.mk j0.1 j0.2.1)).bind fun (r47 : Bool) =>
  bif ((!r47) || (!(r42.2 == j0.2.2))) then
    some false
  else
    (m_laws_toTerm p0).bind fun (r56 : Term) =>
    (m_laws_eqTerm r36 r56).bind fun (r57 : Bool) =>
    bif (!r57) then
      some false
    else
      (m_laws_toTerm p1).bind fun (r61 : Term) =>
      (m_laws_eqTerm r38 r61).bind fun (r62 : Bool) =>
      bif (!r62) then
        some false
      else
        (m_laws_markTerm r36 (1 : Int)).bind fun (r66 : Int × (List Int)) =>
        (m_laws_markTerm r38 r66.1).bind fun (r69 : Int × (List Int)) =>
        bif (decide (r69.1 < (0 : Int))) then
          some false
        else
          (m_laws_eqTerm r42.1 (Term.mk j0.1 j0.2.1)).bind fun (r75 : Bool) =>
          bif ((!r75) || (!(r42.2 == j0.2.2))) then
            some false
          else
            (m_laws_markTerm r42.1 (1 : Int)).bind fun (r85 : Int × (List Int)) =>
            (m_laws_heldTerm (Term.mk r42.1.Const r85.2) (1 : Int)).bind fun (r88 : Int) =>
            bif (decide (r88 < (0 : Int))) then
              some false
            else
              bif (!decide (r88 = r85.1)) then
                some false
              else
                (m_laws_toTerm p0).bind fun (r96 : Term) =>
                (m_laws_toTerm p1).bind fun (r98 : Term) =>
                (m_impl_AddTerms r96 r98).bind fun (r99 : Term × Bool) =>
                m_laws_FnExactAddTerms_J1 j0 r42 r85 (r99.1.Const, r99.1.Coeffs, r99.2)

noncomputable def m_laws_FnExactAddTerms (p0 : Term) (p1 : Term) : Option Bool :=
  (m_laws_szTerm p0 (1048576 : Int)).bind fun (r19 : Int) =>
  bif (decide (r19 < (0 : Int))) then
    some true
  else
    (m_laws_szTerm p1 r19).bind fun (r24 : Int) =>
    bif (decide (r24 < (0 : Int))) then
      some true
    else
      (m_laws_toTerm p0).bind fun (r29 : Term) =>
      (m_laws_toTerm p1).bind fun (r31 : Term) =>
      (m_spec_AddTerms r29 r31).bind fun (r32 : Term × Bool) =>
      m_laws_FnExactAddTerms_J0 p0 p1 (r32.1.Const, r32.1.Coeffs, r32.2)

noncomputable def m_spec_l02Scale (p0 : Term) (p1 : Int) : Option (Term × Bool) :=
  (m_spec_l02Sum p0 p1 (Term.mk (0 : Int) ([] : List Int)) (0 : Int)).bind fun (r10 : Term × Bool) =>
  some (r10.1, r10.2)

noncomputable def m_spec_ScaleTerm (p0 : Term) (p1 : Int) : Option (Term × Bool) :=
  (m_spec_l02Is p0).bind fun (r6 : Bool) =>
  bif (!r6) then
    some ((Term.mk (0 : Int) ([] : List Int)), false)
  else
    (m_spec_l02Number p1).bind fun (r10 : Bool) =>
    bif (!r10) then
      some ((Term.mk (0 : Int) ([] : List Int)), false)
    else
      (m_spec_l02Scale p0 p1).bind fun (r15 : Term × Bool) =>
      some (r15.1, r15.2)

noncomputable def m_laws_FnExactScaleTerm (p0 : Term) (p1 : Int) : Option Bool :=
  (m_laws_szTerm p0 (1048576 : Int)).bind fun (r18 : Int) =>
  bif (decide (r18 < (0 : Int))) then
    some true
  else
    (m_laws_toTerm p0).bind fun (r23 : Term) =>
    (m_spec_ScaleTerm r23 p1).bind fun (r25 : Term × Bool) =>
    (m_laws_toTerm p0).bind fun (r29 : Term) =>
    (m_impl_ScaleTerm r29 p1).bind fun (r33 : Term × Bool) =>
    (m_laws_eqTerm r33.1 r25.1).bind fun (r38 : Bool) =>
    bif ((!r38) || (!(r33.2 == r25.2))) then
      some false
    else
      (m_laws_toTerm p0).bind fun (r47 : Term) =>
      (m_laws_eqTerm r29 r47).bind fun (r48 : Bool) =>
      bif (!r48) then
        some false
      else
        (m_laws_markTerm r29 (1 : Int)).bind fun (r52 : Int × (List Int)) =>
        bif (decide (r52.1 < (0 : Int))) then
          some false
        else
          (m_laws_eqTerm r33.1 r25.1).bind fun (r58 : Bool) =>
          bif ((!r58) || (!(r33.2 == r25.2))) then
            some false
          else
            (m_laws_markTerm r33.1 (1 : Int)).bind fun (r68 : Int × (List Int)) =>
            (m_laws_heldTerm (Term.mk r33.1.Const r68.2) (1 : Int)).bind fun (r71 : Int) =>
            bif (decide (r71 < (0 : Int))) then
              some false
            else
              bif (!decide (r71 = r68.1)) then
                some false
              else
                (m_laws_toTerm p0).bind fun (r79 : Term) =>
                (m_impl_ScaleTerm r79 p1).bind fun (r81 : Term × Bool) =>
                (m_laws_eqTerm r81.1 r25.1).bind fun (r86 : Bool) =>
                bif ((!r86) || (!(r81.2 == r25.2))) then
                  some false
                else
                  (m_laws_heldTerm (Term.mk r33.1.Const r68.2) (1 : Int)).bind fun (r95 : Int) =>
                  bif (decide (r95 < (0 : Int))) then
                    some false
                  else
                    bif (!decide (r95 = r68.1)) then
                      some false
                    else
                      some true

noncomputable def m_impl_areTerms_L0 (n0 : Nat) (x0 : Term) (s0 : Unit) : Option (Ctl Unit (Unit ⊕ Bool)) :=
  (m_impl_ValidTerm x0).bind fun (r18 : Bool) =>
  bif (!r18) then
    some (.out (.inr false))
  else
    some (.next ())

noncomputable def m_impl_areTerms_A0 (u0 : Unit ⊕ Bool) : Option Bool :=
  match u0 with
  | .inl u0 =>
    some true
  | .inr u0 =>
    some u0

noncomputable def m_impl_areTerms (p0 : List Term) (p1 : Int) : Option Bool :=
  bif (decide (p1 < (p0.length : Int))) then
    some false
  else
    (forL (m_impl_areTerms_L0) (fun s0 => (.inl ())) 0 p0 ()).bind fun (u0 : Unit ⊕ Bool) =>
    m_impl_areTerms_A0 u0

noncomputable def m_impl_SubstituteTerm_J0 (s0 : (List Term) × (List Int)) (x0 : Int) (j0 : Int × (List Int)) : Option (Ctl ((List Term) × (List Int)) (((List Term) × (List Int)))) :=
  (capI (s0.1.length + [(Term.mk j0.1 j0.2)].length) 32).bind fun (q52 : Unit) =>
  (capI (s0.2.length + [x0].length) 8).bind fun (q56 : Unit) =>
  some (.next ((s0.1 ++ [(Term.mk j0.1 j0.2)]), (s0.2 ++ [x0])))

noncomputable def m_impl_SubstituteTerm_L0 (p1 : List Term) (n0 : Nat) (x0 : Int) (s0 : (List Term) × (List Int)) : Option (Ctl ((List Term) × (List Int)) (((List Term) × (List Int)))) :=
  (makeI ((n0 + 1 : Nat) : Int) 8).bind fun (k35 : Nat) =>
  (getI (List.replicate k35 (0 : Int)) (n0 : Int)).bind fun (x40 : Int) =>
  bif (decide ((n0 : Int) < (p1.length : Int))) then
    (getI p1 (n0 : Int)).bind fun (x47 : Term) =>
    m_impl_SubstituteTerm_J0 s0 x0 (x47.Const, x47.Coeffs)
  else
    m_impl_SubstituteTerm_J0 s0 x0 ((0 : Int), ((List.replicate k35 (0 : Int)).set (((n0 : Int)).toNat) (1 : Int)))

noncomputable def m_impl_SubstituteTerm_A0 (u0 : ((List Term) × (List Int))) : Option (Term × Bool) :=
  (m_impl_combined u0.1 u0.2).bind fun (r60 : Term) =>
  (m_impl_Term_checked r60).bind fun (r61 : Term × Bool) =>
  some (r61.1, r61.2)

noncomputable def m_impl_SubstituteTerm (p0 : Term) (p1 : List Term) : Option (Term × Bool) :=
  (m_impl_ValidTerm p0).bind fun (r12 : Bool) =>
  bif (!r12) then
    some ((Term.mk (0 : Int) ([] : List Int)), false)
  else
    (m_impl_areTerms p1 (10 : Int)).bind fun (r16 : Bool) =>
    bif (!r16) then
      some ((Term.mk (0 : Int) ([] : List Int)), false)
    else
      (forL (m_impl_SubstituteTerm_L0 p1) (fun s0 => (s0.1, s0.2)) 0 p0.Coeffs ([(Term.mk p0.Const ([] : List Int))], [(1 : Int)])).bind fun (u0 : ((List Term) × (List Int))) =>
      m_impl_SubstituteTerm_A0 u0

noncomputable def m_impl_areValues (p0 : List Int) : Option Bool :=
  bif (decide ((p0.length : Int) = (10 : Int))) then
    (m_impl_allWithin p0 (-1000000000 : Int) (1000000000 : Int)).bind fun (r8 : Bool) =>
    some r8
  else
    some false

noncomputable def m_impl_Term_eval_L0 (p1 : List Int) (n0 : Nat) (x0 : Int) (s0 : Int) : Option (Ctl Int Int) :=
  (getI p1 (n0 : Int)).bind fun (x22 : Int) =>
  some (.next (w64 (s0 + (w64 (x0 * x22)))))

noncomputable def m_impl_Term_eval_A0 (u0 : Int) : Option Int :=
  some u0

noncomputable def m_impl_Term_eval (p0 : Term) (p1 : List Int) : Option Int :=
  (forL (m_impl_Term_eval_L0 p1) (fun s0 => s0) 0 p0.Coeffs p0.Const).bind fun (u0 : Int) =>
  m_impl_Term_eval_A0 u0

noncomputable def m_impl_EvalTerm (p0 : Term) (p1 : List Int) : Option (Int × Bool) :=
  (m_impl_ValidTerm p0).bind fun (r7 : Bool) =>
  bif (!r7) then
    some ((0 : Int), false)
  else
    (m_impl_areValues p1).bind fun (r11 : Bool) =>
    bif (!r11) then
      some ((0 : Int), false)
    else
      (m_impl_Term_eval p0 p1).bind fun (r16 : Int) =>
      some (r16, true)

noncomputable def m_laws_FnTerms_J0 (r34 : List Int) (r60 : Int × Bool) (r66 : Int × Bool) (r84 : Int × Bool) (j0 : Int) : Option Bool :=
  (getI r34 (0 : Int)).bind fun (x143 : Int) =>
  some (decide (r84.1 = (w64 ((w64 (r60.1 - (w64 (j0 * x143)))) + (w64 (j0 * r66.1))))))

noncomputable def m_laws_FnTerms (p0 : List Int) (p1 : List Int) : Option Bool :=
  (m_laws_b10Long p0 p1).bind fun (r28 : Bool) =>
  bif r28 then
    some true
  else
    (m_spec_B10Term p0).bind fun (r30 : Term) =>
    (m_spec_B10Term p1).bind fun (r32 : Term) =>
    (m_spec_B10Values p1).bind fun (r34 : List Int) =>
    (m_laws_b10At p1 (0 : Int) (9 : Int)).bind fun (r36 : Int) =>
    (m_impl_AddTerms r30 r32).bind fun (r41 : Term × Bool) =>
    (m_impl_ScaleTerm r30 (w64 (r36 - (4 : Int)))).bind fun (r47 : Term × Bool) =>
    (m_impl_SubstituteTerm r30 [r32]).bind fun (r54 : Term × Bool) =>
    (m_impl_EvalTerm r30 r34).bind fun (r60 : Int × Bool) =>
    (m_impl_EvalTerm r32 r34).bind fun (r66 : Int × Bool) =>
    (m_impl_EvalTerm r41.1 r34).bind fun (r72 : Int × Bool) =>
    (m_impl_EvalTerm r47.1 r34).bind fun (r78 : Int × Bool) =>
    (m_impl_EvalTerm r54.1 r34).bind fun (r84 : Int × Bool) =>
    bif ((((((((((!r41.2) || (!r47.2)) || (!r54.2)) || (!r60.2)) || (!r66.2)) || (!r72.2)) || (!r78.2)) || (!r84.2)) || (!decide (r72.1 = (w64 (r60.1 + r66.1))))) || (!decide (r78.1 = (w64 ((w64 (r36 - (4 : Int))) * r60.1))))) then
      some false
    else
      bif (decide ((0 : Int) < (r30.Coeffs.length : Int))) then
        (getI r30.Coeffs (0 : Int)).bind fun (x137 : Int) =>
        m_laws_FnTerms_J0 r34 r60 r66 r84 x137
      else
        m_laws_FnTerms_J0 r34 r60 r66 r84 (0 : Int)

noncomputable def m_spec_l02Opposite (p0 : Term) : Option (Term × Bool) :=
  (m_spec_l02Sum p0 (-1 : Int) (Term.mk (1 : Int) ([] : List Int)) (-1 : Int)).bind fun (r7 : Term × Bool) =>
  some (r7.1, r7.2)

noncomputable def m_spec_OppositeOf (p0 : Term) : Option (Term × Bool) :=
  (m_spec_l02Is p0).bind fun (r4 : Bool) =>
  bif (!r4) then
    some ((Term.mk (0 : Int) ([] : List Int)), false)
  else
    (m_spec_l02Opposite p0).bind fun (r7 : Term × Bool) =>
    some (r7.1, r7.2)

noncomputable def m_laws_FnExactOppositeOf (p0 : Term) : Option Bool :=
  (m_laws_szTerm p0 (1048576 : Int)).bind fun (r16 : Int) =>
  bif (decide (r16 < (0 : Int))) then
    some true
  else
    (m_laws_toTerm p0).bind fun (r21 : Term) =>
    (m_spec_OppositeOf r21).bind fun (r22 : Term × Bool) =>
    (m_laws_toTerm p0).bind fun (r26 : Term) =>
    (m_impl_OppositeOf r26).bind fun (r29 : Term × Bool) =>
    (m_laws_eqTerm r29.1 r22.1).bind fun (r34 : Bool) =>
    bif ((!r34) || (!(r29.2 == r22.2))) then
      some false
    else
      (m_laws_toTerm p0).bind fun (r43 : Term) =>
      (m_laws_eqTerm r26 r43).bind fun (r44 : Bool) =>
      bif (!r44) then
        some false
      else
        (m_laws_markTerm r26 (1 : Int)).bind fun (r48 : Int × (List Int)) =>
        bif (decide (r48.1 < (0 : Int))) then
          some false
        else
          (m_laws_eqTerm r29.1 r22.1).bind fun (r54 : Bool) =>
          bif ((!r54) || (!(r29.2 == r22.2))) then
            some false
          else
            (m_laws_markTerm r29.1 (1 : Int)).bind fun (r64 : Int × (List Int)) =>
            (m_laws_heldTerm (Term.mk r29.1.Const r64.2) (1 : Int)).bind fun (r67 : Int) =>
            bif (decide (r67 < (0 : Int))) then
              some false
            else
              bif (!decide (r67 = r64.1)) then
                some false
              else
                (m_laws_toTerm p0).bind fun (r75 : Term) =>
                (m_impl_OppositeOf r75).bind fun (r76 : Term × Bool) =>
                (m_laws_eqTerm r76.1 r22.1).bind fun (r81 : Bool) =>
                bif ((!r81) || (!(r76.2 == r22.2))) then
                  some false
                else
                  (m_laws_heldTerm (Term.mk r29.1.Const r64.2) (1 : Int)).bind fun (r90 : Int) =>
                  bif (decide (r90 < (0 : Int))) then
                    some false
                  else
                    bif (!decide (r90 = r64.1)) then
                      some false
                    else
                      some true

noncomputable def m_spec_l00Src_one (p0 : l00Src) (p1 : Int) : Option (Bool × l00Src) :=
  (m_spec_l00Src_pick p0 p1).bind fun (r7 : Int × l00Src) =>
  some ((decide (r7.1 = (0 : Int))), r7.2)

noncomputable def m_spec_B10Facts_L1 (s1 : (List Int) × Int × Int × (List Int) × Int) : Option (Ctl ((List Int) × Int × Int × (List Int) × Int) (((List Int) × Int × Int × (List Int)))) :=
  bif (decide ((0 : Int) < s1.2.2.2.2)) then
    (m_spec_l00Src_pick (l00Src.mk s1.1 s1.2.1 s1.2.2.1) (7 : Int)).bind fun (r29 : Int × l00Src) =>
    (capI (s1.2.2.2.1.length + [(w64 (r29.1 - (3 : Int)))].length) 8).bind fun (q32 : Unit) =>
    some (.next (r29.2.code, r29.2.at_, r29.2.seed, (s1.2.2.2.1 ++ [(w64 (r29.1 - (3 : Int)))]), (w64 (s1.2.2.2.2 - (1 : Int)))))
  else
    some (.out (s1.1, s1.2.1, s1.2.2.1, s1.2.2.2.1))

noncomputable def m_spec_B10Facts_J0 (s0 : (List Int) × Int × Int × (List Term) × Int) (r38 : Term × Bool) (j0 : (List Int) × Int × Int × Bool) : Option (Ctl ((List Int) × Int × Int × (List Term) × Int) ((List Term))) :=
  bif j0.2.2.2 then
    (m_spec_l00Src_pick (l00Src.mk j0.1 j0.2.1 j0.2.2.1) (s0.2.2.2.1.length : Int)).bind fun (r53 : Int × l00Src) =>
    (getI s0.2.2.2.1 r53.1).bind fun (x54 : Term) =>
    (m_spec_l02Opposite x54).bind fun (r55 : Term × Bool) =>
    (m_spec_l00Src_pick r53.2 (7 : Int)).bind fun (r61 : Int × l00Src) =>
    (capI (s0.2.2.2.1.length + [(Term.mk (w64 (r55.1.Const + r61.1)) r55.1.Coeffs)].length) 32).bind fun (q67 : Unit) =>
    some (.next (r61.2.code, r61.2.at_, r61.2.seed, (s0.2.2.2.1 ++ [(Term.mk (w64 (r55.1.Const + r61.1)) r55.1.Coeffs)]), (w64 (s0.2.2.2.2 - (1 : Int)))))
  else
    (capI (s0.2.2.2.1.length + [r38.1].length) 32).bind fun (q67 : Unit) =>
    some (.next (j0.1, j0.2.1, j0.2.2.1, (s0.2.2.2.1 ++ [r38.1]), (w64 (s0.2.2.2.2 - (1 : Int)))))

noncomputable def m_spec_B10Facts_A1 (s0 : (List Int) × Int × Int × (List Term) × Int) (u1 : ((List Int) × Int × Int × (List Int))) : Option (Ctl ((List Int) × Int × Int × (List Term) × Int) ((List Term))) :=
  (m_spec_l00Src_pick (l00Src.mk u1.1 u1.2.1 u1.2.2.1) (9 : Int)).bind fun (r35 : Int × l00Src) =>
  (m_spec_l02Make (w64 (r35.1 - (3 : Int))) u1.2.2.2).bind fun (r38 : Term × Bool) =>
  bif (decide ((0 : Int) < (s0.2.2.2.1.length : Int))) then
    (m_spec_l00Src_one r35.2 (3 : Int)).bind fun (r46 : Bool × l00Src) =>
    m_spec_B10Facts_J0 s0 r38 (r46.2.code, r46.2.at_, r46.2.seed, r46.1)
  else
    m_spec_B10Facts_J0 s0 r38 (r35.2.code, r35.2.at_, r35.2.seed, false)

noncomputable def m_spec_B10Facts_L0 (s0 : (List Int) × Int × Int × (List Term) × Int) : Option (Ctl ((List Int) × Int × Int × (List Term) × Int) ((List Term))) :=
  bif (decide ((0 : Int) < s0.2.2.2.2)) then
    (m_spec_l00Src_pick (l00Src.mk s0.1 s0.2.1 s0.2.2.1) (4 : Int)).bind fun (r22 : Int × l00Src) =>
    (iter (m_spec_B10Facts_L1) (r22.2.code, r22.2.at_, r22.2.seed, ([] : List Int), r22.1)).bind fun (u1 : ((List Int) × Int × Int × (List Int))) =>
    m_spec_B10Facts_A1 s0 u1
  else
    some (.out s0.2.2.2.1)

noncomputable def m_spec_B10Facts_A0 (u0 : (List Term)) : Option (List Term) :=
  some u0

noncomputable def m_spec_B10Facts (p0 : List Int) : Option (List Term) :=
  (m_spec_l00From p0).bind fun (r11 : l00Src) =>
  (m_spec_l00Src_pick r11 (5 : Int)).bind fun (r14 : Int × l00Src) =>
  (iter (m_spec_B10Facts_L0) (r14.2.code, r14.2.at_, r14.2.seed, ([] : List Term), (w64 ((1 : Int) + r14.1)))).bind fun (u0 : (List Term)) =>
  m_spec_B10Facts_A0 u0

noncomputable def m_impl_ValidFacts (p0 : List Term) : Option Bool :=
  (m_impl_areTerms p0 (14 : Int)).bind fun (r4 : Bool) =>
  some r4

noncomputable def m_impl_CombineTerms (p0 : List Term) (p1 : List Int) : Option (Term × Bool) :=
  (m_impl_ValidFacts p0).bind fun (r7 : Bool) =>
  bif ((!r7) || (!decide ((p1.length : Int) = (p0.length : Int)))) then
    some ((Term.mk (0 : Int) ([] : List Int)), false)
  else
    (m_impl_allWithin p1 (0 : Int) (1000000 : Int)).bind fun (r18 : Bool) =>
    bif (!r18) then
      some ((Term.mk (0 : Int) ([] : List Int)), false)
    else
      (m_impl_combined p0 p1).bind fun (r24 : Term) =>
      (m_impl_Term_checked r24).bind fun (r25 : Term × Bool) =>
      some (r25.1, r25.2)

noncomputable def m_laws_b10Hold_L0 (p0 : List Term) (p1 : List Int) (s0 : Int) : Option (Ctl Int (Unit ⊕ Bool)) :=
  bif (decide (s0 < (p0.length : Int))) then
    (getI p0 s0).bind fun (x14 : Term) =>
    (m_laws_b10Value x14 p1).bind fun (r17 : Int) =>
    bif (decide (r17 < (0 : Int))) then
      some (.out (.inr false))
    else
      some (.next (w64 (s0 + (1 : Int))))
  else
    some (.out (.inl ()))

noncomputable def m_laws_b10Hold_A0 (u0 : Unit ⊕ Bool) : Option Bool :=
  match u0 with
  | .inl u0 =>
    some true
  | .inr u0 =>
    some u0

noncomputable def m_laws_b10Hold (p0 : List Term) (p1 : List Int) : Option Bool :=
  (iter (m_laws_b10Hold_L0 p0 p1) (0 : Int)).bind fun (u0 : Unit ⊕ Bool) =>
  m_laws_b10Hold_A0 u0

noncomputable def m_laws_FnCombined_L0 (p1 : List Int) (r17 : List Term) (r19 : List Int) (s0 : (List Int) × Int × Int) : Option (Ctl ((List Int) × Int × Int) (((List Int) × Int))) :=
  bif (decide (s0.2.2 < (r17.length : Int))) then
    (m_laws_b10At p1 s0.2.2 (6 : Int)).bind fun (r29 : Int) =>
    (capI (s0.1.length + [r29].length) 8).bind fun (q33 : Unit) =>
    (getI r17 s0.2.2).bind fun (x38 : Term) =>
    (m_laws_b10Value x38 r19).bind fun (r41 : Int) =>
    some (.next ((s0.1 ++ [r29]), (w64 (s0.2.1 + (w64 (r29 * r41)))), (w64 (s0.2.2 + (1 : Int)))))
  else
    some (.out (s0.1, s0.2.1))

noncomputable def m_laws_FnCombined_A0 (r17 : List Term) (r19 : List Int) (u0 : ((List Int) × Int)) : Option Bool :=
  (m_impl_CombineTerms r17 u0.1).bind fun (r47 : Term × Bool) =>
  bif r47.2 then
    (m_laws_b10Value r47.1 r19).bind fun (r54 : Int) =>
    bif (decide (r54 = u0.2)) then
      (m_laws_b10Hold r17 r19).bind fun (r61 : Bool) =>
      bif (!r61) then
        some true
      else
        some (decide ((0 : Int) ≤ u0.2))
    else
      some false
  else
    some false

noncomputable def m_laws_FnCombined (p0 : List Int) (p1 : List Int) : Option Bool :=
  (m_laws_b10Long p0 p1).bind fun (r15 : Bool) =>
  bif r15 then
    some true
  else
    (m_spec_B10Facts p0).bind fun (r17 : List Term) =>
    (m_spec_B10Values p1).bind fun (r19 : List Int) =>
    (iter (m_laws_FnCombined_L0 p1 r17 r19) (([] : List Int), (0 : Int), (0 : Int))).bind fun (u0 : ((List Int) × Int)) =>
    m_laws_FnCombined_A0 r17 r19 u0

noncomputable def m_spec_l00Max (p0 : Int) (p1 : Int) : Option Int :=
  bif (decide (p1 < p0)) then
    some p0
  else
    some p1

noncomputable def m_spec_l02Divisor_L1 (s1 : Int × Int) : Option (Ctl (Int × Int) Int) :=
  bif (decide ((0 : Int) < s1.2)) then
    (remI s1.1 s1.2).bind fun (q36 : Int) =>
    some (.next (s1.2, q36))
  else
    some (.out s1.1)

noncomputable def m_spec_l02Divisor_A1 (s0 : Int × Int) (u1 : Int) : Option (Ctl (Int × Int) Int) :=
  some (.next (u1, (w64 (s0.2 + (1 : Int)))))

noncomputable def m_spec_l02Divisor_L0 (p0 : Term) (s0 : Int × Int) : Option (Ctl (Int × Int) Int) :=
  bif (decide (s0.2 < (p0.Coeffs.length : Int))) then
    (getI p0.Coeffs s0.2).bind fun (x21 : Int) =>
    (m_spec_l00Max x21 (w64 (0 - x21))).bind fun (r31 : Int) =>
    (iter (m_spec_l02Divisor_L1) (s0.1, r31)).bind fun (u1 : Int) =>
    m_spec_l02Divisor_A1 s0 u1
  else
    some (.out s0.1)

noncomputable def m_spec_l02Divisor_A0 (u0 : Int) : Option Int :=
  some u0

noncomputable def m_spec_l02Divisor (p0 : Term) : Option Int :=
  (iter (m_spec_l02Divisor_L0 p0) ((0 : Int), (0 : Int))).bind fun (u0 : Int) =>
  m_spec_l02Divisor_A0 u0

noncomputable def m_spec_l02Tight_L0 (p0 : Term) (r9 : Int) (s0 : (List Int) × Int) : Option (Ctl ((List Int) × Int) ((List Int))) :=
  bif (decide (s0.2 < (p0.Coeffs.length : Int))) then
    (getI p0.Coeffs s0.2).bind fun (x29 : Int) =>
    (quoI x29 r9).bind fun (q32 : Int) =>
    (capI (s0.1.length + [q32].length) 8).bind fun (q34 : Unit) =>
    some (.next ((s0.1 ++ [q32]), (w64 (s0.2 + (1 : Int)))))
  else
    some (.out s0.1)

noncomputable def m_spec_l02Tight_J0 (u0 : List Int) (j0 : Int) : Option (Term × Bool) :=
  (m_spec_l02Make j0 u0).bind fun (r52 : Term × Bool) =>
  some (r52.1, r52.2)

noncomputable def m_spec_l02Tight_A0 (p0 : Term) (r9 : Int) (u0 : (List Int)) : Option (Term × Bool) :=
  (quoI p0.Const r9).bind fun (q40 : Int) =>
  (remI p0.Const r9).bind fun (q46 : Int) =>
  bif (decide (q46 < (0 : Int))) then
    m_spec_l02Tight_J0 u0 (w64 (q40 - (1 : Int)))
  else
    m_spec_l02Tight_J0 u0 q40

noncomputable def m_spec_l02Tight (p0 : Term) : Option (Term × Bool) :=
  (m_spec_l02Divisor p0).bind fun (r9 : Int) =>
  bif (decide (r9 < (2 : Int))) then
    some ((Term.mk (0 : Int) ([] : List Int)), false)
  else
    (iter (m_spec_l02Tight_L0 p0 r9) (([] : List Int), (0 : Int))).bind fun (u0 : (List Int)) =>
    m_spec_l02Tight_A0 p0 r9 u0

noncomputable def m_spec_TightenTerm (p0 : Term) : Option (Term × Bool) :=
  (m_spec_l02Is p0).bind fun (r4 : Bool) =>
  bif (!r4) then
    some ((Term.mk (0 : Int) ([] : List Int)), false)
  else
    (m_spec_l02Tight p0).bind fun (r7 : Term × Bool) =>
    some (r7.1, r7.2)

noncomputable def m_laws_FnExactTightenTerm (p0 : Term) : Option Bool :=
  (m_laws_szTerm p0 (1048576 : Int)).bind fun (r16 : Int) =>
  bif (decide (r16 < (0 : Int))) then
    some true
  else
    (m_laws_toTerm p0).bind fun (r21 : Term) =>
    (m_spec_TightenTerm r21).bind fun (r22 : Term × Bool) =>
    (m_laws_toTerm p0).bind fun (r26 : Term) =>
    (m_impl_TightenTerm r26).bind fun (r29 : Term × Bool) =>
    (m_laws_eqTerm r29.1 r22.1).bind fun (r34 : Bool) =>
    bif ((!r34) || (!(r29.2 == r22.2))) then
      some false
    else
      (m_laws_toTerm p0).bind fun (r43 : Term) =>
      (m_laws_eqTerm r26 r43).bind fun (r44 : Bool) =>
      bif (!r44) then
        some false
      else
        (m_laws_markTerm r26 (1 : Int)).bind fun (r48 : Int × (List Int)) =>
        bif (decide (r48.1 < (0 : Int))) then
          some false
        else
          (m_laws_eqTerm r29.1 r22.1).bind fun (r54 : Bool) =>
          bif ((!r54) || (!(r29.2 == r22.2))) then
            some false
          else
            (m_laws_markTerm r29.1 (1 : Int)).bind fun (r64 : Int × (List Int)) =>
            (m_laws_heldTerm (Term.mk r29.1.Const r64.2) (1 : Int)).bind fun (r67 : Int) =>
            bif (decide (r67 < (0 : Int))) then
              some false
            else
              bif (!decide (r67 = r64.1)) then
                some false
              else
                (m_laws_toTerm p0).bind fun (r75 : Term) =>
                (m_impl_TightenTerm r75).bind fun (r76 : Term × Bool) =>
                (m_laws_eqTerm r76.1 r22.1).bind fun (r81 : Bool) =>
                bif ((!r81) || (!(r76.2 == r22.2))) then
                  some false
                else
                  (m_laws_heldTerm (Term.mk r29.1.Const r64.2) (1 : Int)).bind fun (r90 : Int) =>
                  bif (decide (r90 < (0 : Int))) then
                    some false
                  else
                    bif (!decide (r90 = r64.1)) then
                      some false
                    else
                      some true

noncomputable def m_laws_szTermS_L0 (p0 : List Term) (s0 : Int × Int) : Option (Ctl (Int × Int) (Int ⊕ Int)) :=
  bif (decide (s0.2 < (p0.length : Int))) then
    (getI p0 s0.2).bind fun (x20 : Term) =>
    (m_laws_szTerm x20 s0.1).bind fun (r23 : Int) =>
    bif (decide (r23 < (0 : Int))) then
      some (.out (.inr (-1 : Int)))
    else
      some (.next (r23, (w64 (s0.2 + (1 : Int)))))
  else
    some (.out (.inl s0.1))

noncomputable def m_laws_szTermS_A0 (u0 : Int ⊕ Int) : Option Int :=
  match u0 with
  | .inl u0 =>
    some u0
  | .inr u0 =>
    some u0

noncomputable def m_laws_szTermS (p0 : List Term) (p1 : Int) : Option Int :=
  bif (decide ((w64 (p1 - (p0.length : Int))) < (0 : Int))) then
    some (-1 : Int)
  else
    (iter (m_laws_szTermS_L0 p0) ((w64 (p1 - (p0.length : Int))), (0 : Int))).bind fun (u0 : Int ⊕ Int) =>
    m_laws_szTermS_A0 u0

noncomputable def m_laws_toTermS_L0 (p0 : List Term) (s0 : (List Term) × Int) : Option (Ctl ((List Term) × Int) ((List Term))) :=
  bif (decide (s0.2 < (p0.length : Int))) then
    (getI p0 s0.2).bind fun (x18 : Term) =>
    (m_laws_toTerm x18).bind fun (r20 : Term) =>
    (getI s0.1 s0.2).bind fun (x21 : Term) =>
    some (.next ((s0.1.set ((s0.2).toNat) r20), (w64 (s0.2 + (1 : Int)))))
  else
    some (.out s0.1)

noncomputable def m_laws_toTermS_A0 (u0 : (List Term)) : Option (List Term) :=
  some u0

noncomputable def m_laws_toTermS (p0 : List Term) : Option (List Term) :=
  (makeI (p0.length : Int) 32).bind fun (k7 : Nat) =>
  (iter (m_laws_toTermS_L0 p0) ((List.replicate k7 (Term.mk (0 : Int) ([] : List Int))), (0 : Int))).bind fun (u0 : (List Term)) =>
  m_laws_toTermS_A0 u0

noncomputable def m_spec_l02All_L0 (p0 : List Term) (s0 : Int) : Option (Ctl Int (Unit ⊕ Bool)) :=
  bif (decide (s0 < (p0.length : Int))) then
    (getI p0 s0).bind fun (x14 : Term) =>
    (m_spec_l02Is x14).bind fun (r15 : Bool) =>
    bif (!r15) then
      some (.out (.inr false))
    else
      some (.next (w64 (s0 + (1 : Int))))
  else
    some (.out (.inl ()))

noncomputable def m_spec_l02All_A0 (p0 : List Term) (p1 : Int) (u0 : Unit ⊕ Bool) : Option Bool :=
  match u0 with
  | .inl u0 =>
    some (decide ((p0.length : Int) ≤ p1))
  | .inr u0 =>
    some u0

noncomputable def m_spec_l02All (p0 : List Term) (p1 : Int) : Option Bool :=
  (iter (m_spec_l02All_L0 p0) (0 : Int)).bind fun (u0 : Unit ⊕ Bool) =>
  m_spec_l02All_A0 p0 p1 u0

noncomputable def m_spec_l02Multipliers_L0 (p0 : List Int) (s0 : Int) : Option (Ctl Int (Unit ⊕ Bool)) :=
  bif (decide (s0 < (p0.length : Int))) then
    (getI p0 s0).bind fun (x12 : Int) =>
    (m_spec_l00In x12 (0 : Int) (1000000 : Int)).bind fun (r14 : Bool) =>
    bif (!r14) then
      some (.out (.inr false))
    else
      some (.next (w64 (s0 + (1 : Int))))
  else
    some (.out (.inl ()))

noncomputable def m_spec_l02Multipliers_A0 (u0 : Unit ⊕ Bool) : Option Bool :=
  match u0 with
  | .inl u0 =>
    some true
  | .inr u0 =>
    some u0

noncomputable def m_spec_l02Multipliers (p0 : List Int) : Option Bool :=
  (iter (m_spec_l02Multipliers_L0 p0) (0 : Int)).bind fun (u0 : Unit ⊕ Bool) =>
  m_spec_l02Multipliers_A0 u0

noncomputable def m_spec_l02Combine_L1 (x20 : Int) (x24 : Term) (s1 : (List Int) × Int) : Option (Ctl ((List Int) × Int) ((List Int))) :=
  bif (decide (s1.2 < (x24.Coeffs.length : Int))) then
    (getI s1.1 s1.2).bind fun (x41 : Int) =>
    (getI x24.Coeffs s1.2).bind fun (x53 : Int) =>
    some (.next ((s1.1.set ((s1.2).toNat) (w64 (x41 + (w64 (x20 * x53))))), (w64 (s1.2 + (1 : Int)))))
  else
    some (.out s1.1)

noncomputable def m_spec_l02Combine_A1 (s0 : Int × (List Int) × Int) (x20 : Int) (x24 : Term) (u1 : (List Int)) : Option (Ctl (Int × (List Int) × Int) ((Int × (List Int)))) :=
  some (.next ((w64 (s0.1 + (w64 (x20 * x24.Const)))), u1, (w64 (s0.2.2 + (1 : Int)))))

noncomputable def m_spec_l02Combine_L0 (p0 : List Term) (p1 : List Int) (s0 : Int × (List Int) × Int) : Option (Ctl (Int × (List Int) × Int) ((Int × (List Int)))) :=
  bif (decide (s0.2.2 < (p0.length : Int))) then
    (getI p1 s0.2.2).bind fun (x20 : Int) =>
    (getI p0 s0.2.2).bind fun (x24 : Term) =>
    (iter (m_spec_l02Combine_L1 x20 x24) (s0.2.1, (0 : Int))).bind fun (u1 : (List Int)) =>
    m_spec_l02Combine_A1 s0 x20 x24 u1
  else
    some (.out (s0.1, s0.2.1))

noncomputable def m_spec_l02Combine_A0 (u0 : (Int × (List Int))) : Option (Term × Bool) :=
  (m_spec_l02Make u0.1 u0.2).bind fun (r60 : Term × Bool) =>
  some (r60.1, r60.2)

noncomputable def m_spec_l02Combine (p0 : List Term) (p1 : List Int) : Option (Term × Bool) :=
  (makeI (10 : Int) 8).bind fun (k10 : Nat) =>
  (iter (m_spec_l02Combine_L0 p0 p1) ((0 : Int), (List.replicate k10 (0 : Int)), (0 : Int))).bind fun (u0 : (Int × (List Int))) =>
  m_spec_l02Combine_A0 u0

noncomputable def m_spec_IsRefuted (p0 : List Term) (p1 : List Int) : Option Bool :=
  (m_spec_l02All p0 (14 : Int)).bind fun (r8 : Bool) =>
  bif ((!r8) || (!decide ((p1.length : Int) = (p0.length : Int)))) then
    some false
  else
    (m_spec_l02Multipliers p1).bind fun (r19 : Bool) =>
    bif (!r19) then
      some false
    else
      (m_spec_l02Combine p0 p1).bind fun (r25 : Term × Bool) =>
      some ((r25.2 && (decide ((r25.1.Coeffs.length : Int) = (0 : Int)))) && (decide (r25.1.Const < (0 : Int))))

noncomputable def m_impl_IsRefuted (p0 : List Term) (p1 : List Int) : Option Bool :=
  (m_impl_CombineTerms p0 p1).bind fun (r10 : Term × Bool) =>
  some ((r10.2 && (decide ((r10.1.Coeffs.length : Int) = (0 : Int)))) && (decide (r10.1.Const < (0 : Int))))

noncomputable def m_laws_eqTermS_L0 (p0 : List Term) (p1 : List Term) (s0 : Int) : Option (Ctl Int (Unit ⊕ Bool)) :=
  bif (decide (s0 < (p0.length : Int))) then
    (getI p0 s0).bind fun (x19 : Term) =>
    (getI p1 s0).bind fun (x23 : Term) =>
    (m_laws_eqTerm x19 x23).bind fun (r25 : Bool) =>
    bif (!r25) then
      some (.out (.inr false))
    else
      some (.next (w64 (s0 + (1 : Int))))
  else
    some (.out (.inl ()))

noncomputable def m_laws_eqTermS_A0 (u0 : Unit ⊕ Bool) : Option Bool :=
  match u0 with
  | .inl u0 =>
    some true
  | .inr u0 =>
    some u0

noncomputable def m_laws_eqTermS (p0 : List Term) (p1 : List Term) : Option Bool :=
  bif (!decide ((p0.length : Int) = (p1.length : Int))) then
    some false
  else
    (iter (m_laws_eqTermS_L0 p0 p1) (0 : Int)).bind fun (u0 : Unit ⊕ Bool) =>
    m_laws_eqTermS_A0 u0

noncomputable def m_laws_FnExactIsRefuted (p0 : List Term) (p1 : List Int) : Option Bool :=
  bif (decide ((1048576 : Int) < (p1.length : Int))) then
    some true
  else
    (m_laws_szTermS p0 (1048576 : Int)).bind fun (r15 : Int) =>
    bif (decide (r15 < (0 : Int))) then
      some true
    else
      (m_laws_toTermS p0).bind fun (r19 : List Term) =>
      (m_laws_toInt64S p1).bind fun (r21 : List Int) =>
      (m_spec_IsRefuted r19 r21).bind fun (r22 : Bool) =>
      (m_laws_toTermS p0).bind fun (r24 : List Term) =>
      (m_laws_toInt64S p1).bind fun (r26 : List Int) =>
      (m_impl_IsRefuted r24 r26).bind fun (r29 : Bool) =>
      bif (!(r29 == r22)) then
        some false
      else
        (m_laws_toTermS p0).bind fun (r35 : List Term) =>
        (m_laws_eqTermS r24 r35).bind fun (r36 : Bool) =>
        bif (!r36) then
          some false
        else
          (m_laws_toInt64S p1).bind fun (r40 : List Int) =>
          (m_laws_eqInt64S r26 r40).bind fun (r41 : Bool) =>
          bif (!r41) then
            some false
          else
            some true

noncomputable def m_spec_CombineTerms (p0 : List Term) (p1 : List Int) : Option (Term × Bool) :=
  (m_spec_l02All p0 (14 : Int)).bind fun (r7 : Bool) =>
  bif ((!r7) || (!decide ((p1.length : Int) = (p0.length : Int)))) then
    some ((Term.mk (0 : Int) ([] : List Int)), false)
  else
    (m_spec_l02Multipliers p1).bind fun (r18 : Bool) =>
    bif (!r18) then
      some ((Term.mk (0 : Int) ([] : List Int)), false)
    else
      (m_spec_l02Combine p0 p1).bind fun (r24 : Term × Bool) =>
      some (r24.1, r24.2)

noncomputable def m_laws_markTermS_L0 (s0 : (List Term) × Int × Int) : Option (Ctl ((List Term) × Int × Int) ((Int × (List Term)))) :=
  bif (decide (s0.2.2 < (s0.1.length : Int))) then
    (getI s0.1 s0.2.2).bind fun (x15 : Term) =>
    (getI (s0.1.set ((s0.2.2).toNat) (Term.mk s0.2.1 x15.Coeffs)) s0.2.2).bind fun (x21 : Term) =>
    (m_laws_markInt64S x21.Coeffs (w64 (s0.2.1 + (1 : Int)))).bind fun (r25 : Int × (List Int)) =>
    some (.next (((s0.1.set ((s0.2.2).toNat) (Term.mk s0.2.1 x15.Coeffs)).set ((s0.2.2).toNat) (Term.mk x21.Const r25.2)), r25.1, (w64 (s0.2.2 + (1 : Int)))))
  else
    some (.out (s0.2.1, s0.1))

noncomputable def m_laws_markTermS_A0 (u0 : (Int × (List Term))) : Option (Int × (List Term)) :=
  some (u0.1, u0.2)

noncomputable def m_laws_markTermS (p0 : List Term) (p1 : Int) : Option (Int × (List Term)) :=
  (iter (m_laws_markTermS_L0) (p0, p1, (0 : Int))).bind fun (u0 : (Int × (List Term))) =>
  m_laws_markTermS_A0 u0

noncomputable def m_laws_FnExactCombineTerms (p0 : List Term) (p1 : List Int) : Option Bool :=
  bif (decide ((1048576 : Int) < (p1.length : Int))) then
    some true
  else
    (m_laws_szTermS p0 (1048576 : Int)).bind fun (r22 : Int) =>
    bif (decide (r22 < (0 : Int))) then
      some true
    else
      (m_laws_toTermS p0).bind fun (r27 : List Term) =>
      (m_laws_toInt64S p1).bind fun (r29 : List Int) =>
      (m_spec_CombineTerms r27 r29).bind fun (r30 : Term × Bool) =>
      (m_laws_toTermS p0).bind fun (r34 : List Term) =>
      (m_laws_toInt64S p1).bind fun (r36 : List Int) =>
      (m_impl_CombineTerms r34 r36).bind fun (r40 : Term × Bool) =>
      (m_laws_eqTerm r40.1 r30.1).bind fun (r45 : Bool) =>
      bif ((!r45) || (!(r40.2 == r30.2))) then
        some false
      else
        (m_laws_toTermS p0).bind fun (r54 : List Term) =>
        (m_laws_eqTermS r34 r54).bind fun (r55 : Bool) =>
        bif (!r55) then
          some false
        else
          (m_laws_toInt64S p1).bind fun (r59 : List Int) =>
          (m_laws_eqInt64S r36 r59).bind fun (r60 : Bool) =>
          bif (!r60) then
            some false
          else
            (m_laws_markTermS r34 (1 : Int)).bind fun (r64 : Int × (List Term)) =>
            (m_laws_markInt64S r36 r64.1).bind fun (r67 : Int × (List Int)) =>
            bif (decide (r67.1 < (0 : Int))) then
              some false
            else
              (m_laws_eqTerm r40.1 r30.1).bind fun (r73 : Bool) =>
              bif ((!r73) || (!(r40.2 == r30.2))) then
                some false
              else
                (m_laws_markTerm r40.1 (1 : Int)).bind fun (r83 : Int × (List Int)) =>
                (m_laws_heldTerm (Term.mk r40.1.Const r83.2) (1 : Int)).bind fun (r86 : Int) =>
                bif (decide (r86 < (0 : Int))) then
                  some false
                else
                  bif (!decide (r86 = r83.1)) then
                    some false
                  else
                    (m_laws_toTermS p0).bind fun (r94 : List Term) =>
                    (m_laws_toInt64S p1).bind fun (r96 : List Int) =>
                    (m_impl_CombineTerms r94 r96).bind fun (r97 : Term × Bool) =>
                    (m_laws_eqTerm r97.1 r30.1).bind fun (r102 : Bool) =>
                    bif ((!r102) || (!(r97.2 == r30.2))) then
                      some false
                    else
                      (m_laws_heldTerm (Term.mk r40.1.Const r83.2) (1 : Int)).bind fun (r111 : Int) =>
                      bif (decide (r111 < (0 : Int))) then
                        some false
                      else
                        bif (!decide (r111 = r83.1)) then
                          some false
                        else
                          some true

noncomputable def m_spec_l02Replace_L1 (x47 : Int) (x51 : Term) (s1 : (List Int) × Int) : Option (Ctl ((List Int) × Int) ((List Int))) :=
  bif (decide (s1.2 < (x51.Coeffs.length : Int))) then
    (getI s1.1 s1.2).bind fun (x68 : Int) =>
    (getI x51.Coeffs s1.2).bind fun (x83 : Int) =>
    some (.next ((s1.1.set ((s1.2).toNat) (w64 (x68 + (w64 (x47 * x83))))), (w64 (s1.2 + (1 : Int)))))
  else
    some (.out s1.1)

noncomputable def m_spec_l02Replace_A1 (s0 : Int × (List Int) × Int) (x47 : Int) (x51 : Term) (u1 : (List Int)) : Option (Ctl (Int × (List Int) × Int) ((Int × (List Int)))) :=
  some (.next ((w64 (s0.1 + (w64 (x47 * x51.Const)))), u1, (w64 (s0.2.2 + (1 : Int)))))

noncomputable def m_spec_l02Replace_L0 (p0 : Term) (p1 : List Term) (s0 : Int × (List Int) × Int) : Option (Ctl (Int × (List Int) × Int) ((Int × (List Int)))) :=
  bif (decide (s0.2.2 < (p0.Coeffs.length : Int))) then
    bif (decide ((p1.length : Int) ≤ s0.2.2)) then
      (getI s0.2.1 s0.2.2).bind fun (x30 : Int) =>
      (getI p0.Coeffs s0.2.2).bind fun (x37 : Int) =>
      some (.next (s0.1, (s0.2.1.set ((s0.2.2).toNat) (w64 (x30 + x37))), (w64 (s0.2.2 + (1 : Int)))))
    else
      (getI p0.Coeffs s0.2.2).bind fun (x47 : Int) =>
      (getI p1 s0.2.2).bind fun (x51 : Term) =>
      (iter (m_spec_l02Replace_L1 x47 x51) (s0.2.1, (0 : Int))).bind fun (u1 : (List Int)) =>
      m_spec_l02Replace_A1 s0 x47 x51 u1
  else
    some (.out (s0.1, s0.2.1))

noncomputable def m_spec_l02Replace_A0 (u0 : (Int × (List Int))) : Option (Term × Bool) :=
  (m_spec_l02Make u0.1 u0.2).bind fun (r90 : Term × Bool) =>
  some (r90.1, r90.2)

noncomputable def m_spec_l02Replace (p0 : Term) (p1 : List Term) : Option (Term × Bool) :=
  (makeI (10 : Int) 8).bind fun (k14 : Nat) =>
  (iter (m_spec_l02Replace_L0 p0 p1) (p0.Const, (List.replicate k14 (0 : Int)), (0 : Int))).bind fun (u0 : (Int × (List Int))) =>
  m_spec_l02Replace_A0 u0

noncomputable def m_spec_SubstituteTerm (p0 : Term) (p1 : List Term) : Option (Term × Bool) :=
  (m_spec_l02Is p0).bind fun (r6 : Bool) =>
  bif (!r6) then
    some ((Term.mk (0 : Int) ([] : List Int)), false)
  else
    (m_spec_l02All p1 (10 : Int)).bind fun (r10 : Bool) =>
    bif (!r10) then
      some ((Term.mk (0 : Int) ([] : List Int)), false)
    else
      (m_spec_l02Replace p0 p1).bind fun (r15 : Term × Bool) =>
      some (r15.1, r15.2)

noncomputable def m_laws_FnExactSubstituteTerm (p0 : Term) (p1 : List Term) : Option Bool :=
  (m_laws_szTerm p0 (1048576 : Int)).bind fun (r19 : Int) =>
  bif (decide (r19 < (0 : Int))) then
    some true
  else
    (m_laws_szTermS p1 r19).bind fun (r24 : Int) =>
    bif (decide (r24 < (0 : Int))) then
      some true
    else
      (m_laws_toTerm p0).bind fun (r29 : Term) =>
      (m_laws_toTermS p1).bind fun (r31 : List Term) =>
      (m_spec_SubstituteTerm r29 r31).bind fun (r32 : Term × Bool) =>
      (m_laws_toTerm p0).bind fun (r36 : Term) =>
      (m_laws_toTermS p1).bind fun (r38 : List Term) =>
      (m_impl_SubstituteTerm r36 r38).bind fun (r42 : Term × Bool) =>
      (m_laws_eqTerm r42.1 r32.1).bind fun (r47 : Bool) =>
      bif ((!r47) || (!(r42.2 == r32.2))) then
        some false
      else
        (m_laws_toTerm p0).bind fun (r56 : Term) =>
        (m_laws_eqTerm r36 r56).bind fun (r57 : Bool) =>
        bif (!r57) then
          some false
        else
          (m_laws_toTermS p1).bind fun (r61 : List Term) =>
          (m_laws_eqTermS r38 r61).bind fun (r62 : Bool) =>
          bif (!r62) then
            some false
          else
            (m_laws_markTerm r36 (1 : Int)).bind fun (r66 : Int × (List Int)) =>
            (m_laws_markTermS r38 r66.1).bind fun (r69 : Int × (List Term)) =>
            bif (decide (r69.1 < (0 : Int))) then
              some false
            else
              (m_laws_eqTerm r42.1 r32.1).bind fun (r75 : Bool) =>
              bif ((!r75) || (!(r42.2 == r32.2))) then
                some false
              else
                (m_laws_markTerm r42.1 (1 : Int)).bind fun (r85 : Int × (List Int)) =>
                (m_laws_heldTerm (Term.mk r42.1.Const r85.2) (1 : Int)).bind fun (r88 : Int) =>
                bif (decide (r88 < (0 : Int))) then
                  some false
                else
                  bif (!decide (r88 = r85.1)) then
                    some false
                  else
                    (m_laws_toTerm p0).bind fun (r96 : Term) =>
                    (m_laws_toTermS p1).bind fun (r98 : List Term) =>
                    (m_impl_SubstituteTerm r96 r98).bind fun (r99 : Term × Bool) =>
                    (m_laws_eqTerm r99.1 r32.1).bind fun (r104 : Bool) =>
                    bif ((!r104) || (!(r99.2 == r32.2))) then
                      some false
                    else
                      (m_laws_heldTerm (Term.mk r42.1.Const r85.2) (1 : Int)).bind fun (r113 : Int) =>
                      bif (decide (r113 < (0 : Int))) then
                        some false
                      else
                        bif (!decide (r113 = r85.1)) then
                          some false
                        else
                          some true

noncomputable def m_laws_szSequent (p0 : Sequent) (p1 : Int) : Option Int :=
  (m_laws_szTermS p0.Facts p1).bind fun (r8 : Int) =>
  bif (decide (r8 < (0 : Int))) then
    some (-1 : Int)
  else
    (m_laws_szTerm p0.Goal r8).bind fun (r14 : Int) =>
    bif (decide (r14 < (0 : Int))) then
      some (-1 : Int)
    else
      some r14

noncomputable def m_laws_toSequent (p0 : Sequent) : Option Sequent :=
  (m_laws_toTermS p0.Facts).bind fun (r6 : List Term) =>
  (m_laws_toTerm p0.Goal).bind fun (r10 : Term) =>
  some (Sequent.mk r6 r10)

noncomputable def m_spec_l02Sequent (p0 : Sequent) : Option Bool :=
  (m_spec_l02All p0.Facts (13 : Int)).bind fun (r7 : Bool) =>
  bif r7 then
    (m_spec_l02Is p0.Goal).bind fun (r12 : Bool) =>
    some r12
  else
    some false

noncomputable def m_spec_l02Own (p0 : Term) : Option Term :=
  (m_spec_l00Own p0.Coeffs).bind fun (r11 : List Int) =>
  some (Term.mk p0.Const r11)

noncomputable def m_spec_l02OwnAll_L0 (p0 : List Term) (s0 : (List Term) × Int) : Option (Ctl ((List Term) × Int) ((List Term))) :=
  bif (decide (s0.2 < (p0.length : Int))) then
    (getI p0 s0.2).bind fun (x15 : Term) =>
    (m_spec_l02Own x15).bind fun (r16 : Term) =>
    (capI (s0.1.length + [r16].length) 32).bind fun (q18 : Unit) =>
    some (.next ((s0.1 ++ [r16]), (w64 (s0.2 + (1 : Int)))))
  else
    some (.out s0.1)

noncomputable def m_spec_l02OwnAll_A0 (u0 : (List Term)) : Option (List Term) :=
  some u0

noncomputable def m_spec_l02OwnAll (p0 : List Term) : Option (List Term) :=
  (iter (m_spec_l02OwnAll_L0 p0) (([] : List Term), (0 : Int))).bind fun (u0 : (List Term)) =>
  m_spec_l02OwnAll_A0 u0

noncomputable def m_spec_l02Context (p0 : Sequent) : Option ((List Term) × Bool) :=
  (m_spec_l02Opposite p0.Goal).bind fun (r10 : Term × Bool) =>
  bif (!r10.2) then
    some (([] : List Term), false)
  else
    (m_spec_l02OwnAll p0.Facts).bind fun (r19 : List Term) =>
    (capI (r19.length + [r10.1].length) 32).bind fun (q22 : Unit) =>
    some ((r19 ++ [r10.1]), true)

noncomputable def m_spec_ContextOf (p0 : Sequent) : Option ((List Term) × Bool) :=
  (m_spec_l02Sequent p0).bind fun (r4 : Bool) =>
  bif (!r4) then
    some (([] : List Term), false)
  else
    (m_spec_l02Context p0).bind fun (r6 : (List Term) × Bool) =>
    some (r6.1, r6.2)

noncomputable def m_impl_ValidSequent (p0 : Sequent) : Option Bool :=
  (m_impl_areTerms p0.Facts (13 : Int)).bind fun (r5 : Bool) =>
  bif r5 then
    (m_impl_ValidTerm p0.Goal).bind fun (r9 : Bool) =>
    some r9
  else
    some false

noncomputable def m_impl_ownTerms_L0 (n0 : Nat) (x0 : Term) (s0 : List Term) : Option (Ctl (List Term) ((List Term))) :=
  (m_impl_Term_own x0).bind fun (r14 : Term) =>
  (capI (s0.length + [r14].length) 32).bind fun (q16 : Unit) =>
  some (.next (s0 ++ [r14]))

noncomputable def m_impl_ownTerms_A0 (u0 : (List Term)) : Option (List Term) :=
  some u0

noncomputable def m_impl_ownTerms (p0 : List Term) : Option (List Term) :=
  (forL (m_impl_ownTerms_L0) (fun s0 => s0) 0 p0 ([] : List Term)).bind fun (u0 : (List Term)) =>
  m_impl_ownTerms_A0 u0

noncomputable def m_impl_ContextOf (p0 : Sequent) : Option ((List Term) × Bool) :=
  (m_impl_ValidSequent p0).bind fun (r5 : Bool) =>
  bif (!r5) then
    some (([] : List Term), false)
  else
    (m_impl_Term_opposite p0.Goal).bind fun (r10 : Term) =>
    (m_impl_ValidTerm r10).bind fun (r11 : Bool) =>
    bif (!r11) then
      some (([] : List Term), false)
    else
      (m_impl_ownTerms p0.Facts).bind fun (r16 : List Term) =>
      (m_impl_Term_opposite p0.Goal).bind fun (r19 : Term) =>
      (m_impl_Term_own r19).bind fun (r20 : Term) =>
      (capI (r16.length + [r20].length) 32).bind fun (q22 : Unit) =>
      some ((r16 ++ [r20]), true)

noncomputable def m_laws_eqSequent (p0 : Sequent) (p1 : Sequent) : Option Bool :=
  (m_laws_eqTermS p0.Facts p1.Facts).bind fun (r9 : Bool) =>
  bif (!r9) then
    some false
  else
    (m_laws_eqTerm p0.Goal p1.Goal).bind fun (r15 : Bool) =>
    bif (!r15) then
      some false
    else
      some true

noncomputable def m_laws_markSequent (p0 : Sequent) (p1 : Int) : Option (Int × (List Term) × (List Int)) :=
  (m_laws_markTermS p0.Facts p1).bind fun (r8 : Int × (List Term)) =>
  (m_laws_markTerm p0.Goal r8.1).bind fun (r12 : Int × (List Int)) =>
  some (r12.1, r8.2, r12.2)

noncomputable def m_laws_heldTermS_L0 (p0 : List Term) (s0 : Int × Int) : Option (Ctl (Int × Int) (Int ⊕ Int)) :=
  bif (decide (s0.2 < (p0.length : Int))) then
    (getI p0 s0.2).bind fun (x14 : Term) =>
    bif (!decide (x14.Const = s0.1)) then
      some (.out (.inr (-1 : Int)))
    else
      (m_laws_heldInt64S x14.Coeffs (w64 (s0.1 + (1 : Int)))).bind fun (r27 : Int) =>
      bif (decide (r27 < (0 : Int))) then
        some (.out (.inr (-1 : Int)))
      else
        some (.next (r27, (w64 (s0.2 + (1 : Int)))))
  else
    some (.out (.inl s0.1))

noncomputable def m_laws_heldTermS_A0 (u0 : Int ⊕ Int) : Option Int :=
  match u0 with
  | .inl u0 =>
    some u0
  | .inr u0 =>
    some u0

noncomputable def m_laws_heldTermS (p0 : List Term) (p1 : Int) : Option Int :=
  (iter (m_laws_heldTermS_L0 p0) (p1, (0 : Int))).bind fun (u0 : Int ⊕ Int) =>
  m_laws_heldTermS_A0 u0

noncomputable def m_laws_FnExactContextOf (p0 : Sequent) : Option Bool :=
  (m_laws_szSequent p0 (1048576 : Int)).bind fun (r16 : Int) =>
  bif (decide (r16 < (0 : Int))) then
    some true
  else
    (m_laws_toSequent p0).bind fun (r21 : Sequent) =>
    (m_spec_ContextOf r21).bind fun (r22 : (List Term) × Bool) =>
    (m_laws_toSequent p0).bind fun (r26 : Sequent) =>
    (m_impl_ContextOf r26).bind fun (r29 : (List Term) × Bool) =>
    (m_laws_eqTermS r29.1 r22.1).bind fun (r34 : Bool) =>
    bif ((!r34) || (!(r29.2 == r22.2))) then
      some false
    else
      (m_laws_toSequent p0).bind fun (r43 : Sequent) =>
      (m_laws_eqSequent r26 r43).bind fun (r44 : Bool) =>
      bif (!r44) then
        some false
      else
        (m_laws_markSequent r26 (1 : Int)).bind fun (r48 : Int × (List Term) × (List Int)) =>
        bif (decide (r48.1 < (0 : Int))) then
          some false
        else
          (m_laws_eqTermS r29.1 r22.1).bind fun (r54 : Bool) =>
          bif ((!r54) || (!(r29.2 == r22.2))) then
            some false
          else
            (m_laws_markTermS r29.1 (1 : Int)).bind fun (r64 : Int × (List Term)) =>
            (m_laws_heldTermS r64.2 (1 : Int)).bind fun (r67 : Int) =>
            bif (decide (r67 < (0 : Int))) then
              some false
            else
              bif (!decide (r67 = r64.1)) then
                some false
              else
                (m_laws_toSequent p0).bind fun (r75 : Sequent) =>
                (m_impl_ContextOf r75).bind fun (r76 : (List Term) × Bool) =>
                (m_laws_eqTermS r76.1 r22.1).bind fun (r81 : Bool) =>
                bif ((!r81) || (!(r76.2 == r22.2))) then
                  some false
                else
                  (m_laws_heldTermS r64.2 (1 : Int)).bind fun (r90 : Int) =>
                  bif (decide (r90 < (0 : Int))) then
                    some false
                  else
                    bif (!decide (r90 = r64.1)) then
                      some false
                    else
                      some true
end Go.Mod

/- Terms: sizes, copies, comparisons, marks. Plain Lean. -/
namespace Go.Mod
open Go.AM
set_option linter.unusedVariables false

/-! ### Lists of numbers -/
theorem sz_ints {xs : List Int} (hl : xs.length ≤ 9223372036854775807) : SzP m_laws_szInt64S List.length xs := fun _ hb => sz_flat hl hb
theorem to_ints {xs : List Int} (hl : xs.length ≤ 1048576) : m_laws_toInt64S xs = some xs := by
  unfold m_laws_toInt64S
  rw [makeI_some (by omega), Option.bind_some, iter_to (xs := xs) (z := 0) (cp := some)
    (fun n x ys hx => by unfold m_laws_toInt64S_L0; rw [dec_lt (get_lt hx), cond_true, getI_some hx]; rfl)
    (fun ys => by unfold m_laws_toInt64S_L0; rw [dec_self]; rfl) hl (fun _ _ => rfl)]
  rfl
theorem eq_ints {xs ys : List Int} (hl : xs.length ≤ 9223372036854775807) : m_laws_eqInt64S xs ys = some (decide (xs = ys)) := by
  unfold m_laws_eqInt64S
  by_cases h : xs.length = ys.length
  · rw [decide_eq_true (by omega), Bool.not_true, cond_false, iter_eq (xs := xs) (ys := ys) (eq := fun x y => some (decide (x = y)))
      (fun n x y hx hy => by unfold m_laws_eqInt64S_L0; rw [dec_lt (get_lt hx), cond_true, getI_some hx, getI_some hy]; rfl)
      (by unfold m_laws_eqInt64S_L0; rw [dec_self]; rfl) hl h (fun _ _ _ => rfl)]
    by_cases e : xs = ys
    · rw [if_pos e, decide_eq_true e]; rfl
    · rw [if_neg e, decide_eq_false e]; rfl
  · rw [decide_eq_false (by omega), decide_eq_false (fun e => h (by rw [e]))]; rfl
theorem sum_one {α : Type} (xs : List α) : (xs.map fun _ => 1).sum = xs.length := by
  induction xs with
  | nil => rfl
  | cons x r ih => simp only [List.map_cons, List.sum_cons, List.length_cons, ih]; omega
def heldI (x k : Int) : Option Int := some (bif !decide (x = k) then -1 else w64 (k + 1))
def markI (_x k : Int) : Option (Int × Int) := some (w64 (k + 1), k)
theorem mk_I (x : Int) : MkP markI heldI (fun _ => 1) x := fun k hk => by
  have h : w64 ((k : Int) + 1) = ((k + 1 : Nat) : Int) := w64_succ (by omega)
  refine ⟨k, ?_, ?_⟩
  · unfold markI; rw [h]
  · unfold heldI; rw [decide_eq_true (rfl : (k : Int) = k), Bool.not_true, cond_false, h]
theorem mk_ints {xs : List Int} (hl : xs.length ≤ 1048576) {k : Nat} (hk : k ≤ 1125899906842624) :
    ∃ xs', m_laws_markInt64S xs k = some (((k + xs.length : Nat) : Int), xs') ∧ m_laws_heldInt64S xs' k = some ((k + xs.length : Nat) : Int) := by
  obtain ⟨xs', h1, h2, h3⟩ := iter_mark (xs := xs) (m := fun _ => 1) (mk := markI) (held := heldI)
    (step := m_laws_markInt64S_L0) (hstep := m_laws_heldInt64S_L0)
    (fun n ys x k hk hx => by unfold m_laws_markInt64S_L0; rw [dec_lt (get_lt hx), cond_true, getI_some hx]; rfl)
    (fun ys k => by unfold m_laws_markInt64S_L0; rw [dec_self]; rfl)
    (fun n ys x k hk hx => by
      unfold m_laws_heldInt64S_L0 heldI; rw [dec_lt (get_lt hx), cond_true, getI_some hx, Option.bind_some, Option.bind_some]
      have h2 : w64 ((k : Int) + 1) = ((k + 1 : Nat) : Int) := w64_succ (by omega)
      by_cases h : x = k
      · rw [decide_eq_true h, Bool.not_true, cond_false, cond_false, h2, decide_eq_false (by omega), cond_false]
      · rw [decide_eq_false h, Bool.not_false, cond_true, cond_true, decide_eq_true (by decide), cond_true])
    (fun ys k => by unfold m_laws_heldInt64S_L0; rw [dec_self]; rfl)
    (by omega) (fun x _ => mk_I x) (k := k) (by rw [sum_one]; omega)
  rw [sum_one] at h1 h3
  exact ⟨xs', by unfold m_laws_markInt64S; rw [h1]; rfl, by unfold m_laws_heldInt64S; rw [h3]; rfl⟩

/-! ### Terms -/
def cTerm (t : Term) : Nat := t.Coeffs.length
theorem sz_Term {t : Term} (hl : t.Coeffs.length ≤ 9223372036854775807) : SzP m_laws_szTerm cTerm t := fun b hb => by
  unfold m_laws_szTerm
  rw [sz_ints hl b hb, Option.bind_some]
  by_cases h : t.Coeffs.length ≤ b
  · rw [show szOut (cTerm t) b = _ from szOut_ok h, szOut_ok h, decide_eq_false (by omega)]; rfl
  · rw [show szOut (cTerm t) b = _ from szOut_no h, szOut_no h]; rfl
theorem to_Term {t : Term} (hl : cTerm t ≤ 1048576) : m_laws_toTerm t = some t := by
  unfold m_laws_toTerm; rw [to_ints hl]; rfl
theorem eq_Term {x y : Term} (hl : cTerm x ≤ 1048576) : m_laws_eqTerm x y = some (decide (x = y)) := by
  unfold m_laws_eqTerm
  unfold cTerm at hl
  rw [eq_ints (by omega), Option.bind_some]
  obtain ⟨a, as⟩ := x
  obtain ⟨b, bs⟩ := y
  by_cases h1 : a = b <;> by_cases h2 : as = bs <;> simp [h1, h2]
theorem mk_Term {t : Term} (hl : cTerm t ≤ 1048576) {k : Nat} (hk : k ≤ 1125899906842624) :
    ∃ r, m_laws_markTerm t k = some (((k + cTerm t : Nat) : Int), r) ∧ m_laws_heldTerm (Term.mk t.Const r) k = some ((k + cTerm t : Nat) : Int) := by
  obtain ⟨r, h1, h2⟩ := mk_ints hl hk
  refine ⟨r, ?_, ?_⟩
  · unfold m_laws_markTerm; rw [h1]; rfl
  · unfold m_laws_heldTerm; rw [h2, Option.bind_some, decide_eq_false (by omega)]; rfl
end Go.Mod

/- Terms: what is valid, what is trimmed, sums. Plain Lean. -/
namespace Go.Mod
open Go.AM
set_option linter.unusedVariables false

def inR (c : Int) : Bool := decide (-1000000 ≤ c) && decide (c ≤ 1000000)
theorem inR_iff {c : Int} : inR c = true ↔ -1000000 ≤ c ∧ c ≤ 1000000 := by simp [inR]
def lastOK (xs : List Int) : Bool := match xs.getLast? with | none => true | some x => !decide (x = 0)
def vT (t : Term) : Bool := inR t.Const && decide (t.Coeffs.length ≤ 10) && lastOK t.Coeffs && t.Coeffs.all inR
theorem vT_len {t : Term} (h : vT t = true) : t.Coeffs.length ≤ 10 := by simp [vT] at h; omega
theorem vT_const {t : Term} (h : vT t = true) : inR t.Const = true := by simp [vT] at h; exact h.1.1.1
theorem vT_coef {t : Term} (h : vT t = true) : ∀ x ∈ t.Coeffs, inR x = true := by simp [vT] at h; exact h.2

theorem getI_last {xs : List Int} (h0 : 0 < xs.length) (hl : xs.length ≤ 9223372036854775807) : getI xs (w64 ((xs.length : Int) - 1)) = xs.getLast? := by
  rw [w64_pred h0 hl, getI_nat, List.getLast?_eq_getElem?]

theorem spec_number (c : Int) : m_spec_l02Number c = some (inR c) := rfl
theorem spec_is_loop {t : Term} (hl : t.Coeffs.length ≤ 1048576) : iter (m_spec_l02Is_L0 t) 0 = some (bif t.Coeffs.all inR then .inl () else .inr false) := by
  have h := iter_for (step := m_spec_l02Is_L0 t) t.Coeffs (fun n (_ : Unit) => (n : Int)) (fun _ x _ => bif inR x then some (.next ()) else some (.out (.inr false))) (fun _ => .inl ())
    (fun n x r hx => by
      unfold m_spec_l02Is_L0
      rw [dec_lt (get_lt hx), cond_true, getI_some hx, Option.bind_some, spec_number, Option.bind_some]
      have hw : w64 ((n : Int) + 1) = ((n + 1 : Nat) : Int) := w64_succ (by have := get_lt hx; omega)
      cases inR x
      · rfl
      · rw [hw]; rfl)
    (fun r => by unfold m_spec_l02Is_L0; rw [dec_self]; rfl) ()
  rw [forL_all inR _ _ (fun n x _ => rfl)] at h
  exact h
theorem spec_is {t : Term} (hl : cTerm t ≤ 1048576) : m_spec_l02Is t = some (vT t) := by
  unfold cTerm at hl
  have hJ : m_spec_l02Is_J0 t () = some (t.Coeffs.all inR) := by
    unfold m_spec_l02Is_J0
    rw [spec_is_loop hl, Option.bind_some]
    cases t.Coeffs.all inR <;> rfl
  unfold m_spec_l02Is
  rw [spec_number, Option.bind_some]
  unfold vT
  cases h1 : inR t.Const with
  | false => rfl
  | true =>
    by_cases h2 : t.Coeffs.length ≤ 10
    · rw [decide_eq_true h2, decide_eq_false (show ¬ (10 : Int) < (t.Coeffs.length : Int) by omega)]
      simp only [Bool.not_true, Bool.false_or, cond_false, Bool.true_and]
      by_cases h3 : 0 < t.Coeffs.length
      · rw [decide_eq_true (show (0 : Int) < (t.Coeffs.length : Int) by omega), cond_true, getI_last h3 (by omega)]
        unfold lastOK
        cases h4 : t.Coeffs.getLast? with
        | none => rw [List.getLast?_eq_none_iff] at h4; rw [h4] at h3; exact absurd h3 (by simp)
        | some x =>
          simp only [Option.bind_some]
          by_cases h5 : x = 0
          · rw [decide_eq_true h5]; rfl
          · rw [decide_eq_false h5, cond_false, hJ]; rfl
      · rw [decide_eq_false (show ¬ (0 : Int) < (t.Coeffs.length : Int) by omega), cond_false, hJ]
        have : t.Coeffs = [] := List.length_eq_zero_iff.1 (by omega)
        rw [this]; rfl
    · rw [decide_eq_false h2, decide_eq_true (show (10 : Int) < (t.Coeffs.length : Int) by omega)]; rfl

theorem impl_all {xs : List Int} {a b : Int} : m_impl_allWithin xs a b = some (xs.all fun x => decide (a ≤ x) && decide (x ≤ b)) := by
  unfold m_impl_allWithin
  rw [forL_all (fun x => decide (a ≤ x) && decide (x ≤ b)) (f := .inr false) xs 0 (fun n x _ => by
    unfold m_impl_allWithin_L0 m_impl_within
    rw [Option.bind_some]
    cases (decide (a ≤ x) && decide (x ≤ b)) <;> rfl), Option.bind_some]
  cases xs.all fun x => decide (a ≤ x) && decide (x ≤ b) <;> rfl
theorem impl_valid (t : Term) : m_impl_ValidTerm t = some (vT t) := by
  unfold m_impl_ValidTerm vT
  by_cases h2 : t.Coeffs.length ≤ 10
  · rw [decide_eq_true h2, decide_eq_true (show (t.Coeffs.length : Int) ≤ (10 : Int) by omega), cond_true]
    rw [show m_impl_isCoeff t.Const = some (inR t.Const) from rfl, Option.bind_some]
    cases h1 : inR t.Const with
    | false => rfl
    | true =>
      rw [cond_true, impl_all, Option.bind_some]
      change (bif t.Coeffs.all inR then _ else _) = _
      cases h3 : t.Coeffs.all inR with
      | false => simp
      | true =>
        rw [cond_true]
        by_cases h4 : t.Coeffs.length = 0
        · rw [decide_eq_true (by omega), cond_true]
          rw [List.length_eq_zero_iff.1 h4]; rfl
        · rw [decide_eq_false (by omega), cond_false, getI_last (by omega) (by omega)]
          unfold lastOK
          cases h5 : t.Coeffs.getLast? with
          | none => rw [List.getLast?_eq_none_iff] at h5; rw [h5] at h4; exact absurd rfl h4
          | some x => simp
  · rw [decide_eq_false h2, decide_eq_false (show ¬ (t.Coeffs.length : Int) ≤ (10 : Int) by omega)]; simp

/-! ### Trimming -/
def tl (xs : List Int) : Nat → Nat
  | 0 => 0
  | n + 1 => if xs[n]? = some 0 then tl xs n else n + 1
theorem tl_le (xs : List Int) : ∀ n, tl xs n ≤ n := by
  intro n
  induction n with
  | zero => exact Nat.le_refl _
  | succ n ih => unfold tl; split <;> omega
def trim (xs : List Int) : List Int := xs.take (tl xs xs.length)
theorem trim_len (xs : List Int) : (trim xs).length ≤ xs.length := by unfold trim; simp; omega
theorem tl_iter {xs : List Int} {step : Int → Option (Ctl Int Int)}
    (hs : ∀ n : Int, step n = bif decide ((0 : Int) < n) then (getI xs (w64 (n - 1))).bind fun x => bif decide (x = 0) then some (.next (w64 (n - 1))) else some (.out n) else some (.out n))
    (hl : xs.length ≤ 1048576) : ∀ n : Nat, n ≤ xs.length → iter step (n : Int) = some ((tl xs n : Nat) : Int) := by
  intro n
  induction n with
  | zero => intro _; exact iter_out (by rw [hs]; rfl)
  | succ n ih =>
    intro hn
    have h := hs ((n + 1 : Nat) : Int)
    have hx : xs[n]? = some xs[n] := by simp
    rw [decide_eq_true (by omega), cond_true, w64_pred (by omega) (by omega), show n + 1 - 1 = n from rfl, getI_some hx, Option.bind_some] at h
    unfold tl
    by_cases h0 : xs[n] = 0
    · rw [decide_eq_true h0, cond_true] at h
      rw [iter_next h, ih (by omega), if_pos (by rw [hx, h0])]
    · rw [decide_eq_false h0, cond_false] at h
      rw [iter_out h, if_neg (by rw [hx]; simpa using h0)]
theorem slice_trim (xs : List Int) : sliceI xs 0 ((tl xs xs.length : Nat) : Int) = some (trim xs) := by
  rw [show (0 : Int) = ((0 : Nat) : Int) from rfl, sliceI_some (by omega) (tl_le _ _)]; rfl

def chk (t : Term) : Term × Bool := bif vT t then (t, true) else (Term.mk 0 [], false)
theorem spec_own {xs : List Int} (h : xs.length ≤ 1048576) : m_spec_l00Own xs = some xs := by
  unfold m_spec_l00Own; rw [capI_some (by simp; omega)]; simp
theorem spec_make {c : Int} {xs : List Int} (hl : xs.length ≤ 1048576) : m_spec_l02Make c xs = some (chk (Term.mk c (trim xs))) := by
  unfold m_spec_l02Make m_spec_l02Make_A0
  have h2 := trim_len xs
  rw [tl_iter (step := m_spec_l02Make_L0 xs) (fun n => rfl) hl _ (Nat.le_refl _), Option.bind_some, slice_trim, Option.bind_some, spec_own (by omega), Option.bind_some, spec_is (by unfold cTerm; simp only; omega), Option.bind_some]
  unfold chk
  cases vT (Term.mk c (trim xs)) <;> rfl
theorem impl_copy {xs : List Int} (h : xs.length ≤ 1048576) : m_impl_copyInts xs = some xs := by
  unfold m_impl_copyInts; rw [capI_some (by simp; omega)]; simp
theorem impl_own {t : Term} (h : t.Coeffs.length ≤ 1048576) : m_impl_Term_own t = some t := by
  unfold m_impl_Term_own; rw [impl_copy h]; rfl
theorem impl_trimmed {t : Term} (hl : t.Coeffs.length ≤ 1048576) : m_impl_Term_trimmed t = some (Term.mk t.Const (trim t.Coeffs)) := by
  unfold m_impl_Term_trimmed m_impl_Term_trimmed_A0
  rw [tl_iter (step := m_impl_Term_trimmed_L0 t) (fun n => rfl) hl _ (Nat.le_refl _), Option.bind_some, slice_trim, Option.bind_some]
theorem impl_checked (t : Term) : m_impl_Term_checked t = some (chk t) := by
  unfold m_impl_Term_checked chk
  rw [impl_valid, Option.bind_some]
  cases h : vT t with
  | false => rfl
  | true => rw [impl_own (by have := vT_len h; omega)]; rfl

/-! ### Tables of ten -/
def tab (f : Nat → Int) : List Int := (List.range 10).map f
theorem tab_len (f : Nat → Int) : (tab f).length = 10 := rfl
theorem tab_get {f : Nat → Int} {n : Nat} (h : n < 10) : (tab f)[n]? = some (f n) := by simp [tab, h]
theorem tab_set {f : Nat → Int} {n : Nat} {v : Int} (h : n < 10) : (tab f).set n v = tab fun i => if i = n then v else f i := by
  unfold tab
  apply List.ext_getElem?
  intro i
  rw [List.getElem?_set]
  by_cases hi : n = i
  · subst hi; simp [h]
  · rw [if_neg hi]
    have hi' : i ≠ n := Ne.symm hi
    by_cases h10 : i < 10
    · simp [h10, hi']
    · simp [h10]
theorem tab_zero : List.replicate 10 (0 : Int) = tab fun _ => 0 := rfl
def coef (xs : List Int) (i : Nat) : Int := xs[i]?.getD 0
theorem coef_get {xs : List Int} {i : Nat} {x : Int} (h : xs[i]? = some x) : coef xs i = x := by simp [coef, h]
theorem coef_no {xs : List Int} {i : Nat} (h : xs.length ≤ i) : coef xs i = 0 := by simp [coef, h]
theorem coef_rng {t : Term} (h : vT t = true) (i : Nat) : -1000000 ≤ coef t.Coeffs i ∧ coef t.Coeffs i ≤ 1000000 := by
  unfold coef
  cases hx : t.Coeffs[i]? with
  | none => simp
  | some x => exact inR_iff.1 (vT_coef h x (List.mem_of_getElem? hx))
theorem const_rng {t : Term} (h : vT t = true) : -1000000 ≤ t.Const ∧ t.Const ≤ 1000000 := inR_iff.1 (vT_const h)
theorem prod_rng {a b A B : Int} (h1 : -A ≤ a) (h2 : a ≤ A) (h3 : -B ≤ b) (h4 : b ≤ B) : -(A * B) ≤ a * b ∧ a * b ≤ A * B := by
  have hA : 0 ≤ A := by omega
  have hB : 0 ≤ B := by omega
  have p1 : 0 ≤ (A - a) * (B - b) := Int.mul_nonneg (by omega) (by omega)
  have p2 : 0 ≤ (A + a) * (B + b) := Int.mul_nonneg (by omega) (by omega)
  have p3 : 0 ≤ (A - a) * (B + b) := Int.mul_nonneg (by omega) (by omega)
  have p4 : 0 ≤ (A + a) * (B - b) := Int.mul_nonneg (by omega) (by omega)
  simp only [Int.sub_mul, Int.add_mul, Int.mul_sub, Int.mul_add] at p1 p2 p3 p4
  omega
theorem spec_coeff {t : Term} {i : Nat} (hl : i < 10) : m_spec_l02Coeff t (i : Int) = some (coef t.Coeffs i) := by
  unfold m_spec_l02Coeff
  by_cases h : i < t.Coeffs.length
  · have hx : t.Coeffs[i]? = some t.Coeffs[i] := by simp [h]
    rw [dec_lt h, cond_true, getI_some hx, coef_get hx]; rfl
  · rw [dec_not_lt h, cond_false, coef_no (by omega)]
end Go.Mod

/- Terms: sums of multiples. Plain Lean. -/
namespace Go.Mod
open Go.AM
set_option linter.unusedVariables false

/-- The sum of the first n. -/
def sumN (f : Nat → Int) : Nat → Int
  | 0 => 0
  | n + 1 => sumN f n + f n
theorem sumN_rng {f : Nat → Int} {B : Int} (h : ∀ i, -B ≤ f i ∧ f i ≤ B) : ∀ n : Nat, -(n * B) ≤ sumN f n ∧ sumN f n ≤ n * B := by
  intro n
  induction n with
  | zero => simp [sumN]
  | succ n ih =>
    have := h n
    have e : ((n + 1 : Nat) : Int) * B = n * B + B := by rw [Int.natCast_add]; simp [Int.add_mul]
    rw [e]
    unfold sumN
    omega
def tAt (ts : List Term) (k : Nat) : Term := ts[k]?.getD ⟨0, []⟩
def lin (ts : List Term) (ms : List Int) (g : Term → Int) (n : Nat) : Int := sumN (fun k => coef ms k * g (tAt ts k)) n
def mOK (m : Int) : Prop := -1000000 ≤ m ∧ m ≤ 1000000
def Lin (ts : List Term) (ms : List Int) : Prop := (∀ t ∈ ts, vT t = true) ∧ (∀ m ∈ ms, mOK m) ∧ ts.length ≤ 14 ∧ ms.length = ts.length
theorem tAt_valid {ts : List Term} (h : ∀ t ∈ ts, vT t = true) (k : Nat) : vT (tAt ts k) = true := by
  unfold tAt
  cases hx : ts[k]? with
  | none => rfl
  | some t => exact h t (List.mem_of_getElem? hx)
theorem coef_m {ms : List Int} (h : ∀ m ∈ ms, mOK m) (k : Nat) : -1000000 ≤ coef ms k ∧ coef ms k ≤ 1000000 := by
  unfold coef
  cases hx : ms[k]? with
  | none => simp
  | some m => exact h m (List.mem_of_getElem? hx)
theorem mul_rng {a b : Int} (h1 : -1000000 ≤ a ∧ a ≤ 1000000) (h2 : -1000000 ≤ b ∧ b ≤ 1000000) : -1000000000000 ≤ a * b ∧ a * b ≤ 1000000000000 := by
  have := prod_rng h1.1 h1.2 h2.1 h2.2
  omega
theorem lin_rng {ts : List Term} {ms : List Int} (h : Lin ts ms) {g : Term → Int} (hg : ∀ t, vT t = true → -1000000 ≤ g t ∧ g t ≤ 1000000) {n : Nat} (hn : n ≤ 14) :
    -14000000000000 ≤ lin ts ms g n ∧ lin ts ms g n ≤ 14000000000000 := by
  have := sumN_rng (f := fun k => coef ms k * g (tAt ts k)) (B := 1000000000000) (fun i => mul_rng (coef_m h.2.1 i) (hg _ (tAt_valid h.1 i))) n
  unfold lin
  omega

/-- One term more: the coefficients. -/
theorem inner {f : Nat → Int} {m : Int} {xs : List Int} (hm : mOK m) (hl : xs.length ≤ 10) (hx : ∀ x ∈ xs, inR x = true) (hf : ∀ i, -100000000000000 ≤ f i ∧ f i ≤ 100000000000000) :
    forL (m_impl_combined_L1 m) (fun s1 => s1) 0 xs (tab f) = some (tab fun i => f i + m * coef xs i) := by
  obtain ⟨t, h1, h2⟩ := forL_inv (step := m_impl_combined_L1 m) (fin := fun s1 => s1) (xs := xs) (fun n s => s = tab fun i => if i < n then f i + m * coef xs i else f i) (fun t => t = tab fun i => f i + m * coef xs i)
    (fun n x s hxn hs => by
      subst hs
      have hn := get_lt hxn
      refine .inl ⟨_, ?_, rfl⟩
      unfold m_impl_combined_L1
      rw [getI_some (tab_get (by omega)), Option.bind_some, if_neg (by omega)]
      have hp := mul_rng hm (inR_iff.1 (hx x (List.mem_of_getElem? hxn)))
      have := hf n
      rw [w64_eq (n := m * x) (by omega), w64_eq (by omega), Int.toNat_natCast, tab_set (by omega)]
      congr 2
      unfold tab
      apply List.map_congr_left
      intro i hi
      by_cases h1 : i = n
      · subst h1; rw [if_pos rfl, if_pos (by omega), coef_get hxn]
      · rw [if_neg h1]
        by_cases h2 : i < n
        · rw [if_pos h2, if_pos (by omega)]
        · rw [if_neg h2, if_neg (by omega)])
    (fun s hs => by
      subst hs
      unfold tab
      apply List.map_congr_left
      intro i hi
      by_cases h2 : i < xs.length
      · rw [if_pos h2]
      · rw [if_neg h2, coef_no (by omega)]; omega)
    (s := tab f) (by simp)
  rw [h1, h2]
theorem impl_combined {ts : List Term} {ms : List Int} (h : Lin ts ms) :
    m_impl_combined ts ms = some (Term.mk (lin ts ms Term.Const ts.length) (trim (tab fun i => lin ts ms (fun t => coef t.Coeffs i) ts.length))) := by
  unfold m_impl_combined
  rw [show (10 : Int) = ((10 : Nat) : Int) from rfl, makeI_some (by omega), Option.bind_some, tab_zero]
  obtain ⟨t, h1, h2⟩ := forL_inv (step := m_impl_combined_L0 ms) (fin := fun s0 => (s0.1, s0.2)) (xs := ts) (fun n s => s = (lin ts ms Term.Const n, tab fun i => lin ts ms (fun t => coef t.Coeffs i) n))
    (fun t => t = (lin ts ms Term.Const ts.length, tab fun i => lin ts ms (fun t => coef t.Coeffs i) ts.length))
    (fun n x s hxn hs => by
      subst hs
      have hn := get_lt hxn
      refine .inl ⟨_, ?_, rfl⟩
      unfold m_impl_combined_L0
      have hmn : n < ms.length := by rw [h.2.2.2]; exact hn
      have hm : ms[n]? = some ms[n] := by simp [hmn]
      have hv := h.1 x (List.mem_of_getElem? hxn)
      have hmo := h.2.1 _ (List.mem_of_getElem? hm)
      rw [getI_some hm, Option.bind_some, inner hmo (vT_len hv) (vT_coef hv)
        (fun i => by have := lin_rng h (g := fun t => coef t.Coeffs i) (fun t ht => coef_rng ht i) (n := n) (by have := h.2.2.1; omega); omega), Option.bind_some]
      unfold m_impl_combined_A1
      have hp := mul_rng hmo (const_rng hv)
      have hq := lin_rng h (g := Term.Const) (fun t ht => const_rng ht) (n := n) (by have := h.2.2.1; omega)
      simp only
      rw [w64_eq (n := ms[n] * x.Const) (by omega), w64_eq (by omega)]
      have e : ∀ g : Term → Int, lin ts ms g (n + 1) = lin ts ms g n + ms[n] * g x := by
        intro g
        unfold lin
        rw [show sumN (fun k => coef ms k * g (tAt ts k)) (n + 1) = sumN (fun k => coef ms k * g (tAt ts k)) n + coef ms n * g (tAt ts n) from rfl, coef_get hm]
        unfold tAt
        rw [hxn]; rfl
      simp only [e])
    (fun s hs => hs) rfl
  change (forL (m_impl_combined_L0 ms) (fun s0 => (s0.1, s0.2)) 0 ts (lin ts ms Term.Const 0, tab fun i => lin ts ms (fun t => coef t.Coeffs i) 0)).bind _ = _
  rw [h1, h2, Option.bind_some]
  unfold m_impl_combined_A0
  rw [impl_trimmed (by simp only [tab_len]; omega)]; rfl

/-! ### The specification's sums -/
theorem spec_sum_loop {p q : Term} {a b : Int} (hp : vT p = true) (hq : vT q = true) (ha : mOK a) (hb : mOK b) :
    iter (m_spec_l02Sum_L0 p a q b) ([], 0) = some (tab fun i => a * coef p.Coeffs i + b * coef q.Coeffs i) := by
  have key : ∀ (m n : Nat), n + m = 10 → iter (m_spec_l02Sum_L0 p a q b) ((tab fun i => a * coef p.Coeffs i + b * coef q.Coeffs i).take n, (n : Int)) = some (tab fun i => a * coef p.Coeffs i + b * coef q.Coeffs i) := by
    intro m
    induction m with
    | zero =>
      intro n hn
      obtain rfl : n = 10 := by omega
      exact iter_out rfl
    | succ m ih =>
      intro n hn
      rw [iter_next (s' := ((tab fun i => a * coef p.Coeffs i + b * coef q.Coeffs i).take (n + 1), ((n + 1 : Nat) : Int)))]
      · exact ih (n + 1) (by omega)
      · unfold m_spec_l02Sum_L0
        have h1 := mul_rng ha (coef_rng hp n)
        have h2 := mul_rng hb (coef_rng hq n)
        rw [decide_eq_true (by omega), cond_true, spec_coeff (by omega), Option.bind_some, spec_coeff (by omega), Option.bind_some, capI_some (by simp [tab_len]; omega), Option.bind_some]
        rw [w64_succ (by omega), w64_eq (n := a * coef p.Coeffs n) (by omega), w64_eq (n := b * coef q.Coeffs n) (by omega), w64_eq (by omega), List.take_add_one, tab_get (by omega)]
        rfl
  exact key 10 0 rfl
theorem spec_sum {p q : Term} {a b : Int} (hp : vT p = true) (hq : vT q = true) (ha : mOK a) (hb : mOK b) :
    m_spec_l02Sum p a q b = some (chk (Term.mk (a * p.Const + b * q.Const) (trim (tab fun i => a * coef p.Coeffs i + b * coef q.Coeffs i)))) := by
  unfold m_spec_l02Sum
  rw [spec_sum_loop hp hq ha hb, Option.bind_some]
  unfold m_spec_l02Sum_A0
  have h1 := mul_rng ha (const_rng hp)
  have h2 := mul_rng hb (const_rng hq)
  rw [w64_eq (n := a * p.Const) (by omega), w64_eq (n := b * q.Const) (by omega), w64_eq (by omega), spec_make (by rw [tab_len]; omega)]
  rfl

/-! ### The first functions -/
def fAdd (p q : Term) : Term × Bool := bif vT p && vT q then chk (Term.mk (p.Const + q.Const) (trim (tab fun i => coef p.Coeffs i + coef q.Coeffs i))) else (Term.mk 0 [], false)
theorem one_mul' (x : Int) : (1 : Int) * x = x := Int.one_mul x
theorem spec_add {p q : Term} (hp : cTerm p ≤ 1048576) (hq : cTerm q ≤ 1048576) : m_spec_AddTerms p q = some (fAdd p q) := by
  unfold m_spec_AddTerms fAdd
  rw [spec_is hp, Option.bind_some, spec_is hq, Option.bind_some]
  cases h1 : vT p with
  | false => rfl
  | true =>
    cases h2 : vT q with
    | false => rfl
    | true =>
      unfold m_spec_l02Add
      rw [spec_sum h1 h2 (by unfold mOK; omega) (by unfold mOK; omega)]
      simp only [Int.one_mul]; rfl
theorem impl_add {p q : Term} : m_impl_AddTerms p q = some (fAdd p q) := by
  unfold m_impl_AddTerms fAdd
  rw [impl_valid, Option.bind_some, impl_valid, Option.bind_some]
  cases h1 : vT p with
  | false => rfl
  | true =>
    cases h2 : vT q with
    | false => rfl
    | true =>
      rw [impl_combined ⟨by simp [h1, h2], by simp [mOK], by simp, rfl⟩, Option.bind_some, impl_checked]
      simp [lin, sumN, coef, tAt]
def small (r : Term × Bool) : Prop := cTerm r.1 ≤ 1048576
theorem chk_small (t : Term) : small (chk t) := by
  unfold chk small
  cases h : vT t with
  | false => exact Nat.zero_le _
  | true => have := vT_len h; unfold cTerm; simp only [cond_true]; omega
theorem fAdd_small (p q : Term) : small (fAdd p q) := by
  unfold fAdd
  cases vT p && vT q
  · exact Nat.zero_le _
  · exact chk_small _
end Go.Mod

/- The first laws. Plain Lean. -/
namespace Go.Mod
open Go.AM
set_option linter.unusedVariables false

theorem law_AddTerms {p q : Term} (kp : k_Term p) (kq : k_Term q) : m_laws_FnExactAddTerms p q = some true := by
  have hp := kp.2.1
  have hq := kq.2.1
  unfold m_laws_FnExactAddTerms
  rw [show (1048576 : Int) = ((1048576 : Nat) : Int) from rfl, sz_Term hp _ (Nat.le_refl _), Option.bind_some]
  by_cases h1 : cTerm p ≤ 1048576
  · rw [szOut_ok h1, dec_neg, cond_false, sz_Term hq _ (by omega), Option.bind_some]
    by_cases h2 : cTerm q ≤ 1048576 - cTerm p
    · have h3 : cTerm q ≤ 1048576 := by omega
      obtain ⟨r1, a1, b1⟩ := mk_Term h1 (k := 1) (by omega)
      obtain ⟨r2, a2, b2⟩ := mk_Term h3 (k := 1 + cTerm p) (by omega)
      obtain ⟨r3, a3, b3⟩ := mk_Term (fAdd_small p q) (k := 1) (by omega)
      replace a1 : m_laws_markTerm p 1 = _ := a1
      replace a3 : m_laws_markTerm (fAdd p q).1 1 = _ := a3
      replace b3 : m_laws_heldTerm (Term.mk (fAdd p q).1.Const r3) 1 = _ := b3
      simp only [m_laws_FnExactAddTerms_J0, m_laws_FnExactAddTerms_J1, Term.eta, szOut_ok h2, dec_neg, cond_false, Option.bind_some, to_Term h1, to_Term h3, spec_add h1 h3, impl_add, eq_Term (fAdd_small p q), eq_Term h1, eq_Term h3, decide_true, bool_beq, Bool.not_true, Bool.or_false, a1, a2, a3, b3]
    · rw [szOut_no h2]; rfl
  · rw [szOut_no h1]; rfl
end Go.Mod

/- Multiples and opposites. Plain Lean. -/
namespace Go.Mod
open Go.AM
set_option linter.unusedVariables false
set_option linter.unusedSimpArgs false

theorem vT_one (c : Int) (h : inR c = true) : vT (Term.mk c []) = true := by unfold vT; simp only [h]; rfl
theorem coef_nil (i : Nat) : coef [] i = 0 := rfl

def fScale (p : Term) (m : Int) : Term × Bool := bif vT p && inR m then chk (Term.mk (m * p.Const) (trim (tab fun i => m * coef p.Coeffs i))) else (Term.mk 0 [], false)
theorem spec_scale {p : Term} {m : Int} (hp : cTerm p ≤ 1048576) : m_spec_ScaleTerm p m = some (fScale p m) := by
  unfold m_spec_ScaleTerm fScale
  rw [spec_is hp, Option.bind_some, spec_number, Option.bind_some]
  cases h1 : vT p with
  | false => rfl
  | true =>
    cases h2 : inR m with
    | false => rfl
    | true =>
      unfold m_spec_l02Scale
      rw [spec_sum h1 (vT_one 0 rfl) (inR_iff.1 h2) (by unfold mOK; omega)]
      simp only [Int.zero_mul, Int.add_zero]; rfl
theorem lin_one (p : Term) (m : Int) (g : Term → Int) : lin [p] [m] g 1 = m * g p := by
  unfold lin
  simp [sumN, coef, tAt]
theorem impl_scale {p : Term} {m : Int} : m_impl_ScaleTerm p m = some (fScale p m) := by
  unfold m_impl_ScaleTerm fScale
  rw [impl_valid, Option.bind_some, show m_impl_isCoeff m = some (inR m) from rfl, Option.bind_some]
  cases h1 : vT p with
  | false => rfl
  | true =>
    cases h2 : inR m with
    | false => rfl
    | true =>
      rw [impl_combined ⟨by simp [h1], by simpa [mOK] using inR_iff.1 h2, by simp, rfl⟩, Option.bind_some, impl_checked]
      simp only [List.length_cons, List.length_nil, Nat.zero_add, lin_one]
      rfl
theorem fScale_small (p : Term) (m : Int) : small (fScale p m) := by
  unfold fScale
  cases vT p && inR m
  · exact Nat.zero_le _
  · exact chk_small _

def fOpp (p : Term) : Term × Bool := bif vT p then chk (Term.mk (-p.Const - 1) (trim (tab fun i => -coef p.Coeffs i))) else (Term.mk 0 [], false)
theorem spec_opp {p : Term} (hp : cTerm p ≤ 1048576) : m_spec_OppositeOf p = some (fOpp p) := by
  unfold m_spec_OppositeOf fOpp
  rw [spec_is hp, Option.bind_some]
  cases h1 : vT p with
  | false => rfl
  | true =>
    unfold m_spec_l02Opposite
    rw [spec_sum h1 (vT_one 1 rfl) (by unfold mOK; omega) (by unfold mOK; omega)]
    simp only [coef_nil, Int.mul_zero, Int.add_zero, Int.neg_mul, Int.one_mul]; rfl
theorem impl_opp {p : Term} : m_impl_OppositeOf p = some (fOpp p) := by
  unfold m_impl_OppositeOf fOpp
  rw [impl_valid, Option.bind_some]
  cases h1 : vT p with
  | false => rfl
  | true =>
    unfold m_impl_Term_opposite
    have := const_rng h1
    rw [impl_combined ⟨by simp [h1], by simp [mOK], by simp, rfl⟩]
    simp only [List.length_cons, List.length_nil, Nat.zero_add, lin_one, Option.bind_some, Int.neg_mul, Int.one_mul, Bool.not_true, cond_false, cond_true, impl_checked]
    rw [w64_eq (by omega)]
theorem fOpp_small (p : Term) : small (fOpp p) := by
  unfold fOpp
  cases vT p
  · exact Nat.zero_le _
  · exact chk_small _

theorem law_ScaleTerm {p : Term} {m : Int} (kp : k_Term p) (km : k_i64 m) : m_laws_FnExactScaleTerm p m = some true := by
  unfold m_laws_FnExactScaleTerm
  rw [show (1048576 : Int) = ((1048576 : Nat) : Int) from rfl, sz_Term kp.2.1 _ (Nat.le_refl _), Option.bind_some]
  by_cases h1 : cTerm p ≤ 1048576
  · obtain ⟨r1, a1, b1⟩ := mk_Term h1 (k := 1) (by omega)
    obtain ⟨r3, a3, b3⟩ := mk_Term (fScale_small p m) (k := 1) (by omega)
    replace a1 : m_laws_markTerm p 1 = _ := a1
    replace a3 : m_laws_markTerm (fScale p m).1 1 = _ := a3
    replace b3 : m_laws_heldTerm (Term.mk (fScale p m).1.Const r3) 1 = _ := b3
    simp only [szOut_ok h1, dec_neg, cond_false, Option.bind_some, to_Term h1, spec_scale h1, impl_scale, eq_Term (fScale_small p m), eq_Term h1, decide_true, bool_beq, Bool.not_true, Bool.or_false, a1, a3, b3]
  · rw [szOut_no h1]; rfl
theorem law_OppositeOf {p : Term} (kp : k_Term p) : m_laws_FnExactOppositeOf p = some true := by
  unfold m_laws_FnExactOppositeOf
  rw [show (1048576 : Int) = ((1048576 : Nat) : Int) from rfl, sz_Term kp.2.1 _ (Nat.le_refl _), Option.bind_some]
  by_cases h1 : cTerm p ≤ 1048576
  · obtain ⟨r1, a1, b1⟩ := mk_Term h1 (k := 1) (by omega)
    obtain ⟨r3, a3, b3⟩ := mk_Term (fOpp_small p) (k := 1) (by omega)
    replace a1 : m_laws_markTerm p 1 = _ := a1
    replace a3 : m_laws_markTerm (fOpp p).1 1 = _ := a3
    replace b3 : m_laws_heldTerm (Term.mk (fOpp p).1.Const r3) 1 = _ := b3
    simp only [szOut_ok h1, dec_neg, cond_false, Option.bind_some, to_Term h1, spec_opp h1, impl_opp, eq_Term (fOpp_small p), eq_Term h1, decide_true, bool_beq, Bool.not_true, Bool.or_false, a1, a3, b3]
  · rw [szOut_no h1]; rfl
end Go.Mod

/- Lists of terms; combinations. Plain Lean. -/
namespace Go.Mod
open Go.AM
set_option linter.unusedVariables false
set_option linter.unusedSimpArgs false

/-! ### Lists of terms: sizes, copies, comparisons, marks -/
def cTermS (ts : List Term) : Nat := ts.length + (ts.map cTerm).sum
theorem mem_sum {α : Type} {c : α → Nat} {xs : List α} {x : α} (h : x ∈ xs) : c x ≤ (xs.map c).sum := by
  induction xs with
  | nil => cases h
  | cons y r ih =>
    simp only [List.map_cons, List.sum_cons]
    rcases List.mem_cons.1 h with rfl | h
    · omega
    · have := ih h; omega
theorem cTermS_mem {ts : List Term} {t : Term} (h : t ∈ ts) : cTerm t ≤ cTermS ts := by have := mem_sum (c := cTerm) h; unfold cTermS; omega
theorem sz_TermS {ts : List Term} (k : kLa_Term ts) : SzP m_laws_szTermS cTermS ts := fun b hb => by
  unfold m_laws_szTermS cTermS
  rw [szW k.1 hb]
  by_cases h : ts.length ≤ b
  · rw [decide_eq_false (by omega), cond_false, show (b : Int) - (ts.length : Int) = ((b - ts.length : Nat) : Int) by omega,
      iter_sz (xs := ts) (c := cTerm) (sz := m_laws_szTerm)
        (fun n x b hx => by unfold m_laws_szTermS_L0; rw [dec_lt (get_lt hx), cond_true, getI_some hx]; rfl)
        (fun b => by unfold m_laws_szTermS_L0; rw [dec_self]; rfl) k.1 (fun x hx => sz_Term (k.2 x hx).2.1) (by omega), Option.bind_some]
    by_cases h2 : (ts.map cTerm).sum ≤ b - ts.length
    · rw [if_pos h2, szOut_ok (by omega)]
      unfold m_laws_szTermS_A0; simp only; congr 2; omega
    · rw [if_neg h2, szOut_no (by omega)]; rfl
  · rw [decide_eq_true (by omega), szOut_no (by omega)]; rfl
theorem to_TermS {ts : List Term} (hl : cTermS ts ≤ 1048576) : m_laws_toTermS ts = some ts := by
  have hlen : ts.length ≤ 1048576 := by unfold cTermS at hl; omega
  unfold m_laws_toTermS
  rw [makeI_some (by omega), Option.bind_some, iter_to (xs := ts) (z := Term.mk 0 []) (cp := m_laws_toTerm)
    (fun n x ys hx => by unfold m_laws_toTermS_L0; rw [dec_lt (get_lt hx), cond_true, getI_some hx]; rfl)
    (fun ys => by unfold m_laws_toTermS_L0; rw [dec_self]; rfl) hlen (fun x hx => to_Term (by have := cTermS_mem hx; omega))]
  rfl
theorem eq_TermS {xs ys : List Term} (hl : cTermS xs ≤ 1048576) : m_laws_eqTermS xs ys = some (decide (xs = ys)) := by
  have hlen : xs.length ≤ 1048576 := by unfold cTermS at hl; omega
  unfold m_laws_eqTermS
  by_cases h : xs.length = ys.length
  · rw [decide_eq_true (by omega), Bool.not_true, cond_false, iter_eq (xs := xs) (ys := ys) (eq := m_laws_eqTerm)
      (fun n x y hx hy => by unfold m_laws_eqTermS_L0; rw [dec_lt (get_lt hx), cond_true, getI_some hx, getI_some hy]; rfl)
      (by unfold m_laws_eqTermS_L0; rw [dec_self]; rfl) (by omega) h (fun x hx y => eq_Term (by have := cTermS_mem hx; omega))]
    by_cases e : xs = ys
    · rw [if_pos e, decide_eq_true e]; rfl
    · rw [if_neg e, decide_eq_false e]; rfl
  · rw [decide_eq_false (by omega), decide_eq_false (fun e => h (by rw [e]))]; rfl
/-- An element's marks: its number, then its coefficients. -/
noncomputable def mkEl (x : Term) (k : Int) : Option (Int × Term) := (m_laws_markInt64S x.Coeffs (w64 (k + 1))).bind fun r => some (r.1, Term.mk k r.2)
theorem mkEl_ok {x : Term} (hl : cTerm x ≤ 1048576) {k : Nat} (hk : k ≤ 1125899906842623) : ∃ x', mkEl x k = some (((k + (1 + cTerm x) : Nat) : Int), x') := by
  obtain ⟨r, h1, _⟩ := mk_ints (xs := x.Coeffs) hl (k := k + 1) (by omega)
  refine ⟨Term.mk k r, ?_⟩
  unfold mkEl
  rw [w64_succ (by omega), h1, Option.bind_some]
  unfold cTerm
  congr 3
  omega
/-- The marks of a list of terms. -/
theorem mk_TermS {ts : List Term} (hl : cTermS ts ≤ 1048576) {k : Nat} (hk : k ≤ 1048577) : ∃ ts', m_laws_markTermS ts k = some (((k + cTermS ts : Nat) : Int), ts') := by
  have hlen : ts.length ≤ 1048576 := by unfold cTermS at hl; omega
  have key : ∀ (q n : Nat) (ys : List Term) (k : Nat), n + q = ts.length → ys.length = ts.length → ys.drop n = ts.drop n → k + cTermS (ts.drop n) ≤ 1000000000 →
      ∃ xs', iter m_laws_markTermS_L0 (ys, (k : Int), (n : Int)) = some (((k + cTermS (ts.drop n) : Nat) : Int), xs') := by
    intro q
    induction q with
    | zero =>
      intro n ys k hn hy _ hk
      obtain rfl : n = ts.length := by omega
      refine ⟨ys, ?_⟩
      rw [iter_out (t := ((k : Int), ys))]
      · simp [cTermS]
      · unfold m_laws_markTermS_L0; rw [← hy, dec_self]; rfl
    | succ q ih =>
      intro n ys k hn hy hd hk
      have hlt : n < ts.length := by omega
      have hyn : ys[n]? = some ts[n] := by
        have := congrArg (fun l => l[0]?) hd
        simpa [List.getElem?_drop, hlt] using this
      have hc : cTermS (ts.drop n) = 1 + cTerm ts[n] + cTermS (ts.drop (n + 1)) := by
        rw [List.drop_eq_getElem_cons hlt]; unfold cTermS; simp only [List.length_cons, List.map_cons, List.sum_cons]; omega
      have hm := cTermS_mem (List.getElem_mem hlt)
      obtain ⟨r, h1, _⟩ := mk_ints (xs := (ts[n]).Coeffs) (by unfold cTerm at hm; omega) (k := k + 1) (by omega)
      obtain ⟨xs', e1⟩ := ih (n + 1) ((ys.set n (Term.mk k (ts[n]).Coeffs)).set n (Term.mk k r)) (k + 1 + cTerm ts[n]) (by omega) (by simpa using hy)
        (by
          have := congrArg (fun l => l.drop 1) hd
          simp only [List.drop_drop] at this
          rw [List.drop_set_of_lt (by omega), List.drop_set_of_lt (by omega)]; exact this) (by omega)
      refine ⟨xs', ?_⟩
      rw [iter_next (s' := ((ys.set n (Term.mk k (ts[n]).Coeffs)).set n (Term.mk k r), ((k + 1 + cTerm ts[n] : Nat) : Int), ((n + 1 : Nat) : Int))), e1, hc]
      · congr 2; omega
      · unfold m_laws_markTermS_L0
        simp only
        rw [dec_lt (by omega), cond_true, getI_some hyn, Option.bind_some, Int.toNat_natCast,
          getI_some (x := Term.mk k (ts[n]).Coeffs) (by rw [List.getElem?_set_self (by omega)]), Option.bind_some, w64_succ (by omega)]
        simp only
        rw [h1, Option.bind_some, w64_succ (by omega)]
        rfl
  obtain ⟨xs', h⟩ := key ts.length 0 ts k (by omega) rfl rfl (by simp only [List.drop_zero]; omega)
  refine ⟨xs', ?_⟩
  unfold m_laws_markTermS
  rw [List.drop_zero] at h
  rw [show (0 : Int) = ((0 : Nat) : Int) from rfl, h]; rfl

/-! ### Combinations -/
theorem comb_loop {ts : List Term} {ms : List Int} (h : Lin ts ms) :
    forL (m_impl_combined_L0 ms) (fun s0 => (s0.1, s0.2)) 0 ts (0, tab fun _ => 0) = some (lin ts ms Term.Const ts.length, tab fun i => lin ts ms (fun t => coef t.Coeffs i) ts.length) := by
  obtain ⟨t, h1, h2⟩ := forL_inv (step := m_impl_combined_L0 ms) (fin := fun s0 => (s0.1, s0.2)) (xs := ts) (fun n s => s = (lin ts ms Term.Const n, tab fun i => lin ts ms (fun t => coef t.Coeffs i) n))
    (fun t => t = (lin ts ms Term.Const ts.length, tab fun i => lin ts ms (fun t => coef t.Coeffs i) ts.length))
    (fun n x s hxn hs => by
      subst hs
      have hn := get_lt hxn
      refine .inl ⟨_, ?_, rfl⟩
      unfold m_impl_combined_L0
      have hmn : n < ms.length := by rw [h.2.2.2]; exact hn
      have hm : ms[n]? = some ms[n] := by simp [hmn]
      have hv := h.1 x (List.mem_of_getElem? hxn)
      have hmo := h.2.1 _ (List.mem_of_getElem? hm)
      rw [getI_some hm, Option.bind_some, inner hmo (vT_len hv) (vT_coef hv)
        (fun i => by have := lin_rng h (g := fun t => coef t.Coeffs i) (fun t ht => coef_rng ht i) (n := n) (by have := h.2.2.1; omega); omega), Option.bind_some]
      unfold m_impl_combined_A1
      have hp := mul_rng hmo (const_rng hv)
      have hq := lin_rng h (g := Term.Const) (fun t ht => const_rng ht) (n := n) (by have := h.2.2.1; omega)
      simp only
      rw [w64_eq (n := ms[n] * x.Const) (by omega), w64_eq (by omega)]
      have e : ∀ g : Term → Int, lin ts ms g (n + 1) = lin ts ms g n + ms[n] * g x := by
        intro g
        unfold lin
        rw [show sumN (fun k => coef ms k * g (tAt ts k)) (n + 1) = sumN (fun k => coef ms k * g (tAt ts k)) n + coef ms n * g (tAt ts n) from rfl, coef_get hm]
        unfold tAt
        rw [hxn]; rfl
      simp only [e])
    (fun s hs => hs) rfl
  change forL (m_impl_combined_L0 ms) (fun s0 => (s0.1, s0.2)) 0 ts (lin ts ms Term.Const 0, tab fun i => lin ts ms (fun t => coef t.Coeffs i) 0) = _
  rw [h1, h2]
theorem spec_inner {m : Int} {t : Term} (hl : t.Coeffs.length ≤ 1048576) (s : List Int) :
    iter (m_spec_l02Combine_L1 m t) (s, 0) = forL (m_impl_combined_L1 m) (fun s1 => s1) 0 t.Coeffs s :=
  iter_for (step := m_spec_l02Combine_L1 m t) t.Coeffs (fun n (s : List Int) => (s, (n : Int))) (m_impl_combined_L1 m) (fun s1 => s1)
    (fun n x r hx => by
      unfold m_spec_l02Combine_L1 m_impl_combined_L1
      simp only
      rw [dec_lt (get_lt hx), cond_true]
      cases getI r (n : Int) with
      | none => rfl
      | some y =>
        simp only [Option.bind_some]
        rw [getI_some hx, Option.bind_some, w64_succ (by have := get_lt hx; omega)]; rfl)
    (fun r => by unfold m_spec_l02Combine_L1; simp only; rw [dec_self]; rfl) s
theorem spec_comb_loop {ts : List Term} {ms : List Int} (h1 : ∀ t ∈ ts, t.Coeffs.length ≤ 1048576) (h2 : ts.length ≤ 1048576) (s : Int × List Int) :
    iter (m_spec_l02Combine_L0 ts ms) (s.1, s.2, 0) = forL (m_impl_combined_L0 ms) (fun s0 => (s0.1, s0.2)) 0 ts s :=
  iter_for (step := m_spec_l02Combine_L0 ts ms) ts (fun n (s : Int × List Int) => (s.1, s.2, (n : Int))) (m_impl_combined_L0 ms) (fun s0 => (s0.1, s0.2))
    (fun n x r hx => by
      unfold m_spec_l02Combine_L0 m_impl_combined_L0
      simp only
      rw [dec_lt (get_lt hx), cond_true]
      cases getI ms (n : Int) with
      | none => rfl
      | some y =>
        simp only [Option.bind_some]
        rw [getI_some hx, Option.bind_some, spec_inner (h1 x (List.mem_of_getElem? hx))]
        cases forL (m_impl_combined_L1 y) (fun s1 => s1) 0 x.Coeffs r.2 with
        | none => rfl
        | some u =>
          simp only [Option.bind_some]
          unfold m_spec_l02Combine_A1 m_impl_combined_A1
          simp only
          rw [w64_succ (by have := get_lt hx; omega)]; rfl)
    (fun r => by unfold m_spec_l02Combine_L0; simp only; rw [dec_self]; rfl) s
theorem spec_combine {ts : List Term} {ms : List Int} (h : Lin ts ms) :
    m_spec_l02Combine ts ms = some (chk (Term.mk (lin ts ms Term.Const ts.length) (trim (tab fun i => lin ts ms (fun t => coef t.Coeffs i) ts.length)))) := by
  unfold m_spec_l02Combine
  rw [show (10 : Int) = ((10 : Nat) : Int) from rfl, makeI_some (by omega), Option.bind_some, tab_zero,
    show iter (m_spec_l02Combine_L0 ts ms) (0, tab (fun _ => 0), 0) = _ from spec_comb_loop (fun t ht => by have := vT_len (h.1 t ht); omega) (by have := h.2.2.1; omega) (0, tab fun _ => 0),
    comb_loop h, Option.bind_some]
  unfold m_spec_l02Combine_A0
  rw [spec_make (by simp only [tab_len]; omega)]; rfl

def inM (m : Int) : Bool := decide (0 ≤ m) && decide (m ≤ 1000000)
theorem inM_ok {m : Int} (h : inM m = true) : mOK m := by simp [inM] at h; unfold mOK; omega
theorem dec_eqN {a b : Nat} : decide ((a : Int) = (b : Int)) = decide (a = b) := by by_cases h : a = b <;> simp [h]; omega
theorem dec_leN {a b : Nat} : decide ((a : Int) ≤ (b : Int)) = decide (a ≤ b) := by by_cases h : a ≤ b <;> simp [h]
theorem spec_all {ts : List Term} {k : Nat} (hl : cTermS ts ≤ 1048576) : m_spec_l02All ts (k : Int) = some (ts.all vT && decide (ts.length ≤ k)) := by
  have hlen : ts.length ≤ 1048576 := by unfold cTermS at hl; omega
  have h := iter_for (step := m_spec_l02All_L0 ts) ts (fun n (_ : Unit) => (n : Int)) (fun _ x _ => bif vT x then some (.next ()) else some (.out (.inr false))) (fun _ => .inl ())
    (fun n x r hx => by
      unfold m_spec_l02All_L0
      rw [dec_lt (get_lt hx), cond_true, getI_some hx, Option.bind_some, spec_is (by have := cTermS_mem (List.mem_of_getElem? hx); omega), Option.bind_some]
      have hw : w64 ((n : Int) + 1) = ((n + 1 : Nat) : Int) := w64_succ (by have := get_lt hx; omega)
      cases vT x
      · rfl
      · rw [hw]; rfl)
    (fun r => by unfold m_spec_l02All_L0; rw [dec_self]; rfl) ()
  rw [forL_all vT _ _ (fun n x _ => rfl)] at h
  unfold m_spec_l02All
  rw [show (0 : Int) = ((0 : Nat) : Int) from rfl, h, Option.bind_some]
  cases ts.all vT
  · rfl
  · change some (decide ((ts.length : Int) ≤ (k : Int))) = _
    rw [dec_leN]; rfl
theorem spec_mult {ms : List Int} (hl : ms.length ≤ 1048576) : m_spec_l02Multipliers ms = some (ms.all inM) := by
  have h := iter_for (step := m_spec_l02Multipliers_L0 ms) ms (fun n (_ : Unit) => (n : Int)) (fun _ x _ => bif inM x then some (.next ()) else some (.out (.inr false))) (fun _ => .inl ())
    (fun n x r hx => by
      unfold m_spec_l02Multipliers_L0
      rw [dec_lt (get_lt hx), cond_true, getI_some hx, Option.bind_some, show m_spec_l00In x 0 1000000 = some (inM x) from rfl, Option.bind_some]
      have hw : w64 ((n : Int) + 1) = ((n + 1 : Nat) : Int) := w64_succ (by have := get_lt hx; omega)
      cases inM x
      · rfl
      · rw [hw]; rfl)
    (fun r => by unfold m_spec_l02Multipliers_L0; rw [dec_self]; rfl) ()
  rw [forL_all inM _ _ (fun n x _ => rfl)] at h
  unfold m_spec_l02Multipliers
  rw [show (0 : Int) = ((0 : Nat) : Int) from rfl, h, Option.bind_some]
  cases ms.all inM <;> rfl
theorem impl_terms {ts : List Term} {k : Nat} : m_impl_areTerms ts (k : Int) = some (decide (ts.length ≤ k) && ts.all vT) := by
  unfold m_impl_areTerms
  by_cases h : ts.length ≤ k
  · rw [decide_eq_false (by omega), cond_false, decide_eq_true h, Bool.true_and, forL_all vT (f := .inr false) ts 0 (fun n x _ => by
      unfold m_impl_areTerms_L0
      rw [impl_valid, Option.bind_some]
      cases vT x <;> rfl), Option.bind_some]
    cases ts.all vT <;> rfl
  · rw [decide_eq_true (by omega), decide_eq_false h]; rfl
def fComb (ts : List Term) (ms : List Int) : Term × Bool :=
  bif ts.all vT && decide (ts.length ≤ 14) && decide (ms.length = ts.length) && ms.all inM then
    chk (Term.mk (lin ts ms Term.Const ts.length) (trim (tab fun i => lin ts ms (fun t => coef t.Coeffs i) ts.length))) else (Term.mk 0 [], false)
theorem comb_lin {ts : List Term} {ms : List Int} (h1 : ts.all vT = true) (h2 : ts.length ≤ 14) (h3 : ms.length = ts.length) (h4 : ms.all inM = true) : Lin ts ms :=
  ⟨fun t ht => List.all_eq_true.1 h1 t ht, fun m hm => inM_ok (List.all_eq_true.1 h4 m hm), h2, h3⟩
theorem spec_comb {ts : List Term} {ms : List Int} (hl : cTermS ts ≤ 1048576) (hm : ms.length ≤ 1048576) : m_spec_CombineTerms ts ms = some (fComb ts ms) := by
  unfold m_spec_CombineTerms fComb
  rw [show (14 : Int) = ((14 : Nat) : Int) from rfl, spec_all hl, Option.bind_some, spec_mult hm, dec_eqN]
  cases h1 : ts.all vT with
  | false => rfl
  | true =>
    by_cases h2 : ts.length ≤ 14
    · by_cases h3 : ms.length = ts.length
      · rw [decide_eq_true h2, decide_eq_true h3]
        cases h4 : ms.all inM with
        | false => rfl
        | true => simp only [spec_combine (comb_lin h1 h2 h3 h4)]; rfl
      · rw [decide_eq_false h3]; simp
    · rw [decide_eq_false h2]; rfl
theorem impl_comb {ts : List Term} {ms : List Int} : m_impl_CombineTerms ts ms = some (fComb ts ms) := by
  unfold m_impl_CombineTerms fComb m_impl_ValidFacts
  rw [show (14 : Int) = ((14 : Nat) : Int) from rfl, impl_terms, impl_all, dec_eqN]
  change ((some _).bind _).bind (fun r7 => bif (!r7 || _) then _ else (some (ms.all inM)).bind _) = _
  cases h1 : ts.all vT with
  | false => simp
  | true =>
    by_cases h2 : ts.length ≤ 14
    · by_cases h3 : ms.length = ts.length
      · cases h4 : ms.all inM with
        | false => simp [h2, h3]
        | true => simp [h2, h3, impl_combined (comb_lin h1 h2 h3 h4), impl_checked]
      · simp [h2, h3]
    · simp [h2]
theorem fComb_small (ts : List Term) (ms : List Int) : small (fComb ts ms) := by
  unfold fComb
  cases ts.all vT && decide (ts.length ≤ 14) && decide (ms.length = ts.length) && ms.all inM
  · exact Nat.zero_le _
  · exact chk_small _
theorem law_CombineTerms {ts : List Term} {ms : List Int} (kt : kLa_Term ts) (km : kLa_i64 ms) : m_laws_FnExactCombineTerms ts ms = some true := by
  unfold m_laws_FnExactCombineTerms
  by_cases h0 : ms.length ≤ 1048576
  · rw [decide_eq_false (by omega), cond_false, show (1048576 : Int) = ((1048576 : Nat) : Int) from rfl, sz_TermS kt _ (Nat.le_refl _), Option.bind_some]
    by_cases h1 : cTermS ts ≤ 1048576
    · obtain ⟨r1, a1⟩ := mk_TermS h1 (k := 1) (by omega)
      obtain ⟨r2, a2, _⟩ := mk_ints h0 (k := 1 + cTermS ts) (by omega)
      obtain ⟨r3, a3, b3⟩ := mk_Term (fComb_small ts ms) (k := 1) (by omega)
      replace a1 : m_laws_markTermS ts 1 = _ := a1
      replace a3 : m_laws_markTerm (fComb ts ms).1 1 = _ := a3
      replace b3 : m_laws_heldTerm (Term.mk (fComb ts ms).1.Const r3) 1 = _ := b3
      simp only [szOut_ok h1, dec_neg, cond_false, Option.bind_some, to_TermS h1, to_ints h0, spec_comb h1 h0, impl_comb, eq_Term (fComb_small ts ms), eq_TermS h1, eq_ints (show ms.length ≤ 9223372036854775807 by omega), decide_true, bool_beq, Bool.not_true, Bool.or_false, a1, a2, a3, b3]
    · rw [szOut_no h1]; rfl
  · rw [decide_eq_true (by omega)]; rfl
def fRef (r : Term × Bool) : Bool := (r.2 && decide ((r.1.Coeffs.length : Int) = 0)) && decide (r.1.Const < 0)
theorem spec_ref {ts : List Term} {ms : List Int} (hl : cTermS ts ≤ 1048576) (hm : ms.length ≤ 1048576) : m_spec_IsRefuted ts ms = some (fRef (fComb ts ms)) := by
  unfold m_spec_IsRefuted fComb
  rw [show (14 : Int) = ((14 : Nat) : Int) from rfl, spec_all hl, Option.bind_some, spec_mult hm, dec_eqN]
  cases h1 : ts.all vT with
  | false => rfl
  | true =>
    by_cases h2 : ts.length ≤ 14
    · by_cases h3 : ms.length = ts.length
      · rw [decide_eq_true h2, decide_eq_true h3]
        cases h4 : ms.all inM with
        | false => rfl
        | true => simp only [spec_combine (comb_lin h1 h2 h3 h4)]; rfl
      · rw [decide_eq_false h3]; simp [fRef]
    · rw [decide_eq_false h2]; rfl
theorem law_IsRefuted {ts : List Term} {ms : List Int} (kt : kLa_Term ts) (km : kLa_i64 ms) : m_laws_FnExactIsRefuted ts ms = some true := by
  unfold m_laws_FnExactIsRefuted
  by_cases h0 : ms.length ≤ 1048576
  · rw [decide_eq_false (by omega), cond_false, show (1048576 : Int) = ((1048576 : Nat) : Int) from rfl, sz_TermS kt _ (Nat.le_refl _), Option.bind_some]
    by_cases h1 : cTermS ts ≤ 1048576
    · have hi : m_impl_IsRefuted ts ms = some (fRef (fComb ts ms)) := by unfold m_impl_IsRefuted; rw [impl_comb]; rfl
      simp only [szOut_ok h1, dec_neg, cond_false, Option.bind_some, to_TermS h1, to_ints h0, spec_ref h1 h0, hi, eq_TermS h1, eq_ints (show ms.length ≤ 9223372036854775807 by omega), decide_true, bool_beq, Bool.not_true, Bool.or_false]
    · rw [szOut_no h1]; rfl
  · rw [decide_eq_true (by omega)]; rfl
end Go.Mod

/- Sequents and their contexts. Plain Lean. -/
namespace Go.Mod
open Go.AM
set_option linter.unusedVariables false
set_option linter.unusedSimpArgs false

theorem mk_ints' {xs : List Int} {k : Nat} (hk : k + xs.length ≤ 4611686018427387904) :
    ∃ xs', m_laws_markInt64S xs k = some (((k + xs.length : Nat) : Int), xs') ∧ m_laws_heldInt64S xs' k = some ((k + xs.length : Nat) : Int) := by
  obtain ⟨xs', h1, h2, h3⟩ := iter_mark (xs := xs) (m := fun _ => 1) (mk := markI) (held := heldI)
    (step := m_laws_markInt64S_L0) (hstep := m_laws_heldInt64S_L0)
    (fun n ys x k hk hx => by unfold m_laws_markInt64S_L0; rw [dec_lt (get_lt hx), cond_true, getI_some hx]; rfl)
    (fun ys k => by unfold m_laws_markInt64S_L0; rw [dec_self]; rfl)
    (fun n ys x k hk hx => by
      unfold m_laws_heldInt64S_L0 heldI; rw [dec_lt (get_lt hx), cond_true, getI_some hx, Option.bind_some, Option.bind_some]
      have h2 : w64 ((k : Int) + 1) = ((k + 1 : Nat) : Int) := w64_succ (by omega)
      by_cases h : x = k
      · rw [decide_eq_true h, Bool.not_true, cond_false, cond_false, h2, decide_eq_false (by omega), cond_false]
      · rw [decide_eq_false h, Bool.not_false, cond_true, cond_true, decide_eq_true (by decide), cond_true])
    (fun ys k => by unfold m_laws_heldInt64S_L0; rw [dec_self]; rfl)
    (by omega) (fun x _ => mk_I x) (k := k) (by rw [sum_one]; omega)
  rw [sum_one] at h1 h3
  exact ⟨xs', by unfold m_laws_markInt64S; rw [h1]; rfl, by unfold m_laws_heldInt64S; rw [h3]; rfl⟩
noncomputable def heldEl (x : Term) (k : Int) : Option Int := bif !decide (x.Const = k) then some (-1) else m_laws_heldInt64S x.Coeffs (w64 (k + 1))
theorem mk_El (x : Term) : MkP mkEl heldEl (fun x => 1 + cTerm x) x := fun k hk => by
  simp only [cTerm] at hk ⊢
  obtain ⟨r, h1, h2⟩ := mk_ints' (xs := x.Coeffs) (k := k + 1) (by omega)
  refine ⟨Term.mk k r, ?_, ?_⟩
  · unfold mkEl
    rw [w64_succ (by omega), h1, Option.bind_some]
    congr 3; omega
  · unfold heldEl
    rw [decide_eq_true rfl, Bool.not_true, cond_false, w64_succ (by omega), h2]
    congr 2; omega
theorem sum_add {α : Type} (c : α → Nat) (xs : List α) : (xs.map fun x => 1 + c x).sum = xs.length + (xs.map c).sum := by
  induction xs with
  | nil => rfl
  | cons x r ih => simp only [List.map_cons, List.sum_cons, List.length_cons, ih]; omega
theorem mkh_TermS {ts : List Term} {k : Nat} (hk : k + cTermS ts ≤ 4611686018427387904) :
    ∃ ts', m_laws_markTermS ts k = some (((k + cTermS ts : Nat) : Int), ts') ∧ m_laws_heldTermS ts' k = some ((k + cTermS ts : Nat) : Int) := by
  unfold cTermS at hk ⊢
  obtain ⟨xs', h1, h2, h3⟩ := iter_mark (xs := ts) (m := fun x => 1 + cTerm x) (mk := mkEl) (held := heldEl)
    (step := m_laws_markTermS_L0) (hstep := m_laws_heldTermS_L0)
    (fun n ys x k hk hx => by
      unfold m_laws_markTermS_L0 mkEl
      have hn := get_lt hx
      simp only
      rw [dec_lt hn, cond_true, getI_some hx, Option.bind_some, Int.toNat_natCast, getI_some (x := Term.mk k x.Coeffs) (by rw [List.getElem?_set_self hn]), Option.bind_some]
      cases m_laws_markInt64S x.Coeffs (w64 ((k : Int) + 1)) with
      | none => rfl
      | some r => simp only [Option.bind_some, List.set_set])
    (fun ys k => by unfold m_laws_markTermS_L0; simp only; rw [dec_self]; rfl)
    (fun n ys x k hk hx => by
      unfold m_laws_heldTermS_L0 heldEl
      simp only
      rw [dec_lt (get_lt hx), cond_true, getI_some hx, Option.bind_some]
      by_cases h : x.Const = k
      · rw [decide_eq_true h]; rfl
      · rw [decide_eq_false h, Bool.not_false, cond_true, cond_true, Option.bind_some, decide_eq_true (by decide), cond_true])
    (fun ys k => by unfold m_laws_heldTermS_L0; simp only; rw [dec_self]; rfl)
    (by omega) (fun x _ => mk_El x) (k := k) (by rw [sum_add]; omega)
  rw [sum_add] at h1 h3
  exact ⟨xs', by unfold m_laws_markTermS; rw [h1]; rfl, by unfold m_laws_heldTermS; rw [h3]; rfl⟩
theorem mkh_Term {t : Term} {k : Nat} (hk : k + cTerm t ≤ 4611686018427387904) :
    ∃ r, m_laws_markTerm t k = some (((k + cTerm t : Nat) : Int), r) ∧ m_laws_heldTerm (Term.mk t.Const r) k = some ((k + cTerm t : Nat) : Int) := by
  obtain ⟨r, h1, h2⟩ := mk_ints' hk
  refine ⟨r, ?_, ?_⟩
  · unfold m_laws_markTerm; rw [h1]; rfl
  · unfold m_laws_heldTerm; rw [h2, Option.bind_some, decide_eq_false (by omega)]; rfl

/-! ### Sequents -/
def cSeq (s : Sequent) : Nat := cTermS s.Facts + cTerm s.Goal
theorem sz_Seq {s : Sequent} (k : k_Sequent s) : SzP m_laws_szSequent cSeq s := fun b hb => by
  unfold m_laws_szSequent cSeq
  rw [sz_TermS k.1 b hb, Option.bind_some]
  by_cases h : cTermS s.Facts ≤ b
  · rw [szOut_ok h, dec_neg, cond_false, sz_Term k.2.2.1 _ (by omega), Option.bind_some]
    by_cases h2 : cTerm s.Goal ≤ b - cTermS s.Facts
    · rw [szOut_ok h2, dec_neg, cond_false, szOut_ok (by omega)]; congr 2; omega
    · rw [szOut_no h2, szOut_no (by omega)]; rfl
  · rw [szOut_no h, szOut_no (by omega)]; rfl
theorem to_Seq {s : Sequent} (hl : cSeq s ≤ 1048576) : m_laws_toSequent s = some s := by
  unfold cSeq at hl
  unfold m_laws_toSequent; rw [to_TermS (by omega), Option.bind_some, to_Term (by omega)]; rfl
theorem eq_Seq {x y : Sequent} (hl : cSeq x ≤ 1048576) : m_laws_eqSequent x y = some (decide (x = y)) := by
  unfold cSeq at hl
  unfold m_laws_eqSequent
  rw [eq_TermS (by omega), eq_Term (by omega)]
  obtain ⟨a, as⟩ := x
  obtain ⟨b, bs⟩ := y
  by_cases h1 : a = b <;> by_cases h2 : as = bs <;> simp [h1, h2]
theorem mk_Seq {s : Sequent} {k : Nat} (hk : k + cSeq s ≤ 4611686018427387904) : ∃ r, m_laws_markSequent s k = some (((k + cSeq s : Nat) : Int), r) := by
  unfold cSeq at hk ⊢
  obtain ⟨r1, a1, _⟩ := mkh_TermS (ts := s.Facts) (k := k) (by omega)
  obtain ⟨r2, a2, _⟩ := mkh_Term (t := s.Goal) (k := k + cTermS s.Facts) (by omega)
  refine ⟨(r1, r2), ?_⟩
  unfold m_laws_markSequent
  rw [a1, Option.bind_some, a2, Option.bind_some, Nat.add_assoc]

theorem foldl_snoc {α : Type} (xs s : List α) : xs.foldl (fun s x => s ++ [x]) s = s ++ xs := by
  induction xs generalizing s with
  | nil => simp
  | cons x r ih => simp [ih]
theorem impl_ownTerms {ts : List Term} (hl : cTermS ts ≤ 1048576) : m_impl_ownTerms ts = some ts := by
  have hlen : ts.length ≤ 1048576 := by unfold cTermS at hl; omega
  unfold m_impl_ownTerms
  rw [forL_fold (fun s x => s ++ [x]) (fun k s => s.length = k) ts 0 [] rfl (fun n x s hx hs => by
    have := get_lt hx
    unfold m_impl_ownTerms_L0
    rw [impl_own (by have := cTermS_mem (List.mem_of_getElem? hx); unfold cTerm at this; omega), Option.bind_some, capI_some (by simp; omega), Option.bind_some]
    exact ⟨rfl, by simp [hs]⟩), Option.bind_some, foldl_snoc]
  rfl
theorem spec_ownAll {ts : List Term} (hl : cTermS ts ≤ 1048576) : m_spec_l02OwnAll ts = some ts := by
  have hlen : ts.length ≤ 1048576 := by unfold cTermS at hl; omega
  have h := iter_for (step := m_spec_l02OwnAll_L0 ts) ts (fun n (s : List Term) => (s, (n : Int))) m_impl_ownTerms_L0 (fun s0 => s0)
    (fun n x r hx => by
      unfold m_spec_l02OwnAll_L0 m_impl_ownTerms_L0 m_spec_l02Own
      have hc := cTermS_mem (List.mem_of_getElem? hx)
      unfold cTerm at hc
      simp only
      rw [dec_lt (get_lt hx), cond_true, getI_some hx, Option.bind_some, spec_own (by omega), Option.bind_some, Option.bind_some, impl_own (by omega), Option.bind_some]
      simp only [List.length_cons, List.length_nil, Nat.zero_add]
      cases capI (r.length + 1) 32 with
      | none => rfl
      | some u => simp only [Option.bind_some]; rw [w64_succ (by have := get_lt hx; omega)]; rfl)
    (fun r => by unfold m_spec_l02OwnAll_L0; simp only; rw [dec_self]; rfl) ([] : List Term)
  have h2 := impl_ownTerms hl
  unfold m_impl_ownTerms at h2
  unfold m_spec_l02OwnAll
  rw [show (0 : Int) = ((0 : Nat) : Int) from rfl, h]
  exact h2

def opp (t : Term) : Term := Term.mk (-t.Const - 1) (trim (tab fun i => -coef t.Coeffs i))
theorem spec_opposite {t : Term} (h : vT t = true) : m_spec_l02Opposite t = some (chk (opp t)) := by
  unfold m_spec_l02Opposite
  rw [spec_sum h (vT_one 1 rfl) (by unfold mOK; omega) (by unfold mOK; omega)]
  simp only [coef_nil, Int.mul_zero, Int.add_zero, Int.neg_mul, Int.one_mul]; rfl
theorem impl_opposite {t : Term} (h : vT t = true) : m_impl_Term_opposite t = some (opp t) := by
  unfold m_impl_Term_opposite
  have := const_rng h
  rw [impl_combined ⟨by simp [h], by simp [mOK], by simp, rfl⟩]
  simp only [List.length_cons, List.length_nil, Nat.zero_add, lin_one, Option.bind_some, Int.neg_mul, Int.one_mul]
  rw [w64_eq (by omega)]; rfl
theorem opp_len (t : Term) : (opp t).Coeffs.length ≤ 10 := by unfold opp; have := trim_len (tab fun i => -coef t.Coeffs i); rw [tab_len] at this; exact this
def vSeq (s : Sequent) : Bool := s.Facts.all vT && decide (s.Facts.length ≤ 13) && vT s.Goal
def fCtx (s : Sequent) : List Term × Bool := bif vSeq s && vT (opp s.Goal) then (s.Facts ++ [opp s.Goal], true) else ([], false)
theorem spec_ctx {s : Sequent} (hl : cSeq s ≤ 1048576) : m_spec_ContextOf s = some (fCtx s) := by
  unfold cSeq at hl
  have hlen : s.Facts.length ≤ 1048576 := by have : s.Facts.length ≤ cTermS s.Facts := by { unfold cTermS; omega }; omega
  unfold m_spec_ContextOf m_spec_l02Sequent fCtx vSeq
  rw [show (13 : Int) = ((13 : Nat) : Int) from rfl, spec_all (by omega), Option.bind_some, spec_is (by omega)]
  cases h1 : s.Facts.all vT && decide (s.Facts.length ≤ 13) with
  | false => rfl
  | true =>
    cases h2 : vT s.Goal with
    | false => rfl
    | true =>
      unfold m_spec_l02Context
      simp only [cond_true, Option.bind_some, Bool.not_true, cond_false, Bool.true_and]
      rw [spec_opposite h2, Option.bind_some, spec_ownAll (by omega)]
      unfold chk
      cases h3 : vT (opp s.Goal) with
      | false => rfl
      | true =>
        simp only [cond_true, Bool.not_true, cond_false, Option.bind_some]
        rw [capI_some (by simp; omega)]; rfl
theorem impl_ctx {s : Sequent} (hl : cSeq s ≤ 1048576) : m_impl_ContextOf s = some (fCtx s) := by
  unfold cSeq at hl
  have hlen : s.Facts.length ≤ 1048576 := by have : s.Facts.length ≤ cTermS s.Facts := by { unfold cTermS; omega }; omega
  unfold m_impl_ContextOf m_impl_ValidSequent fCtx vSeq
  rw [show (13 : Int) = ((13 : Nat) : Int) from rfl, impl_terms, Option.bind_some, impl_valid, Bool.and_comm (decide (s.Facts.length ≤ 13))]
  cases h1 : s.Facts.all vT && decide (s.Facts.length ≤ 13) with
  | false => rfl
  | true =>
    cases h2 : vT s.Goal with
    | false => rfl
    | true =>
      simp only [cond_true, Option.bind_some, Bool.not_true, cond_false, Bool.true_and]
      rw [impl_opposite h2, Option.bind_some, impl_valid, Option.bind_some, impl_ownTerms (by omega), Option.bind_some, Option.bind_some, impl_own (by have := opp_len s.Goal; omega), Option.bind_some]
      cases h3 : vT (opp s.Goal) with
      | false => rfl
      | true =>
        simp only [cond_true, Bool.not_true, cond_false]
        rw [capI_some (by simp; omega)]; rfl
theorem fCtx_small (s : Sequent) : cTermS (fCtx s).1 ≤ 1048576 := by
  unfold fCtx
  cases h : vSeq s && vT (opp s.Goal) with
  | false => exact Nat.zero_le _
  | true =>
    simp only [cond_true]
    simp only [vSeq, Bool.and_eq_true, List.all_eq_true, decide_eq_true_eq] at h
    have hk : ∀ (ts : List Term), (∀ t ∈ ts, vT t = true) → (ts.map cTerm).sum ≤ ts.length * 10 := by
      intro ts
      induction ts with
      | nil => intro _; simp
      | cons t r ih =>
        intro h
        have h1 := ih (fun t ht => h t (by simp [ht]))
        have h2 := vT_len (h t (by simp))
        simp only [List.map_cons, List.sum_cons, List.length_cons]
        unfold cTerm at *
        omega
    have h1 := hk (s.Facts ++ [opp s.Goal]) (fun t ht => by
      rcases List.mem_append.1 ht with ht | ht
      · exact h.1.1.1 t ht
      · rw [List.mem_singleton.1 ht]; exact h.2)
    unfold cTermS
    simp only [List.length_append, List.length_cons, List.length_nil] at h1 ⊢
    have := h.1.1.2
    omega
theorem law_ContextOf {s : Sequent} (ks : k_Sequent s) : m_laws_FnExactContextOf s = some true := by
  unfold m_laws_FnExactContextOf
  rw [show (1048576 : Int) = ((1048576 : Nat) : Int) from rfl, sz_Seq ks _ (Nat.le_refl _), Option.bind_some]
  by_cases h1 : cSeq s ≤ 1048576
  · have hs := fCtx_small s
    obtain ⟨r1, a1⟩ := mk_Seq (s := s) (k := 1) (by omega)
    obtain ⟨r3, a3, b3⟩ := mkh_TermS (ts := (fCtx s).1) (k := 1) (by omega)
    replace a1 : m_laws_markSequent s 1 = _ := a1
    replace a3 : m_laws_markTermS (fCtx s).1 1 = _ := a3
    replace b3 : m_laws_heldTermS r3 1 = _ := b3
    simp only [szOut_ok h1, dec_neg, cond_false, Option.bind_some, to_Seq h1, spec_ctx h1, impl_ctx h1, eq_TermS hs, eq_Seq h1, decide_true, bool_beq, Bool.not_true, Bool.or_false, a1, a3, b3]
  · rw [szOut_no h1]; rfl
end Go.Mod

/- Tightened terms. Plain Lean. -/
namespace Go.Mod
open Go.AM
set_option linter.unusedVariables false
set_option linter.unusedSimpArgs false

theorem euclid {step : Int × Int → Option (Ctl (Int × Int) Int)}
    (h0 : ∀ a : Nat, step ((a : Int), ((0 : Nat) : Int)) = some (.out (a : Int)))
    (hs : ∀ a b : Nat, 0 < b → step ((a : Int), (b : Int)) = some (.next ((b : Int), ((a % b : Nat) : Int)))) : ∀ (n b a : Nat), b < n → iter step ((a : Int), (b : Int)) = some ((Nat.gcd a b : Nat) : Int) := by
  intro n
  induction n with
  | zero => intro b a h; omega
  | succ n ih =>
    intro b a h
    by_cases hb : b = 0
    · subst hb; rw [iter_out (h0 a), Nat.gcd_zero_right]
    · rw [iter_next (hs a b (by omega)), ih (a % b) b (by have := Nat.mod_lt a (Nat.pos_of_ne_zero hb); omega)]
      congr 2
      rw [Nat.gcd_comm a b, Nat.gcd_rec b a, Nat.gcd_comm]
theorem rem_nat {a b : Nat} (hb : 0 < b) : remI (a : Int) (b : Int) = some ((a % b : Nat) : Int) := by
  unfold remI
  rw [decide_eq_false (by omega), cond_false]
  rfl
theorem spec_euclid (a b : Nat) : iter m_spec_l02Divisor_L1 ((a : Int), (b : Int)) = some ((Nat.gcd a b : Nat) : Int) :=
  euclid (fun a => rfl) (fun a b hb => by
    unfold m_spec_l02Divisor_L1
    simp only
    rw [decide_eq_true (by omega), cond_true, rem_nat hb]; rfl) (b + 1) b a (Nat.lt_succ_self _)
theorem impl_euclid (a b : Nat) : iter m_impl_gcd_L1 ((a : Int), (b : Int)) = some ((Nat.gcd a b : Nat) : Int) :=
  euclid (fun a => rfl) (fun a b hb => by
    unfold m_impl_gcd_L1
    simp only
    rw [decide_eq_false (by omega), Bool.not_false, cond_true, rem_nat hb]; rfl) (b + 1) b a (Nat.lt_succ_self _)
def gcdL (xs : List Int) : Nat := xs.foldl (fun d x => Nat.gcd d x.natAbs) 0
theorem foldl_cast (xs : List Int) : ∀ (d : Nat), xs.foldl (fun (d : Int) x => ((Nat.gcd d.toNat x.natAbs : Nat) : Int)) (d : Int) = ((xs.foldl (fun d x => Nat.gcd d x.natAbs) d : Nat) : Int) := by
  induction xs with
  | nil => intro d; rfl
  | cons x r ih => intro d; simp only [List.foldl_cons, Int.toNat_natCast]; exact ih _
theorem impl_gcd {xs : List Int} (h : ∀ x ∈ xs, inR x = true) : m_impl_gcd xs = some ((gcdL xs : Nat) : Int) := by
  unfold m_impl_gcd
  rw [forL_fold (fun (d : Int) x => ((Nat.gcd d.toNat x.natAbs : Nat) : Int)) (fun _ d => 0 ≤ d) xs 0 0 (Int.le_refl 0) (fun n x d hx hd => by
    have hr := inR_iff.1 (h x (List.mem_of_getElem? hx))
    unfold m_impl_gcd_L0 m_impl_absolute
    rw [Option.bind_some, w64_eq (by omega), show max x (0 - x) = ((x.natAbs : Nat) : Int) by omega, show d = ((d.toNat : Nat) : Int) by omega, impl_euclid, Option.bind_some]
    exact ⟨by rw [Int.toNat_natCast]; rfl, by omega⟩), Option.bind_some]
  have := foldl_cast xs 0
  exact congrArg some this
theorem spec_gcd {t : Term} (h : ∀ x ∈ t.Coeffs, inR x = true) (hl : t.Coeffs.length ≤ 1048576) : m_spec_l02Divisor t = some ((gcdL t.Coeffs : Nat) : Int) := by
  have h2 := iter_for (step := m_spec_l02Divisor_L0 t) t.Coeffs (fun n (d : Nat) => ((d : Int), (n : Int))) (fun n x d => some (.next (Nat.gcd d x.natAbs))) (fun d => ((d : Nat) : Int))
    (fun n x d hx => by
      have hr := inR_iff.1 (h x (List.mem_of_getElem? hx))
      unfold m_spec_l02Divisor_L0 m_spec_l00Max
      simp only
      rw [dec_lt (get_lt hx), cond_true, getI_some hx, Option.bind_some, w64_eq (n := 0 - x) (by omega)]
      have e : (bif decide (0 - x < x) then some x else some (0 - x)) = some ((x.natAbs : Nat) : Int) := by
        by_cases h : 0 - x < x
        · rw [decide_eq_true h, cond_true, show ((x.natAbs : Nat) : Int) = x by omega]
        · rw [decide_eq_false h, cond_false, show ((x.natAbs : Nat) : Int) = 0 - x by omega]
      rw [e, Option.bind_some, spec_euclid, Option.bind_some]
      unfold m_spec_l02Divisor_A1
      simp only
      rw [w64_succ (by have := get_lt hx; omega)]; rfl)
    (fun r => by unfold m_spec_l02Divisor_L0; simp only; rw [dec_self]; rfl) 0
  rw [forL_fold (fun (d : Nat) x => Nat.gcd d x.natAbs) (fun _ _ => True) t.Coeffs 0 0 trivial (fun n x d hx _ => ⟨rfl, trivial⟩)] at h2
  unfold m_spec_l02Divisor
  rw [show ((0 : Int), (0 : Int)) = (((0 : Nat) : Int), ((0 : Nat) : Int)) from rfl, h2]
  rfl

theorem foldl_dvd (xs : List Int) : ∀ (d : Nat), (xs.foldl (fun d x => Nat.gcd d x.natAbs) d) ∣ d ∧ ∀ x ∈ xs, (xs.foldl (fun d x => Nat.gcd d x.natAbs) d) ∣ x.natAbs := by
  induction xs with
  | nil => intro d; exact ⟨Nat.dvd_refl d, fun x h => by cases h⟩
  | cons y r ih =>
    intro d
    obtain ⟨h1, h2⟩ := ih (Nat.gcd d y.natAbs)
    simp only [List.foldl_cons]
    refine ⟨Nat.dvd_trans h1 (Nat.gcd_dvd_left _ _), fun x hx => ?_⟩
    rcases List.mem_cons.1 hx with rfl | hx
    · exact Nat.dvd_trans h1 (Nat.gcd_dvd_right _ _)
    · exact h2 x hx
theorem gcdL_dvd {xs : List Int} {x : Int} (h : x ∈ xs) : gcdL xs ∣ x.natAbs := (foldl_dvd xs 0).2 x h

/-! ### Quotients -/
theorem tdiv_rng {x : Int} {d : Nat} (hd : 2 ≤ d) (h : inR x = true) : inR (x.tdiv d) = true ∧ -500000 ≤ x.tdiv d ∧ x.tdiv d ≤ 500000 := by
  have hr := inR_iff.1 h
  have key : ∀ n : Nat, n ≤ 1000000 → n / d ≤ 500000 := by
    intro n hn
    rw [Nat.div_le_iff_le_mul_add_pred (by omega)]
    have : d * 500000 ≥ 2 * 500000 := Nat.mul_le_mul_right _ hd
    omega
  have : -500000 ≤ x.tdiv d ∧ x.tdiv d ≤ 500000 := by
    rcases Int.le_total 0 x with h0 | h0
    · obtain ⟨n, rfl⟩ := Int.eq_ofNat_of_zero_le h0
      have := key n (by omega)
      rw [show ((n : Int).tdiv (d : Int)) = ((n / d : Nat) : Int) from rfl]
      generalize n / d = q at this ⊢
      omega
    · obtain ⟨n, hn⟩ := Int.eq_ofNat_of_zero_le (show 0 ≤ -x by omega)
      have := key n (by omega)
      have e : x.tdiv d = -((n / d : Nat) : Int) := by
        rw [show x = -(n : Int) by omega, Int.neg_tdiv]; rfl
      rw [e]
      generalize n / d = q at this ⊢
      omega
  exact ⟨inR_iff.2 (by omega), this⟩
theorem tdiv_ne {x : Int} {d : Nat} (hd : 0 < d) (hx : x ≠ 0) (h : d ∣ x.natAbs) : x.tdiv d ≠ 0 := by
  obtain ⟨k, hk⟩ := h
  intro h0
  have h1 : (x.tdiv d) * d = x := Int.tdiv_mul_cancel (Int.natAbs_dvd_natAbs.1 (by simpa using ⟨k, hk⟩))
  rw [h0, Int.zero_mul] at h1
  exact hx h1.symm
theorem quo_nat {x : Int} {d : Nat} (hd : 2 ≤ d) (h : inR x = true) : quoI x (d : Int) = some (x.tdiv d) := by
  have := (tdiv_rng hd h).2
  unfold quoI
  rw [decide_eq_false (by omega), cond_false, w64_eq (by omega)]
def quos (xs : List Int) (d : Nat) : List Int := xs.map fun x => x.tdiv d
def flo (c : Int) (d : Nat) : Int := if c.tmod d < 0 then c.tdiv d - 1 else c.tdiv d
theorem flo_rng {c : Int} {d : Nat} (hd : 2 ≤ d) (h : inR c = true) : inR (flo c d) = true := by
  have := (tdiv_rng hd h).2
  unfold flo
  split <;> exact inR_iff.2 (by omega)
theorem trim_id {xs : List Int} (h : lastOK xs = true) : trim xs = xs := by
  unfold trim
  cases hn : xs.length with
  | zero => rw [List.length_eq_zero_iff.1 hn]; rfl
  | succ n =>
    have hl : xs.getLast? = xs[n]? := by rw [List.getLast?_eq_getElem?, hn]; rfl
    have hx : xs[n]? = some xs[n] := by simp
    unfold lastOK at h
    rw [hl, hx] at h
    simp at h
    unfold tl
    rw [if_neg (by rw [hx]; simpa using h), ← hn, List.take_length]
theorem quos_last {xs : List Int} {d : Nat} (hd : 0 < d) (h : lastOK xs = true) (hv : ∀ x ∈ xs, d ∣ x.natAbs) : lastOK (quos xs d) = true := by
  unfold lastOK quos at *
  rw [List.getLast?_map]
  cases hx : xs.getLast? with
  | none => rfl
  | some x =>
    rw [hx] at h
    simp at h
    have := tdiv_ne hd h (hv x (List.mem_of_getLast? hx))
    simpa using this
theorem vT_last {t : Term} (h : vT t = true) : lastOK t.Coeffs = true := by simp [vT] at h; exact h.1.2
theorem tight_valid {t : Term} (h : vT t = true) (hd : 2 ≤ gcdL t.Coeffs) : vT (Term.mk (flo t.Const (gcdL t.Coeffs)) (quos t.Coeffs (gcdL t.Coeffs))) = true := by
  have h1 := vT_len h
  have h2 := quos_last (d := gcdL t.Coeffs) (by omega) (vT_last h) (fun x hx => gcdL_dvd hx)
  have h3 := flo_rng hd (vT_const h)
  have h4 : (quos t.Coeffs (gcdL t.Coeffs)).all inR = true := by
    rw [List.all_eq_true]
    intro y hy
    obtain ⟨x, hx, rfl⟩ := List.mem_map.1 hy
    exact (tdiv_rng hd (vT_coef h x hx)).1
  unfold vT
  rw [h2, h3, h4]
  simp [quos, h1]
def fTight (t : Term) : Term × Bool :=
  bif vT t && decide (2 ≤ gcdL t.Coeffs) then (Term.mk (flo t.Const (gcdL t.Coeffs)) (quos t.Coeffs (gcdL t.Coeffs)), true) else (Term.mk 0 [], false)
theorem spec_quos {t : Term} {d : Nat} (hd : 2 ≤ d) (h : ∀ x ∈ t.Coeffs, inR x = true) (hl : t.Coeffs.length ≤ 1048576) : iter (m_spec_l02Tight_L0 t (d : Int)) ([], 0) = some (quos t.Coeffs d) := by
  have h2 := iter_for (step := m_spec_l02Tight_L0 t (d : Int)) t.Coeffs (fun n (s : List Int) => (s, (n : Int))) (fun n x s => (capI (s.length + 1) 8).bind fun _ => some (.next (s ++ [x.tdiv d]))) (fun s => s)
    (fun n x s hx => by
      unfold m_spec_l02Tight_L0
      simp only
      rw [dec_lt (get_lt hx), cond_true, getI_some hx, Option.bind_some, quo_nat hd (h x (List.mem_of_getElem? hx)), Option.bind_some]
      simp only [List.length_cons, List.length_nil, Nat.zero_add]
      cases capI (s.length + 1) 8 with
      | none => rfl
      | some u => simp only [Option.bind_some]; rw [w64_succ (by have := get_lt hx; omega)]; rfl)
    (fun r => by unfold m_spec_l02Tight_L0; simp only; rw [dec_self]; rfl) []
  rw [forL_fold (fun s x => s ++ [x.tdiv d]) (fun k s => s.length = k) t.Coeffs 0 [] rfl (fun n x s hx hs => by
    have := get_lt hx
    rw [capI_some (by omega), Option.bind_some]
    exact ⟨rfl, by simp [hs]⟩)] at h2
  rw [show (([] : List Int), (0 : Int)) = ([], ((0 : Nat) : Int)) from rfl, h2]
  congr 1
  have : ∀ (xs s : List Int), xs.foldl (fun s x => s ++ [x.tdiv d]) s = s ++ xs.map fun x => x.tdiv d := by
    intro xs
    induction xs with
    | nil => intro s; simp
    | cons x r ih => intro s; simp [ih]
  exact this t.Coeffs []
theorem impl_quos {t : Term} {d : Nat} (hd : 2 ≤ d) (h : ∀ x ∈ t.Coeffs, inR x = true) (hl : t.Coeffs.length ≤ 1048576) : iter (m_impl_Term_tightened_L0 (d : Int) t) (t.Coeffs, 0) = some (quos t.Coeffs d) := by
  have key : ∀ (m n : Nat), n + m = t.Coeffs.length → iter (m_impl_Term_tightened_L0 (d : Int) t) (quos (t.Coeffs.take n) d ++ t.Coeffs.drop n, (n : Int)) = some (quos t.Coeffs d) := by
    intro m
    induction m with
    | zero =>
      intro n hn
      obtain rfl : n = t.Coeffs.length := by omega
      rw [iter_out (t := quos t.Coeffs d)]
      unfold m_impl_Term_tightened_L0
      simp only
      rw [dec_self, cond_false]
      simp
    | succ m ih =>
      intro n hn
      have hlt : n < t.Coeffs.length := by omega
      have hx : t.Coeffs[n]? = some t.Coeffs[n] := by simp
      have hql : (quos (t.Coeffs.take n) d).length = n := by unfold quos; simp; omega
      have hg : (quos (t.Coeffs.take n) d ++ t.Coeffs.drop n)[n]? = some t.Coeffs[n] := by
        rw [List.getElem?_append_right (by omega), hql, Nat.sub_self]; simp
      rw [iter_next (s' := (quos (t.Coeffs.take (n + 1)) d ++ t.Coeffs.drop (n + 1), ((n + 1 : Nat) : Int)))]
      · exact ih (n + 1) (by omega)
      · unfold m_impl_Term_tightened_L0
        simp only
        rw [dec_lt hlt, cond_true, getI_some hg, Option.bind_some, quo_nat hd (h _ (List.mem_of_getElem? hx)), Option.bind_some, w64_succ (by omega), Int.toNat_natCast]
        congr 3
        rw [List.set_append_right _ _ (by omega), hql, Nat.sub_self, List.drop_eq_getElem_cons hlt, List.set_cons_zero, List.take_add_one, hx, Option.toList_some, show ∀ ys, quos (ys ++ [t.Coeffs[n]]) d = quos ys d ++ [t.Coeffs[n].tdiv d] by intro ys; simp [quos], List.append_assoc]
        rfl
  have := key t.Coeffs.length 0 (by omega)
  simpa [quos] using this
theorem spec_tight {t : Term} (hl : cTerm t ≤ 1048576) : m_spec_TightenTerm t = some (fTight t) := by
  unfold m_spec_TightenTerm fTight
  rw [spec_is hl, Option.bind_some]
  cases h1 : vT t with
  | false => rfl
  | true =>
    unfold m_spec_l02Tight
    rw [spec_gcd (vT_coef h1) hl, Option.bind_some]
    by_cases h2 : 2 ≤ gcdL t.Coeffs
    · have hv := tight_valid h1 h2
      rw [decide_eq_false (by omega), cond_false, spec_quos h2 (vT_coef h1) hl, decide_eq_true h2]
      simp only [Bool.not_true, cond_false, Option.bind_some, Bool.true_and, cond_true]
      unfold m_spec_l02Tight_A0 m_spec_l02Tight_J0
      have hr := (tdiv_rng h2 (vT_const h1)).2
      have hm : ∀ c, m_spec_l02Make c (quos t.Coeffs (gcdL t.Coeffs)) = some (chk (Term.mk c (quos t.Coeffs (gcdL t.Coeffs)))) := by
        intro c
        rw [spec_make (by unfold quos; simp; have := vT_len h1; omega), trim_id (vT_last hv)]
      rw [quo_nat h2 (vT_const h1), Option.bind_some, show remI t.Const (gcdL t.Coeffs : Int) = some (t.Const.tmod (gcdL t.Coeffs)) by unfold remI; rw [decide_eq_false (by omega)]; rfl, Option.bind_some, hm, hm, w64_eq (by omega)]
      have e : ∀ c, c = flo t.Const (gcdL t.Coeffs) → (chk (Term.mk c (quos t.Coeffs (gcdL t.Coeffs)))) = (Term.mk (flo t.Const (gcdL t.Coeffs)) (quos t.Coeffs (gcdL t.Coeffs)), true) := by
        rintro c rfl
        unfold chk; rw [hv]; rfl
      by_cases h3 : t.Const.tmod (gcdL t.Coeffs) < 0
      · rw [decide_eq_true h3, cond_true, e _ (by unfold flo; rw [if_pos h3])]; rfl
      · rw [decide_eq_false h3, cond_false, e _ (by unfold flo; rw [if_neg h3])]; rfl
    · rw [decide_eq_true (show ((gcdL t.Coeffs : Nat) : Int) < 2 by omega), decide_eq_false h2]; rfl
theorem impl_tight {t : Term} : m_impl_TightenTerm t = some (fTight t) := by
  unfold m_impl_TightenTerm fTight
  rw [impl_valid, Option.bind_some]
  cases h1 : vT t with
  | false => rfl
  | true =>
    have hl := vT_len h1
    unfold m_impl_Term_tightened
    rw [impl_gcd (vT_coef h1), Option.bind_some]
    by_cases h2 : 2 ≤ gcdL t.Coeffs
    · have hr := (tdiv_rng h2 (vT_const h1)).2
      rw [decide_eq_false (by omega), cond_false, impl_own (by omega), decide_eq_true h2]
      simp only [Bool.not_true, cond_false, Option.bind_some, Bool.true_and, cond_true]
      unfold m_impl_divFloor
      rw [quo_nat h2 (vT_const h1), Option.bind_some, show remI t.Const (gcdL t.Coeffs : Int) = some (t.Const.tmod (gcdL t.Coeffs)) by unfold remI; rw [decide_eq_false (by omega)]; rfl, Option.bind_some, w64_eq (by omega)]
      have e : (bif decide (t.Const.tmod (gcdL t.Coeffs) < 0) then some (t.Const.tdiv (gcdL t.Coeffs) - 1) else some (t.Const.tdiv (gcdL t.Coeffs))) = some (flo t.Const (gcdL t.Coeffs)) := by
        unfold flo
        by_cases h3 : t.Const.tmod (gcdL t.Coeffs) < 0
        · rw [decide_eq_true h3, if_pos h3]; rfl
        · rw [decide_eq_false h3, if_neg h3]; rfl
      rw [e, Option.bind_some, impl_quos h2 (vT_coef h1) (by omega)]; rfl
    · rw [decide_eq_true (show ((gcdL t.Coeffs : Nat) : Int) ≤ 1 by omega), decide_eq_false h2]; rfl
theorem fTight_small (t : Term) : small (fTight t) := by
  unfold fTight small
  cases h : vT t && decide (2 ≤ gcdL t.Coeffs) with
  | false => exact Nat.zero_le _
  | true =>
    simp only [Bool.and_eq_true] at h
    have := vT_len h.1
    simp [cTerm, quos]; omega
theorem law_TightenTerm {p : Term} (kp : k_Term p) : m_laws_FnExactTightenTerm p = some true := by
  unfold m_laws_FnExactTightenTerm
  rw [show (1048576 : Int) = ((1048576 : Nat) : Int) from rfl, sz_Term kp.2.1 _ (Nat.le_refl _), Option.bind_some]
  by_cases h1 : cTerm p ≤ 1048576
  · have hs := fTight_small p
    unfold small at hs
    obtain ⟨r1, a1, b1⟩ := mkh_Term (t := p) (k := 1) (by omega)
    obtain ⟨r3, a3, b3⟩ := mkh_Term (t := (fTight p).1) (k := 1) (by omega)
    replace a1 : m_laws_markTerm p 1 = _ := a1
    replace a3 : m_laws_markTerm (fTight p).1 1 = _ := a3
    replace b3 : m_laws_heldTerm (Term.mk (fTight p).1.Const r3) 1 = _ := b3
    simp only [szOut_ok h1, dec_neg, cond_false, Option.bind_some, to_Term h1, spec_tight h1, impl_tight, eq_Term hs, eq_Term h1, decide_true, bool_beq, Bool.not_true, Bool.or_false, a1, a3, b3]
  · rw [szOut_no h1]; rfl
end Go.Mod

/- Substitutions. Plain Lean. -/
namespace Go.Mod
open Go.AM
set_option linter.unusedVariables false
set_option linter.unusedSimpArgs false

theorem lin_succ {ts : List Term} {ms : List Int} {n : Nat} {t : Term} {m : Int} (h1 : ts[n]? = some t) (h2 : ms[n]? = some m) (g : Term → Int) :
    lin ts ms g (n + 1) = lin ts ms g n + m * g t := by
  unfold lin
  rw [show sumN (fun k => coef ms k * g (tAt ts k)) (n + 1) = sumN (fun k => coef ms k * g (tAt ts k)) n + coef ms n * g (tAt ts n) from rfl, coef_get h2]
  unfold tAt
  rw [h1]; rfl
def unitT (n : Nat) : Term := Term.mk 0 ((List.replicate (n + 1) 0).set n 1)
theorem unit_coef (n i : Nat) : coef (unitT n).Coeffs i = if i = n then 1 else 0 := by
  unfold coef unitT
  simp only [List.getElem?_set, List.length_replicate, List.getElem?_replicate]
  by_cases h : i = n
  · subst h; simp
  · rw [if_neg (Ne.symm h), if_neg h]
    by_cases h2 : i < n + 1
    · rw [if_pos h2]; rfl
    · rw [if_neg h2]; rfl
theorem unit_valid : ∀ n, n < 10 → vT (unitT n) = true := by decide
def subT (ps : List Term) (n : Nat) : Term := match ps[n]? with | some t => t | none => unitT n
theorem subT_valid {ps : List Term} (h : ps.all vT = true) {n : Nat} (hn : n < 10) : vT (subT ps n) = true := by
  unfold subT
  cases hx : ps[n]? with
  | none => exact unit_valid n hn
  | some t => exact List.all_eq_true.1 h t (List.mem_of_getElem? hx)
def subL (p : Term) (ps : List Term) (n : Nat) : List Term := Term.mk p.Const [] :: (List.range n).map (subT ps)
def subM (p : Term) : List Int := 1 :: p.Coeffs
theorem sub_lin {p : Term} {ps : List Term} (hp : vT p = true) (hs : ps.all vT = true) : Lin (subL p ps p.Coeffs.length) (subM p) := by
  have hl := vT_len hp
  refine ⟨fun t ht => ?_, fun m hm => ?_, by simp [subL]; omega, by simp [subL, subM]⟩
  · unfold subL at ht
    rcases List.mem_cons.1 ht with rfl | ht
    · exact vT_one _ (vT_const hp)
    · obtain ⟨i, hi, rfl⟩ := List.mem_map.1 ht
      exact subT_valid hs (by rw [List.mem_range] at hi; omega)
  · unfold subM at hm
    rcases List.mem_cons.1 hm with rfl | hm
    · unfold mOK; omega
    · exact inR_iff.1 (vT_coef hp m hm)
def fSub (p : Term) (ps : List Term) : Term × Bool :=
  bif vT p && ps.all vT && decide (ps.length ≤ 10) then
    chk (Term.mk (lin (subL p ps p.Coeffs.length) (subM p) Term.Const (p.Coeffs.length + 1)) (trim (tab fun i => lin (subL p ps p.Coeffs.length) (subM p) (fun t => coef t.Coeffs i) (p.Coeffs.length + 1)))) else (Term.mk 0 [], false)
theorem impl_sub {p : Term} {ps : List Term} : m_impl_SubstituteTerm p ps = some (fSub p ps) := by
  unfold m_impl_SubstituteTerm fSub
  rw [impl_valid, Option.bind_some, show (10 : Int) = ((10 : Nat) : Int) from rfl, impl_terms, Option.bind_some]
  cases h1 : vT p with
  | false => rfl
  | true =>
    have hl := vT_len h1
    cases h2 : ps.all vT with
    | false => cases decide (ps.length ≤ 10) <;> rfl
    | true =>
      by_cases h3 : ps.length ≤ 10
      · rw [decide_eq_true h3]
        simp only [Bool.not_true, cond_false, Bool.and_true, Bool.true_and, cond_true]
        obtain ⟨u, e1, e2⟩ := forL_inv (step := m_impl_SubstituteTerm_L0 ps) (fin := fun s0 => (s0.1, s0.2)) (xs := p.Coeffs)
          (fun n s => s = (subL p ps n, 1 :: p.Coeffs.take n)) (fun t => t = (subL p ps p.Coeffs.length, subM p))
          (fun n x s hx hs => by
            subst hs
            have hn := get_lt hx
            refine .inl ⟨_, ?_, rfl⟩
            have hj : m_impl_SubstituteTerm_J0 (subL p ps n, 1 :: p.Coeffs.take n) x ((subT ps n).Const, (subT ps n).Coeffs) = some (.next (subL p ps (n + 1), 1 :: p.Coeffs.take (n + 1))) := by
              unfold m_impl_SubstituteTerm_J0
              rw [capI_some (by simp [subL]; omega), Option.bind_some, capI_some (by simp; omega), Option.bind_some]
              simp only [Term.eta]
              rw [List.take_add_one, hx, Option.toList_some]
              unfold subL
              rw [List.range_succ, List.map_append]
              rfl
            unfold m_impl_SubstituteTerm_L0
            rw [makeI_some (by omega), Option.bind_some, getI_some (x := (0 : Int)) (by simp), Option.bind_some]
            by_cases hp : n < ps.length
            · have hpx : ps[n]? = some ps[n] := by simp [hp]
              rw [dec_lt hp, cond_true, getI_some hpx, Option.bind_some, ← hj, show subT ps n = ps[n] by unfold subT; rw [hpx]]
            · have hpx : ps[n]? = none := by simp; omega
              rw [dec_not_lt hp, cond_false, ← hj, show subT ps n = unitT n by unfold subT; rw [hpx]]
              rw [Int.toNat_natCast]; rfl)
          (fun s hs => by subst hs; simp only [List.take_length]; rfl) rfl
        rw [show ([Term.mk p.Const []], [(1 : Int)]) = (subL p ps 0, 1 :: p.Coeffs.take 0) from rfl, e1, e2, Option.bind_some]
        unfold m_impl_SubstituteTerm_A0
        have hln : (subL p ps p.Coeffs.length).length = p.Coeffs.length + 1 := by simp [subL]
        rw [impl_combined (sub_lin h1 h2), Option.bind_some, impl_checked, hln]; rfl
      · rw [decide_eq_false h3]; rfl
theorem spec_sub_inner (m : Int) (t : Term) : m_spec_l02Replace_L1 m t = m_spec_l02Combine_L1 m t := rfl
theorem spec_sub {p : Term} {ps : List Term} (hp : cTerm p ≤ 1048576) (hs : cTermS ps ≤ 1048576) : m_spec_SubstituteTerm p ps = some (fSub p ps) := by
  unfold m_spec_SubstituteTerm fSub
  rw [spec_is hp, Option.bind_some, show (10 : Int) = ((10 : Nat) : Int) from rfl, spec_all hs, Option.bind_some]
  cases h1 : vT p with
  | false => rfl
  | true =>
    have hl := vT_len h1
    cases h2 : ps.all vT with
    | false => rfl
    | true =>
      by_cases h3 : ps.length ≤ 10
      · rw [decide_eq_true h3]
        simp only [Bool.not_true, cond_false, Bool.and_true, Bool.true_and, cond_true]
        have hL := sub_lin h1 h2
        have hts : ∀ n, n < p.Coeffs.length → (subL p ps p.Coeffs.length)[n + 1]? = some (subT ps n) := by
          intro n hn; simp [subL, hn]
        have key : ∀ (m n : Nat), n + m = p.Coeffs.length →
            iter (m_spec_l02Replace_L0 p ps) (lin (subL p ps p.Coeffs.length) (subM p) Term.Const (n + 1), tab (fun i => lin (subL p ps p.Coeffs.length) (subM p) (fun t => coef t.Coeffs i) (n + 1)), (n : Int)) =
            some (lin (subL p ps p.Coeffs.length) (subM p) Term.Const (p.Coeffs.length + 1), tab (fun i => lin (subL p ps p.Coeffs.length) (subM p) (fun t => coef t.Coeffs i) (p.Coeffs.length + 1))) := by
          intro m
          induction m with
          | zero =>
            intro n hn
            obtain rfl : n = p.Coeffs.length := by omega
            refine iter_out ?_
            unfold m_spec_l02Replace_L0
            simp only
            rw [dec_self]; rfl
          | succ m ih =>
            intro n hn
            have hlt : n < p.Coeffs.length := by omega
            have hx : p.Coeffs[n]? = some p.Coeffs[n] := by simp
            have hm : (subM p)[n + 1]? = some p.Coeffs[n] := by simp [subM]
            have hxr := inR_iff.1 (vT_coef h1 _ (List.getElem_mem hlt))
            have hr := fun (g : Term → Int) hg => lin_rng hL (g := g) hg (n := n + 1) (by omega)
            rw [iter_next (s' := (lin (subL p ps p.Coeffs.length) (subM p) Term.Const (n + 1 + 1), tab (fun i => lin (subL p ps p.Coeffs.length) (subM p) (fun t => coef t.Coeffs i) (n + 1 + 1)), ((n + 1 : Nat) : Int)))]
            · exact ih (n + 1) (by omega)
            · simp only [lin_succ (hts n hlt) hm]
              unfold m_spec_l02Replace_L0
              simp only
              rw [dec_lt hlt, cond_true]
              by_cases hp : n < ps.length
              · have hpx : ps[n]? = some ps[n] := by simp [hp]
                have hv := List.all_eq_true.1 h2 _ (List.getElem_mem hp)
                rw [decide_eq_false (by omega), cond_false, getI_some hx, Option.bind_some, getI_some hpx, Option.bind_some, spec_sub_inner, spec_inner (by have := vT_len hv; omega),
                  inner hxr (vT_len hv) (vT_coef hv) (fun i => by have := hr (fun t => coef t.Coeffs i) (fun t ht => coef_rng ht i); omega), Option.bind_some]
                unfold m_spec_l02Replace_A1
                have h4 := hr Term.Const (fun t ht => const_rng ht)
                have h5 := mul_rng hxr (const_rng hv)
                simp only
                rw [w64_succ (by omega), w64_eq (n := p.Coeffs[n] * (ps[n]).Const) (by omega), w64_eq (by omega), show subT ps n = ps[n] by unfold subT; rw [hpx]]
              · have hpx : ps[n]? = none := by simp; omega
                have h6 := hr (fun t => coef t.Coeffs n) (fun t ht => coef_rng ht n)
                rw [decide_eq_true (by omega), cond_true, getI_some (tab_get (by omega)), Option.bind_some, getI_some hx, Option.bind_some, w64_succ (by omega), w64_eq (by omega), Int.toNat_natCast, tab_set (by omega),
                  show subT ps n = unitT n by unfold subT; rw [hpx]]
                simp only [unit_coef, show (unitT n).Const = 0 from rfl, Int.mul_zero, Int.add_zero]
                congr 4
                unfold tab
                apply List.map_congr_left
                intro i hi
                by_cases h7 : i = n
                · subst h7; rw [if_pos rfl, if_pos rfl, Int.mul_one]
                · rw [if_neg h7, if_neg h7, Int.mul_zero, Int.add_zero]
        unfold m_spec_l02Replace
        rw [show makeI 10 8 = some 10 from rfl, Option.bind_some]
        have h0 := key p.Coeffs.length 0 (by omega)
        have e0 : lin (subL p ps p.Coeffs.length) (subM p) Term.Const (0 + 1) = p.Const := by
          rw [lin_succ (t := Term.mk p.Const []) (m := 1) rfl rfl]; simp [lin, sumN]
        have e1 : (fun i => lin (subL p ps p.Coeffs.length) (subM p) (fun t => coef t.Coeffs i) (0 + 1)) = fun _ => 0 := by
          funext i
          rw [lin_succ (t := Term.mk p.Const []) (m := 1) rfl rfl]; simp [lin, sumN, coef]
        rw [e0, e1] at h0
        rw [tab_zero, show (0 : Int) = ((0 : Nat) : Int) from rfl]
        rw [show iter (m_spec_l02Replace_L0 p ps) (p.Const, tab (fun _ => ((0 : Nat) : Int)), ((0 : Nat) : Int)) = _ from h0, Option.bind_some]
        unfold m_spec_l02Replace_A0
        rw [spec_make (by simp only [tab_len]; omega)]; rfl
      · rw [decide_eq_false h3]; rfl
theorem fSub_small (p : Term) (ps : List Term) : small (fSub p ps) := by
  unfold fSub
  cases vT p && ps.all vT && decide (ps.length ≤ 10)
  · exact Nat.zero_le _
  · exact chk_small _
theorem law_SubstituteTerm {p : Term} {ps : List Term} (kp : k_Term p) (ks : kLa_Term ps) : m_laws_FnExactSubstituteTerm p ps = some true := by
  unfold m_laws_FnExactSubstituteTerm
  rw [show (1048576 : Int) = ((1048576 : Nat) : Int) from rfl, sz_Term kp.2.1 _ (Nat.le_refl _), Option.bind_some]
  by_cases h1 : cTerm p ≤ 1048576
  · rw [szOut_ok h1, dec_neg, cond_false, sz_TermS ks _ (by omega), Option.bind_some]
    by_cases h2 : cTermS ps ≤ 1048576 - cTerm p
    · have h3 : cTermS ps ≤ 1048576 := by omega
      have hs := fSub_small p ps
      unfold small at hs
      obtain ⟨r1, a1, b1⟩ := mkh_Term (t := p) (k := 1) (by omega)
      obtain ⟨r2, a2, b2⟩ := mkh_TermS (ts := ps) (k := 1 + cTerm p) (by omega)
      obtain ⟨r3, a3, b3⟩ := mkh_Term (t := (fSub p ps).1) (k := 1) (by omega)
      replace a1 : m_laws_markTerm p 1 = _ := a1
      replace a3 : m_laws_markTerm (fSub p ps).1 1 = _ := a3
      replace b3 : m_laws_heldTerm (Term.mk (fSub p ps).1.Const r3) 1 = _ := b3
      simp only [szOut_ok h2, dec_neg, cond_false, Option.bind_some, to_Term h1, to_TermS h3, spec_sub h1 h3, impl_sub, eq_Term hs, eq_Term h1, eq_TermS h3, decide_true, bool_beq, Bool.not_true, Bool.or_false, a1, a2, a3, b3]
    · rw [szOut_no h2]; rfl
  · rw [szOut_no h1]; rfl
end Go.Mod

/- Drawn terms, and values. Plain Lean. -/
namespace Go.Mod
open Go.AM
set_option linter.unusedVariables false
set_option linter.unusedSimpArgs false

/-! ### The source of the draws -/
def Src (s : l00Src) (k : Nat) : Prop := (∀ x ∈ s.code, 0 ≤ x ∧ x ≤ 255) ∧ s.code.length ≤ 1048576 ∧ 0 ≤ s.at_ ∧ s.at_ ≤ k
theorem Src.mono {s : l00Src} {k k' : Nat} (h : Src s k) (hk : k ≤ k') : Src s k' := ⟨h.1, h.2.1, h.2.2.1, by have := h.2.2.2; omega⟩
theorem and_rng (a : Int) : 0 ≤ andU 64 a 255 ∧ andU 64 a 255 ≤ 255 := by
  unfold andU
  have h : (BitVec.ofInt 64 a &&& BitVec.ofInt 64 255).toNat ≤ 255 := by
    rw [BitVec.toNat_and]
    have : (BitVec.ofInt 64 255).toNat = 255 := by decide
    rw [this]
    exact Nat.and_le_right
  generalize (BitVec.ofInt 64 a &&& BitVec.ofInt 64 255).toNat = q at h
  unfold wu
  omega
theorem next_ok {s : l00Src} {k : Nat} (h : Src s k) (hk : k ≤ 1000000000) : ∃ r s', m_spec_l00Src_next s = some (r, s') ∧ 0 ≤ r ∧ r ≤ 255 ∧ Src s' (k + 1) := by
  obtain ⟨h1, h2, h3, h4⟩ := h
  have hJ : ∀ j : Int, 0 ≤ j → j ≤ 255 → ∃ r s', m_spec_l00Src_next_J0 s j = some (r, s') ∧ 0 ≤ r ∧ r ≤ 255 ∧ Src s' (k + 1) := by
    intro j hj0 hj1
    unfold m_spec_l00Src_next_J0
    rw [w64_eq (n := s.at_ + 1) (by omega)]
    have hS : ∀ sd, Src (l00Src.mk s.code (s.at_ + 1) sd) (k + 1) := fun sd => ⟨h1, h2, by simp only; omega, by simp only; omega⟩
    by_cases hq : s.at_ + 1 ≤ (s.code.length : Int)
    · rw [decide_eq_true hq, cond_true]; exact ⟨_, _, rfl, hj0, hj1, hS _⟩
    · rw [decide_eq_false hq, cond_false]
      have := and_rng (Int.fdiv (wu 64 ((wu 64 ((wu 64 (s.seed * (6364136223846793005 : Int))) + (wu 64 j))) + (1442695040888963407 : Int))) (2 ^ 40))
      exact ⟨_, _, rfl, by rw [w64_eq (by omega)]; omega, by rw [w64_eq (by omega)]; omega, hS _⟩
  unfold m_spec_l00Src_next
  by_cases hq : s.at_ < (s.code.length : Int)
  · obtain ⟨n, hn⟩ := Int.eq_ofNat_of_zero_le h3
    have hlt : n < s.code.length := by omega
    have hx : s.code[n]? = some s.code[n] := by simp
    have hb := h1 _ (List.getElem_mem hlt)
    rw [decide_eq_true hq, cond_true, hn, getI_some hx, Option.bind_some, w64_eq (by omega)]
    exact hJ _ hb.1 hb.2
  · rw [decide_eq_false hq, cond_false]; exact hJ 0 (by omega) (by omega)
theorem pick_ok {s : l00Src} {k : Nat} {n : Int} (h : Src s k) (hk : k ≤ 100000000) (hn : n ≤ 200) : ∃ r s', m_spec_l00Src_pick s n = some (r, s') ∧ 0 ≤ r ∧ (r < n ∨ r = 0) ∧ Src s' (k + 1) := by
  unfold m_spec_l00Src_pick
  by_cases h1 : n ≤ 1
  · rw [decide_eq_true h1, cond_true]; exact ⟨_, _, rfl, by omega, .inr rfl, h.mono (by omega)⟩
  · rw [decide_eq_false h1, cond_false]
    obtain ⟨r, s', e1, e2, e3, e4⟩ := next_ok h (by omega)
    rw [e1, Option.bind_some, decide_eq_false (by omega), cond_false]
    simp only
    unfold remI
    rw [decide_eq_false (by omega), cond_false, Option.bind_some]
    exact ⟨_, _, rfl, Int.tmod_nonneg _ e2, .inl (Int.tmod_lt_of_pos _ (by omega)), e4⟩
theorem from_ok {code : List Int} (h1 : ∀ x ∈ code, 0 ≤ x ∧ x ≤ 255) (h2 : code.length ≤ 1048576) : m_spec_l00From code = some (l00Src.mk code 0 0) ∧ Src (l00Src.mk code 0 0) 0 :=
  ⟨rfl, h1, h2, Int.le_refl _, Int.le_refl _⟩
theorem at_ok {code : List Int} {i : Nat} {n : Int} (h1 : ∀ x ∈ code, 0 ≤ x ∧ x ≤ 255) (hi : i ≤ 1000000) (hn : 1 < n) : ∃ r, m_laws_b10At code (i : Int) n = some r ∧ 0 ≤ r ∧ r < n := by
  unfold m_laws_b10At
  rw [decide_eq_false (by omega), cond_false]
  by_cases h : i < code.length
  · have hx : code[i]? = some code[i] := by simp [h]
    have hb := h1 _ (List.getElem_mem h)
    rw [dec_lt h, cond_true, getI_some hx, Option.bind_some, w64_eq (by omega)]
    unfold remI
    rw [decide_eq_false (by omega), cond_false, Option.bind_some]
    exact ⟨_, rfl, Int.tmod_nonneg _ hb.1, Int.tmod_lt_of_pos _ (by omega)⟩
  · rw [dec_not_lt h, cond_false, w64_eq (n := (i : Int) * 37) (by omega), w64_eq (by omega)]
    unfold remI
    rw [decide_eq_false (by omega), cond_false, Option.bind_some]
    exact ⟨_, rfl, Int.tmod_nonneg _ (by omega), Int.tmod_lt_of_pos _ (by omega)⟩

/-! ### Trimmed lists -/
theorem tl_last {xs : List Int} : ∀ n, n ≤ xs.length → lastOK (xs.take (tl xs n)) = true := by
  intro n
  induction n with
  | zero => intro _; rfl
  | succ n ih =>
    intro hn
    unfold tl
    split
    · exact ih (by omega)
    · rename_i h
      have hx : xs[n]? = some xs[n] := by simp
      unfold lastOK
      rw [List.getLast?_eq_getElem?]
      have hl : (xs.take (n + 1)).length = n + 1 := by simp; omega
      rw [hl, show n + 1 - 1 = n from rfl, List.getElem?_take, if_pos (by omega), hx]
      rw [hx] at h
      simpa using h
theorem trim_last (xs : List Int) : lastOK (trim xs) = true := tl_last _ (Nat.le_refl _)
theorem tl_zero {xs : List Int} : ∀ n, n ≤ xs.length → ∀ i, tl xs n ≤ i → i < n → coef xs i = 0 := by
  intro n
  induction n with
  | zero => intro _ i _ h; omega
  | succ n ih =>
    intro hn i h1 h2
    unfold tl at h1
    split at h1
    · rename_i h
      by_cases hi : i = n
      · subst hi; exact coef_get h
      · exact ih (by omega) i h1 (by omega)
    · omega
theorem trim_coef (xs : List Int) (i : Nat) : coef (trim xs) i = coef xs i := by
  unfold trim
  by_cases h : i < tl xs xs.length
  · unfold coef; rw [List.getElem?_take, if_pos h]
  · rw [coef_no (by simp; omega)]
    by_cases h2 : i < xs.length
    · rw [tl_zero xs.length (Nat.le_refl _) i (by omega) h2]
    · rw [coef_no (by omega)]
theorem tab_coef (f : Nat → Int) (i : Nat) : coef (tab f) i = if i < 10 then f i else 0 := by
  by_cases h : i < 10
  · rw [if_pos h, coef_get (tab_get h)]
  · rw [if_neg h, coef_no (by rw [tab_len]; omega)]
theorem last_coef {xs : List Int} (h : lastOK xs = true) (h0 : 0 < xs.length) : coef xs (xs.length - 1) ≠ 0 := by
  unfold lastOK at h
  rw [List.getLast?_eq_getElem?] at h
  have hx : xs[xs.length - 1]? = some (xs[xs.length - 1]'(by omega)) := by simp
  rw [hx] at h
  rw [coef_get hx]
  simpa using h
theorem coef_ext {xs ys : List Int} (hx : lastOK xs = true) (hy : lastOK ys = true) (h : ∀ i, coef xs i = coef ys i) : xs = ys := by
  have key : ∀ (xs ys : List Int), lastOK xs = true → (∀ i, coef xs i = coef ys i) → xs.length ≤ ys.length := by
    intro xs ys hx h
    apply Nat.le_of_not_lt
    intro hlt
    have := last_coef hx (by omega)
    rw [h, coef_no (by omega)] at this
    exact this rfl
  have hl : xs.length = ys.length := Nat.le_antisymm (key xs ys hx h) (key ys xs hy (fun i => (h i).symm))
  apply List.ext_getElem hl
  intro i h1 h2
  have := h i
  rw [coef_get (show xs[i]? = some xs[i] by simp), coef_get (show ys[i]? = some ys[i] by simp)] at this
  exact this
theorem coef_ten {t : Term} (h : vT t = true) {i : Nat} (hi : 10 ≤ i) : coef t.Coeffs i = 0 := coef_no (by have := vT_len h; omega)
/-- A term made of a table. -/
def mkT (c : Int) (f : Nat → Int) : Term := Term.mk c (trim (tab f))
theorem mkT_coef (c : Int) (f : Nat → Int) (i : Nat) : coef (mkT c f).Coeffs i = if i < 10 then f i else 0 := by
  unfold mkT; rw [trim_coef, tab_coef]
theorem mkT_valid {c : Int} {f : Nat → Int} (hc : -1000000 ≤ c ∧ c ≤ 1000000) (hf : ∀ i, i < 10 → -1000000 ≤ f i ∧ f i ≤ 1000000) : vT (mkT c f) = true := by
  have h1 : (mkT c f).Coeffs.length ≤ 10 := by have := trim_len (tab f); rw [tab_len] at this; exact this
  have h2 : lastOK (mkT c f).Coeffs = true := trim_last _
  have h3 : (mkT c f).Coeffs.all inR = true := by
    rw [List.all_eq_true]
    intro x hx
    obtain ⟨i, hi⟩ := List.getElem?_of_mem hx
    have := mkT_coef c f i
    rw [coef_get hi] at this
    rw [this]
    have hlt := get_lt hi
    rw [if_pos (by omega)]
    exact inR_iff.2 (hf i (by omega))
  unfold vT
  rw [h2, h3, inR_iff.2 (show -1000000 ≤ (mkT c f).Const ∧ (mkT c f).Const ≤ 1000000 from hc)]
  simp [h1]
theorem mkT_chk {c : Int} {f : Nat → Int} (hc : -1000000 ≤ c ∧ c ≤ 1000000) (hf : ∀ i, i < 10 → -1000000 ≤ f i ∧ f i ≤ 1000000) : chk (Term.mk c (trim (tab f))) = (mkT c f, true) := by
  have := mkT_valid hc hf
  unfold chk
  rw [show Term.mk c (trim (tab f)) = mkT c f from rfl, this]; rfl
theorem mkT_self {t : Term} (h : vT t = true) : mkT t.Const (fun i => coef t.Coeffs i) = t := by
  have : trim (tab fun i => coef t.Coeffs i) = t.Coeffs := coef_ext (trim_last _) (vT_last h) (fun i => by
    rw [trim_coef, tab_coef]
    by_cases hi : i < 10
    · rw [if_pos hi]
    · rw [if_neg hi, coef_ten h (by omega)])
  unfold mkT
  rw [this]
theorem mkT_ext {t : Term} {c : Int} {f : Nat → Int} (h : vT t = true) (hc : c = t.Const) (hf : ∀ i, i < 10 → f i = coef t.Coeffs i) : mkT c f = t := by
  rw [← mkT_self h]
  unfold mkT tab
  subst hc
  congr 2
  apply List.map_congr_left
  intro i hi
  exact hf i (by simpa using hi)
end Go.Mod

/- Drawn terms and values; the opposite's sign. Plain Lean. -/
namespace Go.Mod
open Go.AM
set_option linter.unusedVariables false
set_option linter.unusedSimpArgs false

theorem sumN_congr {f g : Nat → Int} : ∀ n, (∀ i, i < n → f i = g i) → sumN f n = sumN g n := by
  intro n
  induction n with
  | zero => intro _; rfl
  | succ n ih => intro h; unfold sumN; rw [ih (fun i hi => h i (by omega)), h n (by omega)]
theorem sumN_neg (f : Nat → Int) : ∀ n, sumN (fun i => -f i) n = -sumN f n := by
  intro n
  induction n with
  | zero => rfl
  | succ n ih => unfold sumN; rw [ih]; omega
theorem sumN_add (f g : Nat → Int) : ∀ n, sumN (fun i => f i + g i) n = sumN f n + sumN g n := by
  intro n
  induction n with
  | zero => rfl
  | succ n ih => unfold sumN; rw [ih]; omega
theorem sumN_mul (c : Int) (f : Nat → Int) : ∀ n, sumN (fun i => c * f i) n = c * sumN f n := by
  intro n
  induction n with
  | zero => simp [sumN]
  | succ n ih => unfold sumN; rw [ih, Int.mul_add]
theorem sumN_zero : ∀ n, sumN (fun _ => 0) n = 0 := by
  intro n
  induction n with
  | zero => rfl
  | succ n ih => unfold sumN; rw [ih]; rfl
theorem sumN_stop {f : Nat → Int} {n : Nat} (h : ∀ i, n ≤ i → f i = 0) : ∀ m, n ≤ m → sumN f m = sumN f n := by
  intro m
  induction m with
  | zero => intro hm; rw [show n = 0 by omega]
  | succ m ih =>
    intro hm
    by_cases e : n = m + 1
    · rw [e]
    · rw [show sumN f (m + 1) = sumN f m + f m from rfl, ih (by omega), h m (by omega)]; omega

/-- A term's value. -/
def val (t : Term) (v : List Int) : Int := t.Const + sumN (fun i => coef t.Coeffs i * coef v i) 10
def Vals (v : List Int) : Prop := v.length = 10 ∧ ∀ x ∈ v, -6 ≤ x ∧ x ≤ 6
theorem Vals.coef {v : List Int} (h : Vals v) (i : Nat) : -6 ≤ coef v i ∧ coef v i ≤ 6 := by
  unfold Mod.coef
  cases hx : v[i]? with
  | none => simp
  | some x => exact h.2 x (List.mem_of_getElem? hx)
theorem value_ok {t : Term} {v : List Int} (ht : vT t = true) (hv : Vals v) : m_laws_b10Value t v = some (val t v) := by
  have hl := vT_len ht
  have hp : ∀ i, -6000000 ≤ coef t.Coeffs i * coef v i ∧ coef t.Coeffs i * coef v i ≤ 6000000 := by
    intro i
    have h1 := coef_rng ht i
    have h2 := hv.coef i
    have := prod_rng h1.1 h1.2 h2.1 h2.2
    omega
  have hsum := sumN_rng (f := fun i => coef t.Coeffs i * coef v i) (B := 6000000) hp
  have hc := const_rng ht
  have key : ∀ (m n : Nat), n + m = t.Coeffs.length → iter (m_laws_b10Value_L0 t v) (t.Const + sumN (fun i => coef t.Coeffs i * coef v i) n, (n : Int)) = some (val t v) := by
    intro m
    induction m with
    | zero =>
      intro n hn
      obtain rfl : n = t.Coeffs.length := by omega
      refine iter_out ?_
      unfold m_laws_b10Value_L0
      simp only
      rw [dec_self, Bool.false_and, cond_false]
      unfold val
      rw [sumN_stop (n := t.Coeffs.length) (fun i hi => by rw [coef_no hi, Int.zero_mul]) 10 hl]
    | succ m ih =>
      intro n hn
      have hlt : n < t.Coeffs.length := by omega
      have hltv : n < v.length := by rw [hv.1]; omega
      have hx : t.Coeffs[n]? = some t.Coeffs[n] := by simp
      have hy : v[n]? = some v[n] := by simp
      have hs := hsum n
      have hpn := hp n
      rw [iter_next (s' := (t.Const + sumN (fun i => coef t.Coeffs i * coef v i) (n + 1), ((n + 1 : Nat) : Int)))]
      · exact ih (n + 1) (by omega)
      · unfold m_laws_b10Value_L0
        simp only
        rw [dec_lt hlt, dec_lt hltv, Bool.true_and, cond_true, getI_some hx, Option.bind_some, getI_some hy, Option.bind_some, w64_succ (by omega)]
        rw [coef_get hx, coef_get hy] at hpn
        rw [w64_eq (n := t.Coeffs[n] * v[n]) (by omega), w64_eq (by omega), sumN, coef_get hx, coef_get hy, Int.add_assoc]
  unfold m_laws_b10Value
  have := key t.Coeffs.length 0 (by omega)
  rw [show t.Const + sumN (fun i => coef t.Coeffs i * coef v i) 0 = t.Const by simp [sumN]] at this
  rw [show (0 : Int) = ((0 : Nat) : Int) from rfl, this]; rfl

/-! ### Drawn terms, drawn values -/
structure Small (t : Term) : Prop where
  v : vT t = true
  c : -7 ≤ t.Const ∧ t.Const ≤ 7
  f : ∀ i, -4 ≤ coef t.Coeffs i ∧ coef t.Coeffs i ≤ 4
theorem list_coef {xs : List Int} {a b : Int} (h : ∀ x ∈ xs, a ≤ x ∧ x ≤ b) (h0 : a ≤ 0 ∧ 0 ≤ b) (i : Nat) : a ≤ coef xs i ∧ coef xs i ≤ b := by
  unfold coef
  cases hx : xs[i]? with
  | none => simpa using h0
  | some x => exact h x (List.mem_of_getElem? hx)
theorem term_ok {code : List Int} (h1 : ∀ x ∈ code, 0 ≤ x ∧ x ≤ 255) (h2 : code.length ≤ 1048576) : ∃ t, m_spec_B10Term code = some t ∧ Small t := by
  unfold m_spec_B10Term
  obtain ⟨e0, hS0⟩ := from_ok h1 h2
  rw [e0, Option.bind_some]
  obtain ⟨r, s1, e1, g1, g2, hS1⟩ := pick_ok (n := 11) hS0 (by omega) (by omega)
  rw [e1, Option.bind_some]
  simp only
  obtain ⟨u, eu, hu⟩ := iter_inv (step := m_spec_B10Term_L0)
    (fun s => Src (l00Src.mk s.1 s.2.1 s.2.2.1) (1 + s.2.2.2.1.length) ∧ 0 ≤ s.2.2.2.2 ∧ (s.2.2.2.1.length : Int) + s.2.2.2.2 ≤ 10 ∧ ∀ x ∈ s.2.2.2.1, -4 ≤ x ∧ x ≤ 4)
    (fun s => s.2.2.2.2.toNat) (fun u => Src (l00Src.mk u.1 u.2.1 u.2.2.1) 20 ∧ u.2.2.2.length ≤ 10 ∧ ∀ x ∈ u.2.2.2, -4 ≤ x ∧ x ≤ 4)
    (fun ⟨c, a, sd, xs, n⟩ ⟨i1, i2, i3, i4⟩ => by
      simp only at i1 i2 i3 i4
      unfold m_spec_B10Term_L0
      simp only
      by_cases hn : 0 < n
      · left
        obtain ⟨r, s', e, r1, r2, hS⟩ := pick_ok (n := 9) i1 (by omega) (by omega)
        rw [decide_eq_true hn, cond_true, e, Option.bind_some, capI_some (by simp; omega), Option.bind_some, w64_eq (n := r - 4) (by omega), w64_eq (n := n - 1) (by omega)]
        refine ⟨_, rfl, ⟨?_, by simp only; omega, by simp; omega, ?_⟩, by simp only; omega⟩
        · simp only [List.length_append, List.length_cons, List.length_nil]; exact hS.mono (by omega)
        · intro x hx
          simp only [List.mem_append, List.mem_singleton] at hx
          rcases hx with hx | rfl
          · exact i4 x hx
          · omega
      · right
        rw [decide_eq_false hn, cond_false]
        exact ⟨_, rfl, i1.mono (by omega), by simp only; omega, i4⟩)
    (s := (s1.code, s1.at_, s1.seed, [], r)) ⟨hS1, g1, by simp; omega, by simp⟩
  rw [eu, Option.bind_some]
  obtain ⟨q1, q2, q3⟩ := hu
  unfold m_spec_B10Term_A0
  obtain ⟨r2, s2, e2, k1, k2, _⟩ := pick_ok (n := 15) q1 (by omega) (by omega)
  rw [e2, Option.bind_some, spec_make (by omega), Option.bind_some]
  refine ⟨_, rfl, ?_⟩
  simp only
  rw [w64_eq (by omega)]
  unfold chk
  cases hv : vT (Term.mk (r2 - 7) (trim u.2.2.2)) with
  | false => exact ⟨rfl, by simp only [cond_false]; decide, fun i => by rw [show coef (bif false then (Term.mk (r2 - 7) (trim u.2.2.2), true) else (Term.mk 0 [], false)).1.Coeffs i = 0 from rfl]; omega⟩
  | true =>
    refine ⟨hv, ?_, fun i => ?_⟩
    · simp only [cond_true]; omega
    · simp only [cond_true]
      rw [trim_coef]
      exact list_coef q3 (by omega) i
theorem values_ok {code : List Int} (h1 : ∀ x ∈ code, 0 ≤ x ∧ x ≤ 255) (h2 : code.length ≤ 1048576) : ∃ v, m_spec_B10Values code = some v ∧ Vals v := by
  unfold m_spec_B10Values
  obtain ⟨e0, hS0⟩ := from_ok h1 h2
  rw [e0, Option.bind_some]
  simp only
  obtain ⟨u, eu, hu⟩ := iter_inv (step := m_spec_B10Values_L0)
    (fun s => Src (l00Src.mk s.1 s.2.1 s.2.2.1) s.2.2.2.1.length ∧ s.2.2.2.2 = (s.2.2.2.1.length : Int) ∧ s.2.2.2.1.length ≤ 10 ∧ ∀ x ∈ s.2.2.2.1, -6 ≤ x ∧ x ≤ 6)
    (fun s => 10 - s.2.2.2.1.length) Vals
    (fun ⟨c, a, sd, xs, n⟩ ⟨i1, i2, i3, i4⟩ => by
      simp only at i1 i2 i3 i4
      unfold m_spec_B10Values_L0
      simp only
      by_cases hn : n < 10
      · left
        obtain ⟨r, s', e, r1, r2, hS⟩ := pick_ok (n := 13) i1 (by omega) (by omega)
        rw [decide_eq_true hn, cond_true, e, Option.bind_some, capI_some (by simp; omega), Option.bind_some, w64_eq (n := r - 6) (by omega), w64_eq (n := n + 1) (by omega)]
        refine ⟨_, rfl, ⟨?_, by simp; omega, by simp; omega, ?_⟩, by simp; omega⟩
        · simp only [List.length_append, List.length_cons, List.length_nil]; exact hS
        · intro x hx
          simp only [List.mem_append, List.mem_singleton] at hx
          rcases hx with hx | rfl
          · exact i4 x hx
          · omega
      · right
        rw [decide_eq_false hn, cond_false]
        exact ⟨_, rfl, by omega, i4⟩)
    (s := (code, 0, 0, [], 0)) ⟨hS0, rfl, by simp, by simp⟩
  rw [eu, Option.bind_some]
  exact ⟨_, rfl, hu⟩
theorem long_no {a b : List Int} (h1 : a.length ≤ 1048576) (h2 : b.length ≤ 1048576) : m_laws_b10Long a b = some false := by
  unfold m_laws_b10Long
  rw [decide_eq_false (by omega), decide_eq_false (by omega)]; rfl
theorem long_yes {a b : List Int} (h : ¬ (a.length ≤ 1048576 ∧ b.length ≤ 1048576)) : m_laws_b10Long a b = some true := by
  unfold m_laws_b10Long
  by_cases h1 : a.length ≤ 1048576
  · rw [decide_eq_false (show ¬ (1048576 : Int) < (a.length : Int) by omega), decide_eq_true (show (1048576 : Int) < (b.length : Int) by omega)]; rfl
  · rw [decide_eq_true (show (1048576 : Int) < (a.length : Int) by omega)]; rfl

/-! ### The law of the opposite -/
theorem fOpp_ok {t : Term} (h : vT t = true) (hc : -999999 ≤ t.Const ∧ t.Const ≤ 999999) : fOpp t = (mkT (-t.Const - 1) (fun i => -coef t.Coeffs i), true) := by
  unfold fOpp
  rw [h, cond_true]
  exact mkT_chk (by omega) (fun i _ => by have := coef_rng h i; omega)
theorem val_mkT (c : Int) (f : Nat → Int) (v : List Int) : val (mkT c f) v = c + sumN (fun i => f i * coef v i) 10 := by
  unfold val
  rw [sumN_congr (g := fun i => f i * coef v i) 10 (fun i hi => by rw [mkT_coef, if_pos hi])]
  rfl
theorem slices_eq {xs ys : List Int} : m_slices_Equal_int64_int64 xs ys = some (decide (xs = ys)) := by
  unfold m_slices_Equal_int64_int64
  by_cases h : xs.length = ys.length
  · rw [decide_eq_true (by omega), Bool.not_true, cond_false]
    have key : ∀ (as : List Int) (k : Nat), k + as.length = ys.length →
        forL (m_slices_Equal_int64_int64_L0 ys) (fun s0 => (Sum.inl ())) k as () = some (if as = ys.drop k then .inl () else .inr false) := by
      intro as
      induction as with
      | nil => intro k hk; rw [if_pos (by rw [List.drop_eq_nil_of_le (by simp at hk; omega)])]; rfl
      | cons a r ih =>
        intro k hk
        simp only [List.length_cons] at hk
        have hlt : k < ys.length := by omega
        rw [List.drop_eq_getElem_cons hlt]
        unfold forL m_slices_Equal_int64_int64_L0
        rw [getI_some (show ys[k]? = some ys[k] by simp), Option.bind_some]
        by_cases ha : a = ys[k]
        · rw [decide_eq_true ha, Bool.not_true, cond_false]
          have := ih (k + 1) (by omega)
          simp only
          refine Eq.trans this ?_
          congr 1
          by_cases h2 : r = ys.drop (k + 1)
          · rw [if_pos h2, if_pos (by rw [h2, ha])]
          · rw [if_neg h2, if_neg (fun e => h2 (List.cons.inj e).2)]
        · rw [decide_eq_false ha, Bool.not_false, cond_true, if_neg (fun e => ha (List.cons.inj e).1)]
    rw [key xs 0 (by omega), Option.bind_some, List.drop_zero]
    by_cases e : xs = ys
    · rw [if_pos e, decide_eq_true e]; rfl
    · rw [if_neg e, decide_eq_false e]; rfl
  · rw [decide_eq_false (by omega), decide_eq_false (fun e => h (by rw [e]))]; rfl
theorem same_self {t : Term} (h : vT t = true) : m_impl_SameTerm t t = some true := by
  unfold m_impl_SameTerm m_impl_Term_equal
  rw [impl_valid, Option.bind_some, h, cond_true, Option.bind_some, cond_true, slices_eq, decide_eq_true rfl, decide_eq_true rfl]
  rfl
theorem law_Opposite {a b : List Int} (ka : kLa_u8 a) (kb : kLa_u8 b) : m_laws_FnOpposite a b = some true := by
  unfold m_laws_FnOpposite
  by_cases hl : a.length ≤ 1048576 ∧ b.length ≤ 1048576
  · rw [long_no hl.1 hl.2, Option.bind_some, cond_false]
    obtain ⟨t, et, ht⟩ := term_ok ka.2 hl.1
    obtain ⟨v, ev, hv⟩ := values_ok kb.2 hl.2
    have hc := ht.c
    have hm : vT (mkT (-t.Const - 1) (fun i => -coef t.Coeffs i)) = true := mkT_valid (by omega) (fun i _ => by have := ht.f i; omega)
    have e2 : fOpp (mkT (-t.Const - 1) (fun i => -coef t.Coeffs i)) = (t, true) := by
      rw [fOpp_ok hm (by show -999999 ≤ -t.Const - 1 ∧ -t.Const - 1 ≤ 999999; omega)]
      rw [mkT_ext ht.v (by show -(-t.Const - 1) - 1 = t.Const; omega) (fun i hi => by rw [mkT_coef, if_pos hi]; omega)]
    rw [et, Option.bind_some, ev, Option.bind_some, impl_opp, Option.bind_some, fOpp_ok ht.v (by omega)]
    simp only
    rw [impl_opp, Option.bind_some, e2]
    simp only [cond_true]
    rw [same_self ht.v, Option.bind_some, cond_true, value_ok ht.v hv, Option.bind_some, value_ok hm hv, Option.bind_some, val_mkT]
    have e3 : sumN (fun i => -coef t.Coeffs i * coef v i) 10 = -sumN (fun i => coef t.Coeffs i * coef v i) 10 := by
      rw [← sumN_neg]; exact sumN_congr 10 (fun i _ => Int.neg_mul _ _)
    rw [e3]
    unfold val
    generalize sumN (fun i => coef t.Coeffs i * coef v i) 10 = S
    by_cases h0 : 0 ≤ t.Const + S
    · rw [decide_eq_true h0, decide_eq_false (by omega)]; rfl
    · rw [decide_eq_false h0, decide_eq_true (by omega)]; rfl
  · rw [long_yes hl]; rfl
end Go.Mod

/- The law of tightening. Plain Lean. -/
namespace Go.Mod
open Go.AM
set_option linter.unusedVariables false
set_option linter.unusedSimpArgs false

theorem dvd_foldl {k : Nat} : ∀ (xs : List Int) (d : Nat), k ∣ d → (∀ x ∈ xs, k ∣ x.natAbs) → k ∣ xs.foldl (fun d x => Nat.gcd d x.natAbs) d := by
  intro xs
  induction xs with
  | nil => intro d h _; exact h
  | cons x r ih => intro d h hx; exact ih _ (Nat.dvd_gcd h (hx x (by simp))) (fun y hy => hx y (by simp [hy]))
theorem dvd_gcdL {k : Nat} {xs : List Int} (h : ∀ x ∈ xs, k ∣ x.natAbs) : k ∣ gcdL xs := dvd_foldl xs 0 (Nat.dvd_zero k) h
theorem quo_mul {x : Int} {d : Nat} (h : d ∣ x.natAbs) : x.tdiv d * d = x := Int.tdiv_mul_cancel (Int.natAbs_dvd_natAbs.1 (by simpa using h))
theorem gcd_quos {xs : List Int} {d : Nat} (hd : 0 < d) (hg : gcdL xs = d) : gcdL (quos xs d) ≤ 1 := by
  have h1 : gcdL (quos xs d) * d ∣ gcdL xs := dvd_gcdL (fun x hx => by
    have h2 : gcdL (quos xs d) ∣ (x.tdiv d).natAbs := gcdL_dvd (List.mem_map.2 ⟨x, hx, rfl⟩)
    have h3 : d ∣ x.natAbs := by rw [← hg]; exact gcdL_dvd hx
    have h4 := quo_mul h3
    have h5 : x.natAbs = (x.tdiv d).natAbs * d := by
      have := congrArg Int.natAbs h4
      rw [Int.natAbs_mul] at this
      simpa using this.symm
    rw [h5]
    exact Nat.mul_dvd_mul_right h2 d)
  rw [hg] at h1
  have h6 := Nat.le_of_dvd hd h1
  apply Nat.le_of_not_lt
  intro hlt
  have : 2 * d ≤ gcdL (quos xs d) * d := Nat.mul_le_mul_right d hlt
  omega
theorem quos_coef {xs : List Int} {d : Nat} (h : ∀ x ∈ xs, d ∣ x.natAbs) (i : Nat) : coef xs i = (d : Int) * coef (quos xs d) i := by
  unfold coef quos
  rw [List.getElem?_map]
  cases hx : xs[i]? with
  | none => simp
  | some x =>
    have := quo_mul (h x (List.mem_of_getElem? hx))
    simp only [Option.getD_some, Option.map_some]
    rw [Int.mul_comm]; exact this.symm
theorem flo_spec (c : Int) {d : Nat} (hd : 0 < d) : (d : Int) * flo c d ≤ c ∧ c < (d : Int) * flo c d + d := by
  have h1 := Int.mul_tdiv_add_tmod c (d : Int)
  have h2 := Int.tmod_lt_of_pos c (show (0 : Int) < d by omega)
  have h3 : -(d : Int) < c.tmod d := by
    have := Int.tmod_lt_of_pos (-c) (show (0 : Int) < d by omega)
    rw [Int.neg_tmod] at this
    omega
  unfold flo
  split
  · rw [Int.mul_sub, Int.mul_one]; omega
  · omega
theorem sign_flo {c S : Int} {d : Nat} (hd : 0 < d) : (0 ≤ flo c d + S) ↔ (0 ≤ c + (d : Int) * S) := by
  obtain ⟨h1, h2⟩ := flo_spec c hd
  have e : (d : Int) * (flo c d + S) = (d : Int) * flo c d + d * S := Int.mul_add _ _ _
  constructor
  · intro h
    have := Int.mul_nonneg (show (0 : Int) ≤ d by omega) h
    omega
  · intro h
    apply Int.not_lt.1
    intro hlt
    have := Int.mul_le_mul_of_nonneg_left (show flo c d + S ≤ -1 by omega) (show (0 : Int) ≤ d by omega)
    rw [Int.mul_neg, Int.mul_one] at this
    omega
theorem fTight_val {t : Term} {v : List Int} (h : vT t = true) (hd : 2 ≤ gcdL t.Coeffs) : (0 ≤ val (Term.mk (flo t.Const (gcdL t.Coeffs)) (quos t.Coeffs (gcdL t.Coeffs))) v) ↔ (0 ≤ val t v) := by
  unfold val
  simp only
  rw [sign_flo (d := gcdL t.Coeffs) (by omega), ← sumN_mul]
  rw [sumN_congr (f := fun i => (gcdL t.Coeffs : Int) * (coef (quos t.Coeffs (gcdL t.Coeffs)) i * coef v i)) (g := fun i => coef t.Coeffs i * coef v i) 10 (fun i _ => by
    rw [quos_coef (d := gcdL t.Coeffs) (fun x hx => gcdL_dvd hx) i, Int.mul_assoc])]
theorem law_Tightened {a b : List Int} (ka : kLa_u8 a) (kb : kLa_u8 b) : m_laws_FnTightened a b = some true := by
  unfold m_laws_FnTightened
  by_cases hl : a.length ≤ 1048576 ∧ b.length ≤ 1048576
  · rw [long_no hl.1 hl.2, Option.bind_some, cond_false]
    obtain ⟨t, et, ht⟩ := term_ok ka.2 hl.1
    obtain ⟨v, ev, hv⟩ := values_ok kb.2 hl.2
    obtain ⟨r, er, hr0, hr1⟩ := at_ok (i := 0) (n := 4) kb.2 (by omega) (by omega)
    obtain ⟨q, eq, hq0, hq1⟩ := at_ok (i := 1) (n := 7) kb.2 (by omega) (by omega)
    replace er : m_laws_b10At b 0 4 = some r := er
    replace eq : m_laws_b10At b 1 7 = some q := eq
    have hc := ht.c
    obtain ⟨m, hm⟩ := Int.eq_ofNat_of_zero_le (show 0 ≤ 2 + r by omega)
    have hm2 : 2 ≤ m ∧ m ≤ 5 := by omega
    have hp : ∀ x : Int, -7 ≤ x → x ≤ 7 → -35 ≤ (m : Int) * x ∧ (m : Int) * x ≤ 35 := by
      intro x h1 h2
      have := prod_rng (a := (m : Int)) (A := 5) (b := x) (B := 7) (by omega) (by omega) (by omega) (by omega)
      omega
    have hf : ∀ i, -35 ≤ (m : Int) * coef t.Coeffs i ∧ (m : Int) * coef t.Coeffs i ≤ 35 := fun i => by have := ht.f i; exact hp _ (by omega) (by omega)
    have hcm := hp _ hc.1 hc.2
    have es : fScale t (m : Int) = (mkT (m * t.Const) (fun i => m * coef t.Coeffs i), true) := by
      unfold fScale
      rw [ht.v, inR_iff.2 (show -1000000 ≤ (m : Int) ∧ (m : Int) ≤ 1000000 by omega)]
      exact mkT_chk (by omega) (fun i _ => by have := hf i; omega)
    rw [et, Option.bind_some, er, Option.bind_some, w64_eq (n := 2 + r) (by omega), hm, impl_scale, Option.bind_some, es, ev, Option.bind_some]
    simp only [Bool.not_true, cond_false]
    rw [decide_eq_true (show (mkT (m * t.Const) (fun i => m * coef t.Coeffs i)).Const < 999991 by show (m : Int) * t.Const < 999991; omega), cond_true, eq, Option.bind_some]
    rw [show (mkT (m * t.Const) (fun i => m * coef t.Coeffs i)).Const = m * t.Const from rfl, w64_eq (n := q - 3) (by omega), w64_eq (by omega)]
    generalize hj : (m : Int) * t.Const + (q - 3) = j
    have hU : vT (mkT j (fun i => (m : Int) * coef t.Coeffs i)) = true := mkT_valid (by omega) (fun i _ => by have := hf i; omega)
    unfold m_laws_FnTightened_J0
    simp only
    rw [show Term.mk j (mkT (m * t.Const) (fun i => m * coef t.Coeffs i)).Coeffs = mkT j (fun i => (m : Int) * coef t.Coeffs i) from rfl, impl_tight, Option.bind_some]
    have hcU : ∀ i, coef (mkT j (fun i => (m : Int) * coef t.Coeffs i)).Coeffs i = m * coef t.Coeffs i := by
      intro i
      rw [mkT_coef]
      by_cases hi : i < 10
      · rw [if_pos hi]
      · rw [if_neg hi, coef_ten ht.v (by omega), Int.mul_zero]
    generalize hUe : mkT j (fun i => (m : Int) * coef t.Coeffs i) = U at hU hcU
    by_cases h0 : 0 < t.Coeffs.length
    · have hlast := last_coef (vT_last ht.v) h0
      have hUlast : coef U.Coeffs (t.Coeffs.length - 1) ≠ 0 := by
        rw [hcU]
        exact Int.mul_ne_zero (by omega) hlast
      have hin : t.Coeffs.length - 1 < U.Coeffs.length := by
        apply Nat.lt_of_not_le
        intro h
        exact hUlast (coef_no h)
      have hx : U.Coeffs[t.Coeffs.length - 1]? = some U.Coeffs[t.Coeffs.length - 1] := by simp [hin]
      have hmd : m ∣ gcdL U.Coeffs := dvd_gcdL (fun x hx => by
        obtain ⟨i, hi⟩ := List.getElem?_of_mem hx
        have := hcU i
        rw [coef_get hi] at this
        rw [this, Int.natAbs_mul]
        exact ⟨_, rfl⟩)
      have hg0 : gcdL U.Coeffs ≠ 0 := by
        intro h
        have := gcdL_dvd (List.mem_of_getElem? hx)
        rw [h] at this
        have h2 := Nat.eq_zero_of_zero_dvd this
        rw [coef_get hx] at hUlast
        exact hUlast (Int.natAbs_eq_zero.1 h2)
      have hg2 : 2 ≤ gcdL U.Coeffs := by have := Nat.le_of_dvd (by omega) hmd; omega
      have hW := tight_valid hU hg2
      have e1 : fTight U = (Term.mk (flo U.Const (gcdL U.Coeffs)) (quos U.Coeffs (gcdL U.Coeffs)), true) := by
        unfold fTight; rw [hU, decide_eq_true hg2]; rfl
      have e2 : fTight (Term.mk (flo U.Const (gcdL U.Coeffs)) (quos U.Coeffs (gcdL U.Coeffs))) = (Term.mk 0 [], false) := by
        have := gcd_quos (xs := U.Coeffs) (d := gcdL U.Coeffs) (by omega) rfl
        unfold fTight
        rw [decide_eq_false (show ¬ 2 ≤ gcdL (quos U.Coeffs (gcdL U.Coeffs)) by omega), Bool.and_false]; rfl
      rw [e1, decide_eq_true (show (0 : Int) < (t.Coeffs.length : Int) by omega)]
      simp only [bool_beq, Bool.not_true, cond_false]
      rw [impl_tight, Option.bind_some, e2]
      simp only [Bool.not_false, cond_true]
      rw [value_ok hW hv, Option.bind_some, value_ok hU hv, Option.bind_some]
      have := fTight_val (v := v) hU hg2
      by_cases h9 : 0 ≤ val U v
      · rw [decide_eq_true h9, decide_eq_true (this.2 h9)]; rfl
      · rw [decide_eq_false h9, decide_eq_false (fun h => h9 (this.1 h))]; rfl
    · have ht0 : t.Coeffs = [] := List.length_eq_zero_iff.1 (by omega)
      have hU0 : U.Coeffs = [] := coef_ext (vT_last hU) rfl (fun i => by rw [hcU, ht0]; simp [coef])
      have e1 : fTight U = (Term.mk 0 [], false) := by
        unfold fTight; rw [hU0]; simp [gcdL]
      rw [e1, decide_eq_false (show ¬ (0 : Int) < (t.Coeffs.length : Int) by omega)]
      rfl
  · rw [long_yes hl]; rfl
end Go.Mod
