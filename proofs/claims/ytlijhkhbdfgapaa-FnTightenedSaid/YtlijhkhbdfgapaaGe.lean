import Derived.Test.YtlijhkhbdfgapaaGc
/- Printed by a program. -/
namespace Go.Mod
open Go.AM
set_option linter.unusedVariables false
structure l00Src where
  code : List Int
  at_ : Int
  seed : Int
  deriving DecidableEq, Inhabited
theorem l00Src.eta (t : l00Src) : l00Src.mk t.code t.at_ t.seed = t := rfl
structure Term where
  Const : Int
  Coeffs : List Int
  deriving DecidableEq, Inhabited
theorem Term.eta (t : Term) : Term.mk t.Const t.Coeffs = t := rfl
structure Sequent where
  Facts : List Term
  Goal : Term
  deriving DecidableEq, Inhabited
theorem Sequent.eta (t : Sequent) : Sequent.mk t.Facts t.Goal = t := rfl
def k_u8 (x : Int) : Prop := 0 ≤ x ∧ x ≤ 255
def kLa_u8 (x : List Int) : Prop := x.length ≤ 9223372036854775807 ∧ ∀ y ∈ x, k_u8 y
def k_i64 (x : Int) : Prop := -9223372036854775808 ≤ x ∧ x ≤ 9223372036854775807
def kLa_i64 (x : List Int) : Prop := x.length ≤ 9223372036854775807 ∧ ∀ y ∈ x, k_i64 y
def k_Term (x : Term) : Prop := k_i64 x.Const ∧ kLa_i64 x.Coeffs
def kLa_Term (x : List Term) : Prop := x.length ≤ 9223372036854775807 ∧ ∀ y ∈ x, k_Term y
def k_Sequent (x : Sequent) : Prop := kLa_Term x.Facts ∧ k_Term x.Goal

noncomputable def m_laws_b10Long (p0 : List Int) (p1 : List Int) : Option Bool :=
  some ((decide ((1048576 : Int) < (p0.length : Int))) || (decide ((1048576 : Int) < (p1.length : Int))))

noncomputable def m_spec_l00From (p0 : List Int) : Option l00Src :=
  some (l00Src.mk p0 (0 : Int) (0 : Int))

noncomputable def m_spec_l00Src_next_J0 (p0 : l00Src) (j0 : Int) : Option (Int × l00Src) :=
  bif (decide ((w64 (p0.at_ + (1 : Int))) ≤ (p0.code.length : Int))) then
    some (j0, (l00Src.mk p0.code (w64 (p0.at_ + (1 : Int))) (wu 64 ((wu 64 ((wu 64 (p0.seed * (6364136223846793005 : Int))) + (wu 64 j0))) + (1442695040888963407 : Int)))))
  else
    some ((w64 (andU 64 (Int.fdiv (wu 64 ((wu 64 ((wu 64 (p0.seed * (6364136223846793005 : Int))) + (wu 64 j0))) + (1442695040888963407 : Int))) (2 ^ 40)) (255 : Int))), (l00Src.mk p0.code (w64 (p0.at_ + (1 : Int))) (wu 64 ((wu 64 ((wu 64 (p0.seed * (6364136223846793005 : Int))) + (wu 64 j0))) + (1442695040888963407 : Int)))))

noncomputable def m_spec_l00Src_next (p0 : l00Src) : Option (Int × l00Src) :=
  bif (decide (p0.at_ < (p0.code.length : Int))) then
    (getI p0.code p0.at_).bind fun (x22 : Int) =>
    m_spec_l00Src_next_J0 p0 (w64 x22)
  else
    m_spec_l00Src_next_J0 p0 (0 : Int)

noncomputable def m_spec_l00Src_pick (p0 : l00Src) (p1 : Int) : Option (Int × l00Src) :=
  bif (decide (p1 ≤ (1 : Int))) then
    some ((0 : Int), p0)
  else
    (m_spec_l00Src_next p0).bind fun (r9 : Int × l00Src) =>
    bif (decide ((200 : Int) < p1)) then
      (m_spec_l00Src_next r9.2).bind fun (r15 : Int × l00Src) =>
      (remI (w64 ((w64 (r9.1 * (256 : Int))) + r15.1)) p1).bind fun (q19 : Int) =>
      some (q19, r15.2)
    else
      (remI r9.1 p1).bind fun (q19 : Int) =>
      some (q19, r9.2)

noncomputable def m_spec_l00Own (p0 : List Int) : Option (List Int) :=
  (capI (([] : List Int).length + p0.length) 8).bind fun (q5 : Unit) =>
  some (([] : List Int) ++ p0)

noncomputable def m_spec_l00In (p0 : Int) (p1 : Int) (p2 : Int) : Option Bool :=
  some ((decide (p1 ≤ p0)) && (decide (p0 ≤ p2)))

noncomputable def m_spec_l02Number (p0 : Int) : Option Bool :=
  (m_spec_l00In p0 (-1000000 : Int) (1000000 : Int)).bind fun (r4 : Bool) =>
  some r4

noncomputable def m_spec_l02Is_L0 (p0 : Term) (s0 : Int) : Option (Ctl Int (Unit ⊕ Bool)) :=
  bif (decide (s0 < (p0.Coeffs.length : Int))) then
    (getI p0.Coeffs s0).bind fun (x45 : Int) =>
    (m_spec_l02Number x45).bind fun (r47 : Bool) =>
    bif (!r47) then
      some (.out (.inr false))
    else
      some (.next (w64 (s0 + (1 : Int))))
  else
    some (.out (.inl ()))

noncomputable def m_spec_l02Is_A0 (u0 : Unit ⊕ Bool) : Option Bool :=
  match u0 with
  | .inl u0 =>
    some true
  | .inr u0 =>
    some u0

noncomputable def m_spec_l02Is_J0 (p0 : Term) (j0 : Unit) : Option Bool :=
  (iter (m_spec_l02Is_L0 p0) (0 : Int)).bind fun (u0 : Unit ⊕ Bool) =>
  m_spec_l02Is_A0 u0

noncomputable def m_spec_l02Is (p0 : Term) : Option Bool :=
  (m_spec_l02Number p0.Const).bind fun (r14 : Bool) =>
  bif ((!r14) || (decide ((10 : Int) < (p0.Coeffs.length : Int)))) then
    some false
  else
    bif (decide ((0 : Int) < (p0.Coeffs.length : Int))) then
      (getI p0.Coeffs (w64 ((p0.Coeffs.length : Int) - (1 : Int)))).bind fun (x30 : Int) =>
      bif (decide (x30 = (0 : Int))) then
        some false
      else
        m_spec_l02Is_J0 p0 ()
    else
      m_spec_l02Is_J0 p0 ()

noncomputable def m_spec_l02Make_L0 (p1 : List Int) (s0 : Int) : Option (Ctl Int Int) :=
  bif (decide ((0 : Int) < s0)) then
    (getI p1 (w64 (s0 - (1 : Int)))).bind fun (x16 : Int) =>
    bif (decide (x16 = (0 : Int))) then
      some (.next (w64 (s0 - (1 : Int))))
    else
      some (.out s0)
  else
    some (.out s0)

noncomputable def m_spec_l02Make_A0 (p0 : Int) (p1 : List Int) (u0 : Int) : Option (Term × Bool) :=
  (sliceI p1 (0 : Int) u0).bind fun (y25 : List Int) =>
  (m_spec_l00Own y25).bind fun (r26 : List Int) =>
  (m_spec_l02Is (Term.mk p0 r26)).bind fun (r28 : Bool) =>
  bif (!r28) then
    some ((Term.mk (0 : Int) ([] : List Int)), false)
  else
    some ((Term.mk p0 r26), true)

noncomputable def m_spec_l02Make (p0 : Int) (p1 : List Int) : Option (Term × Bool) :=
  (iter (m_spec_l02Make_L0 p1) (p1.length : Int)).bind fun (u0 : Int) =>
  m_spec_l02Make_A0 p0 p1 u0

noncomputable def m_spec_B10Term_L0 (s0 : (List Int) × Int × Int × (List Int) × Int) : Option (Ctl ((List Int) × Int × Int × (List Int) × Int) (((List Int) × Int × Int × (List Int)))) :=
  bif (decide ((0 : Int) < s0.2.2.2.2)) then
    (m_spec_l00Src_pick (l00Src.mk s0.1 s0.2.1 s0.2.2.1) (9 : Int)).bind fun (r19 : Int × l00Src) =>
    (capI (s0.2.2.2.1.length + [(w64 (r19.1 - (4 : Int)))].length) 8).bind fun (q22 : Unit) =>
    some (.next (r19.2.code, r19.2.at_, r19.2.seed, (s0.2.2.2.1 ++ [(w64 (r19.1 - (4 : Int)))]), (w64 (s0.2.2.2.2 - (1 : Int)))))
  else
    some (.out (s0.1, s0.2.1, s0.2.2.1, s0.2.2.2.1))

noncomputable def m_spec_B10Term_A0 (u0 : ((List Int) × Int × Int × (List Int))) : Option Term :=
  (m_spec_l00Src_pick (l00Src.mk u0.1 u0.2.1 u0.2.2.1) (15 : Int)).bind fun (r25 : Int × l00Src) =>
  (m_spec_l02Make (w64 (r25.1 - (7 : Int))) u0.2.2.2).bind fun (r28 : Term × Bool) =>
  some r28.1

noncomputable def m_spec_B10Term (p0 : List Int) : Option Term :=
  (m_spec_l00From p0).bind fun (r9 : l00Src) =>
  (m_spec_l00Src_pick r9 (11 : Int)).bind fun (r12 : Int × l00Src) =>
  (iter (m_spec_B10Term_L0) (r12.2.code, r12.2.at_, r12.2.seed, ([] : List Int), r12.1)).bind fun (u0 : ((List Int) × Int × Int × (List Int))) =>
  m_spec_B10Term_A0 u0

noncomputable def m_spec_B10Values_L0 (s0 : (List Int) × Int × Int × (List Int) × Int) : Option (Ctl ((List Int) × Int × Int × (List Int) × Int) ((List Int))) :=
  bif (decide (s0.2.2.2.2 < (10 : Int))) then
    (m_spec_l00Src_pick (l00Src.mk s0.1 s0.2.1 s0.2.2.1) (13 : Int)).bind fun (r15 : Int × l00Src) =>
    (capI (s0.2.2.2.1.length + [(w64 (r15.1 - (6 : Int)))].length) 8).bind fun (q18 : Unit) =>
    some (.next (r15.2.code, r15.2.at_, r15.2.seed, (s0.2.2.2.1 ++ [(w64 (r15.1 - (6 : Int)))]), (w64 (s0.2.2.2.2 + (1 : Int)))))
  else
    some (.out s0.2.2.2.1)

noncomputable def m_spec_B10Values_A0 (u0 : (List Int)) : Option (List Int) :=
  some u0

noncomputable def m_spec_B10Values (p0 : List Int) : Option (List Int) :=
  (m_spec_l00From p0).bind fun (r7 : l00Src) =>
  (iter (m_spec_B10Values_L0) (r7.code, r7.at_, r7.seed, ([] : List Int), (0 : Int))).bind fun (u0 : (List Int)) =>
  m_spec_B10Values_A0 u0

noncomputable def m_impl_within (p0 : Int) (p1 : Int) (p2 : Int) : Option Bool :=
  some ((decide (p1 ≤ p0)) && (decide (p0 ≤ p2)))

noncomputable def m_impl_isCoeff (p0 : Int) : Option Bool :=
  (m_impl_within p0 (-1000000 : Int) (1000000 : Int)).bind fun (r4 : Bool) =>
  some r4

noncomputable def m_impl_allWithin_L0 (p1 : Int) (p2 : Int) (n0 : Nat) (x0 : Int) (s0 : Unit) : Option (Ctl Unit (Unit ⊕ Bool)) :=
  (m_impl_within x0 p1 p2).bind fun (r18 : Bool) =>
  bif (!r18) then
    some (.out (.inr false))
  else
    some (.next ())

noncomputable def m_impl_allWithin_A0 (u0 : Unit ⊕ Bool) : Option Bool :=
  match u0 with
  | .inl u0 =>
    some true
  | .inr u0 =>
    some u0

noncomputable def m_impl_allWithin (p0 : List Int) (p1 : Int) (p2 : Int) : Option Bool :=
  (forL (m_impl_allWithin_L0 p1 p2) (fun s0 => (.inl ())) 0 p0 ()).bind fun (u0 : Unit ⊕ Bool) =>
  m_impl_allWithin_A0 u0

noncomputable def m_impl_ValidTerm (p0 : Term) : Option Bool :=
  bif (decide ((p0.Coeffs.length : Int) ≤ (10 : Int))) then
    (m_impl_isCoeff p0.Const).bind fun (r12 : Bool) =>
    bif r12 then
      (m_impl_allWithin p0.Coeffs (-1000000 : Int) (1000000 : Int)).bind fun (r17 : Bool) =>
      bif r17 then
        bif (decide ((p0.Coeffs.length : Int) = (0 : Int))) then
          some true
        else
          (getI p0.Coeffs (w64 ((p0.Coeffs.length : Int) - (1 : Int)))).bind fun (x27 : Int) =>
          some (!decide (x27 = (0 : Int)))
      else
        some false
    else
      some false
  else
    some false

noncomputable def m_impl_Term_trimmed_L0 (p0 : Term) (s0 : Int) : Option (Ctl Int Int) :=
  bif (decide ((0 : Int) < s0)) then
    (getI p0.Coeffs (w64 (s0 - (1 : Int)))).bind fun (x14 : Int) =>
    bif (decide (x14 = (0 : Int))) then
      some (.next (w64 (s0 - (1 : Int))))
    else
      some (.out s0)
  else
    some (.out s0)

noncomputable def m_impl_Term_trimmed_A0 (p0 : Term) (u0 : Int) : Option Term :=
  (sliceI p0.Coeffs (0 : Int) u0).bind fun (y23 : List Int) =>
  some (Term.mk p0.Const y23)

noncomputable def m_impl_Term_trimmed (p0 : Term) : Option Term :=
  (iter (m_impl_Term_trimmed_L0 p0) (p0.Coeffs.length : Int)).bind fun (u0 : Int) =>
  m_impl_Term_trimmed_A0 p0 u0

noncomputable def m_impl_combined_L1 (x23 : Int) (n1 : Nat) (x1 : Int) (s1 : List Int) : Option (Ctl (List Int) ((List Int))) :=
  (getI s1 (n1 : Int)).bind fun (x41 : Int) =>
  some (.next (s1.set (((n1 : Int)).toNat) (w64 (x41 + (w64 (x23 * x1))))))

noncomputable def m_impl_combined_A1 (s0 : Int × (List Int)) (x0 : Term) (x23 : Int) (u1 : (List Int)) : Option (Ctl (Int × (List Int)) ((Int × (List Int)))) :=
  some (.next ((w64 (s0.1 + (w64 (x23 * x0.Const)))), u1))

noncomputable def m_impl_combined_L0 (p1 : List Int) (n0 : Nat) (x0 : Term) (s0 : Int × (List Int)) : Option (Ctl (Int × (List Int)) ((Int × (List Int)))) :=
  (getI p1 (n0 : Int)).bind fun (x23 : Int) =>
  (forL (m_impl_combined_L1 x23) (fun s1 => s1) 0 x0.Coeffs s0.2).bind fun (u1 : (List Int)) =>
  m_impl_combined_A1 s0 x0 x23 u1

noncomputable def m_impl_combined_A0 (u0 : (Int × (List Int))) : Option Term :=
  (m_impl_Term_trimmed (Term.mk u0.1 u0.2)).bind fun (r54 : Term) =>
  some r54

noncomputable def m_impl_combined (p0 : List Term) (p1 : List Int) : Option Term :=
  (makeI (10 : Int) 8).bind fun (k10 : Nat) =>
  (forL (m_impl_combined_L0 p1) (fun s0 => (s0.1, s0.2)) 0 p0 ((0 : Int), (List.replicate k10 (0 : Int)))).bind fun (u0 : (Int × (List Int))) =>
  m_impl_combined_A0 u0

noncomputable def m_impl_Term_opposite (p0 : Term) : Option Term :=
  (m_impl_combined [p0] [(-1 : Int)]).bind fun (r7 : Term) =>
  some (Term.mk (w64 (r7.Const - (1 : Int))) r7.Coeffs)

noncomputable def m_impl_copyInts (p0 : List Int) : Option (List Int) :=
  (capI (([] : List Int).length + p0.length) 8).bind fun (q5 : Unit) =>
  some (([] : List Int) ++ p0)

noncomputable def m_impl_Term_own (p0 : Term) : Option Term :=
  (m_impl_copyInts p0.Coeffs).bind fun (r7 : List Int) =>
  some (Term.mk p0.Const r7)

noncomputable def m_impl_Term_checked (p0 : Term) : Option (Term × Bool) :=
  (m_impl_ValidTerm p0).bind fun (r5 : Bool) =>
  bif (!r5) then
    some ((Term.mk (0 : Int) ([] : List Int)), false)
  else
    (m_impl_Term_own p0).bind fun (r9 : Term) =>
    some (r9, true)

noncomputable def m_impl_OppositeOf (p0 : Term) : Option (Term × Bool) :=
  (m_impl_ValidTerm p0).bind fun (r5 : Bool) =>
  bif (!r5) then
    some ((Term.mk (0 : Int) ([] : List Int)), false)
  else
    (m_impl_Term_opposite p0).bind fun (r9 : Term) =>
    (m_impl_Term_checked r9).bind fun (r10 : Term × Bool) =>
    some (r10.1, r10.2)

noncomputable def m_slices_Equal_int64_int64_L0 (p1 : List Int) (n0 : Nat) (x0 : Int) (s0 : Unit) : Option (Ctl Unit (Unit ⊕ Bool)) :=
  (getI p1 (n0 : Int)).bind fun (x22 : Int) =>
  bif (!decide (x0 = x22)) then
    some (.out (.inr false))
  else
    some (.next ())

noncomputable def m_slices_Equal_int64_int64_A0 (u0 : Unit ⊕ Bool) : Option Bool :=
  match u0 with
  | .inl u0 =>
    some true
  | .inr u0 =>
    some u0

noncomputable def m_slices_Equal_int64_int64 (p0 : List Int) (p1 : List Int) : Option Bool :=
  bif (!decide ((p0.length : Int) = (p1.length : Int))) then
    some false
  else
    (forL (m_slices_Equal_int64_int64_L0 p1) (fun s0 => (.inl ())) 0 p0 ()).bind fun (u0 : Unit ⊕ Bool) =>
    m_slices_Equal_int64_int64_A0 u0

noncomputable def m_impl_Term_equal (p0 : Term) (p1 : Term) : Option Bool :=
  bif (decide (p0.Const = p1.Const)) then
    (m_slices_Equal_int64_int64 p0.Coeffs p1.Coeffs).bind fun (r15 : Bool) =>
    some r15
  else
    some false

noncomputable def m_impl_SameTerm (p0 : Term) (p1 : Term) : Option Bool :=
  (m_impl_ValidTerm p0).bind fun (r6 : Bool) =>
  bif r6 then
    (m_impl_ValidTerm p1).bind fun (r9 : Bool) =>
    bif r9 then
      (m_impl_Term_equal p0 p1).bind fun (r14 : Bool) =>
      some r14
    else
      some false
  else
    some false

noncomputable def m_laws_b10Value_L0 (p0 : Term) (p1 : List Int) (s0 : Int × Int) : Option (Ctl (Int × Int) Int) :=
  bif ((decide (s0.2 < (p0.Coeffs.length : Int))) && (decide (s0.2 < (p1.length : Int)))) then
    (getI p0.Coeffs s0.2).bind fun (x26 : Int) =>
    (getI p1 s0.2).bind fun (x30 : Int) =>
    some (.next ((w64 (s0.1 + (w64 (x26 * x30)))), (w64 (s0.2 + (1 : Int)))))
  else
    some (.out s0.1)

noncomputable def m_laws_b10Value_A0 (u0 : Int) : Option Int :=
  some u0

noncomputable def m_laws_b10Value (p0 : Term) (p1 : List Int) : Option Int :=
  (iter (m_laws_b10Value_L0 p0 p1) (p0.Const, (0 : Int))).bind fun (u0 : Int) =>
  m_laws_b10Value_A0 u0

noncomputable def m_laws_FnOpposite (p0 : List Int) (p1 : List Int) : Option Bool :=
  (m_laws_b10Long p0 p1).bind fun (r13 : Bool) =>
  bif r13 then
    some true
  else
    (m_spec_B10Term p0).bind fun (r15 : Term) =>
    (m_spec_B10Values p1).bind fun (r17 : List Int) =>
    (m_impl_OppositeOf r15).bind fun (r20 : Term × Bool) =>
    (m_impl_OppositeOf r20.1).bind fun (r25 : Term × Bool) =>
    bif r20.2 then
      bif r25.2 then
        (m_impl_SameTerm r25.1 r15).bind fun (r35 : Bool) =>
        bif r35 then
          (m_laws_b10Value r15 r17).bind fun (r40 : Int) =>
          (m_laws_b10Value r20.1 r17).bind fun (r44 : Int) =>
          some (!((decide ((0 : Int) ≤ r40)) == (decide ((0 : Int) ≤ r44))))
        else
          some false
      else
        some false
    else
      some false

noncomputable def m_laws_b10At (p0 : List Int) (p1 : Int) (p2 : Int) : Option Int :=
  bif (decide (p2 ≤ (1 : Int))) then
    some (0 : Int)
  else
    bif (decide (p1 < (p0.length : Int))) then
      (getI p0 p1).bind fun (x15 : Int) =>
      (remI (w64 x15) p2).bind fun (q19 : Int) =>
      some q19
    else
      (remI (w64 ((w64 (p1 * (37 : Int))) + (11 : Int))) p2).bind fun (q24 : Int) =>
      some q24

noncomputable def m_impl_ScaleTerm (p0 : Term) (p1 : Int) : Option (Term × Bool) :=
  (m_impl_ValidTerm p0).bind fun (r7 : Bool) =>
  bif (!r7) then
    some ((Term.mk (0 : Int) ([] : List Int)), false)
  else
    (m_impl_isCoeff p1).bind fun (r11 : Bool) =>
    bif (!r11) then
      some ((Term.mk (0 : Int) ([] : List Int)), false)
    else
      (m_impl_combined [p0] [p1]).bind fun (r19 : Term) =>
      (m_impl_Term_checked r19).bind fun (r20 : Term × Bool) =>
      some (r20.1, r20.2)

noncomputable def m_impl_absolute (p0 : Int) : Option Int :=
  some (max p0 (w64 (0 - p0)))

noncomputable def m_impl_gcd_L1 (s1 : Int × Int) : Option (Ctl (Int × Int) Int) :=
  bif (!decide (s1.2 = (0 : Int))) then
    (remI s1.1 s1.2).bind fun (q22 : Int) =>
    some (.next (s1.2, q22))
  else
    some (.out s1.1)

noncomputable def m_impl_gcd_A1 (u1 : Int) : Option (Ctl Int Int) :=
  some (.next u1)

noncomputable def m_impl_gcd_L0 (n0 : Nat) (x0 : Int) (s0 : Int) : Option (Ctl Int Int) :=
  (m_impl_absolute x0).bind fun (r16 : Int) =>
  (iter (m_impl_gcd_L1) (s0, r16)).bind fun (u1 : Int) =>
  m_impl_gcd_A1 u1

noncomputable def m_impl_gcd_A0 (u0 : Int) : Option Int :=
  some u0

noncomputable def m_impl_gcd (p0 : List Int) : Option Int :=
  (forL (m_impl_gcd_L0) (fun s0 => s0) 0 p0 (0 : Int)).bind fun (u0 : Int) =>
  m_impl_gcd_A0 u0

noncomputable def m_impl_divFloor (p0 : Int) (p1 : Int) : Option Int :=
  (quoI p0 p1).bind fun (q8 : Int) =>
  (remI p0 p1).bind fun (q11 : Int) =>
  bif (decide (q11 < (0 : Int))) then
    some (w64 (q8 - (1 : Int)))
  else
    some q8

noncomputable def m_impl_Term_tightened_L0 (r9 : Int) (r14 : Term) (s0 : (List Int) × Int) : Option (Ctl ((List Int) × Int) ((List Int))) :=
  bif (decide (s0.2 < (r14.Coeffs.length : Int))) then
    (getI s0.1 s0.2).bind fun (x29 : Int) =>
    (quoI x29 r9).bind fun (q32 : Int) =>
    some (.next ((s0.1.set ((s0.2).toNat) q32), (w64 (s0.2 + (1 : Int)))))
  else
    some (.out s0.1)

noncomputable def m_impl_Term_tightened_A0 (r18 : Int) (u0 : (List Int)) : Option (Term × Bool) :=
  some ((Term.mk r18 u0), true)

noncomputable def m_impl_Term_tightened (p0 : Term) : Option (Term × Bool) :=
  (m_impl_gcd p0.Coeffs).bind fun (r9 : Int) =>
  bif (decide (r9 ≤ (1 : Int))) then
    some ((Term.mk (0 : Int) ([] : List Int)), false)
  else
    (m_impl_Term_own p0).bind fun (r14 : Term) =>
    (m_impl_divFloor p0.Const r9).bind fun (r18 : Int) =>
    (iter (m_impl_Term_tightened_L0 r9 r14) (r14.Coeffs, (0 : Int))).bind fun (u0 : (List Int)) =>
    m_impl_Term_tightened_A0 r18 u0

noncomputable def m_impl_TightenTerm (p0 : Term) : Option (Term × Bool) :=
  (m_impl_ValidTerm p0).bind fun (r5 : Bool) =>
  bif (!r5) then
    some ((Term.mk (0 : Int) ([] : List Int)), false)
  else
    (m_impl_Term_tightened p0).bind fun (r9 : Term × Bool) =>
    some (r9.1, r9.2)

noncomputable def m_laws_FnTightened_J0 (r18 : Term) (r25 : Term × Bool) (r29 : List Int) (j0 : Int) : Option Bool :=
  (m_impl_TightenTerm (Term.mk j0 r25.1.Coeffs)).bind fun (r44 : Term × Bool) =>
  bif (!(r44.2 == (decide ((0 : Int) < (r18.Coeffs.length : Int))))) then
    some false
  else
    bif (!r44.2) then
      some true
    else
      (m_impl_TightenTerm r44.1).bind fun (r57 : Term × Bool) =>
      bif (!r57.2) then
        (m_laws_b10Value r44.1 r29).bind fun (r65 : Int) =>
        (m_laws_b10Value (Term.mk j0 r25.1.Coeffs) r29).bind fun (r69 : Int) =>
        some ((decide ((0 : Int) ≤ r65)) == (decide ((0 : Int) ≤ r69)))
      else
        some false

noncomputable def m_laws_FnTightened (p0 : List Int) (p1 : List Int) : Option Bool :=
  (m_laws_b10Long p0 p1).bind fun (r16 : Bool) =>
  bif r16 then
    some true
  else
    (m_spec_B10Term p0).bind fun (r18 : Term) =>
    (m_laws_b10At p1 (0 : Int) (4 : Int)).bind fun (r20 : Int) =>
    (m_impl_ScaleTerm r18 (w64 ((2 : Int) + r20))).bind fun (r25 : Term × Bool) =>
    (m_spec_B10Values p1).bind fun (r29 : List Int) =>
    bif (!r25.2) then
      some false
    else
      bif (decide (r25.1.Const < (999991 : Int))) then
        (m_laws_b10At p1 (1 : Int) (7 : Int)).bind fun (r38 : Int) =>
        m_laws_FnTightened_J0 r18 r25 r29 (w64 (r25.1.Const + (w64 (r38 - (3 : Int)))))
      else
        m_laws_FnTightened_J0 r18 r25 r29 r25.1.Const

noncomputable def m_laws_szInt64S (p0 : List Int) (p1 : Int) : Option Int :=
  bif (decide ((w64 (p1 - (p0.length : Int))) < (0 : Int))) then
    some (-1 : Int)
  else
    some (w64 (p1 - (p0.length : Int)))

noncomputable def m_laws_szTerm (p0 : Term) (p1 : Int) : Option Int :=
  (m_laws_szInt64S p0.Coeffs p1).bind fun (r8 : Int) =>
  bif (decide (r8 < (0 : Int))) then
    some (-1 : Int)
  else
    some r8

noncomputable def m_laws_toInt64S_L0 (p0 : List Int) (s0 : (List Int) × Int) : Option (Ctl ((List Int) × Int) ((List Int))) :=
  bif (decide (s0.2 < (p0.length : Int))) then
    (getI p0 s0.2).bind fun (x18 : Int) =>
    (getI s0.1 s0.2).bind fun (x20 : Int) =>
    some (.next ((s0.1.set ((s0.2).toNat) x18), (w64 (s0.2 + (1 : Int)))))
  else
    some (.out s0.1)

noncomputable def m_laws_toInt64S_A0 (u0 : (List Int)) : Option (List Int) :=
  some u0

noncomputable def m_laws_toInt64S (p0 : List Int) : Option (List Int) :=
  (makeI (p0.length : Int) 8).bind fun (k7 : Nat) =>
  (iter (m_laws_toInt64S_L0 p0) ((List.replicate k7 (0 : Int)), (0 : Int))).bind fun (u0 : (List Int)) =>
  m_laws_toInt64S_A0 u0

noncomputable def m_laws_toTerm (p0 : Term) : Option Term :=
  (m_laws_toInt64S p0.Coeffs).bind fun (r9 : List Int) =>
  some (Term.mk p0.Const r9)

noncomputable def m_spec_l02Coeff (p0 : Term) (p1 : Int) : Option Int :=
  bif (decide (p1 < (p0.Coeffs.length : Int))) then
    (getI p0.Coeffs p1).bind fun (x17 : Int) =>
    some x17
  else
    some (0 : Int)

noncomputable def m_spec_l02Sum_L0 (p0 : Term) (p1 : Int) (p2 : Term) (p3 : Int) (s0 : (List Int) × Int) : Option (Ctl ((List Int) × Int) ((List Int))) :=
  bif (decide (s0.2 < (10 : Int))) then
    (m_spec_l02Coeff p0 s0.2).bind fun (r21 : Int) =>
    (m_spec_l02Coeff p2 s0.2).bind fun (r26 : Int) =>
    (capI (s0.1.length + [(w64 ((w64 (p1 * r21)) + (w64 (p3 * r26))))].length) 8).bind fun (q30 : Unit) =>
    some (.next ((s0.1 ++ [(w64 ((w64 (p1 * r21)) + (w64 (p3 * r26))))]), (w64 (s0.2 + (1 : Int)))))
  else
    some (.out s0.1)

noncomputable def m_spec_l02Sum_A0 (p0 : Term) (p1 : Int) (p2 : Term) (p3 : Int) (u0 : (List Int)) : Option (Term × Bool) :=
  (m_spec_l02Make (w64 ((w64 (p1 * p0.Const)) + (w64 (p3 * p2.Const)))) u0).bind fun (r45 : Term × Bool) =>
  some (r45.1, r45.2)

noncomputable def m_spec_l02Sum (p0 : Term) (p1 : Int) (p2 : Term) (p3 : Int) : Option (Term × Bool) :=
  (iter (m_spec_l02Sum_L0 p0 p1 p2 p3) (([] : List Int), (0 : Int))).bind fun (u0 : (List Int)) =>
  m_spec_l02Sum_A0 p0 p1 p2 p3 u0

noncomputable def m_spec_l02Add (p0 : Term) (p1 : Term) : Option (Term × Bool) :=
  (m_spec_l02Sum p0 (1 : Int) p1 (1 : Int)).bind fun (r8 : Term × Bool) =>
  some (r8.1, r8.2)

noncomputable def m_spec_AddTerms (p0 : Term) (p1 : Term) : Option (Term × Bool) :=
  (m_spec_l02Is p0).bind fun (r6 : Bool) =>
  bif (!r6) then
    some ((Term.mk (0 : Int) ([] : List Int)), false)
  else
    (m_spec_l02Is p1).bind fun (r9 : Bool) =>
    bif (!r9) then
      some ((Term.mk (0 : Int) ([] : List Int)), false)
    else
      (m_spec_l02Add p0 p1).bind fun (r13 : Term × Bool) =>
      some (r13.1, r13.2)

noncomputable def m_impl_AddTerms (p0 : Term) (p1 : Term) : Option (Term × Bool) :=
  (m_impl_ValidTerm p0).bind fun (r7 : Bool) =>
  bif (!r7) then
    some ((Term.mk (0 : Int) ([] : List Int)), false)
  else
    (m_impl_ValidTerm p1).bind fun (r11 : Bool) =>
    bif (!r11) then
      some ((Term.mk (0 : Int) ([] : List Int)), false)
    else
      (m_impl_combined [p0, p1] [(1 : Int), (1 : Int)]).bind fun (r19 : Term) =>
      (m_impl_Term_checked r19).bind fun (r20 : Term × Bool) =>
      some (r20.1, r20.2)

noncomputable def m_laws_eqInt64S_L0 (p0 : List Int) (p1 : List Int) (s0 : Int) : Option (Ctl Int (Unit ⊕ Bool)) :=
  bif (decide (s0 < (p0.length : Int))) then
    (getI p0 s0).bind fun (x19 : Int) =>
    (getI p1 s0).bind fun (x23 : Int) =>
    bif (!decide (x19 = x23)) then
      some (.out (.inr false))
    else
      some (.next (w64 (s0 + (1 : Int))))
  else
    some (.out (.inl ()))

noncomputable def m_laws_eqInt64S_A0 (u0 : Unit ⊕ Bool) : Option Bool :=
  match u0 with
  | .inl u0 =>
    some true
  | .inr u0 =>
    some u0

noncomputable def m_laws_eqInt64S (p0 : List Int) (p1 : List Int) : Option Bool :=
  bif (!decide ((p0.length : Int) = (p1.length : Int))) then
    some false
  else
    (iter (m_laws_eqInt64S_L0 p0 p1) (0 : Int)).bind fun (u0 : Unit ⊕ Bool) =>
    m_laws_eqInt64S_A0 u0

noncomputable def m_laws_eqTerm (p0 : Term) (p1 : Term) : Option Bool :=
  bif (!decide (p0.Const = p1.Const)) then
    some false
  else
    (m_laws_eqInt64S p0.Coeffs p1.Coeffs).bind fun (r14 : Bool) =>
    bif (!r14) then
      some false
    else
      some true

noncomputable def m_laws_markInt64S_L0 (s0 : (List Int) × Int × Int) : Option (Ctl ((List Int) × Int × Int) ((Int × (List Int)))) :=
  bif (decide (s0.2.2 < (s0.1.length : Int))) then
    (getI s0.1 s0.2.2).bind fun (x15 : Int) =>
    some (.next ((s0.1.set ((s0.2.2).toNat) s0.2.1), (w64 (s0.2.1 + (1 : Int))), (w64 (s0.2.2 + (1 : Int)))))
  else
    some (.out (s0.2.1, s0.1))

noncomputable def m_laws_markInt64S_A0 (u0 : (Int × (List Int))) : Option (Int × (List Int)) :=
  some (u0.1, u0.2)

noncomputable def m_laws_markInt64S (p0 : List Int) (p1 : Int) : Option (Int × (List Int)) :=
  (iter (m_laws_markInt64S_L0) (p0, p1, (0 : Int))).bind fun (u0 : (Int × (List Int))) =>
  m_laws_markInt64S_A0 u0

noncomputable def m_laws_markTerm (p0 : Term) (p1 : Int) : Option (Int × (List Int)) :=
  (m_laws_markInt64S p0.Coeffs p1).bind fun (r8 : Int × (List Int)) =>
  some (r8.1, r8.2)

noncomputable def m_laws_heldInt64S_L0 (p0 : List Int) (s0 : Int × Int) : Option (Ctl (Int × Int) (Int ⊕ Int)) :=
  bif (decide (s0.2 < (p0.length : Int))) then
    (getI p0 s0.2).bind fun (x14 : Int) =>
    bif (!decide (x14 = s0.1)) then
      some (.out (.inr (-1 : Int)))
    else
      some (.next ((w64 (s0.1 + (1 : Int))), (w64 (s0.2 + (1 : Int)))))
  else
    some (.out (.inl s0.1))

noncomputable def m_laws_heldInt64S_A0 (u0 : Int ⊕ Int) : Option Int :=
  match u0 with
  | .inl u0 =>
    some u0
  | .inr u0 =>
    some u0

noncomputable def m_laws_heldInt64S (p0 : List Int) (p1 : Int) : Option Int :=
  (iter (m_laws_heldInt64S_L0 p0) (p1, (0 : Int))).bind fun (u0 : Int ⊕ Int) =>
  m_laws_heldInt64S_A0 u0

noncomputable def m_laws_heldTerm (p0 : Term) (p1 : Int) : Option Int :=
  (m_laws_heldInt64S p0.Coeffs p1).bind fun (r8 : Int) =>
  bif (decide (r8 < (0 : Int))) then
    some (-1 : Int)
  else
    some r8

noncomputable def m_laws_FnExactAddTerms_J1 (j0 : Int × (List Int) × Bool) (r42 : Term × Bool) (r85 : Int × (List Int)) (j1 : Int × (List Int) × Bool) : Option Bool :=
  (m_laws_eqTerm (Term.mk j1.1 j1.2.1) (Term.mk j0.1 j0.2.1)).bind fun (r104 : Bool) =>
  bif ((!r104) || (!(j1.2.2 == j0.2.2))) then
    some false
  else
    (m_laws_heldTerm (Term.mk r42.1.Const r85.2) (1 : Int)).bind fun (r113 : Int) =>
    bif (decide (r113 < (0 : Int))) then
      some false
    else
      bif (!decide (r113 = r85.1)) then
        some false
      else
        some true

noncomputable def m_laws_FnExactAddTerms_J0 (p0 : Term) (p1 : Term) (j0 : Int × (List Int) × Bool) : Option Bool :=
  (m_laws_toTerm p0).bind fun (r36 : Term) =>
  (m_laws_toTerm p1).bind fun (r38 : Term) =>
  (m_impl_AddTerms r36 r38).bind fun (r42 : Term × Bool) =>
  (m_laws_eqTerm r42.1 (Term.mk j0.1 j0.2.1)).bind fun (r47 : Bool) =>
  bif ((!r47) || (!(r42.2 == j0.2.2))) then
    some false
  else
    (m_laws_toTerm p0).bind fun (r56 : Term) =>
    (m_laws_eqTerm r36 r56).bind fun (r57 : Bool) =>
    bif (!r57) then
      some false
    else
      (m_laws_toTerm p1).bind fun (r61 : Term) =>
      (m_laws_eqTerm r38 r61).bind fun (r62 : Bool) =>
      bif (!r62) then
        some false
      else
        (m_laws_markTerm r36 (1 : Int)).bind fun (r66 : Int × (List Int)) =>
        (m_laws_markTerm r38 r66.1).bind fun (r69 : Int × (List Int)) =>
        bif (decide (r69.1 < (0 : Int))) then
          some false
        else
          (m_laws_eqTerm r42.1 (Term.mk j0.1 j0.2.1)).bind fun (r75 : Bool) =>
          bif ((!r75) || (!(r42.2 == j0.2.2))) then
            some false
          else
            (m_laws_markTerm r42.1 (1 : Int)).bind fun (r85 : Int × (List Int)) =>
            (m_laws_heldTerm (Term.mk r42.1.Const r85.2) (1 : Int)).bind fun (r88 : Int) =>
            bif (decide (r88 < (0 : Int))) then
              some false
            else
              bif (!decide (r88 = r85.1)) then
                some false
              else
                (m_laws_toTerm p0).bind fun (r96 : Term) =>
                (m_laws_toTerm p1).bind fun (r98 : Term) =>
                (m_impl_AddTerms r96 r98).bind fun (r99 : Term × Bool) =>
                m_laws_FnExactAddTerms_J1 j0 r42 r85 (r99.1.Const, r99.1.Coeffs, r99.2)

noncomputable def m_laws_FnExactAddTerms (p0 : Term) (p1 : Term) : Option Bool :=
  (m_laws_szTerm p0 (1048576 : Int)).bind fun (r19 : Int) =>
  bif (decide (r19 < (0 : Int))) then
    some true
  else
    (m_laws_szTerm p1 r19).bind fun (r24 : Int) =>
    bif (decide (r24 < (0 : Int))) then
      some true
    else
      (m_laws_toTerm p0).bind fun (r29 : Term) =>
      (m_laws_toTerm p1).bind fun (r31 : Term) =>
      (m_spec_AddTerms r29 r31).bind fun (r32 : Term × Bool) =>
      m_laws_FnExactAddTerms_J0 p0 p1 (r32.1.Const, r32.1.Coeffs, r32.2)

noncomputable def m_spec_l02Scale (p0 : Term) (p1 : Int) : Option (Term × Bool) :=
  (m_spec_l02Sum p0 p1 (Term.mk (0 : Int) ([] : List Int)) (0 : Int)).bind fun (r10 : Term × Bool) =>
  some (r10.1, r10.2)

noncomputable def m_spec_ScaleTerm (p0 : Term) (p1 : Int) : Option (Term × Bool) :=
  (m_spec_l02Is p0).bind fun (r6 : Bool) =>
  bif (!r6) then
    some ((Term.mk (0 : Int) ([] : List Int)), false)
  else
    (m_spec_l02Number p1).bind fun (r10 : Bool) =>
    bif (!r10) then
      some ((Term.mk (0 : Int) ([] : List Int)), false)
    else
      (m_spec_l02Scale p0 p1).bind fun (r15 : Term × Bool) =>
      some (r15.1, r15.2)

noncomputable def m_laws_FnExactScaleTerm (p0 : Term) (p1 : Int) : Option Bool :=
  (m_laws_szTerm p0 (1048576 : Int)).bind fun (r18 : Int) =>
  bif (decide (r18 < (0 : Int))) then
    some true
  else
    (m_laws_toTerm p0).bind fun (r23 : Term) =>
    (m_spec_ScaleTerm r23 p1).bind fun (r25 : Term × Bool) =>
    (m_laws_toTerm p0).bind fun (r29 : Term) =>
    (m_impl_ScaleTerm r29 p1).bind fun (r33 : Term × Bool) =>
    (m_laws_eqTerm r33.1 r25.1).bind fun (r38 : Bool) =>
    bif ((!r38) || (!(r33.2 == r25.2))) then
      some false
    else
      (m_laws_toTerm p0).bind fun (r47 : Term) =>
      (m_laws_eqTerm r29 r47).bind fun (r48 : Bool) =>
      bif (!r48) then
        some false
      else
        (m_laws_markTerm r29 (1 : Int)).bind fun (r52 : Int × (List Int)) =>
        bif (decide (r52.1 < (0 : Int))) then
          some false
        else
          (m_laws_eqTerm r33.1 r25.1).bind fun (r58 : Bool) =>
          bif ((!r58) || (!(r33.2 == r25.2))) then
            some false
          else
            (m_laws_markTerm r33.1 (1 : Int)).bind fun (r68 : Int × (List Int)) =>
            (m_laws_heldTerm (Term.mk r33.1.Const r68.2) (1 : Int)).bind fun (r71 : Int) =>
            bif (decide (r71 < (0 : Int))) then
              some false
            else
              bif (!decide (r71 = r68.1)) then
                some false
              else
                (m_laws_toTerm p0).bind fun (r79 : Term) =>
                (m_impl_ScaleTerm r79 p1).bind fun (r81 : Term × Bool) =>
                (m_laws_eqTerm r81.1 r25.1).bind fun (r86 : Bool) =>
                bif ((!r86) || (!(r81.2 == r25.2))) then
                  some false
                else
                  (m_laws_heldTerm (Term.mk r33.1.Const r68.2) (1 : Int)).bind fun (r95 : Int) =>
                  bif (decide (r95 < (0 : Int))) then
                    some false
                  else
                    bif (!decide (r95 = r68.1)) then
                      some false
                    else
                      some true

noncomputable def m_impl_areTerms_L0 (n0 : Nat) (x0 : Term) (s0 : Unit) : Option (Ctl Unit (Unit ⊕ Bool)) :=
  (m_impl_ValidTerm x0).bind fun (r18 : Bool) =>
  bif (!r18) then
    some (.out (.inr false))
  else
    some (.next ())

noncomputable def m_impl_areTerms_A0 (u0 : Unit ⊕ Bool) : Option Bool :=
  match u0 with
  | .inl u0 =>
    some true
  | .inr u0 =>
    some u0

noncomputable def m_impl_areTerms (p0 : List Term) (p1 : Int) : Option Bool :=
  bif (decide (p1 < (p0.length : Int))) then
    some false
  else
    (forL (m_impl_areTerms_L0) (fun s0 => (.inl ())) 0 p0 ()).bind fun (u0 : Unit ⊕ Bool) =>
    m_impl_areTerms_A0 u0

noncomputable def m_impl_SubstituteTerm_J0 (s0 : (List Term) × (List Int)) (x0 : Int) (j0 : Int × (List Int)) : Option (Ctl ((List Term) × (List Int)) (((List Term) × (List Int)))) :=
  (capI (s0.1.length + [(Term.mk j0.1 j0.2)].length) 32).bind fun (q52 : Unit) =>
  (capI (s0.2.length + [x0].length) 8).bind fun (q56 : Unit) =>
  some (.next ((s0.1 ++ [(Term.mk j0.1 j0.2)]), (s0.2 ++ [x0])))

noncomputable def m_impl_SubstituteTerm_L0 (p1 : List Term) (n0 : Nat) (x0 : Int) (s0 : (List Term) × (List Int)) : Option (Ctl ((List Term) × (List Int)) (((List Term) × (List Int)))) :=
  (makeI ((n0 + 1 : Nat) : Int) 8).bind fun (k35 : Nat) =>
  (getI (List.replicate k35 (0 : Int)) (n0 : Int)).bind fun (x40 : Int) =>
  bif (decide ((n0 : Int) < (p1.length : Int))) then
    (getI p1 (n0 : Int)).bind fun (x47 : Term) =>
    m_impl_SubstituteTerm_J0 s0 x0 (x47.Const, x47.Coeffs)
  else
    m_impl_SubstituteTerm_J0 s0 x0 ((0 : Int), ((List.replicate k35 (0 : Int)).set (((n0 : Int)).toNat) (1 : Int)))

noncomputable def m_impl_SubstituteTerm_A0 (u0 : ((List Term) × (List Int))) : Option (Term × Bool) :=
  (m_impl_combined u0.1 u0.2).bind fun (r60 : Term) =>
  (m_impl_Term_checked r60).bind fun (r61 : Term × Bool) =>
  some (r61.1, r61.2)

noncomputable def m_impl_SubstituteTerm (p0 : Term) (p1 : List Term) : Option (Term × Bool) :=
  (m_impl_ValidTerm p0).bind fun (r12 : Bool) =>
  bif (!r12) then
    some ((Term.mk (0 : Int) ([] : List Int)), false)
  else
    (m_impl_areTerms p1 (10 : Int)).bind fun (r16 : Bool) =>
    bif (!r16) then
      some ((Term.mk (0 : Int) ([] : List Int)), false)
    else
      (forL (m_impl_SubstituteTerm_L0 p1) (fun s0 => (s0.1, s0.2)) 0 p0.Coeffs ([(Term.mk p0.Const ([] : List Int))], [(1 : Int)])).bind fun (u0 : ((List Term) × (List Int))) =>
      m_impl_SubstituteTerm_A0 u0

noncomputable def m_impl_areValues (p0 : List Int) : Option Bool :=
  bif (decide ((p0.length : Int) = (10 : Int))) then
    (m_impl_allWithin p0 (-1000000000 : Int) (1000000000 : Int)).bind fun (r8 : Bool) =>
    some r8
  else
    some false

noncomputable def m_impl_Term_eval_L0 (p1 : List Int) (n0 : Nat) (x0 : Int) (s0 : Int) : Option (Ctl Int Int) :=
  (getI p1 (n0 : Int)).bind fun (x22 : Int) =>
  some (.next (w64 (s0 + (w64 (x0 * x22)))))

noncomputable def m_impl_Term_eval_A0 (u0 : Int) : Option Int :=
  some u0

noncomputable def m_impl_Term_eval (p0 : Term) (p1 : List Int) : Option Int :=
  (forL (m_impl_Term_eval_L0 p1) (fun s0 => s0) 0 p0.Coeffs p0.Const).bind fun (u0 : Int) =>
  m_impl_Term_eval_A0 u0

noncomputable def m_impl_EvalTerm (p0 : Term) (p1 : List Int) : Option (Int × Bool) :=
  (m_impl_ValidTerm p0).bind fun (r7 : Bool) =>
  bif (!r7) then
    some ((0 : Int), false)
  else
    (m_impl_areValues p1).bind fun (r11 : Bool) =>
    bif (!r11) then
      some ((0 : Int), false)
    else
      (m_impl_Term_eval p0 p1).bind fun (r16 : Int) =>
      some (r16, true)

noncomputable def m_laws_FnTerms_J0 (r34 : List Int) (r60 : Int × Bool) (r66 : Int × Bool) (r84 : Int × Bool) (j0 : Int) : Option Bool :=
  (getI r34 (0 : Int)).bind fun (x143 : Int) =>
  some (decide (r84.1 = (w64 ((w64 (r60.1 - (w64 (j0 * x143)))) + (w64 (j0 * r66.1))))))

noncomputable def m_laws_FnTerms (p0 : List Int) (p1 : List Int) : Option Bool :=
  (m_laws_b10Long p0 p1).bind fun (r28 : Bool) =>
  bif r28 then
    some true
  else
    (m_spec_B10Term p0).bind fun (r30 : Term) =>
    (m_spec_B10Term p1).bind fun (r32 : Term) =>
    (m_spec_B10Values p1).bind fun (r34 : List Int) =>
    (m_laws_b10At p1 (0 : Int) (9 : Int)).bind fun (r36 : Int) =>
    (m_impl_AddTerms r30 r32).bind fun (r41 : Term × Bool) =>
    (m_impl_ScaleTerm r30 (w64 (r36 - (4 : Int)))).bind fun (r47 : Term × Bool) =>
    (m_impl_SubstituteTerm r30 [r32]).bind fun (r54 : Term × Bool) =>
    (m_impl_EvalTerm r30 r34).bind fun (r60 : Int × Bool) =>
    (m_impl_EvalTerm r32 r34).bind fun (r66 : Int × Bool) =>
    (m_impl_EvalTerm r41.1 r34).bind fun (r72 : Int × Bool) =>
    (m_impl_EvalTerm r47.1 r34).bind fun (r78 : Int × Bool) =>
    (m_impl_EvalTerm r54.1 r34).bind fun (r84 : Int × Bool) =>
    bif ((((((((((!r41.2) || (!r47.2)) || (!r54.2)) || (!r60.2)) || (!r66.2)) || (!r72.2)) || (!r78.2)) || (!r84.2)) || (!decide (r72.1 = (w64 (r60.1 + r66.1))))) || (!decide (r78.1 = (w64 ((w64 (r36 - (4 : Int))) * r60.1))))) then
      some false
    else
      bif (decide ((0 : Int) < (r30.Coeffs.length : Int))) then
        (getI r30.Coeffs (0 : Int)).bind fun (x137 : Int) =>
        m_laws_FnTerms_J0 r34 r60 r66 r84 x137
      else
        m_laws_FnTerms_J0 r34 r60 r66 r84 (0 : Int)

noncomputable def m_spec_l02Opposite (p0 : Term) : Option (Term × Bool) :=
  (m_spec_l02Sum p0 (-1 : Int) (Term.mk (1 : Int) ([] : List Int)) (-1 : Int)).bind fun (r7 : Term × Bool) =>
  some (r7.1, r7.2)

noncomputable def m_spec_OppositeOf (p0 : Term) : Option (Term × Bool) :=
  (m_spec_l02Is p0).bind fun (r4 : Bool) =>
  bif (!r4) then
    some ((Term.mk (0 : Int) ([] : List Int)), false)
  else
    (m_spec_l02Opposite p0).bind fun (r7 : Term × Bool) =>
    some (r7.1, r7.2)

noncomputable def m_laws_FnExactOppositeOf (p0 : Term) : Option Bool :=
  (m_laws_szTerm p0 (1048576 : Int)).bind fun (r16 : Int) =>
  bif (decide (r16 < (0 : Int))) then
    some true
  else
    (m_laws_toTerm p0).bind fun (r21 : Term) =>
    (m_spec_OppositeOf r21).bind fun (r22 : Term × Bool) =>
    (m_laws_toTerm p0).bind fun (r26 : Term) =>
    (m_impl_OppositeOf r26).bind fun (r29 : Term × Bool) =>
    (m_laws_eqTerm r29.1 r22.1).bind fun (r34 : Bool) =>
    bif ((!r34) || (!(r29.2 == r22.2))) then
      some false
    else
      (m_laws_toTerm p0).bind fun (r43 : Term) =>
      (m_laws_eqTerm r26 r43).bind fun (r44 : Bool) =>
      bif (!r44) then
        some false
      else
        (m_laws_markTerm r26 (1 : Int)).bind fun (r48 : Int × (List Int)) =>
        bif (decide (r48.1 < (0 : Int))) then
          some false
        else
          (m_laws_eqTerm r29.1 r22.1).bind fun (r54 : Bool) =>
          bif ((!r54) || (!(r29.2 == r22.2))) then
            some false
          else
            (m_laws_markTerm r29.1 (1 : Int)).bind fun (r64 : Int × (List Int)) =>
            (m_laws_heldTerm (Term.mk r29.1.Const r64.2) (1 : Int)).bind fun (r67 : Int) =>
            bif (decide (r67 < (0 : Int))) then
              some false
            else
              bif (!decide (r67 = r64.1)) then
                some false
              else
                (m_laws_toTerm p0).bind fun (r75 : Term) =>
                (m_impl_OppositeOf r75).bind fun (r76 : Term × Bool) =>
                (m_laws_eqTerm r76.1 r22.1).bind fun (r81 : Bool) =>
                bif ((!r81) || (!(r76.2 == r22.2))) then
                  some false
                else
                  (m_laws_heldTerm (Term.mk r29.1.Const r64.2) (1 : Int)).bind fun (r90 : Int) =>
                  bif (decide (r90 < (0 : Int))) then
                    some false
                  else
                    bif (!decide (r90 = r64.1)) then
                      some false
                    else
                      some true

noncomputable def m_spec_l00Src_one (p0 : l00Src) (p1 : Int) : Option (Bool × l00Src) :=
  (m_spec_l00Src_pick p0 p1).bind fun (r7 : Int × l00Src) =>
  some ((decide (r7.1 = (0 : Int))), r7.2)

noncomputable def m_spec_B10Facts_L1 (s1 : (List Int) × Int × Int × (List Int) × Int) : Option (Ctl ((List Int) × Int × Int × (List Int) × Int) (((List Int) × Int × Int × (List Int)))) :=
  bif (decide ((0 : Int) < s1.2.2.2.2)) then
    (m_spec_l00Src_pick (l00Src.mk s1.1 s1.2.1 s1.2.2.1) (7 : Int)).bind fun (r29 : Int × l00Src) =>
    (capI (s1.2.2.2.1.length + [(w64 (r29.1 - (3 : Int)))].length) 8).bind fun (q32 : Unit) =>
    some (.next (r29.2.code, r29.2.at_, r29.2.seed, (s1.2.2.2.1 ++ [(w64 (r29.1 - (3 : Int)))]), (w64 (s1.2.2.2.2 - (1 : Int)))))
  else
    some (.out (s1.1, s1.2.1, s1.2.2.1, s1.2.2.2.1))

noncomputable def m_spec_B10Facts_J0 (s0 : (List Int) × Int × Int × (List Term) × Int) (r38 : Term × Bool) (j0 : (List Int) × Int × Int × Bool) : Option (Ctl ((List Int) × Int × Int × (List Term) × Int) ((List Term))) :=
  bif j0.2.2.2 then
    (m_spec_l00Src_pick (l00Src.mk j0.1 j0.2.1 j0.2.2.1) (s0.2.2.2.1.length : Int)).bind fun (r53 : Int × l00Src) =>
    (getI s0.2.2.2.1 r53.1).bind fun (x54 : Term) =>
    (m_spec_l02Opposite x54).bind fun (r55 : Term × Bool) =>
    (m_spec_l00Src_pick r53.2 (7 : Int)).bind fun (r61 : Int × l00Src) =>
    (capI (s0.2.2.2.1.length + [(Term.mk (w64 (r55.1.Const + r61.1)) r55.1.Coeffs)].length) 32).bind fun (q67 : Unit) =>
    some (.next (r61.2.code, r61.2.at_, r61.2.seed, (s0.2.2.2.1 ++ [(Term.mk (w64 (r55.1.Const + r61.1)) r55.1.Coeffs)]), (w64 (s0.2.2.2.2 - (1 : Int)))))
  else
    (capI (s0.2.2.2.1.length + [r38.1].length) 32).bind fun (q67 : Unit) =>
    some (.next (j0.1, j0.2.1, j0.2.2.1, (s0.2.2.2.1 ++ [r38.1]), (w64 (s0.2.2.2.2 - (1 : Int)))))

noncomputable def m_spec_B10Facts_A1 (s0 : (List Int) × Int × Int × (List Term) × Int) (u1 : ((List Int) × Int × Int × (List Int))) : Option (Ctl ((List Int) × Int × Int × (List Term) × Int) ((List Term))) :=
  (m_spec_l00Src_pick (l00Src.mk u1.1 u1.2.1 u1.2.2.1) (9 : Int)).bind fun (r35 : Int × l00Src) =>
  (m_spec_l02Make (w64 (r35.1 - (3 : Int))) u1.2.2.2).bind fun (r38 : Term × Bool) =>
  bif (decide ((0 : Int) < (s0.2.2.2.1.length : Int))) then
    (m_spec_l00Src_one r35.2 (3 : Int)).bind fun (r46 : Bool × l00Src) =>
    m_spec_B10Facts_J0 s0 r38 (r46.2.code, r46.2.at_, r46.2.seed, r46.1)
  else
    m_spec_B10Facts_J0 s0 r38 (r35.2.code, r35.2.at_, r35.2.seed, false)

noncomputable def m_spec_B10Facts_L0 (s0 : (List Int) × Int × Int × (List Term) × Int) : Option (Ctl ((List Int) × Int × Int × (List Term) × Int) ((List Term))) :=
  bif (decide ((0 : Int) < s0.2.2.2.2)) then
    (m_spec_l00Src_pick (l00Src.mk s0.1 s0.2.1 s0.2.2.1) (4 : Int)).bind fun (r22 : Int × l00Src) =>
    (iter (m_spec_B10Facts_L1) (r22.2.code, r22.2.at_, r22.2.seed, ([] : List Int), r22.1)).bind fun (u1 : ((List Int) × Int × Int × (List Int))) =>
    m_spec_B10Facts_A1 s0 u1
  else
    some (.out s0.2.2.2.1)

noncomputable def m_spec_B10Facts_A0 (u0 : (List Term)) : Option (List Term) :=
  some u0

noncomputable def m_spec_B10Facts (p0 : List Int) : Option (List Term) :=
  (m_spec_l00From p0).bind fun (r11 : l00Src) =>
  (m_spec_l00Src_pick r11 (5 : Int)).bind fun (r14 : Int × l00Src) =>
  (iter (m_spec_B10Facts_L0) (r14.2.code, r14.2.at_, r14.2.seed, ([] : List Term), (w64 ((1 : Int) + r14.1)))).bind fun (u0 : (List Term)) =>
  m_spec_B10Facts_A0 u0

noncomputable def m_impl_ValidFacts (p0 : List Term) : Option Bool :=
  (m_impl_areTerms p0 (14 : Int)).bind fun (r4 : Bool) =>
  some r4

noncomputable def m_impl_CombineTerms (p0 : List Term) (p1 : List Int) : Option (Term × Bool) :=
  (m_impl_ValidFacts p0).bind fun (r7 : Bool) =>
  bif ((!r7) || (!decide ((p1.length : Int) = (p0.length : Int)))) then
    some ((Term.mk (0 : Int) ([] : List Int)), false)
  else
    (m_impl_allWithin p1 (0 : Int) (1000000 : Int)).bind fun (r18 : Bool) =>
    bif (!r18) then
      some ((Term.mk (0 : Int) ([] : List Int)), false)
    else
      (m_impl_combined p0 p1).bind fun (r24 : Term) =>
      (m_impl_Term_checked r24).bind fun (r25 : Term × Bool) =>
      some (r25.1, r25.2)

noncomputable def m_laws_b10Hold_L0 (p0 : List Term) (p1 : List Int) (s0 : Int) : Option (Ctl Int (Unit ⊕ Bool)) :=
  bif (decide (s0 < (p0.length : Int))) then
    (getI p0 s0).bind fun (x14 : Term) =>
    (m_laws_b10Value x14 p1).bind fun (r17 : Int) =>
    bif (decide (r17 < (0 : Int))) then
      some (.out (.inr false))
    else
      some (.next (w64 (s0 + (1 : Int))))
  else
    some (.out (.inl ()))

noncomputable def m_laws_b10Hold_A0 (u0 : Unit ⊕ Bool) : Option Bool :=
  match u0 with
  | .inl u0 =>
    some true
  | .inr u0 =>
    some u0

noncomputable def m_laws_b10Hold (p0 : List Term) (p1 : List Int) : Option Bool :=
  (iter (m_laws_b10Hold_L0 p0 p1) (0 : Int)).bind fun (u0 : Unit ⊕ Bool) =>
  m_laws_b10Hold_A0 u0

noncomputable def m_laws_FnCombined_L0 (p1 : List Int) (r17 : List Term) (r19 : List Int) (s0 : (List Int) × Int × Int) : Option (Ctl ((List Int) × Int × Int) (((List Int) × Int))) :=
  bif (decide (s0.2.2 < (r17.length : Int))) then
    (m_laws_b10At p1 s0.2.2 (6 : Int)).bind fun (r29 : Int) =>
    (capI (s0.1.length + [r29].length) 8).bind fun (q33 : Unit) =>
    (getI r17 s0.2.2).bind fun (x38 : Term) =>
    (m_laws_b10Value x38 r19).bind fun (r41 : Int) =>
    some (.next ((s0.1 ++ [r29]), (w64 (s0.2.1 + (w64 (r29 * r41)))), (w64 (s0.2.2 + (1 : Int)))))
  else
    some (.out (s0.1, s0.2.1))

noncomputable def m_laws_FnCombined_A0 (r17 : List Term) (r19 : List Int) (u0 : ((List Int) × Int)) : Option Bool :=
  (m_impl_CombineTerms r17 u0.1).bind fun (r47 : Term × Bool) =>
  bif r47.2 then
    (m_laws_b10Value r47.1 r19).bind fun (r54 : Int) =>
    bif (decide (r54 = u0.2)) then
      (m_laws_b10Hold r17 r19).bind fun (r61 : Bool) =>
      bif (!r61) then
        some true
      else
        some (decide ((0 : Int) ≤ u0.2))
    else
      some false
  else
    some false

noncomputable def m_laws_FnCombined (p0 : List Int) (p1 : List Int) : Option Bool :=
  (m_laws_b10Long p0 p1).bind fun (r15 : Bool) =>
  bif r15 then
    some true
  else
    (m_spec_B10Facts p0).bind fun (r17 : List Term) =>
    (m_spec_B10Values p1).bind fun (r19 : List Int) =>
    (iter (m_laws_FnCombined_L0 p1 r17 r19) (([] : List Int), (0 : Int), (0 : Int))).bind fun (u0 : ((List Int) × Int)) =>
    m_laws_FnCombined_A0 r17 r19 u0

noncomputable def m_spec_l00Max (p0 : Int) (p1 : Int) : Option Int :=
  bif (decide (p1 < p0)) then
    some p0
  else
    some p1

noncomputable def m_spec_l02Divisor_L1 (s1 : Int × Int) : Option (Ctl (Int × Int) Int) :=
  bif (decide ((0 : Int) < s1.2)) then
    (remI s1.1 s1.2).bind fun (q36 : Int) =>
    some (.next (s1.2, q36))
  else
    some (.out s1.1)

noncomputable def m_spec_l02Divisor_A1 (s0 : Int × Int) (u1 : Int) : Option (Ctl (Int × Int) Int) :=
  some (.next (u1, (w64 (s0.2 + (1 : Int)))))

noncomputable def m_spec_l02Divisor_L0 (p0 : Term) (s0 : Int × Int) : Option (Ctl (Int × Int) Int) :=
  bif (decide (s0.2 < (p0.Coeffs.length : Int))) then
    (getI p0.Coeffs s0.2).bind fun (x21 : Int) =>
    (m_spec_l00Max x21 (w64 (0 - x21))).bind fun (r31 : Int) =>
    (iter (m_spec_l02Divisor_L1) (s0.1, r31)).bind fun (u1 : Int) =>
    m_spec_l02Divisor_A1 s0 u1
  else
    some (.out s0.1)

noncomputable def m_spec_l02Divisor_A0 (u0 : Int) : Option Int :=
  some u0

noncomputable def m_spec_l02Divisor (p0 : Term) : Option Int :=
  (iter (m_spec_l02Divisor_L0 p0) ((0 : Int), (0 : Int))).bind fun (u0 : Int) =>
  m_spec_l02Divisor_A0 u0

noncomputable def m_spec_l02Tight_L0 (p0 : Term) (r9 : Int) (s0 : (List Int) × Int) : Option (Ctl ((List Int) × Int) ((List Int))) :=
  bif (decide (s0.2 < (p0.Coeffs.length : Int))) then
    (getI p0.Coeffs s0.2).bind fun (x29 : Int) =>
    (quoI x29 r9).bind fun (q32 : Int) =>
    (capI (s0.1.length + [q32].length) 8).bind fun (q34 : Unit) =>
    some (.next ((s0.1 ++ [q32]), (w64 (s0.2 + (1 : Int)))))
  else
    some (.out s0.1)

noncomputable def m_spec_l02Tight_J0 (u0 : List Int) (j0 : Int) : Option (Term × Bool) :=
  (m_spec_l02Make j0 u0).bind fun (r52 : Term × Bool) =>
  some (r52.1, r52.2)

noncomputable def m_spec_l02Tight_A0 (p0 : Term) (r9 : Int) (u0 : (List Int)) : Option (Term × Bool) :=
  (quoI p0.Const r9).bind fun (q40 : Int) =>
  (remI p0.Const r9).bind fun (q46 : Int) =>
  bif (decide (q46 < (0 : Int))) then
    m_spec_l02Tight_J0 u0 (w64 (q40 - (1 : Int)))
  else
    m_spec_l02Tight_J0 u0 q40

noncomputable def m_spec_l02Tight (p0 : Term) : Option (Term × Bool) :=
  (m_spec_l02Divisor p0).bind fun (r9 : Int) =>
  bif (decide (r9 < (2 : Int))) then
    some ((Term.mk (0 : Int) ([] : List Int)), false)
  else
    (iter (m_spec_l02Tight_L0 p0 r9) (([] : List Int), (0 : Int))).bind fun (u0 : (List Int)) =>
    m_spec_l02Tight_A0 p0 r9 u0

noncomputable def m_spec_TightenTerm (p0 : Term) : Option (Term × Bool) :=
  (m_spec_l02Is p0).bind fun (r4 : Bool) =>
  bif (!r4) then
    some ((Term.mk (0 : Int) ([] : List Int)), false)
  else
    (m_spec_l02Tight p0).bind fun (r7 : Term × Bool) =>
    some (r7.1, r7.2)

noncomputable def m_laws_FnExactTightenTerm (p0 : Term) : Option Bool :=
  (m_laws_szTerm p0 (1048576 : Int)).bind fun (r16 : Int) =>
  bif (decide (r16 < (0 : Int))) then
    some true
  else
    (m_laws_toTerm p0).bind fun (r21 : Term) =>
    (m_spec_TightenTerm r21).bind fun (r22 : Term × Bool) =>
    (m_laws_toTerm p0).bind fun (r26 : Term) =>
    (m_impl_TightenTerm r26).bind fun (r29 : Term × Bool) =>
    (m_laws_eqTerm r29.1 r22.1).bind fun (r34 : Bool) =>
    bif ((!r34) || (!(r29.2 == r22.2))) then
      some false
    else
      (m_laws_toTerm p0).bind fun (r43 : Term) =>
      (m_laws_eqTerm r26 r43).bind fun (r44 : Bool) =>
      bif (!r44) then
        some false
      else
        (m_laws_markTerm r26 (1 : Int)).bind fun (r48 : Int × (List Int)) =>
        bif (decide (r48.1 < (0 : Int))) then
          some false
        else
          (m_laws_eqTerm r29.1 r22.1).bind fun (r54 : Bool) =>
          bif ((!r54) || (!(r29.2 == r22.2))) then
            some false
          else
            (m_laws_markTerm r29.1 (1 : Int)).bind fun (r64 : Int × (List Int)) =>
            (m_laws_heldTerm (Term.mk r29.1.Const r64.2) (1 : Int)).bind fun (r67 : Int) =>
            bif (decide (r67 < (0 : Int))) then
              some false
            else
              bif (!decide (r67 = r64.1)) then
                some false
              else
                (m_laws_toTerm p0).bind fun (r75 : Term) =>
                (m_impl_TightenTerm r75).bind fun (r76 : Term × Bool) =>
                (m_laws_eqTerm r76.1 r22.1).bind fun (r81 : Bool) =>
                bif ((!r81) || (!(r76.2 == r22.2))) then
                  some false
                else
                  (m_laws_heldTerm (Term.mk r29.1.Const r64.2) (1 : Int)).bind fun (r90 : Int) =>
                  bif (decide (r90 < (0 : Int))) then
                    some false
                  else
                    bif (!decide (r90 = r64.1)) then
                      some false
                    else
                      some true

noncomputable def m_laws_szTermS_L0 (p0 : List Term) (s0 : Int × Int) : Option (Ctl (Int × Int) (Int ⊕ Int)) :=
  bif (decide (s0.2 < (p0.length : Int))) then
    (getI p0 s0.2).bind fun (x20 : Term) =>
    (m_laws_szTerm x20 s0.1).bind fun (r23 : Int) =>
    bif (decide (r23 < (0 : Int))) then
      some (.out (.inr (-1 : Int)))
    else
      some (.next (r23, (w64 (s0.2 + (1 : Int)))))
  else
    some (.out (.inl s0.1))

noncomputable def m_laws_szTermS_A0 (u0 : Int ⊕ Int) : Option Int :=
  match u0 with
  | .inl u0 =>
    some u0
  | .inr u0 =>
    some u0

noncomputable def m_laws_szTermS (p0 : List Term) (p1 : Int) : Option Int :=
  bif (decide ((w64 (p1 - (p0.length : Int))) < (0 : Int))) then
    some (-1 : Int)
  else
    (iter (m_laws_szTermS_L0 p0) ((w64 (p1 - (p0.length : Int))), (0 : Int))).bind fun (u0 : Int ⊕ Int) =>
    m_laws_szTermS_A0 u0

noncomputable def m_laws_toTermS_L0 (p0 : List Term) (s0 : (List Term) × Int) : Option (Ctl ((List Term) × Int) ((List Term))) :=
  bif (decide (s0.2 < (p0.length : Int))) then
    (getI p0 s0.2).bind fun (x18 : Term) =>
    (m_laws_toTerm x18).bind fun (r20 : Term) =>
    (getI s0.1 s0.2).bind fun (x21 : Term) =>
    some (.next ((s0.1.set ((s0.2).toNat) r20), (w64 (s0.2 + (1 : Int)))))
  else
    some (.out s0.1)

noncomputable def m_laws_toTermS_A0 (u0 : (List Term)) : Option (List Term) :=
  some u0

noncomputable def m_laws_toTermS (p0 : List Term) : Option (List Term) :=
  (makeI (p0.length : Int) 32).bind fun (k7 : Nat) =>
  (iter (m_laws_toTermS_L0 p0) ((List.replicate k7 (Term.mk (0 : Int) ([] : List Int))), (0 : Int))).bind fun (u0 : (List Term)) =>
  m_laws_toTermS_A0 u0

noncomputable def m_spec_l02All_L0 (p0 : List Term) (s0 : Int) : Option (Ctl Int (Unit ⊕ Bool)) :=
  bif (decide (s0 < (p0.length : Int))) then
    (getI p0 s0).bind fun (x14 : Term) =>
    (m_spec_l02Is x14).bind fun (r15 : Bool) =>
    bif (!r15) then
      some (.out (.inr false))
    else
      some (.next (w64 (s0 + (1 : Int))))
  else
    some (.out (.inl ()))

noncomputable def m_spec_l02All_A0 (p0 : List Term) (p1 : Int) (u0 : Unit ⊕ Bool) : Option Bool :=
  match u0 with
  | .inl u0 =>
    some (decide ((p0.length : Int) ≤ p1))
  | .inr u0 =>
    some u0

noncomputable def m_spec_l02All (p0 : List Term) (p1 : Int) : Option Bool :=
  (iter (m_spec_l02All_L0 p0) (0 : Int)).bind fun (u0 : Unit ⊕ Bool) =>
  m_spec_l02All_A0 p0 p1 u0

noncomputable def m_spec_l02Multipliers_L0 (p0 : List Int) (s0 : Int) : Option (Ctl Int (Unit ⊕ Bool)) :=
  bif (decide (s0 < (p0.length : Int))) then
    (getI p0 s0).bind fun (x12 : Int) =>
    (m_spec_l00In x12 (0 : Int) (1000000 : Int)).bind fun (r14 : Bool) =>
    bif (!r14) then
      some (.out (.inr false))
    else
      some (.next (w64 (s0 + (1 : Int))))
  else
    some (.out (.inl ()))

noncomputable def m_spec_l02Multipliers_A0 (u0 : Unit ⊕ Bool) : Option Bool :=
  match u0 with
  | .inl u0 =>
    some true
  | .inr u0 =>
    some u0

noncomputable def m_spec_l02Multipliers (p0 : List Int) : Option Bool :=
  (iter (m_spec_l02Multipliers_L0 p0) (0 : Int)).bind fun (u0 : Unit ⊕ Bool) =>
  m_spec_l02Multipliers_A0 u0

noncomputable def m_spec_l02Combine_L1 (x20 : Int) (x24 : Term) (s1 : (List Int) × Int) : Option (Ctl ((List Int) × Int) ((List Int))) :=
  bif (decide (s1.2 < (x24.Coeffs.length : Int))) then
    (getI s1.1 s1.2).bind fun (x41 : Int) =>
    (getI x24.Coeffs s1.2).bind fun (x53 : Int) =>
    some (.next ((s1.1.set ((s1.2).toNat) (w64 (x41 + (w64 (x20 * x53))))), (w64 (s1.2 + (1 : Int)))))
  else
    some (.out s1.1)

noncomputable def m_spec_l02Combine_A1 (s0 : Int × (List Int) × Int) (x20 : Int) (x24 : Term) (u1 : (List Int)) : Option (Ctl (Int × (List Int) × Int) ((Int × (List Int)))) :=
  some (.next ((w64 (s0.1 + (w64 (x20 * x24.Const)))), u1, (w64 (s0.2.2 + (1 : Int)))))

noncomputable def m_spec_l02Combine_L0 (p0 : List Term) (p1 : List Int) (s0 : Int × (List Int) × Int) : Option (Ctl (Int × (List Int) × Int) ((Int × (List Int)))) :=
  bif (decide (s0.2.2 < (p0.length : Int))) then
    (getI p1 s0.2.2).bind fun (x20 : Int) =>
    (getI p0 s0.2.2).bind fun (x24 : Term) =>
    (iter (m_spec_l02Combine_L1 x20 x24) (s0.2.1, (0 : Int))).bind fun (u1 : (List Int)) =>
    m_spec_l02Combine_A1 s0 x20 x24 u1
  else
    some (.out (s0.1, s0.2.1))

noncomputable def m_spec_l02Combine_A0 (u0 : (Int × (List Int))) : Option (Term × Bool) :=
  (m_spec_l02Make u0.1 u0.2).bind fun (r60 : Term × Bool) =>
  some (r60.1, r60.2)

noncomputable def m_spec_l02Combine (p0 : List Term) (p1 : List Int) : Option (Term × Bool) :=
  (makeI (10 : Int) 8).bind fun (k10 : Nat) =>
  (iter (m_spec_l02Combine_L0 p0 p1) ((0 : Int), (List.replicate k10 (0 : Int)), (0 : Int))).bind fun (u0 : (Int × (List Int))) =>
  m_spec_l02Combine_A0 u0

noncomputable def m_spec_IsRefuted (p0 : List Term) (p1 : List Int) : Option Bool :=
  (m_spec_l02All p0 (14 : Int)).bind fun (r8 : Bool) =>
  bif ((!r8) || (!decide ((p1.length : Int) = (p0.length : Int)))) then
    some false
  else
    (m_spec_l02Multipliers p1).bind fun (r19 : Bool) =>
    bif (!r19) then
      some false
    else
      (m_spec_l02Combine p0 p1).bind fun (r25 : Term × Bool) =>
      some ((r25.2 && (decide ((r25.1.Coeffs.length : Int) = (0 : Int)))) && (decide (r25.1.Const < (0 : Int))))

noncomputable def m_impl_IsRefuted (p0 : List Term) (p1 : List Int) : Option Bool :=
  (m_impl_CombineTerms p0 p1).bind fun (r10 : Term × Bool) =>
  some ((r10.2 && (decide ((r10.1.Coeffs.length : Int) = (0 : Int)))) && (decide (r10.1.Const < (0 : Int))))

noncomputable def m_laws_eqTermS_L0 (p0 : List Term) (p1 : List Term) (s0 : Int) : Option (Ctl Int (Unit ⊕ Bool)) :=
  bif (decide (s0 < (p0.length : Int))) then
    (getI p0 s0).bind fun (x19 : Term) =>
    (getI p1 s0).bind fun (x23 : Term) =>
    (m_laws_eqTerm x19 x23).bind fun (r25 : Bool) =>
    bif (!r25) then
      some (.out (.inr false))
    else
      some (.next (w64 (s0 + (1 : Int))))
  else
    some (.out (.inl ()))

noncomputable def m_laws_eqTermS_A0 (u0 : Unit ⊕ Bool) : Option Bool :=
  match u0 with
  | .inl u0 =>
    some true
  | .inr u0 =>
    some u0

noncomputable def m_laws_eqTermS (p0 : List Term) (p1 : List Term) : Option Bool :=
  bif (!decide ((p0.length : Int) = (p1.length : Int))) then
    some false
  else
    (iter (m_laws_eqTermS_L0 p0 p1) (0 : Int)).bind fun (u0 : Unit ⊕ Bool) =>
    m_laws_eqTermS_A0 u0

noncomputable def m_laws_FnExactIsRefuted (p0 : List Term) (p1 : List Int) : Option Bool :=
  bif (decide ((1048576 : Int) < (p1.length : Int))) then
    some true
  else
    (m_laws_szTermS p0 (1048576 : Int)).bind fun (r15 : Int) =>
    bif (decide (r15 < (0 : Int))) then
      some true
    else
      (m_laws_toTermS p0).bind fun (r19 : List Term) =>
      (m_laws_toInt64S p1).bind fun (r21 : List Int) =>
      (m_spec_IsRefuted r19 r21).bind fun (r22 : Bool) =>
      (m_laws_toTermS p0).bind fun (r24 : List Term) =>
      (m_laws_toInt64S p1).bind fun (r26 : List Int) =>
      (m_impl_IsRefuted r24 r26).bind fun (r29 : Bool) =>
      bif (!(r29 == r22)) then
        some false
      else
        (m_laws_toTermS p0).bind fun (r35 : List Term) =>
        (m_laws_eqTermS r24 r35).bind fun (r36 : Bool) =>
        bif (!r36) then
          some false
        else
          (m_laws_toInt64S p1).bind fun (r40 : List Int) =>
          (m_laws_eqInt64S r26 r40).bind fun (r41 : Bool) =>
          bif (!r41) then
            some false
          else
            some true

noncomputable def m_spec_CombineTerms (p0 : List Term) (p1 : List Int) : Option (Term × Bool) :=
  (m_spec_l02All p0 (14 : Int)).bind fun (r7 : Bool) =>
  bif ((!r7) || (!decide ((p1.length : Int) = (p0.length : Int)))) then
    some ((Term.mk (0 : Int) ([] : List Int)), false)
  else
    (m_spec_l02Multipliers p1).bind fun (r18 : Bool) =>
    bif (!r18) then
      some ((Term.mk (0 : Int) ([] : List Int)), false)
    else
      (m_spec_l02Combine p0 p1).bind fun (r24 : Term × Bool) =>
      some (r24.1, r24.2)

noncomputable def m_laws_markTermS_L0 (s0 : (List Term) × Int × Int) : Option (Ctl ((List Term) × Int × Int) ((Int × (List Term)))) :=
  bif (decide (s0.2.2 < (s0.1.length : Int))) then
    (getI s0.1 s0.2.2).bind fun (x15 : Term) =>
    (getI (s0.1.set ((s0.2.2).toNat) (Term.mk s0.2.1 x15.Coeffs)) s0.2.2).bind fun (x21 : Term) =>
    (m_laws_markInt64S x21.Coeffs (w64 (s0.2.1 + (1 : Int)))).bind fun (r25 : Int × (List Int)) =>
    some (.next (((s0.1.set ((s0.2.2).toNat) (Term.mk s0.2.1 x15.Coeffs)).set ((s0.2.2).toNat) (Term.mk x21.Const r25.2)), r25.1, (w64 (s0.2.2 + (1 : Int)))))
  else
    some (.out (s0.2.1, s0.1))

noncomputable def m_laws_markTermS_A0 (u0 : (Int × (List Term))) : Option (Int × (List Term)) :=
  some (u0.1, u0.2)

noncomputable def m_laws_markTermS (p0 : List Term) (p1 : Int) : Option (Int × (List Term)) :=
  (iter (m_laws_markTermS_L0) (p0, p1, (0 : Int))).bind fun (u0 : (Int × (List Term))) =>
  m_laws_markTermS_A0 u0

noncomputable def m_laws_FnExactCombineTerms (p0 : List Term) (p1 : List Int) : Option Bool :=
  bif (decide ((1048576 : Int) < (p1.length : Int))) then
    some true
  else
    (m_laws_szTermS p0 (1048576 : Int)).bind fun (r22 : Int) =>
    bif (decide (r22 < (0 : Int))) then
      some true
    else
      (m_laws_toTermS p0).bind fun (r27 : List Term) =>
      (m_laws_toInt64S p1).bind fun (r29 : List Int) =>
      (m_spec_CombineTerms r27 r29).bind fun (r30 : Term × Bool) =>
      (m_laws_toTermS p0).bind fun (r34 : List Term) =>
      (m_laws_toInt64S p1).bind fun (r36 : List Int) =>
      (m_impl_CombineTerms r34 r36).bind fun (r40 : Term × Bool) =>
      (m_laws_eqTerm r40.1 r30.1).bind fun (r45 : Bool) =>
      bif ((!r45) || (!(r40.2 == r30.2))) then
        some false
      else
        (m_laws_toTermS p0).bind fun (r54 : List Term) =>
        (m_laws_eqTermS r34 r54).bind fun (r55 : Bool) =>
        bif (!r55) then
          some false
        else
          (m_laws_toInt64S p1).bind fun (r59 : List Int) =>
          (m_laws_eqInt64S r36 r59).bind fun (r60 : Bool) =>
          bif (!r60) then
            some false
          else
            (m_laws_markTermS r34 (1 : Int)).bind fun (r64 : Int × (List Term)) =>
            (m_laws_markInt64S r36 r64.1).bind fun (r67 : Int × (List Int)) =>
            bif (decide (r67.1 < (0 : Int))) then
              some false
            else
              (m_laws_eqTerm r40.1 r30.1).bind fun (r73 : Bool) =>
              bif ((!r73) || (!(r40.2 == r30.2))) then
                some false
              else
                (m_laws_markTerm r40.1 (1 : Int)).bind fun (r83 : Int × (List Int)) =>
                (m_laws_heldTerm (Term.mk r40.1.Const r83.2) (1 : Int)).bind fun (r86 : Int) =>
                bif (decide (r86 < (0 : Int))) then
                  some false
                else
                  bif (!decide (r86 = r83.1)) then
                    some false
                  else
                    (m_laws_toTermS p0).bind fun (r94 : List Term) =>
                    (m_laws_toInt64S p1).bind fun (r96 : List Int) =>
                    (m_impl_CombineTerms r94 r96).bind fun (r97 : Term × Bool) =>
                    (m_laws_eqTerm r97.1 r30.1).bind fun (r102 : Bool) =>
                    bif ((!r102) || (!(r97.2 == r30.2))) then
                      some false
                    else
                      (m_laws_heldTerm (Term.mk r40.1.Const r83.2) (1 : Int)).bind fun (r111 : Int) =>
                      bif (decide (r111 < (0 : Int))) then
                        some false
                      else
                        bif (!decide (r111 = r83.1)) then
                          some false
                        else
                          some true

noncomputable def m_spec_l02Replace_L1 (x47 : Int) (x51 : Term) (s1 : (List Int) × Int) : Option (Ctl ((List Int) × Int) ((List Int))) :=
  bif (decide (s1.2 < (x51.Coeffs.length : Int))) then
    (getI s1.1 s1.2).bind fun (x68 : Int) =>
    (getI x51.Coeffs s1.2).bind fun (x83 : Int) =>
    some (.next ((s1.1.set ((s1.2).toNat) (w64 (x68 + (w64 (x47 * x83))))), (w64 (s1.2 + (1 : Int)))))
  else
    some (.out s1.1)

noncomputable def m_spec_l02Replace_A1 (s0 : Int × (List Int) × Int) (x47 : Int) (x51 : Term) (u1 : (List Int)) : Option (Ctl (Int × (List Int) × Int) ((Int × (List Int)))) :=
  some (.next ((w64 (s0.1 + (w64 (x47 * x51.Const)))), u1, (w64 (s0.2.2 + (1 : Int)))))

noncomputable def m_spec_l02Replace_L0 (p0 : Term) (p1 : List Term) (s0 : Int × (List Int) × Int) : Option (Ctl (Int × (List Int) × Int) ((Int × (List Int)))) :=
  bif (decide (s0.2.2 < (p0.Coeffs.length : Int))) then
    bif (decide ((p1.length : Int) ≤ s0.2.2)) then
      (getI s0.2.1 s0.2.2).bind fun (x30 : Int) =>
      (getI p0.Coeffs s0.2.2).bind fun (x37 : Int) =>
      some (.next (s0.1, (s0.2.1.set ((s0.2.2).toNat) (w64 (x30 + x37))), (w64 (s0.2.2 + (1 : Int)))))
    else
      (getI p0.Coeffs s0.2.2).bind fun (x47 : Int) =>
      (getI p1 s0.2.2).bind fun (x51 : Term) =>
      (iter (m_spec_l02Replace_L1 x47 x51) (s0.2.1, (0 : Int))).bind fun (u1 : (List Int)) =>
      m_spec_l02Replace_A1 s0 x47 x51 u1
  else
    some (.out (s0.1, s0.2.1))

noncomputable def m_spec_l02Replace_A0 (u0 : (Int × (List Int))) : Option (Term × Bool) :=
  (m_spec_l02Make u0.1 u0.2).bind fun (r90 : Term × Bool) =>
  some (r90.1, r90.2)

noncomputable def m_spec_l02Replace (p0 : Term) (p1 : List Term) : Option (Term × Bool) :=
  (makeI (10 : Int) 8).bind fun (k14 : Nat) =>
  (iter (m_spec_l02Replace_L0 p0 p1) (p0.Const, (List.replicate k14 (0 : Int)), (0 : Int))).bind fun (u0 : (Int × (List Int))) =>
  m_spec_l02Replace_A0 u0

noncomputable def m_spec_SubstituteTerm (p0 : Term) (p1 : List Term) : Option (Term × Bool) :=
  (m_spec_l02Is p0).bind fun (r6 : Bool) =>
  bif (!r6) then
    some ((Term.mk (0 : Int) ([] : List Int)), false)
  else
    (m_spec_l02All p1 (10 : Int)).bind fun (r10 : Bool) =>
    bif (!r10) then
      some ((Term.mk (0 : Int) ([] : List Int)), false)
    else
      (m_spec_l02Replace p0 p1).bind fun (r15 : Term × Bool) =>
      some (r15.1, r15.2)

noncomputable def m_laws_FnExactSubstituteTerm (p0 : Term) (p1 : List Term) : Option Bool :=
  (m_laws_szTerm p0 (1048576 : Int)).bind fun (r19 : Int) =>
  bif (decide (r19 < (0 : Int))) then
    some true
  else
    (m_laws_szTermS p1 r19).bind fun (r24 : Int) =>
    bif (decide (r24 < (0 : Int))) then
      some true
    else
      (m_laws_toTerm p0).bind fun (r29 : Term) =>
      (m_laws_toTermS p1).bind fun (r31 : List Term) =>
      (m_spec_SubstituteTerm r29 r31).bind fun (r32 : Term × Bool) =>
      (m_laws_toTerm p0).bind fun (r36 : Term) =>
      (m_laws_toTermS p1).bind fun (r38 : List Term) =>
      (m_impl_SubstituteTerm r36 r38).bind fun (r42 : Term × Bool) =>
      (m_laws_eqTerm r42.1 r32.1).bind fun (r47 : Bool) =>
      bif ((!r47) || (!(r42.2 == r32.2))) then
        some false
      else
        (m_laws_toTerm p0).bind fun (r56 : Term) =>
        (m_laws_eqTerm r36 r56).bind fun (r57 : Bool) =>
        bif (!r57) then
          some false
        else
          (m_laws_toTermS p1).bind fun (r61 : List Term) =>
          (m_laws_eqTermS r38 r61).bind fun (r62 : Bool) =>
          bif (!r62) then
            some false
          else
            (m_laws_markTerm r36 (1 : Int)).bind fun (r66 : Int × (List Int)) =>
            (m_laws_markTermS r38 r66.1).bind fun (r69 : Int × (List Term)) =>
            bif (decide (r69.1 < (0 : Int))) then
              some false
            else
              (m_laws_eqTerm r42.1 r32.1).bind fun (r75 : Bool) =>
              bif ((!r75) || (!(r42.2 == r32.2))) then
                some false
              else
                (m_laws_markTerm r42.1 (1 : Int)).bind fun (r85 : Int × (List Int)) =>
                (m_laws_heldTerm (Term.mk r42.1.Const r85.2) (1 : Int)).bind fun (r88 : Int) =>
                bif (decide (r88 < (0 : Int))) then
                  some false
                else
                  bif (!decide (r88 = r85.1)) then
                    some false
                  else
                    (m_laws_toTerm p0).bind fun (r96 : Term) =>
                    (m_laws_toTermS p1).bind fun (r98 : List Term) =>
                    (m_impl_SubstituteTerm r96 r98).bind fun (r99 : Term × Bool) =>
                    (m_laws_eqTerm r99.1 r32.1).bind fun (r104 : Bool) =>
                    bif ((!r104) || (!(r99.2 == r32.2))) then
                      some false
                    else
                      (m_laws_heldTerm (Term.mk r42.1.Const r85.2) (1 : Int)).bind fun (r113 : Int) =>
                      bif (decide (r113 < (0 : Int))) then
                        some false
                      else
                        bif (!decide (r113 = r85.1)) then
                          some false
                        else
                          some true

noncomputable def m_laws_szSequent (p0 : Sequent) (p1 : Int) : Option Int :=
  (m_laws_szTermS p0.Facts p1).bind fun (r8 : Int) =>
  bif (decide (r8 < (0 : Int))) then
    some (-1 : Int)
  else
    (m_laws_szTerm p0.Goal r8).bind fun (r14 : Int) =>
    bif (decide (r14 < (0 : Int))) then
      some (-1 : Int)
    else
      some r14

noncomputable def m_laws_toSequent (p0 : Sequent) : Option Sequent :=
  (m_laws_toTermS p0.Facts).bind fun (r6 : List Term) =>
  (m_laws_toTerm p0.Goal).bind fun (r10 : Term) =>
  some (Sequent.mk r6 r10)

noncomputable def m_spec_l02Sequent (p0 : Sequent) : Option Bool :=
  (m_spec_l02All p0.Facts (13 : Int)).bind fun (r7 : Bool) =>
  bif r7 then
    (m_spec_l02Is p0.Goal).bind fun (r12 : Bool) =>
    some r12
  else
    some false

noncomputable def m_spec_l02Own (p0 : Term) : Option Term :=
  (m_spec_l00Own p0.Coeffs).bind fun (r11 : List Int) =>
  some (Term.mk p0.Const r11)

noncomputable def m_spec_l02OwnAll_L0 (p0 : List Term) (s0 : (List Term) × Int) : Option (Ctl ((List Term) × Int) ((List Term))) :=
  bif (decide (s0.2 < (p0.length : Int))) then
    (getI p0 s0.2).bind fun (x15 : Term) =>
    (m_spec_l02Own x15).bind fun (r16 : Term) =>
    (capI (s0.1.length + [r16].length) 32).bind fun (q18 : Unit) =>
    some (.next ((s0.1 ++ [r16]), (w64 (s0.2 + (1 : Int)))))
  else
    some (.out s0.1)

noncomputable def m_spec_l02OwnAll_A0 (u0 : (List Term)) : Option (List Term) :=
  some u0

noncomputable def m_spec_l02OwnAll (p0 : List Term) : Option (List Term) :=
  (iter (m_spec_l02OwnAll_L0 p0) (([] : List Term), (0 : Int))).bind fun (u0 : (List Term)) =>
  m_spec_l02OwnAll_A0 u0

noncomputable def m_spec_l02Context (p0 : Sequent) : Option ((List Term) × Bool) :=
  (m_spec_l02Opposite p0.Goal).bind fun (r10 : Term × Bool) =>
  bif (!r10.2) then
    some (([] : List Term), false)
  else
    (m_spec_l02OwnAll p0.Facts).bind fun (r19 : List Term) =>
    (capI (r19.length + [r10.1].length) 32).bind fun (q22 : Unit) =>
    some ((r19 ++ [r10.1]), true)

noncomputable def m_spec_ContextOf (p0 : Sequent) : Option ((List Term) × Bool) :=
  (m_spec_l02Sequent p0).bind fun (r4 : Bool) =>
  bif (!r4) then
    some (([] : List Term), false)
  else
    (m_spec_l02Context p0).bind fun (r6 : (List Term) × Bool) =>
    some (r6.1, r6.2)

noncomputable def m_impl_ValidSequent (p0 : Sequent) : Option Bool :=
  (m_impl_areTerms p0.Facts (13 : Int)).bind fun (r5 : Bool) =>
  bif r5 then
    (m_impl_ValidTerm p0.Goal).bind fun (r9 : Bool) =>
    some r9
  else
    some false

noncomputable def m_impl_ownTerms_L0 (n0 : Nat) (x0 : Term) (s0 : List Term) : Option (Ctl (List Term) ((List Term))) :=
  (m_impl_Term_own x0).bind fun (r14 : Term) =>
  (capI (s0.length + [r14].length) 32).bind fun (q16 : Unit) =>
  some (.next (s0 ++ [r14]))

noncomputable def m_impl_ownTerms_A0 (u0 : (List Term)) : Option (List Term) :=
  some u0

noncomputable def m_impl_ownTerms (p0 : List Term) : Option (List Term) :=
  (forL (m_impl_ownTerms_L0) (fun s0 => s0) 0 p0 ([] : List Term)).bind fun (u0 : (List Term)) =>
  m_impl_ownTerms_A0 u0

noncomputable def m_impl_ContextOf (p0 : Sequent) : Option ((List Term) × Bool) :=
  (m_impl_ValidSequent p0).bind fun (r5 : Bool) =>
  bif (!r5) then
    some (([] : List Term), false)
  else
    (m_impl_Term_opposite p0.Goal).bind fun (r10 : Term) =>
    (m_impl_ValidTerm r10).bind fun (r11 : Bool) =>
    bif (!r11) then
      some (([] : List Term), false)
    else
      (m_impl_ownTerms p0.Facts).bind fun (r16 : List Term) =>
      (m_impl_Term_opposite p0.Goal).bind fun (r19 : Term) =>
      (m_impl_Term_own r19).bind fun (r20 : Term) =>
      (capI (r16.length + [r20].length) 32).bind fun (q22 : Unit) =>
      some ((r16 ++ [r20]), true)

noncomputable def m_laws_eqSequent (p0 : Sequent) (p1 : Sequent) : Option Bool :=
  (m_laws_eqTermS p0.Facts p1.Facts).bind fun (r9 : Bool) =>
  bif (!r9) then
    some false
  else
    (m_laws_eqTerm p0.Goal p1.Goal).bind fun (r15 : Bool) =>
    bif (!r15) then
      some false
    else
      some true

noncomputable def m_laws_markSequent (p0 : Sequent) (p1 : Int) : Option (Int × (List Term) × (List Int)) :=
  (m_laws_markTermS p0.Facts p1).bind fun (r8 : Int × (List Term)) =>
  (m_laws_markTerm p0.Goal r8.1).bind fun (r12 : Int × (List Int)) =>
  some (r12.1, r8.2, r12.2)

noncomputable def m_laws_heldTermS_L0 (p0 : List Term) (s0 : Int × Int) : Option (Ctl (Int × Int) (Int ⊕ Int)) :=
  bif (decide (s0.2 < (p0.length : Int))) then
    (getI p0 s0.2).bind fun (x14 : Term) =>
    bif (!decide (x14.Const = s0.1)) then
      some (.out (.inr (-1 : Int)))
    else
      (m_laws_heldInt64S x14.Coeffs (w64 (s0.1 + (1 : Int)))).bind fun (r27 : Int) =>
      bif (decide (r27 < (0 : Int))) then
        some (.out (.inr (-1 : Int)))
      else
        some (.next (r27, (w64 (s0.2 + (1 : Int)))))
  else
    some (.out (.inl s0.1))

noncomputable def m_laws_heldTermS_A0 (u0 : Int ⊕ Int) : Option Int :=
  match u0 with
  | .inl u0 =>
    some u0
  | .inr u0 =>
    some u0

noncomputable def m_laws_heldTermS (p0 : List Term) (p1 : Int) : Option Int :=
  (iter (m_laws_heldTermS_L0 p0) (p1, (0 : Int))).bind fun (u0 : Int ⊕ Int) =>
  m_laws_heldTermS_A0 u0

noncomputable def m_laws_FnExactContextOf (p0 : Sequent) : Option Bool :=
  (m_laws_szSequent p0 (1048576 : Int)).bind fun (r16 : Int) =>
  bif (decide (r16 < (0 : Int))) then
    some true
  else
    (m_laws_toSequent p0).bind fun (r21 : Sequent) =>
    (m_spec_ContextOf r21).bind fun (r22 : (List Term) × Bool) =>
    (m_laws_toSequent p0).bind fun (r26 : Sequent) =>
    (m_impl_ContextOf r26).bind fun (r29 : (List Term) × Bool) =>
    (m_laws_eqTermS r29.1 r22.1).bind fun (r34 : Bool) =>
    bif ((!r34) || (!(r29.2 == r22.2))) then
      some false
    else
      (m_laws_toSequent p0).bind fun (r43 : Sequent) =>
      (m_laws_eqSequent r26 r43).bind fun (r44 : Bool) =>
      bif (!r44) then
        some false
      else
        (m_laws_markSequent r26 (1 : Int)).bind fun (r48 : Int × (List Term) × (List Int)) =>
        bif (decide (r48.1 < (0 : Int))) then
          some false
        else
          (m_laws_eqTermS r29.1 r22.1).bind fun (r54 : Bool) =>
          bif ((!r54) || (!(r29.2 == r22.2))) then
            some false
          else
            (m_laws_markTermS r29.1 (1 : Int)).bind fun (r64 : Int × (List Term)) =>
            (m_laws_heldTermS r64.2 (1 : Int)).bind fun (r67 : Int) =>
            bif (decide (r67 < (0 : Int))) then
              some false
            else
              bif (!decide (r67 = r64.1)) then
                some false
              else
                (m_laws_toSequent p0).bind fun (r75 : Sequent) =>
                (m_impl_ContextOf r75).bind fun (r76 : (List Term) × Bool) =>
                (m_laws_eqTermS r76.1 r22.1).bind fun (r81 : Bool) =>
                bif ((!r81) || (!(r76.2 == r22.2))) then
                  some false
                else
                  (m_laws_heldTermS r64.2 (1 : Int)).bind fun (r90 : Int) =>
                  bif (decide (r90 < (0 : Int))) then
                    some false
                  else
                    bif (!decide (r90 = r64.1)) then
                      some false
                    else
                      some true
end Go.Mod
