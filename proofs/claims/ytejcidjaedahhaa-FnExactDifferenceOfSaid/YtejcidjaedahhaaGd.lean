import Derived.Test.YtejcidjaedahhaaGc
namespace Go.Mod
open Go.AM
set_option linter.unusedVariables false
structure Policy where
  Next : List (List Int)
  deriving DecidableEq, Inhabited
structure l10Pair where
  a : Int
  b : Int
  word : List Int
  deriving DecidableEq, Inhabited
structure spot where
  pair : Int × Int
  word : List Int
  deriving DecidableEq, Inhabited
def k_i64 (x : Int) : Prop := -9223372036854775808 ≤ x ∧ x ≤ 9223372036854775807
def kLa_i64 (x : List Int) : Prop := x.length ≤ 9223372036854775807 ∧ ∀ y ∈ x, k_i64 y
def kLaLa_i64 (x : List (List Int)) : Prop := x.length ≤ 9223372036854775807 ∧ ∀ y ∈ x, kLa_i64 y
def k_Policy (x : Policy) : Prop := kLaLa_i64 x.Next
noncomputable def m_laws_szInt64S (p0 : List Int) (p1 : Int) : Option Int :=
  bif (decide ((w64 (p1 - (p0.length : Int))) < (0 : Int))) then
    some (-1 : Int)
  else
    some (w64 (p1 - (p0.length : Int)))
noncomputable def m_laws_szInt64SS_L0 (p0 : List (List Int)) (s0 : Int × Int) : Option (Ctl (Int × Int) (Int ⊕ Int)) :=
  bif (decide (s0.2 < (p0.length : Int))) then
    (getI p0 s0.2).bind fun (x20 : List Int) =>
    (m_laws_szInt64S x20 s0.1).bind fun (r23 : Int) =>
    bif (decide (r23 < (0 : Int))) then
      some (.out (.inr (-1 : Int)))
    else
      some (.next (r23, (w64 (s0.2 + (1 : Int)))))
  else
    some (.out (.inl s0.1))
noncomputable def m_laws_szInt64SS_A0 (u0 : Int ⊕ Int) : Option Int :=
  match u0 with
  | .inl u0 =>
    some u0
  | .inr u0 =>
    some u0
noncomputable def m_laws_szInt64SS (p0 : List (List Int)) (p1 : Int) : Option Int :=
  bif (decide ((w64 (p1 - (p0.length : Int))) < (0 : Int))) then
    some (-1 : Int)
  else
    (iter (m_laws_szInt64SS_L0 p0) ((w64 (p1 - (p0.length : Int))), (0 : Int))).bind fun (u0 : Int ⊕ Int) =>
    m_laws_szInt64SS_A0 u0
noncomputable def m_laws_szPolicy (p0 : Policy) (p1 : Int) : Option Int :=
  (m_laws_szInt64SS p0.Next p1).bind fun (r8 : Int) =>
  bif (decide (r8 < (0 : Int))) then
    some (-1 : Int)
  else
    some r8
noncomputable def m_laws_toInt64S_L0 (p0 : List Int) (s0 : (List Int) × Int) : Option (Ctl ((List Int) × Int) ((List Int))) :=
  bif (decide (s0.2 < (p0.length : Int))) then
    (getI p0 s0.2).bind fun (x18 : Int) =>
    (getI s0.1 s0.2).bind fun (x20 : Int) =>
    some (.next ((s0.1.set ((s0.2).toNat) x18), (w64 (s0.2 + (1 : Int)))))
  else
    some (.out s0.1)
noncomputable def m_laws_toInt64S_A0 (u0 : (List Int)) : Option (List Int) :=
  some u0
noncomputable def m_laws_toInt64S (p0 : List Int) : Option (List Int) :=
  (makeI (p0.length : Int) 8).bind fun (k7 : Nat) =>
  (iter (m_laws_toInt64S_L0 p0) ((List.replicate k7 (0 : Int)), (0 : Int))).bind fun (u0 : (List Int)) =>
  m_laws_toInt64S_A0 u0
noncomputable def m_laws_toInt64SS_L0 (p0 : List (List Int)) (s0 : (List (List Int)) × Int) : Option (Ctl ((List (List Int)) × Int) ((List (List Int)))) :=
  bif (decide (s0.2 < (p0.length : Int))) then
    (getI p0 s0.2).bind fun (x18 : List Int) =>
    (m_laws_toInt64S x18).bind fun (r20 : List Int) =>
    (getI s0.1 s0.2).bind fun (x21 : List Int) =>
    some (.next ((s0.1.set ((s0.2).toNat) r20), (w64 (s0.2 + (1 : Int)))))
  else
    some (.out s0.1)
noncomputable def m_laws_toInt64SS_A0 (u0 : (List (List Int))) : Option (List (List Int)) :=
  some u0
noncomputable def m_laws_toInt64SS (p0 : List (List Int)) : Option (List (List Int)) :=
  (makeI (p0.length : Int) 24).bind fun (k7 : Nat) =>
  (iter (m_laws_toInt64SS_L0 p0) ((List.replicate k7 ([] : List Int)), (0 : Int))).bind fun (u0 : (List (List Int))) =>
  m_laws_toInt64SS_A0 u0
noncomputable def m_laws_toPolicy (p0 : Policy) : Option Policy :=
  (m_laws_toInt64SS p0.Next).bind fun (r6 : List (List Int)) =>
  some (Policy.mk r6)
noncomputable def m_spec_l00In (p0 : Int) (p1 : Int) (p2 : Int) : Option Bool :=
  some ((decide (p1 ≤ p0)) && (decide (p0 ≤ p2)))
noncomputable def m_spec_l10Is_L1 (p0 : Policy) (x24 : List Int) (s1 : Int) : Option (Ctl Int (Unit ⊕ Bool)) :=
  bif (decide (s1 < (4 : Int))) then
    (getI x24 s1).bind fun (x40 : Int) =>
    (m_spec_l00In x40 (-1 : Int) (w64 ((p0.Next.length : Int) - (1 : Int)))).bind fun (r44 : Bool) =>
    bif (!r44) then
      some (.out (.inr false))
    else
      some (.next (w64 (s1 + (1 : Int))))
  else
    some (.out (.inl ()))
noncomputable def m_spec_l10Is_A1 (s0 : Int) (u1 : Unit ⊕ Bool) : Option (Ctl Int (Unit ⊕ Bool)) :=
  match u1 with
  | .inl u1 =>
    some (.next (w64 (s0 + (1 : Int))))
  | .inr u1 =>
    some (.out (.inr u1))
noncomputable def m_spec_l10Is_L0 (p0 : Policy) (s0 : Int) : Option (Ctl Int (Unit ⊕ Bool)) :=
  bif (decide (s0 < (p0.Next.length : Int))) then
    (getI p0.Next s0).bind fun (x24 : List Int) =>
    bif (!decide ((x24.length : Int) = (4 : Int))) then
      some (.out (.inr false))
    else
      (iter (m_spec_l10Is_L1 p0 x24) (0 : Int)).bind fun (u1 : Unit ⊕ Bool) =>
      m_spec_l10Is_A1 s0 u1
  else
    some (.out (.inl ()))
noncomputable def m_spec_l10Is_A0 (u0 : Unit ⊕ Bool) : Option Bool :=
  match u0 with
  | .inl u0 =>
    some true
  | .inr u0 =>
    some u0
noncomputable def m_spec_l10Is (p0 : Policy) : Option Bool :=
  (m_spec_l00In (p0.Next.length : Int) (1 : Int) (12 : Int)).bind fun (r12 : Bool) =>
  bif (!r12) then
    some false
  else
    (iter (m_spec_l10Is_L0 p0) (0 : Int)).bind fun (u0 : Unit ⊕ Bool) =>
    m_spec_l10Is_A0 u0
noncomputable def m_impl_size (p0 : Int) : Option Int :=
  some p0
noncomputable def m_impl_within (p0 : Int) (p1 : Int) (p2 : Int) : Option Bool :=
  some ((decide (p1 ≤ p0)) && (decide (p0 ≤ p2)))
noncomputable def m_impl_allWithin_L0 (p1 : Int) (p2 : Int) (n0 : Nat) (x0 : Int) (s0 : Unit) : Option (Ctl Unit (Unit ⊕ Bool)) :=
  (m_impl_within x0 p1 p2).bind fun (r18 : Bool) =>
  bif (!r18) then
    some (.out (.inr false))
  else
    some (.next ())
noncomputable def m_impl_allWithin_A0 (u0 : Unit ⊕ Bool) : Option Bool :=
  match u0 with
  | .inl u0 =>
    some true
  | .inr u0 =>
    some u0
noncomputable def m_impl_allWithin (p0 : List Int) (p1 : Int) (p2 : Int) : Option Bool :=
  (forL (m_impl_allWithin_L0 p1 p2) (fun s0 => (.inl ())) 0 p0 ()).bind fun (u0 : Unit ⊕ Bool) =>
  m_impl_allWithin_A0 u0
noncomputable def m_impl_ValidPolicy_L0 (r9 : Int) (n0 : Nat) (x0 : List Int) (s0 : Unit) : Option (Ctl Unit (Unit ⊕ Bool)) :=
  bif (!decide ((x0.length : Int) = (4 : Int))) then
    some (.out (.inr false))
  else
    (m_impl_allWithin x0 (-1 : Int) (w64 (r9 - (1 : Int)))).bind fun (r27 : Bool) =>
    bif (!r27) then
      some (.out (.inr false))
    else
      some (.next ())
noncomputable def m_impl_ValidPolicy_A0 (u0 : Unit ⊕ Bool) : Option Bool :=
  match u0 with
  | .inl u0 =>
    some true
  | .inr u0 =>
    some u0
noncomputable def m_impl_ValidPolicy (p0 : Policy) : Option Bool :=
  (m_impl_size (p0.Next.length : Int)).bind fun (r9 : Int) =>
  (m_impl_within r9 (1 : Int) (12 : Int)).bind fun (r11 : Bool) =>
  bif (!r11) then
    some false
  else
    (forL (m_impl_ValidPolicy_L0 r9) (fun s0 => (.inl ())) 0 p0.Next ()).bind fun (u0 : Unit ⊕ Bool) =>
    m_impl_ValidPolicy_A0 u0
noncomputable def m_laws_eqInt64S_L0 (p0 : List Int) (p1 : List Int) (s0 : Int) : Option (Ctl Int (Unit ⊕ Bool)) :=
  bif (decide (s0 < (p0.length : Int))) then
    (getI p0 s0).bind fun (x19 : Int) =>
    (getI p1 s0).bind fun (x23 : Int) =>
    bif (!decide (x19 = x23)) then
      some (.out (.inr false))
    else
      some (.next (w64 (s0 + (1 : Int))))
  else
    some (.out (.inl ()))
noncomputable def m_laws_eqInt64S_A0 (u0 : Unit ⊕ Bool) : Option Bool :=
  match u0 with
  | .inl u0 =>
    some true
  | .inr u0 =>
    some u0
noncomputable def m_laws_eqInt64S (p0 : List Int) (p1 : List Int) : Option Bool :=
  bif (!decide ((p0.length : Int) = (p1.length : Int))) then
    some false
  else
    (iter (m_laws_eqInt64S_L0 p0 p1) (0 : Int)).bind fun (u0 : Unit ⊕ Bool) =>
    m_laws_eqInt64S_A0 u0
noncomputable def m_laws_eqInt64SS_L0 (p0 : List (List Int)) (p1 : List (List Int)) (s0 : Int) : Option (Ctl Int (Unit ⊕ Bool)) :=
  bif (decide (s0 < (p0.length : Int))) then
    (getI p0 s0).bind fun (x19 : List Int) =>
    (getI p1 s0).bind fun (x23 : List Int) =>
    (m_laws_eqInt64S x19 x23).bind fun (r25 : Bool) =>
    bif (!r25) then
      some (.out (.inr false))
    else
      some (.next (w64 (s0 + (1 : Int))))
  else
    some (.out (.inl ()))
noncomputable def m_laws_eqInt64SS_A0 (u0 : Unit ⊕ Bool) : Option Bool :=
  match u0 with
  | .inl u0 =>
    some true
  | .inr u0 =>
    some u0
noncomputable def m_laws_eqInt64SS (p0 : List (List Int)) (p1 : List (List Int)) : Option Bool :=
  bif (!decide ((p0.length : Int) = (p1.length : Int))) then
    some false
  else
    (iter (m_laws_eqInt64SS_L0 p0 p1) (0 : Int)).bind fun (u0 : Unit ⊕ Bool) =>
    m_laws_eqInt64SS_A0 u0
noncomputable def m_laws_eqPolicy (p0 : Policy) (p1 : Policy) : Option Bool :=
  (m_laws_eqInt64SS p0.Next p1.Next).bind fun (r9 : Bool) =>
  bif (!r9) then
    some false
  else
    some true
noncomputable def m_spec_l00Own (p0 : List Int) : Option (List Int) :=
  (capI (([] : List Int).length + p0.length) 8).bind fun (q5 : Unit) =>
  some (([] : List Int) ++ p0)
noncomputable def m_spec_l10Find_J1 (p1 : Policy) (s1 : (List Bool) × (List l10Pair) × Int) (x58 : Int) (x69 : Int) (r73 : List Int) (j1 : Bool) : Option (Ctl ((List Bool) × (List l10Pair) × Int) (((List Bool) × (List l10Pair)) ⊕ ((List Int) × Bool))) :=
  bif j1 then
    (getI s1.1 (w64 ((w64 (x58 * (p1.Next.length : Int))) + x69))).bind fun (x118 : Bool) =>
    (capI (s1.2.1.length + ([(l10Pair.mk x58 x69 (r73 ++ [s1.2.2]))]).length) 40).bind fun (q125 : Unit) =>
    some (.next ((s1.1.set (((w64 ((w64 (x58 * (p1.Next.length : Int))) + x69))).toNat) true), (s1.2.1 ++ [(l10Pair.mk x58 x69 (r73 ++ [s1.2.2]))]), (w64 (s1.2.2 + (1 : Int)))))
  else
    some (.next (s1.1, s1.2.1, (w64 (s1.2.2 + (1 : Int)))))
noncomputable def m_spec_l10Find_J0 (p1 : Policy) (s1 : (List Bool) × (List l10Pair) × Int) (x58 : Int) (x69 : Int) (r73 : List Int) (j0 : Bool × Bool × Bool × Bool) : Option (Ctl ((List Bool) × (List l10Pair) × Int) (((List Bool) × (List l10Pair)) ⊕ ((List Int) × Bool))) :=
  bif ((decide ((0 : Int) ≤ x58)) && (decide ((0 : Int) ≤ x69))) then
    (getI s1.1 (w64 ((w64 (x58 * (p1.Next.length : Int))) + x69))).bind fun (x108 : Bool) =>
    m_spec_l10Find_J1 p1 s1 x58 x69 r73 (!x108)
  else
    m_spec_l10Find_J1 p1 s1 x58 x69 r73 false
noncomputable def m_spec_l10Find_L1 (p0 : Policy) (p1 : Policy) (p2 : Bool) (x43 : l10Pair) (s1 : (List Bool) × (List l10Pair) × Int) : Option (Ctl ((List Bool) × (List l10Pair) × Int) (((List Bool) × (List l10Pair)) ⊕ ((List Int) × Bool))) :=
  bif (decide (s1.2.2 < (4 : Int))) then
    (getI p0.Next x43.a).bind fun (x55 : List Int) =>
    (getI x55 s1.2.2).bind fun (x58 : Int) =>
    (getI p1.Next x43.b).bind fun (x66 : List Int) =>
    (getI x66 s1.2.2).bind fun (x69 : Int) =>
    (m_spec_l00Own x43.word).bind fun (r73 : List Int) =>
    (capI (r73.length + [s1.2.2].length) 8).bind fun (q76 : Unit) =>
    bif ((decide ((0 : Int) ≤ x58)) && (decide (x69 < (0 : Int)))) then
      some (.out (.inr ((r73 ++ [s1.2.2]), true)))
    else
      bif p2 then
        bif (decide (x58 < (0 : Int))) then
          bif (decide ((0 : Int) ≤ x69)) then
            some (.out (.inr ((r73 ++ [s1.2.2]), true)))
          else
            m_spec_l10Find_J0 p1 s1 x58 x69 r73 (true, (decide (x58 < (0 : Int))), true, (decide ((0 : Int) ≤ x69)))
        else
          m_spec_l10Find_J0 p1 s1 x58 x69 r73 (true, (decide (x58 < (0 : Int))), false, false)
      else
        m_spec_l10Find_J0 p1 s1 x58 x69 r73 (false, false, false, false)
  else
    some (.out (.inl (s1.1, s1.2.1)))
noncomputable def m_spec_l10Find_A1 (s0 : (List Bool) × (List l10Pair) × Int) (u1 : ((List Bool) × (List l10Pair)) ⊕ ((List Int) × Bool)) : Option (Ctl ((List Bool) × (List l10Pair) × Int) (Unit ⊕ ((List Int) × Bool))) :=
  match u1 with
  | .inl u1 =>
    some (.next (u1.1, u1.2, (w64 (s0.2.2 + (1 : Int)))))
  | .inr u1 =>
    some (.out (.inr (u1.1, u1.2)))
noncomputable def m_spec_l10Find_L0 (p0 : Policy) (p1 : Policy) (p2 : Bool) (s0 : (List Bool) × (List l10Pair) × Int) : Option (Ctl ((List Bool) × (List l10Pair) × Int) (Unit ⊕ ((List Int) × Bool))) :=
  bif (decide (s0.2.2 < (s0.2.1.length : Int))) then
    (getI s0.2.1 s0.2.2).bind fun (x43 : l10Pair) =>
    (iter (m_spec_l10Find_L1 p0 p1 p2 x43) (s0.1, s0.2.1, (0 : Int))).bind fun (u1 : ((List Bool) × (List l10Pair)) ⊕ ((List Int) × Bool)) =>
    m_spec_l10Find_A1 s0 u1
  else
    some (.out (.inl ()))
noncomputable def m_spec_l10Find_A0 (u0 : Unit ⊕ ((List Int) × Bool)) : Option ((List Int) × Bool) :=
  match u0 with
  | .inl u0 =>
    some (([] : List Int), false)
  | .inr u0 =>
    some (u0.1, u0.2)
noncomputable def m_spec_l10Find (p0 : Policy) (p1 : Policy) (p2 : Bool) : Option ((List Int) × Bool) :=
  (makeI (w64 ((p0.Next.length : Int) * (p1.Next.length : Int))) 1).bind fun (k29 : Nat) =>
  (getI (List.replicate k29 false) (0 : Int)).bind fun (x34 : Bool) =>
  (iter (m_spec_l10Find_L0 p0 p1 p2) (((List.replicate k29 false).set (((0 : Int)).toNat) true), [(l10Pair.mk (0 : Int) (0 : Int) ([] : List Int))], (0 : Int))).bind fun (u0 : Unit ⊕ ((List Int) × Bool)) =>
  m_spec_l10Find_A0 u0
noncomputable def m_impl_copyInts (p0 : List Int) : Option (List Int) :=
  (capI (([] : List Int).length + p0.length) 8).bind fun (q5 : Unit) =>
  some (([] : List Int) ++ p0)
noncomputable def m_spec_DifferenceOf (p0 : Policy) (p1 : Policy) : Option ((List Int) × Bool) :=
  (m_spec_l10Is p0).bind fun (r8 : Bool) =>
  bif (!r8) then
    some (([] : List Int), false)
  else
    (m_spec_l10Is p1).bind fun (r11 : Bool) =>
    bif (!r11) then
      some (([] : List Int), false)
    else
      (m_spec_l10Find p0 p1 true).bind fun (r15 : (List Int) × Bool) =>
      bif ((!r15.2) || (decide ((40 : Int) < (r15.1.length : Int)))) then
        some (([] : List Int), false)
      else
        some (r15.1, true)
noncomputable def m_impl_DifferenceOf_1 (p0 : Bool) (p1 : Bool) : Option Bool :=
  some (!(p0 == p1))
noncomputable def m_impl_apart_fDifferenceOf_1_J0 (s1 : (List ((Int × Int) × Bool)) × (List spot)) (n1 : Nat) (x41 : Int) (x54 : Int) (r61 : List Int) (j0 : Bool) : Option (Ctl ((List ((Int × Int) × Bool)) × (List spot)) (((List ((Int × Int) × Bool)) × (List spot)) ⊕ ((List Int) × Bool))) :=
  bif j0 then
    (capI (s1.2.length + ([(spot.mk (x41, x54) (r61 ++ [(n1 : Int)]))]).length) 40).bind fun (q94 : Unit) =>
    some (.next ((mput s1.1 (x41, x54) true), (s1.2 ++ [(spot.mk (x41, x54) (r61 ++ [(n1 : Int)]))])))
  else
    some (.next (s1.1, s1.2))
noncomputable def m_impl_apart_fDifferenceOf_1_L1 (p0 : Policy) (p1 : Policy) (s0 : (List ((Int × Int) × Bool)) × (List spot) × Int) (n1 : Nat) (x1 : Nat) (s1 : (List ((Int × Int) × Bool)) × (List spot)) : Option (Ctl ((List ((Int × Int) × Bool)) × (List spot)) (((List ((Int × Int) × Bool)) × (List spot)) ⊕ ((List Int) × Bool))) :=
  (getI s1.2 s0.2.2).bind fun (x34 : spot) =>
  (getI p0.Next x34.pair.1).bind fun (x38 : List Int) =>
  (getI x38 (n1 : Int)).bind fun (x41 : Int) =>
  (getI p1.Next x34.pair.2).bind fun (x51 : List Int) =>
  (getI x51 (n1 : Int)).bind fun (x54 : Int) =>
  (m_impl_copyInts x34.word).bind fun (r61 : List Int) =>
  (capI (r61.length + [(n1 : Int)].length) 8).bind fun (q64 : Unit) =>
  (m_impl_DifferenceOf_1 (decide ((0 : Int) ≤ x41)) (decide ((0 : Int) ≤ x54))).bind fun (r70 : Bool) =>
  bif r70 then
    some (.out (.inr ((r61 ++ [(n1 : Int)]), true)))
  else
    bif ((decide ((0 : Int) ≤ x41)) && (decide ((0 : Int) ≤ x54))) then
      m_impl_apart_fDifferenceOf_1_J0 s1 n1 x41 x54 r61 (!((mget s1.1 (x41, x54)).getD false))
    else
      m_impl_apart_fDifferenceOf_1_J0 s1 n1 x41 x54 r61 false
noncomputable def m_impl_apart_fDifferenceOf_1_A1 (s0 : (List ((Int × Int) × Bool)) × (List spot) × Int) (u1 : ((List ((Int × Int) × Bool)) × (List spot)) ⊕ ((List Int) × Bool)) : Option (Ctl ((List ((Int × Int) × Bool)) × (List spot) × Int) (Unit ⊕ ((List Int) × Bool))) :=
  match u1 with
  | .inl u1 =>
    some (.next (u1.1, u1.2, (w64 (s0.2.2 + (1 : Int)))))
  | .inr u1 =>
    some (.out (.inr (u1.1, u1.2)))
noncomputable def m_impl_apart_fDifferenceOf_1_L0 (p0 : Policy) (p1 : Policy) (s0 : (List ((Int × Int) × Bool)) × (List spot) × Int) : Option (Ctl ((List ((Int × Int) × Bool)) × (List spot) × Int) (Unit ⊕ ((List Int) × Bool))) :=
  bif (decide (s0.2.2 < (s0.2.1.length : Int))) then
    (forL (m_impl_apart_fDifferenceOf_1_L1 p0 p1 s0) (fun s1 => (.inl (s1.1, s1.2))) 0 (List.range 4) (s0.1, s0.2.1)).bind fun (u1 : ((List ((Int × Int) × Bool)) × (List spot)) ⊕ ((List Int) × Bool)) =>
    m_impl_apart_fDifferenceOf_1_A1 s0 u1
  else
    some (.out (.inl ()))
noncomputable def m_impl_apart_fDifferenceOf_1_A0 (u0 : Unit ⊕ ((List Int) × Bool)) : Option ((List Int) × Bool) :=
  match u0 with
  | .inl u0 =>
    some (([] : List Int), false)
  | .inr u0 =>
    some (u0.1, u0.2)
noncomputable def m_impl_apart_fDifferenceOf_1 (p0 : Policy) (p1 : Policy) : Option ((List Int) × Bool) :=
  (iter (m_impl_apart_fDifferenceOf_1_L0 p0 p1) ((mput ([] : List ((Int × Int) × Bool)) ((0 : Int), (0 : Int)) true), [(spot.mk ((0 : Int), (0 : Int)) ([] : List Int))], (0 : Int))).bind fun (u0 : Unit ⊕ ((List Int) × Bool)) =>
  m_impl_apart_fDifferenceOf_1_A0 u0
noncomputable def m_impl_DifferenceOf (p0 : Policy) (p1 : Policy) : Option ((List Int) × Bool) :=
  (m_impl_ValidPolicy p0).bind fun (r9 : Bool) =>
  bif (!r9) then
    some (([] : List Int), false)
  else
    (m_impl_ValidPolicy p1).bind fun (r13 : Bool) =>
    bif (!r13) then
      some (([] : List Int), false)
    else
      (m_impl_apart_fDifferenceOf_1 p0 p1).bind fun (r19 : (List Int) × Bool) =>
      bif ((!r19.2) || (decide ((40 : Int) < (r19.1.length : Int)))) then
        some (([] : List Int), false)
      else
        some (r19.1, true)
noncomputable def m_laws_markInt64S_L0 (s0 : (List Int) × Int × Int) : Option (Ctl ((List Int) × Int × Int) ((Int × (List Int)))) :=
  bif (decide (s0.2.2 < (s0.1.length : Int))) then
    (getI s0.1 s0.2.2).bind fun (x15 : Int) =>
    some (.next ((s0.1.set ((s0.2.2).toNat) s0.2.1), (w64 (s0.2.1 + (1 : Int))), (w64 (s0.2.2 + (1 : Int)))))
  else
    some (.out (s0.2.1, s0.1))
noncomputable def m_laws_markInt64S_A0 (u0 : (Int × (List Int))) : Option (Int × (List Int)) :=
  some (u0.1, u0.2)
noncomputable def m_laws_markInt64S (p0 : List Int) (p1 : Int) : Option (Int × (List Int)) :=
  (iter (m_laws_markInt64S_L0) (p0, p1, (0 : Int))).bind fun (u0 : (Int × (List Int))) =>
  m_laws_markInt64S_A0 u0
noncomputable def m_laws_markInt64SS_L0 (s0 : (List (List Int)) × Int × Int) : Option (Ctl ((List (List Int)) × Int × Int) ((Int × (List (List Int))))) :=
  bif (decide (s0.2.2 < (s0.1.length : Int))) then
    (getI s0.1 s0.2.2).bind fun (x14 : List Int) =>
    (m_laws_markInt64S x14 s0.2.1).bind fun (r17 : Int × (List Int)) =>
    some (.next ((s0.1.set ((s0.2.2).toNat) r17.2), r17.1, (w64 (s0.2.2 + (1 : Int)))))
  else
    some (.out (s0.2.1, s0.1))
noncomputable def m_laws_markInt64SS_A0 (u0 : (Int × (List (List Int)))) : Option (Int × (List (List Int))) :=
  some (u0.1, u0.2)
noncomputable def m_laws_markInt64SS (p0 : List (List Int)) (p1 : Int) : Option (Int × (List (List Int))) :=
  (iter (m_laws_markInt64SS_L0) (p0, p1, (0 : Int))).bind fun (u0 : (Int × (List (List Int)))) =>
  m_laws_markInt64SS_A0 u0
noncomputable def m_laws_markPolicy (p0 : Policy) (p1 : Int) : Option (Int × (List (List Int))) :=
  (m_laws_markInt64SS p0.Next p1).bind fun (r8 : Int × (List (List Int))) =>
  some (r8.1, r8.2)
noncomputable def m_laws_heldInt64S_L0 (p0 : List Int) (s0 : Int × Int) : Option (Ctl (Int × Int) (Int ⊕ Int)) :=
  bif (decide (s0.2 < (p0.length : Int))) then
    (getI p0 s0.2).bind fun (x14 : Int) =>
    bif (!decide (x14 = s0.1)) then
      some (.out (.inr (-1 : Int)))
    else
      some (.next ((w64 (s0.1 + (1 : Int))), (w64 (s0.2 + (1 : Int)))))
  else
    some (.out (.inl s0.1))
noncomputable def m_laws_heldInt64S_A0 (u0 : Int ⊕ Int) : Option Int :=
  match u0 with
  | .inl u0 =>
    some u0
  | .inr u0 =>
    some u0
noncomputable def m_laws_heldInt64S (p0 : List Int) (p1 : Int) : Option Int :=
  (iter (m_laws_heldInt64S_L0 p0) (p1, (0 : Int))).bind fun (u0 : Int ⊕ Int) =>
  m_laws_heldInt64S_A0 u0
noncomputable def m_laws_FnExactDifferenceOf (p0 : Policy) (p1 : Policy) : Option Bool :=
  (m_laws_szPolicy p0 (1048576 : Int)).bind fun (r19 : Int) =>
  bif (decide (r19 < (0 : Int))) then
    some true
  else
    (m_laws_szPolicy p1 r19).bind fun (r24 : Int) =>
    bif (decide (r24 < (0 : Int))) then
      some true
    else
      (m_laws_toPolicy p0).bind fun (r29 : Policy) =>
      (m_laws_toPolicy p1).bind fun (r31 : Policy) =>
      (m_spec_DifferenceOf r29 r31).bind fun (r32 : (List Int) × Bool) =>
      (m_laws_toPolicy p0).bind fun (r36 : Policy) =>
      (m_laws_toPolicy p1).bind fun (r38 : Policy) =>
      (m_impl_DifferenceOf r36 r38).bind fun (r42 : (List Int) × Bool) =>
      (m_laws_eqInt64S r42.1 r32.1).bind fun (r47 : Bool) =>
      bif ((!r47) || (!(r42.2 == r32.2))) then
        some false
      else
        (m_laws_toPolicy p0).bind fun (r56 : Policy) =>
        (m_laws_eqPolicy r36 r56).bind fun (r57 : Bool) =>
        bif (!r57) then
          some false
        else
          (m_laws_toPolicy p1).bind fun (r61 : Policy) =>
          (m_laws_eqPolicy r38 r61).bind fun (r62 : Bool) =>
          bif (!r62) then
            some false
          else
            (m_laws_markPolicy r36 (1 : Int)).bind fun (r66 : Int × (List (List Int))) =>
            (m_laws_markPolicy r38 r66.1).bind fun (r69 : Int × (List (List Int))) =>
            bif (decide (r69.1 < (0 : Int))) then
              some false
            else
              (m_laws_eqInt64S r42.1 r32.1).bind fun (r75 : Bool) =>
              bif ((!r75) || (!(r42.2 == r32.2))) then
                some false
              else
                (m_laws_markInt64S r42.1 (1 : Int)).bind fun (r85 : Int × (List Int)) =>
                (m_laws_heldInt64S r85.2 (1 : Int)).bind fun (r88 : Int) =>
                bif (decide (r88 < (0 : Int))) then
                  some false
                else
                  bif (!decide (r88 = r85.1)) then
                    some false
                  else
                    (m_laws_toPolicy p0).bind fun (r96 : Policy) =>
                    (m_laws_toPolicy p1).bind fun (r98 : Policy) =>
                    (m_impl_DifferenceOf r96 r98).bind fun (r99 : (List Int) × Bool) =>
                    (m_laws_eqInt64S r99.1 r32.1).bind fun (r104 : Bool) =>
                    bif ((!r104) || (!(r99.2 == r32.2))) then
                      some false
                    else
                      (m_laws_heldInt64S r85.2 (1 : Int)).bind fun (r113 : Int) =>
                      bif (decide (r113 < (0 : Int))) then
                        some false
                      else
                        bif (!decide (r113 = r85.1)) then
                          some false
                        else
                          some true
end Go.Mod

namespace Go.Mod
open Go.AM
set_option linter.unusedVariables false
set_option linter.unusedSimpArgs false
theorem pl_mem_sum {α : Type} {c : α → Nat} {xs : List α} {x : α} (h : x ∈ xs) : c x ≤ (xs.map c).sum := by
  induction xs with
  | nil => cases h
  | cons y r ih =>
    simp only [List.map_cons, List.sum_cons]
    rcases List.mem_cons.1 h with rfl | h
    · omega
    · have := ih h; omega
theorem pl_sum_len {α : Type} {q : α → Nat} {xs : List α} (h : ∀ x, q x ≤ 8 + 8 * 0) : (xs.map q).sum ≤ 8 * xs.length := by
  induction xs with
  | nil => simp
  | cons y r ih => have := h y; simp only [List.map_cons, List.sum_cons, List.length_cons]; omega
theorem pl_sum_le {α : Type} {q c : α → Nat} {xs : List α} (h : ∀ x, q x ≤ 8 + 8 * c x) : (xs.map q).sum ≤ 8 * (xs.length + (xs.map c).sum) := by
  induction xs with
  | nil => simp
  | cons y r ih => have := h y; simp only [List.map_cons, List.sum_cons, List.length_cons]; omega
theorem pl_szB {m : Option Int} {c d b : Nat} {F : Int → Option Int} (h : m = some (szOut c b)) (g : c ≤ b → F ((b - c : Nat) : Int) = some (szOut d (b - c))) :
    (m.bind fun r => bif decide (r < 0) then some (-1) else F r) = some (szOut (c + d) b) := by
  rw [h, Option.bind_some]
  by_cases hc : c ≤ b
  · rw [szOut_ok hc, decide_eq_false (by omega), cond_false, g hc]
    unfold szOut
    by_cases h2 : d ≤ b - c
    · rw [if_pos h2, if_pos (by omega)]; congr 2; omega
    · rw [if_neg h2, if_neg (by omega)]
  · rw [szOut_no hc, szOut_no (by omega)]; rfl
theorem pl_szL {m : Option Int} {c b : Nat} (h : m = some (szOut c b)) : (m.bind fun r => bif decide (r < 0) then some (-1) else some r) = some (szOut c b) := by
  have := pl_szB (d := 0) (F := fun r => some r) h (fun hc => by rw [szOut_ok (Nat.zero_le _)]; rfl)
  simpa using this
theorem pl_eqL {p : Prop} [Decidable p] : (bif !decide p then some false else some true) = some (decide p) := by
  by_cases hp : p <;> simp [hp]
theorem pl_eqML {m : Option Bool} {p : Prop} [Decidable p] (hm : m = some (decide p)) : (m.bind fun r => bif !r then some false else some true) = some (decide p) := by
  rw [hm, Option.bind_some]; exact pl_eqL
theorem pl_neg1 : decide ((-1 : Int) < 0) = true := rfl
theorem pl_condB {α β : Type} {b : Bool} {x y : Option α} {f : α → Option β} : (cond b x y).bind f = cond b (x.bind f) (y.bind f) := by cases b <;> rfl
theorem pl_cond2 {α : Type} {b : Bool} {x y z : α} : cond b x (cond b y z) = cond b x z := by cases b <;> rfl
section
variable {α : Type} {ys : List α} {n : Nat} {a b c d e f g : α} (h : n < ys.length)
include h
theorem pl_get_set : getI (ys.set n a) (n : Int) = some a := getI_some (by rw [List.getElem?_set_self h])
theorem pl_get_set2 : getI ((ys.set n a).set n b) (n : Int) = some b := getI_some (by rw [List.set_set, List.getElem?_set_self h])
theorem pl_get_set3 : getI (((ys.set n a).set n b).set n c) (n : Int) = some c := getI_some (by rw [List.set_set, List.set_set, List.getElem?_set_self h])
theorem pl_get_set4 : getI ((((ys.set n a).set n b).set n c).set n d) (n : Int) = some d := getI_some (by simp only [List.set_set]; rw [List.getElem?_set_self h])
theorem pl_get_set5 : getI (((((ys.set n a).set n b).set n c).set n d).set n e) (n : Int) = some e := getI_some (by simp only [List.set_set]; rw [List.getElem?_set_self h])
theorem pl_get_set6 : getI ((((((ys.set n a).set n b).set n c).set n d).set n e).set n f) (n : Int) = some f := getI_some (by simp only [List.set_set]; rw [List.getElem?_set_self h])
theorem pl_get_set7 : getI (((((((ys.set n a).set n b).set n c).set n d).set n e).set n f).set n g) (n : Int) = some g := getI_some (by simp only [List.set_set]; rw [List.getElem?_set_self h])
end
theorem pl_mark0 {α : Type} {xs : List α} {m : α → Nat} {mk : α → Int → Option (Int × α)} {step : List α × Int × Int → Option (Ctl (List α × Int × Int) (Int × List α))}
    (hs : ∀ (n : Nat) ys x (k : Nat), k ≤ 4611686018427387904 → ys[n]? = some x → step (ys, (k : Int), (n : Int)) = (mk x k).bind fun r => some (.next (ys.set n r.2, r.1, w64 ((n : Int) + 1))))
    (he : ∀ ys k, step (ys, k, (ys.length : Int)) = some (.out (k, ys))) (hl : xs.length ≤ 9223372036854775807)
    (hm : ∀ x ∈ xs, ∀ k : Nat, k + m x ≤ 4611686018427387904 → ∃ x', mk x k = some (((k + m x : Nat) : Int), x')) {k : Nat} (hk : k + (xs.map m).sum ≤ 4611686018427387904) :
    ∃ xs', iter step (xs, (k : Int), 0) = some (((k + (xs.map m).sum : Nat) : Int), xs') := by
  have key : ∀ (q n : Nat) (ys : List α) (k : Nat), n + q = xs.length → ys.length = xs.length → ys.drop n = xs.drop n → k + ((xs.drop n).map m).sum ≤ 4611686018427387904 →
      ∃ xs', iter step (ys, (k : Int), (n : Int)) = some (((k + ((xs.drop n).map m).sum : Nat) : Int), xs') := by
    intro q
    induction q with
    | zero =>
      intro n ys k hn hy _ hk
      obtain rfl : n = xs.length := by omega
      have h1 := he ys k
      rw [hy] at h1
      exact ⟨ys, by rw [iter_out h1]; simp⟩
    | succ q ih =>
      intro n ys k hn hy hd hk
      have hlt : n < xs.length := by omega
      have hyn : ys[n]? = some xs[n] := by
        have := congrArg (fun l => l[0]?) hd
        simpa [List.getElem?_drop, hlt] using this
      rw [List.drop_eq_getElem_cons hlt] at hk ⊢
      simp only [List.map_cons, List.sum_cons] at hk ⊢
      obtain ⟨x', m1⟩ := hm _ (List.getElem_mem hlt) k (by omega)
      have h := hs n ys _ k (by omega) hyn
      rw [m1, Option.bind_some, w64_succ (by omega)] at h
      obtain ⟨xs', e1⟩ := ih (n + 1) (ys.set n x') (k + m xs[n]) (by omega) (by simpa using hy)
        (by
          have := congrArg (fun l => l.drop 1) hd
          simp only [List.drop_drop] at this
          rw [List.drop_set_of_lt (by omega)]; exact this) (by omega)
      exact ⟨xs', by rw [iter_next h, e1]; congr 2; omega⟩
  obtain ⟨xs', e1⟩ := key xs.length 0 xs k (by omega) rfl rfl (by simpa using hk)
  exact ⟨xs', by simpa using e1⟩
def pc_Int64S (xs : List Int) : Nat := xs.length
theorem pc_Int64S_len {xs : List Int} : xs.length ≤ pc_Int64S xs := by unfold pc_Int64S; omega
theorem pz_Int64S {xs : List Int} (k : kLa_i64 xs) : SzP m_laws_szInt64S pc_Int64S xs := fun _ hb => sz_flat k.1 hb
theorem pt_Int64S {xs : List Int} (hl : pc_Int64S xs ≤ 1048576) : m_laws_toInt64S xs = some xs := by
  have hlen : xs.length ≤ 1048576 := Nat.le_trans pc_Int64S_len hl
  unfold m_laws_toInt64S
  rw [makeI_some (by omega), Option.bind_some, iter_to (xs := xs) (z := (0 : Int)) (cp := some)
    (fun n x ys hx => by unfold m_laws_toInt64S_L0; rw [dec_lt (get_lt hx), cond_true, getI_some hx]; rfl)
    (fun ys => by unfold m_laws_toInt64S_L0; rw [dec_self]; rfl) hlen (fun x hx => rfl)]
  rfl
theorem pe_Int64S {xs ys : List Int} (hl : pc_Int64S xs ≤ 1048576) : m_laws_eqInt64S xs ys = some (decide (xs = ys)) := by
  have hlen : xs.length ≤ 1048576 := Nat.le_trans pc_Int64S_len hl
  unfold m_laws_eqInt64S
  by_cases h : xs.length = ys.length
  · rw [decide_eq_true (by omega), Bool.not_true, cond_false, iter_eq (xs := xs) (ys := ys) (eq := fun x y => some (decide (x = y)))
      (fun n x y hx hy => by unfold m_laws_eqInt64S_L0; rw [dec_lt (get_lt hx), cond_true, getI_some hx, getI_some hy]; rfl)
      (by unfold m_laws_eqInt64S_L0; rw [dec_self]; rfl) (by omega) h (fun x hx y => rfl)]
    by_cases e : xs = ys
    · rw [if_pos e, decide_eq_true e]; rfl
    · rw [if_neg e, decide_eq_false e]; rfl
  · rw [decide_eq_false (by omega), decide_eq_false (fun e => h (by rw [e]))]; rfl
def pqE_Int64S (x : Int) : Nat := 1
def pq_Int64S (xs : List Int) : Nat := (xs.map pqE_Int64S).sum
theorem pqE_Int64S_le (x : Int) : pqE_Int64S x ≤ 8 + 8 * 0 := by
  unfold pqE_Int64S
  omega
theorem pq_Int64S_le (xs : List Int) : pq_Int64S xs ≤ 8 * pc_Int64S xs := by
  unfold pq_Int64S pc_Int64S
  exact pl_sum_len (fun x => pqE_Int64S_le x)
noncomputable def pmk_Int64S (x : Int) (k : Int) : Option (Int × Int) := some ((w64 (k + 1)), k)
noncomputable def phe_Int64S (x : Int) (k : Int) : Option Int := bif !decide (x = k) then some (-1) else some (w64 (k + 1))
theorem pmE_Int64S (x : Int) : ∀ k : Nat, k + pqE_Int64S x ≤ 4611686018427387904 → ∃ x', pmk_Int64S x k = some (((k + pqE_Int64S x : Nat) : Int), x') ∧ phe_Int64S x' k = some ((k + pqE_Int64S x : Nat) : Int) := fun k hk => by
  unfold pqE_Int64S at hk ⊢
  have tot : ((k + 1 : Nat) : Int) = ((k + (1) : Nat) : Int) := by omega
  have w0 : w64 (((k : Nat) : Int) + 1) = ((k + 1 : Nat) : Int) := w64_succ (by omega)
  refine ⟨((k : Nat) : Int), ?_, ?_⟩
  · unfold pmk_Int64S; simp only [w0, Option.bind_some] <;> rw [← tot]
  · unfold phe_Int64S; simp only [w0, Option.bind_some, decide_true, Bool.not_true, cond_false] <;> rw [← tot]
theorem pm_Int64S {xs : List Int} (hl : pc_Int64S xs ≤ 1048576) {k : Nat} (hk : k + pq_Int64S xs ≤ 4611686018427387904) : ∃ xs', m_laws_markInt64S xs k = some (((k + pq_Int64S xs : Nat) : Int), xs') ∧ m_laws_heldInt64S xs' k = some ((k + pq_Int64S xs : Nat) : Int) := by
  obtain ⟨xs', h1, h2, h3⟩ := iter_mark (xs := xs) (m := pqE_Int64S) (mk := pmk_Int64S) (held := phe_Int64S) (step := m_laws_markInt64S_L0) (hstep := m_laws_heldInt64S_L0)
    (fun n ys x k hk hx => by
      have hn := get_lt hx
      have gen : ∀ k1 : Int, w64 ((k : Int) + 1) = k1 → m_laws_markInt64S_L0 (ys, (k : Int), (n : Int)) = (pmk_Int64S x k).bind fun r => some (.next (ys.set n r.2, r.1, w64 ((n : Int) + 1))) := by
        intro k1 h1
        unfold m_laws_markInt64S_L0 pmk_Int64S
        simp only [h1, dec_lt hn, cond_true, getI_some hx, Option.bind_some, Int.toNat_natCast, pl_get_set hn, pl_get_set2 hn, pl_get_set3 hn, pl_get_set4 hn, pl_get_set5 hn, pl_get_set6 hn, pl_get_set7 hn, List.set_set, Option.bind_assoc]
      exact gen _ rfl)
    (fun ys k => by unfold m_laws_markInt64S_L0; rw [dec_self]; rfl)
    (fun n ys x k hk hx => by
      unfold m_laws_heldInt64S_L0 phe_Int64S
      rw [dec_lt (get_lt hx), cond_true, getI_some hx]
      have w0 : w64 (((k : Nat) : Int) + 1) = ((k + 1 : Nat) : Int) := w64_succ (by omega)
      simp only [Option.bind_some, pl_condB, pl_cond2, Option.bind_assoc, pl_neg1, cond_true, cond_false, dec_neg, w0])
    (fun ys k => by unfold m_laws_heldInt64S_L0; rw [dec_self]; rfl)
    (by have := pc_Int64S_len (xs := xs); omega) (fun x hx => pmE_Int64S x) (k := k) hk
  exact ⟨xs', by unfold m_laws_markInt64S; rw [h1]; rfl, by unfold m_laws_heldInt64S; rw [h3]; rfl⟩
def pc_Int64SS (xs : List (List Int)) : Nat := xs.length + (xs.map pc_Int64S).sum
theorem pc_Int64SS_mem {xs : List (List Int)} {x : List Int} (h : x ∈ xs) : pc_Int64S x ≤ pc_Int64SS xs := by have := pl_mem_sum (c := pc_Int64S) h; unfold pc_Int64SS; omega
theorem pc_Int64SS_len {xs : List (List Int)} : xs.length ≤ pc_Int64SS xs := by unfold pc_Int64SS; omega
theorem pz_Int64SS {xs : List (List Int)} (k : kLaLa_i64 xs) : SzP m_laws_szInt64SS pc_Int64SS xs := fun b hb => by
  unfold m_laws_szInt64SS pc_Int64SS
  rw [szW k.1 hb]
  by_cases h : xs.length ≤ b
  · rw [decide_eq_false (by omega), cond_false, show (b : Int) - (xs.length : Int) = ((b - xs.length : Nat) : Int) by omega,
      iter_sz (xs := xs) (c := pc_Int64S) (sz := m_laws_szInt64S)
        (fun n x b hx => by unfold m_laws_szInt64SS_L0; rw [dec_lt (get_lt hx), cond_true, getI_some hx]; rfl)
        (fun b => by unfold m_laws_szInt64SS_L0; rw [dec_self]; rfl) k.1 (fun x hx => pz_Int64S (k.2 x hx)) (by omega), Option.bind_some]
    by_cases h2 : (xs.map pc_Int64S).sum ≤ b - xs.length
    · rw [if_pos h2, szOut_ok (by omega)]
      unfold m_laws_szInt64SS_A0; simp only; congr 2; omega
    · rw [if_neg h2, szOut_no (by omega)]; rfl
  · rw [decide_eq_true (by omega), szOut_no (by omega)]; rfl
theorem pt_Int64SS {xs : List (List Int)} (hl : pc_Int64SS xs ≤ 1048576) : m_laws_toInt64SS xs = some xs := by
  have hlen : xs.length ≤ 1048576 := Nat.le_trans pc_Int64SS_len hl
  unfold m_laws_toInt64SS
  rw [makeI_some (by omega), Option.bind_some, iter_to (xs := xs) (z := ([] : List Int)) (cp := m_laws_toInt64S)
    (fun n x ys hx => by unfold m_laws_toInt64SS_L0; rw [dec_lt (get_lt hx), cond_true, getI_some hx]; rfl)
    (fun ys => by unfold m_laws_toInt64SS_L0; rw [dec_self]; rfl) hlen (fun x hx => pt_Int64S (by have := pc_Int64SS_mem hx; omega))]
  rfl
theorem pe_Int64SS {xs ys : List (List Int)} (hl : pc_Int64SS xs ≤ 1048576) : m_laws_eqInt64SS xs ys = some (decide (xs = ys)) := by
  have hlen : xs.length ≤ 1048576 := Nat.le_trans pc_Int64SS_len hl
  unfold m_laws_eqInt64SS
  by_cases h : xs.length = ys.length
  · rw [decide_eq_true (by omega), Bool.not_true, cond_false, iter_eq (xs := xs) (ys := ys) (eq := m_laws_eqInt64S)
      (fun n x y hx hy => by unfold m_laws_eqInt64SS_L0; rw [dec_lt (get_lt hx), cond_true, getI_some hx, getI_some hy]; rfl)
      (by unfold m_laws_eqInt64SS_L0; rw [dec_self]; rfl) (by omega) h (fun x hx y => pe_Int64S (by have := pc_Int64SS_mem hx; omega))]
    by_cases e : xs = ys
    · rw [if_pos e, decide_eq_true e]; rfl
    · rw [if_neg e, decide_eq_false e]; rfl
  · rw [decide_eq_false (by omega), decide_eq_false (fun e => h (by rw [e]))]; rfl
def pqE_Int64SS (x : List Int) : Nat := 0 + pq_Int64S x
def pq_Int64SS (xs : List (List Int)) : Nat := (xs.map pqE_Int64SS).sum
theorem pqE_Int64SS_le (x : List Int) : pqE_Int64SS x ≤ 8 + 8 * pc_Int64S x := by
  unfold pqE_Int64SS
  have h0 := pq_Int64S_le x
  omega
theorem pq_Int64SS_le (xs : List (List Int)) : pq_Int64SS xs ≤ 8 * pc_Int64SS xs := by
  unfold pq_Int64SS pc_Int64SS
  exact pl_sum_le (fun x => pqE_Int64SS_le x)
noncomputable def pmk_Int64SS (x : List Int) (k : Int) : Option (Int × (List Int)) := (m_laws_markInt64S x k).bind fun r0 => some (r0.1, r0.2)
theorem pmE_Int64SS (x : List Int) (hc : pc_Int64S x ≤ 1048576) : ∀ k : Nat, k + pqE_Int64SS x ≤ 4611686018427387904 → ∃ x', pmk_Int64SS x k = some (((k + pqE_Int64SS x : Nat) : Int), x') := fun k hk => by
  unfold pqE_Int64SS at hk ⊢
  obtain ⟨a0, m0, g0⟩ := pm_Int64S (xs := x) (by omega) (k := k) (by omega)
  have n0 : decide ((((k) + pq_Int64S x : Nat) : Int) < 0) = false := decide_eq_false (by omega)
  have tot : ((k + pq_Int64S x : Nat) : Int) = ((k + (0 + pq_Int64S x) : Nat) : Int) := by omega
  refine ⟨a0, ?_⟩
  unfold pmk_Int64SS; simp only [m0, Option.bind_some] <;> rw [← tot]
theorem pm_Int64SS {xs : List (List Int)} (hl : pc_Int64SS xs ≤ 1048576) {k : Nat} (hk : k + pq_Int64SS xs ≤ 4611686018427387904) : ∃ xs', m_laws_markInt64SS xs k = some (((k + pq_Int64SS xs : Nat) : Int), xs') ∧ True := by
  obtain ⟨xs', h1⟩ := pl_mark0 (xs := xs) (m := pqE_Int64SS) (mk := pmk_Int64SS) (step := m_laws_markInt64SS_L0)
    (fun n ys x k hk hx => by
      have hn := get_lt hx
      have gen : m_laws_markInt64SS_L0 (ys, (k : Int), (n : Int)) = (pmk_Int64SS x k).bind fun r => some (.next (ys.set n r.2, r.1, w64 ((n : Int) + 1))) := by
        unfold m_laws_markInt64SS_L0 pmk_Int64SS
        simp only [dec_lt hn, cond_true, getI_some hx, Option.bind_some, Int.toNat_natCast, pl_get_set hn, pl_get_set2 hn, pl_get_set3 hn, pl_get_set4 hn, pl_get_set5 hn, pl_get_set6 hn, pl_get_set7 hn, List.set_set, Option.bind_assoc]
      exact gen)
    (fun ys k => by unfold m_laws_markInt64SS_L0; rw [dec_self]; rfl)
    (by have := pc_Int64SS_len (xs := xs); omega) (fun x hx => pmE_Int64SS x (by have := pc_Int64SS_mem hx; omega)) (k := k) hk
  exact ⟨xs', by unfold m_laws_markInt64SS; rw [h1]; rfl, trivial⟩
def pc_Policy (x : Policy) : Nat := pc_Int64SS x.Next
theorem pi_Policy (x y : Policy) : (x.Next = y.Next) ↔ x = y := by cases x; cases y; simp
theorem pz_Policy {x : Policy} (k : k_Policy x) : SzP m_laws_szPolicy pc_Policy x := fun b hb => by
  unfold m_laws_szPolicy pc_Policy
  rw [show pc_Int64SS x.Next = pc_Int64SS x.Next by omega]
  exact pl_szL (pz_Int64SS k (b) (by omega))
theorem pt_Policy {x : Policy} (hl : pc_Policy x ≤ 1048576) : m_laws_toPolicy x = some x := by
  unfold pc_Policy at hl
  unfold m_laws_toPolicy
  simp only [pt_Int64SS (xs := x.Next) (by omega), Option.bind_some]
theorem pe_Policy {x y : Policy} (hl : pc_Policy x ≤ 1048576) : m_laws_eqPolicy x y = some (decide (x = y)) := by
  unfold pc_Policy at hl
  unfold m_laws_eqPolicy
  rw [← decide_eq_decide.2 (pi_Policy x y)]
  exact pl_eqML (pe_Int64SS (by omega))
def pq_Policy (x : Policy) : Nat := pq_Int64SS x.Next
theorem pq_Policy_le (x : Policy) : pq_Policy x ≤ 8 * pc_Policy x := by
  unfold pq_Policy pc_Policy
  have h0 := pq_Int64SS_le x.Next
  omega
theorem pm_Policy {x : Policy} (hl : pc_Policy x ≤ 1048576) {k : Nat} (hk : k + pq_Policy x ≤ 4611686018427387904) : ∃ (a0 : (List (List Int))), m_laws_markPolicy x k = some (((k + pq_Policy x : Nat) : Int), a0) ∧ True := by
  unfold pq_Policy at hk ⊢
  unfold pc_Policy at hl
  have l0 : x.Next.length ≤ pc_Int64SS x.Next := pc_Int64SS_len
  obtain ⟨a0, m0, g0⟩ := pm_Int64SS (xs := x.Next) (by omega) (k := k) (by omega)
  have n0 : decide ((((k) + pq_Int64SS x.Next : Nat) : Int) < 0) = false := decide_eq_false (by omega)
  have tot : ((k + pq_Int64SS x.Next : Nat) : Int) = ((k + (pq_Int64SS x.Next) : Nat) : Int) := by omega
  refine ⟨a0, ?_, trivial⟩
  · unfold m_laws_markPolicy; simp only [m0, Option.bind_some] <;> rw [← tot]
end Go.Mod

namespace Go.Mod
open Go.AM
set_option linter.unusedVariables false
end Go.Mod

namespace Go.Mod
open Go.AM
set_option linter.unusedVariables false
set_option linter.unusedSimpArgs false
def cLL (xs : List (List Int)) : Nat := xs.length + (xs.map List.length).sum
def cPol (p : Policy) : Nat := cLL p.Next
def rowOK (n : Nat) (x : List Int) : Bool := decide (x.length = 4) && x.all fun v => decide (-1 ≤ v) && decide (v ≤ (n : Int) - 1)
def vP (p : Policy) : Bool := (decide (1 ≤ p.Next.length) && decide (p.Next.length ≤ 12)) && p.Next.all (rowOK p.Next.length)
theorem vP_len {p : Policy} (h : vP p = true) : 1 ≤ p.Next.length ∧ p.Next.length ≤ 12 := by simp [vP] at h; omega
theorem vP_row {p : Policy} (h : vP p = true) {x : List Int} (hx : x ∈ p.Next) : x.length = 4 ∧ ∀ v ∈ x, -1 ≤ v ∧ v ≤ (p.Next.length : Int) - 1 := by
  simp only [vP, Bool.and_eq_true, List.all_eq_true] at h
  have := h.2 x hx
  simp only [rowOK, Bool.and_eq_true, decide_eq_true_eq, List.all_eq_true] at this
  exact this
theorem dec_leI {a : Nat} : decide ((1 : Int) ≤ (a : Int)) = decide (1 ≤ a) := by by_cases h : 1 ≤ a <;> simp [h] <;> omega
theorem dec_le12 {a : Nat} : decide ((a : Int) ≤ 12) = decide (a ≤ 12) := by by_cases h : a ≤ 12 <;> simp [h] <;> omega
theorem spec_row {p : Policy} {x : List Int} (hx : x.length = 4) (hn : p.Next.length ≤ 12) (h1 : 1 ≤ p.Next.length) : iter (m_spec_l10Is_L1 p x) 0 = some (bif x.all fun v => decide (-1 ≤ v) && decide (v ≤ (p.Next.length : Int) - 1) then .inl () else .inr false) := by
  have h := iter_for (step := m_spec_l10Is_L1 p x) x (fun n (_ : Unit) => (n : Int)) (fun _ v _ => bif (decide (-1 ≤ v) && decide (v ≤ (p.Next.length : Int) - 1)) then some (.next ()) else some (.out (.inr false))) (fun _ => .inl ())
    (fun n v r hv => by
      have hlt := get_lt hv
      unfold m_spec_l10Is_L1
      rw [decide_eq_true (by omega), cond_true, getI_some hv, Option.bind_some, w64_eq (n := (p.Next.length : Int) - 1) (by omega)]
      unfold m_spec_l00In
      rw [Option.bind_some, w64_succ (by omega)]
      cases (decide (-1 ≤ v) && decide (v ≤ (p.Next.length : Int) - 1)) <;> rfl)
    (fun r => by unfold m_spec_l10Is_L1; rw [hx]; rfl) ()
  rw [forL_all (fun v => decide (-1 ≤ v) && decide (v ≤ (p.Next.length : Int) - 1)) _ _ (fun n x _ => rfl)] at h
  exact h
theorem spec_vP {p : Policy} (hl : cPol p ≤ 1048576) : m_spec_l10Is p = some (vP p) := by
  unfold m_spec_l10Is m_spec_l00In vP
  rw [Option.bind_some, dec_leI, dec_le12]
  cases h0 : decide (1 ≤ p.Next.length) && decide (p.Next.length ≤ 12) with
  | false => rfl
  | true =>
    simp only [Bool.and_eq_true, decide_eq_true_eq] at h0
    have h := iter_for (step := m_spec_l10Is_L0 p) p.Next (fun n (_ : Unit) => (n : Int)) (fun _ x _ => bif rowOK p.Next.length x then some (.next ()) else some (.out (.inr false))) (fun _ => .inl ())
      (fun n x r hx => by
        have hlt := get_lt hx
        unfold m_spec_l10Is_L0 rowOK
        rw [dec_lt hlt, cond_true, getI_some hx, Option.bind_some]
        by_cases h4 : x.length = 4
        · rw [decide_eq_true h4, decide_eq_true (show (x.length : Int) = 4 by omega), Bool.not_true, cond_false, spec_row h4 h0.2 h0.1, Bool.true_and, Option.bind_some]
          cases x.all fun v => decide (-1 ≤ v) && decide (v ≤ (p.Next.length : Int) - 1)
          · rfl
          · unfold m_spec_l10Is_A1
            simp only [cond_true]
            rw [w64_succ (by omega)]; rfl
        · rw [decide_eq_false h4, decide_eq_false (show ¬ (x.length : Int) = 4 by omega)]; rfl)
      (fun r => by unfold m_spec_l10Is_L0; rw [dec_self]; rfl) ()
    rw [forL_all (rowOK p.Next.length) _ _ (fun n x _ => rfl)] at h
    rw [Bool.not_true, cond_false, show (0 : Int) = ((0 : Nat) : Int) from rfl, h, Option.bind_some, Bool.true_and]
    cases p.Next.all (rowOK p.Next.length) <;> rfl
theorem impl_all {xs : List Int} {a b : Int} : m_impl_allWithin xs a b = some (xs.all fun x => decide (a ≤ x) && decide (x ≤ b)) := by
  unfold m_impl_allWithin
  rw [forL_all (fun x => decide (a ≤ x) && decide (x ≤ b)) (f := .inr false) xs 0 (fun n x _ => by
    unfold m_impl_allWithin_L0 m_impl_within
    rw [Option.bind_some]
    cases (decide (a ≤ x) && decide (x ≤ b)) <;> rfl), Option.bind_some]
  cases xs.all fun x => decide (a ≤ x) && decide (x ≤ b) <;> rfl
theorem impl_vP {p : Policy} : m_impl_ValidPolicy p = some (vP p) := by
  unfold m_impl_ValidPolicy m_impl_size m_impl_within vP
  rw [Option.bind_some, Option.bind_some, dec_leI, dec_le12]
  cases h0 : decide (1 ≤ p.Next.length) && decide (p.Next.length ≤ 12) with
  | false => rfl
  | true =>
    simp only [Bool.and_eq_true, decide_eq_true_eq] at h0
    rw [Bool.not_true, cond_false, forL_all (rowOK p.Next.length) (f := .inr false) p.Next 0 (fun n x _ => by
      unfold m_impl_ValidPolicy_L0 rowOK
      by_cases h4 : x.length = 4
      · rw [decide_eq_true h4, decide_eq_true (show (x.length : Int) = 4 by omega), Bool.not_true, cond_false, impl_all, Option.bind_some, w64_eq (n := (p.Next.length : Int) - 1) (by omega), Bool.true_and]
        cases x.all fun v => decide (-1 ≤ v) && decide (v ≤ (p.Next.length : Int) - 1) <;> rfl
      · rw [decide_eq_false h4, decide_eq_false (show ¬ (x.length : Int) = 4 by omega)]; rfl), Option.bind_some, Bool.true_and]
    cases p.Next.all (rowOK p.Next.length) <;> rfl
end Go.Mod

namespace Go.Mod
open Go.AM
set_option linter.unusedVariables false
set_option linter.unusedSimpArgs false
theorem mget_put {K V : Type} [DecidableEq K] {v : V} {k q : K} : ∀ (m : List (K × V)), mget (mput m k v) q = if k = q then some v else mget m q := by
  intro m
  induction m with
  | nil => unfold mput; simp only [mget]
  | cons x r ih =>
    obtain ⟨a, b⟩ := x
    unfold mput
    by_cases ha : a = k
    · subst ha
      rw [if_pos rfl]
      simp only [mget]
      by_cases hq : a = q
      · rw [if_pos hq, if_pos hq]
      · rw [if_neg hq, if_neg hq, if_neg hq]
    · rw [if_neg ha]
      simp only [mget]
      by_cases hq : a = q
      · rw [if_pos hq, if_pos hq, if_neg (fun h => ha (hq.trans h.symm))]
      · rw [if_neg hq, if_neg hq]; exact ih
theorem nodup_le : ∀ (n : Nat) (l : List Nat), l.Nodup → (∀ x ∈ l, x < n) → l.length ≤ n := by
  intro n
  induction n with
  | zero =>
    intro l _ h
    cases l with
    | nil => exact Nat.le_refl _
    | cons x r => exact absurd (h x (by simp)) (by omega)
  | succ n ih =>
    intro l hn h
    by_cases hm : n ∈ l
    · have := ih (l.erase n) (hn.erase n) (fun x hx => by
        obtain ⟨h1, h2⟩ := hn.mem_erase_iff.1 hx
        have := h x h2
        omega)
      rw [List.length_erase_of_mem hm] at this
      omega
    · have := ih l hn (fun x hx => by
        have := h x hx
        have : x ≠ n := fun e => hm (e ▸ hx)
        omega)
      omega
noncomputable def gJ0 (s1 : (List ((Int × Int) × Bool)) × (List spot)) (n1 : Nat) (x41 : Int) (x54 : Int) (r61 : List Int) (j0 : Bool) : Option (Ctl ((List ((Int × Int) × Bool)) × (List spot)) (((List ((Int × Int) × Bool)) × (List spot)) ⊕ ((List Int) × Bool))) :=
  bif j0 then
    (capI (s1.2.length + ([(spot.mk (x41, x54) (r61 ++ [(n1 : Int)]))]).length) 40).bind fun (q94 : Unit) =>
    some (.next ((mput s1.1 (x41, x54) true), (s1.2 ++ [(spot.mk (x41, x54) (r61 ++ [(n1 : Int)]))])))
  else
    some (.next (s1.1, s1.2))
noncomputable def gL1 (df : Bool → Bool → Option Bool) (p0 : Policy) (p1 : Policy) (s0 : (List ((Int × Int) × Bool)) × (List spot) × Int) (n1 : Nat) (x1 : Nat) (s1 : (List ((Int × Int) × Bool)) × (List spot)) : Option (Ctl ((List ((Int × Int) × Bool)) × (List spot)) (((List ((Int × Int) × Bool)) × (List spot)) ⊕ ((List Int) × Bool))) :=
  (getI s1.2 s0.2.2).bind fun (x34 : spot) =>
  (getI p0.Next x34.pair.1).bind fun (x38 : List Int) =>
  (getI x38 (n1 : Int)).bind fun (x41 : Int) =>
  (getI p1.Next x34.pair.2).bind fun (x51 : List Int) =>
  (getI x51 (n1 : Int)).bind fun (x54 : Int) =>
  (m_impl_copyInts x34.word).bind fun (r61 : List Int) =>
  (capI (r61.length + [(n1 : Int)].length) 8).bind fun (q64 : Unit) =>
  (df (decide ((0 : Int) ≤ x41)) (decide ((0 : Int) ≤ x54))).bind fun (r70 : Bool) =>
  bif r70 then
    some (.out (.inr ((r61 ++ [(n1 : Int)]), true)))
  else
    bif ((decide ((0 : Int) ≤ x41)) && (decide ((0 : Int) ≤ x54))) then
      gJ0 s1 n1 x41 x54 r61 (!((mget s1.1 (x41, x54)).getD false))
    else
      gJ0 s1 n1 x41 x54 r61 false
noncomputable def gL0 (df : Bool → Bool → Option Bool) (p0 : Policy) (p1 : Policy) (s0 : (List ((Int × Int) × Bool)) × (List spot) × Int) : Option (Ctl ((List ((Int × Int) × Bool)) × (List spot) × Int) (Unit ⊕ ((List Int) × Bool))) :=
  bif (decide (s0.2.2 < (s0.2.1.length : Int))) then
    (forL (gL1 df p0 p1 s0) (fun s1 => (.inl (s1.1, s1.2))) 0 (List.range 4) (s0.1, s0.2.1)).bind fun (u1 : ((List ((Int × Int) × Bool)) × (List spot)) ⊕ ((List Int) × Bool)) =>
    match u1 with
    | .inl u1 =>
      some (.next (u1.1, u1.2, (w64 (s0.2.2 + (1 : Int)))))
    | .inr u1 =>
      some (.out (.inr (u1.1, u1.2)))
  else
    some (.out (.inl ()))
noncomputable def gApart (df : Bool → Bool → Option Bool) (p0 : Policy) (p1 : Policy) : Option ((List Int) × Bool) :=
  (iter (gL0 df p0 p1) ((mput ([] : List ((Int × Int) × Bool)) ((0 : Int), (0 : Int)) true), [(spot.mk ((0 : Int), (0 : Int)) ([] : List Int))], (0 : Int))).bind fun (u0 : Unit ⊕ ((List Int) × Bool)) =>
  match u0 with
  | .inl u0 =>
    some (([] : List Int), false)
  | .inr u0 =>
    some (u0.1, u0.2)
theorem apart_diff (p q : Policy) : m_impl_apart_fDifferenceOf_1 p q = gApart m_impl_DifferenceOf_1 p q := rfl
def dfB (both : Bool) (a b : Bool) : Bool := bif both then !(a == b) else a && !b
theorem df_diff (a b : Bool) : m_impl_DifferenceOf_1 a b = some (dfB true a b) := rfl
section
variable {p q : Policy} (hp : vP p = true) (hq : vP q = true)
def InP (p q : Policy) (k : Int × Int) : Prop := 0 ≤ k.1 ∧ k.1 < p.Next.length ∧ 0 ≤ k.2 ∧ k.2 < q.Next.length
def cod (q : Policy) (k : Int × Int) : Nat := (k.1 * (q.Next.length : Int) + k.2).toNat
def toP (s : spot) : l10Pair := l10Pair.mk s.pair.1 s.pair.2 s.word
structure St (p q : Policy) (M : List ((Int × Int) × Bool)) (B : List Bool) (L : List spot) : Prop where
  rng : ∀ s ∈ L, InP p q s.pair
  nd : (L.map (·.pair)).Nodup
  met : ∀ k, (mget M k).getD false = decide (k ∈ L.map (·.pair))
  bl : B.length = p.Next.length * q.Next.length
  bs : ∀ k, InP p q k → B[cod q k]? = some (decide (k ∈ L.map (·.pair)))
  wd : ∀ (j : Nat) s, L[j]? = some s → s.word.length ≤ j
theorem cod_val {k : Int × Int} (h : InP p q k) : ((cod q k : Nat) : Int) = k.1 * (q.Next.length : Int) + k.2 := by
  obtain ⟨h1, h2, h3, h4⟩ := h
  have : 0 ≤ k.1 * (q.Next.length : Int) := Int.mul_nonneg h1 (by omega)
  unfold cod; omega
theorem cod_lt {k : Int × Int} (h : InP p q k) : cod q k < p.Next.length * q.Next.length := by
  have hv := cod_val h
  obtain ⟨h1, h2, h3, h4⟩ := h
  have h5 : (k.1 + 1) * (q.Next.length : Int) ≤ (p.Next.length : Int) * (q.Next.length : Int) := Int.mul_le_mul_of_nonneg_right (by omega) (by omega)
  rw [Int.add_mul, Int.one_mul] at h5
  have h6 : ((p.Next.length * q.Next.length : Nat) : Int) = (p.Next.length : Int) * (q.Next.length : Int) := Int.natCast_mul _ _
  omega
theorem cod_inj {k k' : Int × Int} (h : InP p q k) (h' : InP p q k') (e : cod q k = cod q k') : k = k' := by
  have e1 := cod_val h
  have e2 := cod_val h'
  rw [e] at e1
  obtain ⟨h1, h2, h3, h4⟩ := h
  obtain ⟨g1, g2, g3, g4⟩ := h'
  have hk : k.1 = k'.1 := by
    by_cases c1 : k.1 < k'.1
    · have : (k.1 + 1) * (q.Next.length : Int) ≤ k'.1 * (q.Next.length : Int) := Int.mul_le_mul_of_nonneg_right (by omega) (by omega)
      rw [Int.add_mul, Int.one_mul] at this
      omega
    · by_cases c2 : k'.1 < k.1
      · have : (k'.1 + 1) * (q.Next.length : Int) ≤ k.1 * (q.Next.length : Int) := Int.mul_le_mul_of_nonneg_right (by omega) (by omega)
        rw [Int.add_mul, Int.one_mul] at this
        omega
      · omega
  rw [hk] at e1
  exact Prod.ext hk (by omega)
theorem St.len {M : List ((Int × Int) × Bool)} {B : List Bool} {L : List spot} (h : St p q M B L) : L.length ≤ p.Next.length * q.Next.length := by
  have h1 : ((L.map (·.pair)).map (cod q)).Nodup := by
    refine (List.pairwise_map.2 ?_)
    refine List.Pairwise.imp_of_mem ?_ h.nd
    intro a b ha hb hne e
    obtain ⟨s, hs, rfl⟩ := List.mem_map.1 ha
    obtain ⟨t, ht, rfl⟩ := List.mem_map.1 hb
    exact hne (cod_inj (h.rng s hs) (h.rng t ht) e)
  have h2 := nodup_le (p.Next.length * q.Next.length) _ h1 (fun x hx => by
    obtain ⟨k, hk, rfl⟩ := List.mem_map.1 hx
    obtain ⟨s, hs, rfl⟩ := List.mem_map.1 hk
    exact cod_lt (h.rng s hs))
  simpa using h2
theorem St.add {M : List ((Int × Int) × Bool)} {B : List Bool} {L : List spot} (h : St p q M B L) {k : Int × Int} {w : List Int} (hk : InP p q k) (hn : k ∉ L.map (·.pair)) (hw : w.length ≤ L.length) :
    St p q (mput M k true) (B.set (cod q k) true) (L ++ [spot.mk k w]) where
  rng := fun s hs => by
    rcases List.mem_append.1 hs with hs | hs
    · exact h.rng s hs
    · rw [List.mem_singleton.1 hs]; exact hk
  nd := by
    rw [List.map_append]
    exact List.nodup_append.2 ⟨h.nd, by simp, fun a ha b hb => by
      simp only [List.map_cons, List.map_nil, List.mem_singleton] at hb
      subst hb
      exact fun e => hn (e ▸ ha)⟩
  met := fun k' => by
    rw [mget_put]
    by_cases e : k = k'
    · subst e; rw [if_pos rfl, decide_eq_true (by simp)]; rfl
    · rw [if_neg e, h.met k']
      refine decide_eq_decide.2 ?_
      simp only [List.map_append, List.map_cons, List.map_nil, List.mem_append, List.mem_singleton]
      exact ⟨.inl, fun g => g.elim id (fun g => absurd g.symm e)⟩
  bl := by rw [List.length_set]; exact h.bl
  bs := fun k' hk' => by
    by_cases e : k = k'
    · subst e; rw [List.getElem?_set_self (by rw [h.bl]; exact cod_lt hk), decide_eq_true (by simp)]
    · rw [List.getElem?_set_ne (fun g => e (cod_inj hk hk' g)), h.bs k' hk']
      congr 1
      refine decide_eq_decide.2 ?_
      simp only [List.map_append, List.map_cons, List.map_nil, List.mem_append, List.mem_singleton]
      exact ⟨.inl, fun g => g.elim id (fun g => absurd g.symm e)⟩
  wd := fun j s hs => by
    by_cases hj : j < L.length
    · rw [List.getElem?_append_left hj] at hs; exact h.wd j s hs
    · have hlt := get_lt hs
      rw [List.length_append, List.length_singleton] at hlt
      obtain rfl : j = L.length := by omega
      rw [List.getElem?_append_right (Nat.le_refl _), Nat.sub_self] at hs
      cases hs; exact hw
def Same1 (p q : Policy) (L : List spot) (ri : Option (((List ((Int × Int) × Bool)) × (List spot)) ⊕ ((List Int) × Bool))) (rs : Option (((List Bool) × (List l10Pair)) ⊕ ((List Int) × Bool))) : Prop :=
  (∃ M B L', ri = some (.inl (M, L')) ∧ rs = some (.inl (B, L'.map toP)) ∧ St p q M B L' ∧ (∀ (j : Nat) s, L[j]? = some s → L'[j]? = some s)) ∨
  ∃ w : List Int, ri = some (.inr (w, true)) ∧ rs = some (.inr (w, true)) ∧ w.length ≤ 200
include hp hq in
theorem inner_alike {both : Bool} {df : Bool → Bool → Option Bool} (hdf : ∀ a b, df a b = some (dfB both a b)) {i : Nat} {x : spot} {M0 : List ((Int × Int) × Bool)} {L0 : List spot} : ∀ (m k : Nat) (M : List ((Int × Int) × Bool)) (B : List Bool) (L : List spot), k + m = 4 → L[i]? = some x → St p q M B L →
    Same1 p q L (forL (gL1 df p q (M0, L0, (i : Int))) (fun s1 => (.inl (s1.1, s1.2))) k (List.range' k m) (M, L)) (iter (m_spec_l10Find_L1 p q both (toP x)) (B, L.map toP, (k : Int))) := by
  obtain ⟨p1, p12⟩ := vP_len hp
  obtain ⟨q1, q12⟩ := vP_len hq
  have h144 : p.Next.length * q.Next.length ≤ 144 := Nat.le_trans (Nat.mul_le_mul p12 q12) (by decide)
  intro m
  induction m with
  | zero =>
    intro k M B L hk hx hs
    obtain rfl : k = 4 := by omega
    refine .inl ⟨M, B, L, rfl, iter_out ?_, hs, fun j s h => h⟩
    unfold m_spec_l10Find_L1
    rfl
  | succ m ih =>
    intro k M B L hk hx hs
    have hlen := hs.len
    have hil := get_lt hx
    have hwd := hs.wd i x hx
    obtain ⟨a0, a1, b0, b1⟩ := hs.rng x (List.mem_of_getElem? hx)
    obtain ⟨a, ha⟩ := Int.eq_ofNat_of_zero_le a0
    obtain ⟨b, hb⟩ := Int.eq_ofNat_of_zero_le b0
    have hra : p.Next[a]? = some (p.Next[a]'(by omega)) := List.getElem?_eq_getElem _
    have hrb : q.Next[b]? = some (q.Next[b]'(by omega)) := List.getElem?_eq_getElem _
    obtain ⟨la, va⟩ := vP_row hp (List.mem_of_getElem? hra)
    obtain ⟨lb, vb⟩ := vP_row hq (List.mem_of_getElem? hrb)
    have hka : (p.Next[a]'(by omega))[k]? = some ((p.Next[a]'(by omega))[k]'(by omega)) := List.getElem?_eq_getElem _
    have hkb : (q.Next[b]'(by omega))[k]? = some ((q.Next[b]'(by omega))[k]'(by omega)) := List.getElem?_eq_getElem _
    have ra := va _ (List.mem_of_getElem? hka)
    have rb := vb _ (List.mem_of_getElem? hkb)
    generalize hca : (p.Next[a]'(by omega))[k]'(by omega) = ca at hka ra
    generalize hcb : (q.Next[b]'(by omega))[k]'(by omega) = cb at hkb rb
    have hwl : x.word.length ≤ 1000 := by omega
    rw [List.range'_succ]
    unfold forL
    -- the steps
    have gi : gL1 df p q (M0, L0, (i : Int)) k k (M, L) = bif dfB both (decide (0 ≤ ca)) (decide (0 ≤ cb)) then some (.out (.inr (x.word ++ [(k : Int)], true))) else
        bif (decide (0 ≤ ca) && decide (0 ≤ cb)) then gJ0 (M, L) k ca cb x.word (!decide ((ca, cb) ∈ L.map (·.pair))) else gJ0 (M, L) k ca cb x.word false := by
      unfold gL1
      simp only
      rw [getI_some hx, Option.bind_some, ha, getI_some hra, Option.bind_some, getI_some hka, Option.bind_some, hb, getI_some hrb, Option.bind_some, getI_some hkb, Option.bind_some]
      unfold m_impl_copyInts
      rw [capI_some (by simp; omega), Option.bind_some, Option.bind_some, List.nil_append, capI_some (by simp; omega), Option.bind_some, hdf, Option.bind_some, hs.met]
    have hk4 : w64 ((k : Int) + 1) = ((k + 1 : Nat) : Int) := w64_succ (by omega)
    have gs : m_spec_l10Find_L1 p q both (toP x) (B, L.map toP, (k : Int)) = bif dfB both (decide (0 ≤ ca)) (decide (0 ≤ cb)) then some (.out (.inr (x.word ++ [(k : Int)], true))) else
        m_spec_l10Find_J0 q (B, L.map toP, (k : Int)) ca cb x.word (bif both then (bif decide (ca < 0) then (true, decide (ca < 0), true, decide (0 ≤ cb)) else (true, decide (ca < 0), false, false)) else (false, false, false, false)) := by
      unfold m_spec_l10Find_L1 toP
      simp only
      rw [decide_eq_true (show (k : Int) < 4 by clear hk4; omega), cond_true, ha, getI_some hra, Option.bind_some, getI_some hka, Option.bind_some, hb, getI_some hrb, Option.bind_some, getI_some hkb, Option.bind_some]
      unfold m_spec_l00Own
      clear hk4
      rw [capI_some (by simp; omega), Option.bind_some, Option.bind_some, List.nil_append, capI_some (by simp; omega), Option.bind_some]
      unfold dfB
      by_cases c1 : 0 ≤ ca
      · by_cases c2 : 0 ≤ cb
        · rw [decide_eq_true c1, decide_eq_true c2, decide_eq_false (show ¬ cb < 0 by omega), decide_eq_false (show ¬ ca < 0 by omega)]
          cases both <;> rfl
        · rw [decide_eq_true c1, decide_eq_false c2, decide_eq_true (show cb < 0 by omega)]
          cases both <;> rfl
      · by_cases c2 : 0 ≤ cb
        · rw [decide_eq_false c1, decide_eq_true c2, decide_eq_true (show ca < 0 by omega)]
          cases both <;> rfl
        · rw [decide_eq_false c1, decide_eq_false c2, decide_eq_true (show ca < 0 by omega)]
          cases both <;> rfl
    rw [gi]
    cases hd : dfB both (decide (0 ≤ ca)) (decide (0 ≤ cb)) with
    | true =>
      rw [hd, cond_true] at gs
      refine .inr ⟨x.word ++ [(k : Int)], rfl, iter_out gs, by clear hk4; simp; omega⟩
    | false =>
      rw [hd, cond_false] at gs
      rw [cond_false]
      -- going on without a new pair
      have stay : ∀ (M' : List ((Int × Int) × Bool)) (B' : List Bool) (L' : List spot), St p q M' B' L' → (∀ (j : Nat) s, L[j]? = some s → L'[j]? = some s) → m_spec_l10Find_L1 p q both (toP x) (B, L.map toP, (k : Int)) = some (.next (B', L'.map toP, ((k + 1 : Nat) : Int))) →
          Same1 p q L (forL (gL1 df p q (M0, L0, (i : Int))) (fun s1 => (.inl (s1.1, s1.2))) (k + 1) (List.range' (k + 1) m) (M', L')) (iter (m_spec_l10Find_L1 p q both (toP x)) (B, L.map toP, (k : Int))) := by
        intro M' B' L' hs' hsub hst
        rw [iter_next hst]
        rcases ih (k + 1) M' B' L' (by clear hk4; omega) (hsub i x hx) hs' with ⟨M2, B2, L2, e1, e2, e3, e4⟩ | h2
        · exact .inl ⟨M2, B2, L2, e1, e2, e3, fun j s h => e4 j s (hsub j s h)⟩
        · exact .inr h2
      unfold m_spec_l10Find_J0 at gs
      cases hc : decide (0 ≤ ca) && decide (0 ≤ cb) with
      | false =>
        rw [hc, cond_false] at gs
        rw [cond_false]
        unfold gJ0
        unfold m_spec_l10Find_J1 at gs
        simp only [cond_false] at gs ⊢
        rw [hk4] at gs
        exact stay M B L hs (fun j s h => h) gs
      | true =>
        have hcc := hc
        rw [hc, cond_true] at gs
        rw [cond_true]
        simp only [Bool.and_eq_true, decide_eq_true_eq] at hcc
        have hin : InP p q (ca, cb) := ⟨hcc.1, by clear hk4; simp only; omega, hcc.2, by clear hk4; simp only; omega⟩
        have hcv := cod_val hin
        have hcl := cod_lt hin
        have hw : w64 (w64 (ca * (q.Next.length : Int)) + cb) = ((cod q (ca, cb) : Nat) : Int) := by
          have hm0 : 0 ≤ ca * (q.Next.length : Int) := Int.mul_nonneg hcc.1 (by clear hk4; omega)
          simp only at hcv
          rw [w64_eq (n := ca * (q.Next.length : Int)) (by clear hk4; omega), w64_eq (by clear hk4; omega), hcv]
        simp only at gs
        rw [hw, getI_some (hs.bs _ hin), Option.bind_some] at gs
        unfold m_spec_l10Find_J1 at gs
        unfold gJ0
        by_cases hmem : (ca, cb) ∈ L.map (·.pair)
        · rw [decide_eq_true hmem] at gs
          rw [decide_eq_true hmem]
          simp only [Bool.not_true, cond_false] at gs ⊢
          rw [hk4] at gs
          exact stay M B L hs (fun j s h => h) gs
        · rw [decide_eq_false hmem] at gs
          rw [decide_eq_false hmem]
          simp only [Bool.not_false, cond_true] at gs ⊢
          rw [hw, getI_some (hs.bs _ hin), Option.bind_some, hk4] at gs
          clear hk4 hw
          rw [capI_some (by simp; omega), Option.bind_some, Int.toNat_natCast] at gs
          rw [capI_some (by simp; omega), Option.bind_some]
          refine stay (mput M (ca, cb) true) (B.set (cod q (ca, cb)) true) (L ++ [spot.mk (ca, cb) (x.word ++ [(k : Int)])]) (hs.add hin hmem (by simp; omega)) (fun j s h => by rw [List.getElem?_append_left (get_lt h)]; exact h) ?_
          rw [gs, List.map_append]; rfl
include hp hq in
theorem outer_alike {both : Bool} {df : Bool → Bool → Option Bool} (hdf : ∀ a b, df a b = some (dfB both a b)) : ∀ (n i : Nat) (M : List ((Int × Int) × Bool)) (B : List Bool) (L : List spot), p.Next.length * q.Next.length - i ≤ n → i ≤ L.length → St p q M B L →
    ∃ u : Unit ⊕ ((List Int) × Bool), iter (gL0 df p q) (M, L, (i : Int)) = some u ∧ iter (m_spec_l10Find_L0 p q both) (B, L.map toP, (i : Int)) = some u ∧ ∀ w, u = .inr w → w.1.length ≤ 200 := by
  obtain ⟨p1, p12⟩ := vP_len hp
  obtain ⟨q1, q12⟩ := vP_len hq
  have h144 : p.Next.length * q.Next.length ≤ 144 := Nat.le_trans (Nat.mul_le_mul p12 q12) (by decide)
  intro n
  induction n with
  | zero =>
    intro i M B L hn hi hs
    have hlen := hs.len
    refine ⟨.inl (), iter_out ?_, iter_out ?_, fun w h => by cases h⟩
    · unfold gL0
      simp only
      rw [decide_eq_false (by omega)]; rfl
    · unfold m_spec_l10Find_L0
      simp only
      rw [List.length_map, decide_eq_false (by omega)]; rfl
  | succ n ih =>
    intro i M B L hn hi hs
    have hlen := hs.len
    by_cases hlt : i < L.length
    · have hx : L[i]? = some L[i] := List.getElem?_eq_getElem hlt
      have h4 : w64 ((i : Int) + 1) = ((i + 1 : Nat) : Int) := w64_succ (by omega)
      have hxm : (L.map toP)[i]? = some (toP L[i]) := by rw [List.getElem?_map, hx]; rfl
      rcases inner_alike hp hq hdf (M0 := M) (L0 := L) 4 0 M B L rfl hx hs with ⟨M', B', L', e1, e2, e3, e4⟩ | ⟨w, e1, e2, e3⟩
      · have l' : i + 1 ≤ L'.length := by have := get_lt (e4 i _ hx); omega
        have s1 : gL0 df p q (M, L, (i : Int)) = some (.next (M', L', ((i + 1 : Nat) : Int))) := by
          unfold gL0
          simp only
          rw [decide_eq_true (show (i : Int) < (L.length : Int) by clear h4; omega), cond_true, show List.range 4 = List.range' 0 4 from rfl, e1, Option.bind_some, h4]
        have s2 : m_spec_l10Find_L0 p q both (B, L.map toP, (i : Int)) = some (.next (B', L'.map toP, ((i + 1 : Nat) : Int))) := by
          unfold m_spec_l10Find_L0
          simp only
          rw [List.length_map, decide_eq_true (show (i : Int) < (L.length : Int) by clear h4; omega), cond_true, getI_some hxm, Option.bind_some]
          have e2' : iter (m_spec_l10Find_L1 p q both (toP L[i])) (B, L.map toP, (0 : Int)) = _ := e2
          rw [e2', Option.bind_some]
          unfold m_spec_l10Find_A1
          simp only
          rw [h4]
        clear h4
        rw [iter_next s1, iter_next s2]
        exact ih (i + 1) M' B' L' (by omega) l' e3
      · clear h4
        refine ⟨.inr (w, true), iter_out ?_, iter_out ?_, fun w' h => by cases h; exact e3⟩
        · unfold gL0
          simp only
          rw [decide_eq_true (show (i : Int) < (L.length : Int) by omega), cond_true, show List.range 4 = List.range' 0 4 from rfl, e1]; rfl
        · unfold m_spec_l10Find_L0
          simp only
          rw [List.length_map, decide_eq_true (show (i : Int) < (L.length : Int) by omega), cond_true, getI_some hxm, Option.bind_some]
          have e2' : iter (m_spec_l10Find_L1 p q both (toP L[i])) (B, L.map toP, (0 : Int)) = _ := e2
          rw [e2']; rfl
    · refine ⟨.inl (), iter_out ?_, iter_out ?_, fun w h => by cases h⟩
      · unfold gL0
        simp only
        rw [decide_eq_false (by omega)]; rfl
      · unfold m_spec_l10Find_L0
        simp only
        rw [List.length_map, decide_eq_false (by omega)]; rfl
include hp hq in
theorem apart_alike {both : Bool} {df : Bool → Bool → Option Bool} (hdf : ∀ a b, df a b = some (dfB both a b)) : ∃ r : (List Int) × Bool, gApart df p q = some r ∧ m_spec_l10Find p q both = some r ∧ r.1.length ≤ 200 := by
  obtain ⟨p1, p12⟩ := vP_len hp
  obtain ⟨q1, q12⟩ := vP_len hq
  have h144 : p.Next.length * q.Next.length ≤ 144 := Nat.le_trans (Nat.mul_le_mul p12 q12) (by decide)
  have hpos : 0 < p.Next.length * q.Next.length := Nat.mul_pos p1 q1
  have hin : InP p q (0, 0) := ⟨Int.le_refl _, by simp only; omega, Int.le_refl _, by simp only; omega⟩
  have hc0 : cod q (0, 0) = 0 := by unfold cod; simp
  have hst : St p q (mput [] ((0 : Int), (0 : Int)) true) ((List.replicate (p.Next.length * q.Next.length) false).set 0 true) [spot.mk (0, 0) []] := by
    have h0 : St p q [] (List.replicate (p.Next.length * q.Next.length) false) [] :=
      { rng := fun s hs => by cases hs
        nd := List.nodup_nil
        met := fun k => rfl
        bl := List.length_replicate ..
        bs := fun k hk => by rw [List.getElem?_replicate, if_pos (cod_lt hk)]; rfl
        wd := fun j s hs => by cases hs }
    have := h0.add (w := []) hin (by simp) (Nat.le_refl _)
    rw [hc0] at this
    exact this
  obtain ⟨u, e1, e2, e3⟩ := outer_alike hp hq hdf _ 0 _ _ _ (Nat.le_refl _) (Nat.zero_le _) hst
  have hw : w64 ((p.Next.length : Int) * (q.Next.length : Int)) = ((p.Next.length * q.Next.length : Nat) : Int) := by
    rw [← Int.natCast_mul, w64_eq (by omega)]
  have hg : getI (List.replicate (p.Next.length * q.Next.length) false) (0 : Int) = some false := getI_some (n := 0) (by rw [List.getElem?_replicate, if_pos hpos])
  have hi : gApart df p q = some (u.elim (fun _ => (([] : List Int), false)) id) := by
    unfold gApart
    have e1' : iter (gL0 df p q) ((mput ([] : List ((Int × Int) × Bool)) ((0 : Int), (0 : Int)) true), [(spot.mk ((0 : Int), (0 : Int)) ([] : List Int))], (0 : Int)) = _ := e1
    rw [e1']
    cases u <;> rfl
  have hsp : m_spec_l10Find p q both = some (u.elim (fun _ => (([] : List Int), false)) id) := by
    unfold m_spec_l10Find
    rw [hw, makeI_some (by clear hw; omega), Option.bind_some, hg, Option.bind_some]
    have e2' : iter (m_spec_l10Find_L0 p q both) (((List.replicate (p.Next.length * q.Next.length) false).set (((0 : Int)).toNat) true), [(l10Pair.mk (0 : Int) (0 : Int) ([] : List Int))], (0 : Int)) = _ := e2
    rw [e2', Option.bind_some]
    unfold m_spec_l10Find_A0
    cases u <;> rfl
  rw [hi, hsp]
  cases u with
  | inl _ => exact ⟨_, rfl, rfl, by simp⟩
  | inr w => exact ⟨_, rfl, rfl, e3 w rfl⟩
end
theorem same_DifferenceOf (p0 : Policy) (p1 : Policy) (k0 : k_Policy p0) (k1 : k_Policy p1) (h0 : pc_Policy p0 ≤ 1048576) (h1 : pc_Policy p1 ≤ 1048576) :
    ∃ r, m_spec_DifferenceOf p0 p1 = some r ∧ m_impl_DifferenceOf p0 p1 = some r ∧ pc_Int64S r.1 ≤ 1048576 := by
  unfold m_spec_DifferenceOf m_impl_DifferenceOf
  rw [spec_vP h0, impl_vP, Option.bind_some, Option.bind_some]
  cases hv : vP p0 with
  | false => exact ⟨_, rfl, rfl, by decide⟩
  | true =>
    rw [Bool.not_true, cond_false, cond_false, spec_vP h1, impl_vP, Option.bind_some, Option.bind_some]
    cases hv1 : vP p1 with
    | false => exact ⟨_, rfl, rfl, by decide⟩
    | true =>
      obtain ⟨r, e1, e2, e3⟩ := apart_alike hv hv1 df_diff
      rw [Bool.not_true, cond_false, cond_false, apart_diff, e1, e2, Option.bind_some]
      cases hc : (!r.2) || decide ((40 : Int) < (r.1.length : Int)) with
      | true => exact ⟨_, rfl, rfl, by decide⟩
      | false => exact ⟨_, rfl, rfl, by unfold pc_Int64S; simp only; omega⟩
end Go.Mod

namespace Go.Mod
open Go.AM
set_option linter.unusedVariables false
set_option linter.unusedSimpArgs false
theorem law_DifferenceOf {p0 : Policy} {p1 : Policy} (k0 : k_Policy p0) (k1 : k_Policy p1) : m_laws_FnExactDifferenceOf p0 p1 = some true := by
  unfold m_laws_FnExactDifferenceOf
  rw [show (1048576 : Int) = ((1048576 : Nat) : Int) from rfl]
  rw [pz_Policy k0 _ (by omega), Option.bind_some]
  by_cases h0 : pc_Policy p0 ≤ 1048576
  · rw [szOut_ok h0, dec_neg, cond_false]
    rw [pz_Policy k1 _ (by omega), Option.bind_some]
    by_cases h1 : pc_Policy p1 ≤ 1048576 - pc_Policy p0
    · rw [szOut_ok h1, dec_neg, cond_false]
      obtain ⟨⟨r0_, r1_⟩, e1, e2, b0⟩ := same_DifferenceOf p0 p1 k0 k1 (show pc_Policy p0 ≤ 1048576 by omega) (show pc_Policy p1 ≤ 1048576 by omega)
      have q0 := pq_Policy_le p0
      have q1 := pq_Policy_le p1
      have qr0 := pq_Int64S_le r0_
      try simp only at b0 qr0
      obtain ⟨am0_0, m0, -⟩ := pm_Policy (show pc_Policy p0 ≤ 1048576 by omega) (k := 1) (by omega)
      replace m0 : m_laws_markPolicy p0 1 = _ := m0
      obtain ⟨am1_0, m1, -⟩ := pm_Policy (show pc_Policy p1 ≤ 1048576 by omega) (k := 1 + pq_Policy p0) (by omega)
      obtain ⟨rm0_0, mr0, gr0⟩ := pm_Int64S (show pc_Int64S r0_ ≤ 1048576 by omega) (k := 1) (by omega)
      replace mr0 : m_laws_markInt64S r0_ 1 = _ := mr0
      replace gr0 : m_laws_heldInt64S _ 1 = _ := gr0
      simp only [Option.bind_some, cond_false, cond_true, dec_neg, e1, e2, decide_true, bool_beq, Bool.not_true, Bool.or_false, Bool.false_eq_true, pt_Policy (show pc_Policy p0 ≤ 1048576 by omega), pe_Policy (show pc_Policy p0 ≤ 1048576 by omega), pt_Policy (show pc_Policy p1 ≤ 1048576 by omega), pe_Policy (show pc_Policy p1 ≤ 1048576 by omega), m0, m1, pe_Int64S (show pc_Int64S r0_ ≤ 1048576 by omega), mr0, gr0]
    · rw [szOut_no h1]; rfl
  · rw [szOut_no h0]; rfl
end Go.Mod
