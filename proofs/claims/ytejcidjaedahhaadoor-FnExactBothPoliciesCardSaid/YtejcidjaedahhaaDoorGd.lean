import Derived.Test.YtejcidjaedahhaaDoorGc
import Derived.Lib.ItoaNum
import Derived.Lib.Join
import Derived.Lib.Replace
import Derived.Lib.ParseIntB
namespace Go.Mod
open Go.AM
def m_strconv_FormatInt (p0 p1 : Int) : Option (List UInt8) :=
  bif decide (p1 = 10) && decide (-9223372036854775808 ≤ p0) && decide (p0 ≤ 9223372036854775807) then some (Lib.itoa p0) else none
end Go.Mod

namespace Go.Mod
open Go.AM
set_option linter.unusedVariables false
structure l00Src where
  code : List Int
  at_ : Int
  seed : Int
  deriving DecidableEq, Inhabited
structure Policy where
  Next : List (List Int)
  deriving DecidableEq, Inhabited
def k_i64 (x : Int) : Prop := -9223372036854775808 ≤ x ∧ x ≤ 9223372036854775807
def kLa_i64 (x : List Int) : Prop := x.length ≤ 9223372036854775807 ∧ ∀ y ∈ x, k_i64 y
def kLaLa_i64 (x : List (List Int)) : Prop := x.length ≤ 9223372036854775807 ∧ ∀ y ∈ x, kLa_i64 y
def k_Policy (x : Policy) : Prop := kLaLa_i64 x.Next
noncomputable def m_laws_szInt64S (p0 : List Int) (p1 : Int) : Option Int :=
  bif (decide ((w64 (p1 - (p0.length : Int))) < (0 : Int))) then
    some (-1 : Int)
  else
    some (w64 (p1 - (p0.length : Int)))
noncomputable def m_laws_szInt64SS_L0 (p0 : List (List Int)) (s0 : Int × Int) : Option (Ctl (Int × Int) (Int ⊕ Int)) :=
  bif (decide (s0.2 < (p0.length : Int))) then
    (getI p0 s0.2).bind fun (x20 : List Int) =>
    (m_laws_szInt64S x20 s0.1).bind fun (r23 : Int) =>
    bif (decide (r23 < (0 : Int))) then
      some (.out (.inr (-1 : Int)))
    else
      some (.next (r23, (w64 (s0.2 + (1 : Int)))))
  else
    some (.out (.inl s0.1))
noncomputable def m_laws_szInt64SS_A0 (u0 : Int ⊕ Int) : Option Int :=
  match u0 with
  | .inl u0 =>
    some u0
  | .inr u0 =>
    some u0
noncomputable def m_laws_szInt64SS (p0 : List (List Int)) (p1 : Int) : Option Int :=
  bif (decide ((w64 (p1 - (p0.length : Int))) < (0 : Int))) then
    some (-1 : Int)
  else
    (iter (m_laws_szInt64SS_L0 p0) ((w64 (p1 - (p0.length : Int))), (0 : Int))).bind fun (u0 : Int ⊕ Int) =>
    m_laws_szInt64SS_A0 u0
noncomputable def m_laws_szPolicy (p0 : Policy) (p1 : Int) : Option Int :=
  (m_laws_szInt64SS p0.Next p1).bind fun (r8 : Int) =>
  bif (decide (r8 < (0 : Int))) then
    some (-1 : Int)
  else
    some r8
noncomputable def m_laws_toInt64S_L0 (p0 : List Int) (s0 : (List Int) × Int) : Option (Ctl ((List Int) × Int) ((List Int))) :=
  bif (decide (s0.2 < (p0.length : Int))) then
    (getI p0 s0.2).bind fun (x18 : Int) =>
    (getI s0.1 s0.2).bind fun (x20 : Int) =>
    some (.next ((s0.1.set ((s0.2).toNat) x18), (w64 (s0.2 + (1 : Int)))))
  else
    some (.out s0.1)
noncomputable def m_laws_toInt64S_A0 (u0 : (List Int)) : Option (List Int) :=
  some u0
noncomputable def m_laws_toInt64S (p0 : List Int) : Option (List Int) :=
  (makeI (p0.length : Int) 8).bind fun (k7 : Nat) =>
  (iter (m_laws_toInt64S_L0 p0) ((List.replicate k7 (0 : Int)), (0 : Int))).bind fun (u0 : (List Int)) =>
  m_laws_toInt64S_A0 u0
noncomputable def m_laws_toInt64SS_L0 (p0 : List (List Int)) (s0 : (List (List Int)) × Int) : Option (Ctl ((List (List Int)) × Int) ((List (List Int)))) :=
  bif (decide (s0.2 < (p0.length : Int))) then
    (getI p0 s0.2).bind fun (x18 : List Int) =>
    (m_laws_toInt64S x18).bind fun (r20 : List Int) =>
    (getI s0.1 s0.2).bind fun (x21 : List Int) =>
    some (.next ((s0.1.set ((s0.2).toNat) r20), (w64 (s0.2 + (1 : Int)))))
  else
    some (.out s0.1)
noncomputable def m_laws_toInt64SS_A0 (u0 : (List (List Int))) : Option (List (List Int)) :=
  some u0
noncomputable def m_laws_toInt64SS (p0 : List (List Int)) : Option (List (List Int)) :=
  (makeI (p0.length : Int) 24).bind fun (k7 : Nat) =>
  (iter (m_laws_toInt64SS_L0 p0) ((List.replicate k7 ([] : List Int)), (0 : Int))).bind fun (u0 : (List (List Int))) =>
  m_laws_toInt64SS_A0 u0
noncomputable def m_laws_toPolicy (p0 : Policy) : Option Policy :=
  (m_laws_toInt64SS p0.Next).bind fun (r6 : List (List Int)) =>
  some (Policy.mk r6)
noncomputable def m_spec_l00In (p0 : Int) (p1 : Int) (p2 : Int) : Option Bool :=
  some ((decide (p1 ≤ p0)) && (decide (p0 ≤ p2)))
noncomputable def m_spec_l10Is_L1 (p0 : Policy) (x24 : List Int) (s1 : Int) : Option (Ctl Int (Unit ⊕ Bool)) :=
  bif (decide (s1 < (4 : Int))) then
    (getI x24 s1).bind fun (x40 : Int) =>
    (m_spec_l00In x40 (-1 : Int) (w64 ((p0.Next.length : Int) - (1 : Int)))).bind fun (r44 : Bool) =>
    bif (!r44) then
      some (.out (.inr false))
    else
      some (.next (w64 (s1 + (1 : Int))))
  else
    some (.out (.inl ()))
noncomputable def m_spec_l10Is_A1 (s0 : Int) (u1 : Unit ⊕ Bool) : Option (Ctl Int (Unit ⊕ Bool)) :=
  match u1 with
  | .inl u1 =>
    some (.next (w64 (s0 + (1 : Int))))
  | .inr u1 =>
    some (.out (.inr u1))
noncomputable def m_spec_l10Is_L0 (p0 : Policy) (s0 : Int) : Option (Ctl Int (Unit ⊕ Bool)) :=
  bif (decide (s0 < (p0.Next.length : Int))) then
    (getI p0.Next s0).bind fun (x24 : List Int) =>
    bif (!decide ((x24.length : Int) = (4 : Int))) then
      some (.out (.inr false))
    else
      (iter (m_spec_l10Is_L1 p0 x24) (0 : Int)).bind fun (u1 : Unit ⊕ Bool) =>
      m_spec_l10Is_A1 s0 u1
  else
    some (.out (.inl ()))
noncomputable def m_spec_l10Is_A0 (u0 : Unit ⊕ Bool) : Option Bool :=
  match u0 with
  | .inl u0 =>
    some true
  | .inr u0 =>
    some u0
noncomputable def m_spec_l10Is (p0 : Policy) : Option Bool :=
  (m_spec_l00In (p0.Next.length : Int) (1 : Int) (12 : Int)).bind fun (r12 : Bool) =>
  bif (!r12) then
    some false
  else
    (iter (m_spec_l10Is_L0 p0) (0 : Int)).bind fun (u0 : Unit ⊕ Bool) =>
    m_spec_l10Is_A0 u0
noncomputable def m_spec_l10Alike_L0 (p0 : Policy) (p1 : List Int) (p2 : Int) (p3 : Int) (s0 : Int) : Option (Ctl Int (Unit ⊕ Bool)) :=
  bif (decide (s0 < (4 : Int))) then
    (getI p0.Next p2).bind fun (x30 : List Int) =>
    (getI x30 s0).bind fun (x33 : Int) =>
    (getI p0.Next p3).bind fun (x40 : List Int) =>
    (getI x40 s0).bind fun (x43 : Int) =>
    bif (!((decide (x33 < (0 : Int))) == (decide (x43 < (0 : Int))))) then
      some (.out (.inr false))
    else
      bif (decide ((0 : Int) ≤ x33)) then
        (getI p1 x33).bind fun (x56 : Int) =>
        (getI p1 x43).bind fun (x60 : Int) =>
        bif (!decide (x56 = x60)) then
          some (.out (.inr false))
        else
          some (.next (w64 (s0 + (1 : Int))))
      else
        some (.next (w64 (s0 + (1 : Int))))
  else
    some (.out (.inl ()))
noncomputable def m_spec_l10Alike_A0 (u0 : Unit ⊕ Bool) : Option Bool :=
  match u0 with
  | .inl u0 =>
    some true
  | .inr u0 =>
    some u0
noncomputable def m_spec_l10Alike (p0 : Policy) (p1 : List Int) (p2 : Int) (p3 : Int) : Option Bool :=
  (getI p1 p2).bind fun (x14 : Int) =>
  (getI p1 p3).bind fun (x18 : Int) =>
  bif (!decide (x14 = x18)) then
    some false
  else
    (iter (m_spec_l10Alike_L0 p0 p1 p2 p3) (0 : Int)).bind fun (u0 : Unit ⊕ Bool) =>
    m_spec_l10Alike_A0 u0
noncomputable def m_spec_l10Classes_L2 (p0 : Policy) (s0 : (List Int) × Int) (s1 : (List Int) × Int) (s2 : Int × Int) : Option (Ctl (Int × Int) Int) :=
  bif ((decide (s2.2 < s1.2)) && (decide (s2.1 < (0 : Int)))) then
    (m_spec_l10Alike p0 s0.1 s2.2 s1.2).bind fun (r41 : Bool) =>
    bif r41 then
      (getI s1.1 s2.2).bind fun (x44 : Int) =>
      some (.next (x44, (w64 (s2.2 + (1 : Int)))))
    else
      some (.next (s2.1, (w64 (s2.2 + (1 : Int)))))
  else
    some (.out s2.1)
noncomputable def m_spec_l10Classes_A2 (s1 : (List Int) × Int) (u2 : Int) : Option (Ctl ((List Int) × Int) ((List Int))) :=
  bif (decide (u2 < (0 : Int))) then
    (capI (s1.1.length + [s1.2].length) 8).bind fun (q52 : Unit) =>
    some (.next ((s1.1 ++ [s1.2]), (w64 (s1.2 + (1 : Int)))))
  else
    (capI (s1.1.length + [u2].length) 8).bind fun (q52 : Unit) =>
    some (.next ((s1.1 ++ [u2]), (w64 (s1.2 + (1 : Int)))))
noncomputable def m_spec_l10Classes_L1 (p0 : Policy) (s0 : (List Int) × Int) (s1 : (List Int) × Int) : Option (Ctl ((List Int) × Int) ((List Int))) :=
  bif (decide (s1.2 < (p0.Next.length : Int))) then
    (iter (m_spec_l10Classes_L2 p0 s0 s1) ((-1 : Int), (0 : Int))).bind fun (u2 : Int) =>
    m_spec_l10Classes_A2 s1 u2
  else
    some (.out s1.1)
noncomputable def m_spec_l10Classes_A1 (s0 : (List Int) × Int) (u1 : (List Int)) : Option (Ctl ((List Int) × Int) ((List Int))) :=
  some (.next (u1, (w64 (s0.2 + (1 : Int)))))
noncomputable def m_spec_l10Classes_L0 (p0 : Policy) (s0 : (List Int) × Int) : Option (Ctl ((List Int) × Int) ((List Int))) :=
  bif (decide (s0.2 < (p0.Next.length : Int))) then
    (iter (m_spec_l10Classes_L1 p0 s0) (([] : List Int), (0 : Int))).bind fun (u1 : (List Int)) =>
    m_spec_l10Classes_A1 s0 u1
  else
    some (.out s0.1)
noncomputable def m_spec_l10Classes_A0 (u0 : (List Int)) : Option (List Int) :=
  some u0
noncomputable def m_spec_l10Classes (p0 : Policy) : Option (List Int) :=
  (makeI (p0.Next.length : Int) 8).bind fun (k16 : Nat) =>
  (iter (m_spec_l10Classes_L0 p0) ((List.replicate k16 (0 : Int)), (0 : Int))).bind fun (u0 : (List Int)) =>
  m_spec_l10Classes_A0 u0
noncomputable def m_spec_l10Minimal_L2 (r14 : List Int) (s1 : (List Int) × (List Int) × (List Int) × Int) (x43 : Int) (s2 : Int × Int) : Option (Ctl (Int × Int) Int) :=
  bif (decide (s2.2 < (s1.2.1.length : Int))) then
    (getI s1.2.1 s2.2).bind fun (x58 : Int) =>
    (getI r14 x43).bind fun (x62 : Int) =>
    bif (decide (x58 = x62)) then
      some (.next (s2.2, (w64 (s2.2 + (1 : Int)))))
    else
      some (.next (s2.1, (w64 (s2.2 + (1 : Int)))))
  else
    some (.out s2.1)
noncomputable def m_spec_l10Minimal_A2 (r14 : List Int) (s1 : (List Int) × (List Int) × (List Int) × Int) (x43 : Int) (u2 : Int) : Option (Ctl ((List Int) × (List Int) × (List Int) × Int) (((List Int) × (List Int) × (List Int)))) :=
  bif (decide (u2 < (0 : Int))) then
    (getI r14 x43).bind fun (x73 : Int) =>
    (capI (s1.2.1.length + [x73].length) 8).bind fun (q76 : Unit) =>
    (capI (s1.1.length + [x43].length) 8).bind fun (q80 : Unit) =>
    (capI (s1.2.2.1.length + [(s1.2.1.length : Int)].length) 8).bind fun (q84 : Unit) =>
    some (.next ((s1.1 ++ [x43]), (s1.2.1 ++ [x73]), (s1.2.2.1 ++ [(s1.2.1.length : Int)]), (w64 (s1.2.2.2 + (1 : Int)))))
  else
    (capI (s1.2.2.1.length + [u2].length) 8).bind fun (q84 : Unit) =>
    some (.next (s1.1, s1.2.1, (s1.2.2.1 ++ [u2]), (w64 (s1.2.2.2 + (1 : Int)))))
noncomputable def m_spec_l10Minimal_L1 (p0 : Policy) (r14 : List Int) (s0 : (List Int) × (List Int) × (List (List Int)) × Int) (s1 : (List Int) × (List Int) × (List Int) × Int) : Option (Ctl ((List Int) × (List Int) × (List Int) × Int) (((List Int) × (List Int) × (List Int)))) :=
  bif (decide (s1.2.2.2 < (4 : Int))) then
    (getI s1.1 s0.2.2.2).bind fun (x38 : Int) =>
    (getI p0.Next x38).bind fun (x40 : List Int) =>
    (getI x40 s1.2.2.2).bind fun (x43 : Int) =>
    bif (decide (x43 < (0 : Int))) then
      (capI (s1.2.2.1.length + [(-1 : Int)].length) 8).bind fun (q49 : Unit) =>
      some (.next (s1.1, s1.2.1, (s1.2.2.1 ++ [(-1 : Int)]), (w64 (s1.2.2.2 + (1 : Int)))))
    else
      (iter (m_spec_l10Minimal_L2 r14 s1 x43) ((-1 : Int), (0 : Int))).bind fun (u2 : Int) =>
      m_spec_l10Minimal_A2 r14 s1 x43 u2
  else
    some (.out (s1.1, s1.2.1, s1.2.2.1))
noncomputable def m_spec_l10Minimal_A1 (s0 : (List Int) × (List Int) × (List (List Int)) × Int) (u1 : ((List Int) × (List Int) × (List Int))) : Option (Ctl ((List Int) × (List Int) × (List (List Int)) × Int) ((List (List Int)))) :=
  (capI (s0.2.2.1.length + [u1.2.2].length) 24).bind fun (q89 : Unit) =>
  some (.next (u1.1, u1.2.1, (s0.2.2.1 ++ [u1.2.2]), (w64 (s0.2.2.2 + (1 : Int)))))
noncomputable def m_spec_l10Minimal_L0 (p0 : Policy) (r14 : List Int) (s0 : (List Int) × (List Int) × (List (List Int)) × Int) : Option (Ctl ((List Int) × (List Int) × (List (List Int)) × Int) ((List (List Int)))) :=
  bif (decide (s0.2.2.2 < (s0.1.length : Int))) then
    (iter (m_spec_l10Minimal_L1 p0 r14 s0) (s0.1, s0.2.1, ([] : List Int), (0 : Int))).bind fun (u1 : ((List Int) × (List Int) × (List Int))) =>
    m_spec_l10Minimal_A1 s0 u1
  else
    some (.out s0.2.2.1)
noncomputable def m_spec_l10Minimal_A0 (u0 : (List (List Int))) : Option Policy :=
  some (Policy.mk u0)
noncomputable def m_spec_l10Minimal (p0 : Policy) : Option Policy :=
  (m_spec_l10Classes p0).bind fun (r14 : List Int) =>
  (getI r14 (0 : Int)).bind fun (x17 : Int) =>
  (iter (m_spec_l10Minimal_L0 p0 r14) ([(0 : Int)], [x17], ([] : List (List Int)), (0 : Int))).bind fun (u0 : (List (List Int))) =>
  m_spec_l10Minimal_A0 u0
noncomputable def m_impl_size (p0 : Int) : Option Int :=
  some p0
noncomputable def m_impl_within (p0 : Int) (p1 : Int) (p2 : Int) : Option Bool :=
  some ((decide (p1 ≤ p0)) && (decide (p0 ≤ p2)))
noncomputable def m_impl_allWithin_L0 (p1 : Int) (p2 : Int) (n0 : Nat) (x0 : Int) (s0 : Unit) : Option (Ctl Unit (Unit ⊕ Bool)) :=
  (m_impl_within x0 p1 p2).bind fun (r18 : Bool) =>
  bif (!r18) then
    some (.out (.inr false))
  else
    some (.next ())
noncomputable def m_impl_allWithin_A0 (u0 : Unit ⊕ Bool) : Option Bool :=
  match u0 with
  | .inl u0 =>
    some true
  | .inr u0 =>
    some u0
noncomputable def m_impl_allWithin (p0 : List Int) (p1 : Int) (p2 : Int) : Option Bool :=
  (forL (m_impl_allWithin_L0 p1 p2) (fun s0 => (.inl ())) 0 p0 ()).bind fun (u0 : Unit ⊕ Bool) =>
  m_impl_allWithin_A0 u0
noncomputable def m_impl_ValidPolicy_L0 (r9 : Int) (n0 : Nat) (x0 : List Int) (s0 : Unit) : Option (Ctl Unit (Unit ⊕ Bool)) :=
  bif (!decide ((x0.length : Int) = (4 : Int))) then
    some (.out (.inr false))
  else
    (m_impl_allWithin x0 (-1 : Int) (w64 (r9 - (1 : Int)))).bind fun (r27 : Bool) =>
    bif (!r27) then
      some (.out (.inr false))
    else
      some (.next ())
noncomputable def m_impl_ValidPolicy_A0 (u0 : Unit ⊕ Bool) : Option Bool :=
  match u0 with
  | .inl u0 =>
    some true
  | .inr u0 =>
    some u0
noncomputable def m_impl_ValidPolicy (p0 : Policy) : Option Bool :=
  (m_impl_size (p0.Next.length : Int)).bind fun (r9 : Int) =>
  (m_impl_within r9 (1 : Int) (12 : Int)).bind fun (r11 : Bool) =>
  bif (!r11) then
    some false
  else
    (forL (m_impl_ValidPolicy_L0 r9) (fun s0 => (.inl ())) 0 p0.Next ()).bind fun (u0 : Unit ⊕ Bool) =>
    m_impl_ValidPolicy_A0 u0
noncomputable def m_impl_Decimal (p0 : Int) : Option (List UInt8) :=
  (m_strconv_FormatInt p0 (10 : Int)).bind fun (r4 : List UInt8) =>
  some r4
noncomputable def m_impl_graph_minimal_1 (p0 : Int) (p1 : Int) (p2_0 : List (List Int)) (p3_0 : List Int) (p4_0 : List Int) : Option (Int × Bool) :=
  (getI p3_0 p0).bind fun (x13 : Int) =>
  (getI p2_0 x13).bind fun (x15 : List Int) =>
  (getI x15 p1).bind fun (x18 : Int) =>
  bif (decide (x18 < (0 : Int))) then
    some ((0 : Int), false)
  else
    (getI p4_0 x18).bind fun (x24 : Int) =>
    some (x24, true)
noncomputable def m_impl_grown_int64_fminimal_1_L1 (v1_0_0 : List (List Int)) (v1_1_0 : List Int) (v1_2_0 : List Int) (s0 : (List (Int × Int)) × (List Int) × (List (List Int)) × Int) (n1 : Nat) (x1 : Nat) (s1 : (List (Int × Int)) × (List Int) × (List Int)) : Option (Ctl ((List (Int × Int)) × (List Int) × (List Int)) (((List (Int × Int)) × (List Int) × (List Int)))) :=
  (getI s1.2.1 s0.2.2.2).bind fun (x33 : Int) =>
  (m_impl_graph_minimal_1 x33 (n1 : Int) v1_0_0 v1_1_0 v1_2_0).bind fun (r36 : Int × Bool) =>
  bif (!r36.2) then
    (capI (s1.2.2.length + [(-1 : Int)].length) 8).bind fun (q43 : Unit) =>
    some (.next (s1.1, s1.2.1, (s1.2.2 ++ [(-1 : Int)])))
  else
    bif (!(mget s1.1 r36.1).isSome) then
      (m_impl_size (s1.2.1.length : Int)).bind fun (r54 : Int) =>
      (capI (s1.2.1.length + [r36.1].length) 8).bind fun (q61 : Unit) =>
      (capI (s1.2.2.length + [r54].length) 8).bind fun (q65 : Unit) =>
      some (.next ((mput s1.1 r36.1 r54), (s1.2.1 ++ [r36.1]), (s1.2.2 ++ [r54])))
    else
      (capI (s1.2.2.length + [((mget s1.1 r36.1).getD (0 : Int))].length) 8).bind fun (q65 : Unit) =>
      some (.next (s1.1, s1.2.1, (s1.2.2 ++ [((mget s1.1 r36.1).getD (0 : Int))])))
noncomputable def m_impl_grown_int64_fminimal_1_A1 (s0 : (List (Int × Int)) × (List Int) × (List (List Int)) × Int) (u1 : ((List (Int × Int)) × (List Int) × (List Int))) : Option (Ctl ((List (Int × Int)) × (List Int) × (List (List Int)) × Int) ((List (List Int)))) :=
  (capI (s0.2.2.1.length + [u1.2.2].length) 24).bind fun (q70 : Unit) =>
  some (.next (u1.1, u1.2.1, (s0.2.2.1 ++ [u1.2.2]), (w64 (s0.2.2.2 + (1 : Int)))))
noncomputable def m_impl_grown_int64_fminimal_1_L0 (v1_0_0 : List (List Int)) (v1_1_0 : List Int) (v1_2_0 : List Int) (s0 : (List (Int × Int)) × (List Int) × (List (List Int)) × Int) : Option (Ctl ((List (Int × Int)) × (List Int) × (List (List Int)) × Int) ((List (List Int)))) :=
  bif (decide (s0.2.2.2 < (s0.2.1.length : Int))) then
    (forL (m_impl_grown_int64_fminimal_1_L1 v1_0_0 v1_1_0 v1_2_0 s0) (fun s1 => (s1.1, s1.2.1, s1.2.2)) 0 (List.range 4) (s0.1, s0.2.1, ([] : List Int))).bind fun (u1 : ((List (Int × Int)) × (List Int) × (List Int))) =>
    m_impl_grown_int64_fminimal_1_A1 s0 u1
  else
    some (.out s0.2.2.1)
noncomputable def m_impl_grown_int64_fminimal_1_A0 (u0 : (List (List Int))) : Option (List (List Int)) :=
  some u0
noncomputable def m_impl_grown_int64_fminimal_1 (p0 : Int) (v1_0_0 : List (List Int)) (v1_1_0 : List Int) (v1_2_0 : List Int) : Option (List (List Int)) :=
  (iter (m_impl_grown_int64_fminimal_1_L0 v1_0_0 v1_1_0 v1_2_0) ((mput ([] : List (Int × Int)) p0 (0 : Int)), [p0], ([] : List (List Int)), (0 : Int))).bind fun (u0 : (List (List Int))) =>
  m_impl_grown_int64_fminimal_1_A0 u0
noncomputable def m_impl_graph_minimal_L2 (s0 : (List Int) × Int) (n2 : Nat) (x2 : Int) (s2 : List UInt8) : Option (Ctl (List UInt8) ((List UInt8))) :=
  bif (decide (x2 < (0 : Int))) then
    (strI (s2.length + ([44, 120] : List UInt8).length)).bind fun (q45 : Unit) =>
    some (.next (s2 ++ ([44, 120] : List UInt8)))
  else
    (getI s0.1 x2).bind fun (x49 : Int) =>
    (m_impl_Decimal x49).bind fun (r51 : List UInt8) =>
    (strI (([44] : List UInt8).length + r51.length)).bind fun (q52 : Unit) =>
    (strI (s2.length + (([44] : List UInt8) ++ r51).length)).bind fun (q53 : Unit) =>
    some (.next (s2 ++ (([44] : List UInt8) ++ r51)))
noncomputable def m_impl_graph_minimal_A2 (s1 : (List ((List UInt8) × Int)) × (List Int)) (n1 : Nat) (u2 : (List UInt8)) : Option (Ctl ((List ((List UInt8) × Int)) × (List Int)) (((List ((List UInt8) × Int)) × (List Int)))) :=
  bif (!(mget s1.1 u2).isSome) then
    (m_impl_size (s1.1.length : Int)).bind fun (r65 : Int) =>
    (getI s1.2 (n1 : Int)).bind fun (x72 : Int) =>
    some (.next ((mput s1.1 u2 r65), (s1.2.set (((n1 : Int)).toNat) r65)))
  else
    (getI s1.2 (n1 : Int)).bind fun (x72 : Int) =>
    some (.next (s1.1, (s1.2.set (((n1 : Int)).toNat) ((mget s1.1 u2).getD (0 : Int)))))
noncomputable def m_impl_graph_minimal_L1 (s0 : (List Int) × Int) (n1 : Nat) (x1 : List Int) (s1 : (List ((List UInt8) × Int)) × (List Int)) : Option (Ctl ((List ((List UInt8) × Int)) × (List Int)) (((List ((List UInt8) × Int)) × (List Int)))) :=
  (getI s0.1 (n1 : Int)).bind fun (x33 : Int) =>
  (m_impl_Decimal x33).bind fun (r35 : List UInt8) =>
  (forL (m_impl_graph_minimal_L2 s0) (fun s2 => s2) 0 x1 r35).bind fun (u2 : (List UInt8)) =>
  m_impl_graph_minimal_A2 s1 n1 u2
noncomputable def m_impl_graph_minimal_A1 (s0 : (List Int) × Int) (u1 : ((List ((List UInt8) × Int)) × (List Int))) : Option (Ctl ((List Int) × Int) ((List Int))) :=
  bif (decide ((u1.1.length : Int) = s0.2)) then
    some (.out u1.2)
  else
    some (.next (u1.2, (u1.1.length : Int)))
noncomputable def m_impl_graph_minimal_L0 (p0 : List (List Int)) (s0 : (List Int) × Int) : Option (Ctl ((List Int) × Int) ((List Int))) :=
  (makeI (p0.length : Int) 8).bind fun (k23 : Nat) =>
  (forL (m_impl_graph_minimal_L1 s0) (fun s1 => (s1.1, s1.2)) 0 p0 (([] : List ((List UInt8) × Int)), (List.replicate k23 (0 : Int)))).bind fun (u1 : ((List ((List UInt8) × Int)) × (List Int))) =>
  m_impl_graph_minimal_A1 s0 u1
noncomputable def m_impl_graph_minimal_L3 (n3 : Nat) (x3 : Int) (s3 : List Int) : Option (Ctl (List Int) ((List Int))) :=
  (getI s3 x3).bind fun (x94 : Int) =>
  some (.next (s3.set ((x3).toNat) (n3 : Int)))
noncomputable def m_impl_graph_minimal_A3 (p0 : List (List Int)) (u0 : List Int) (u3 : (List Int)) : Option (List (List Int)) :=
  (getI u0 (0 : Int)).bind fun (x97 : Int) =>
  (m_impl_grown_int64_fminimal_1 x97 p0 u3 u0).bind fun (r100 : List (List Int)) =>
  some r100
noncomputable def m_impl_graph_minimal_A0 (p0 : List (List Int)) (u0 : (List Int)) : Option (List (List Int)) :=
  (makeI (p0.length : Int) 8).bind fun (k83 : Nat) =>
  (forL (m_impl_graph_minimal_L3) (fun s3 => s3) 0 u0 (List.replicate k83 (0 : Int))).bind fun (u3 : (List Int)) =>
  m_impl_graph_minimal_A3 p0 u0 u3
noncomputable def m_impl_graph_minimal (p0 : List (List Int)) : Option (List (List Int)) :=
  (makeI (p0.length : Int) 8).bind fun (k19 : Nat) =>
  (iter (m_impl_graph_minimal_L0 p0) ((List.replicate k19 (0 : Int)), (0 : Int))).bind fun (u0 : (List Int)) =>
  m_impl_graph_minimal_A0 p0 u0
noncomputable def m_laws_eqInt64S_L0 (p0 : List Int) (p1 : List Int) (s0 : Int) : Option (Ctl Int (Unit ⊕ Bool)) :=
  bif (decide (s0 < (p0.length : Int))) then
    (getI p0 s0).bind fun (x19 : Int) =>
    (getI p1 s0).bind fun (x23 : Int) =>
    bif (!decide (x19 = x23)) then
      some (.out (.inr false))
    else
      some (.next (w64 (s0 + (1 : Int))))
  else
    some (.out (.inl ()))
noncomputable def m_laws_eqInt64S_A0 (u0 : Unit ⊕ Bool) : Option Bool :=
  match u0 with
  | .inl u0 =>
    some true
  | .inr u0 =>
    some u0
noncomputable def m_laws_eqInt64S (p0 : List Int) (p1 : List Int) : Option Bool :=
  bif (!decide ((p0.length : Int) = (p1.length : Int))) then
    some false
  else
    (iter (m_laws_eqInt64S_L0 p0 p1) (0 : Int)).bind fun (u0 : Unit ⊕ Bool) =>
    m_laws_eqInt64S_A0 u0
noncomputable def m_laws_eqInt64SS_L0 (p0 : List (List Int)) (p1 : List (List Int)) (s0 : Int) : Option (Ctl Int (Unit ⊕ Bool)) :=
  bif (decide (s0 < (p0.length : Int))) then
    (getI p0 s0).bind fun (x19 : List Int) =>
    (getI p1 s0).bind fun (x23 : List Int) =>
    (m_laws_eqInt64S x19 x23).bind fun (r25 : Bool) =>
    bif (!r25) then
      some (.out (.inr false))
    else
      some (.next (w64 (s0 + (1 : Int))))
  else
    some (.out (.inl ()))
noncomputable def m_laws_eqInt64SS_A0 (u0 : Unit ⊕ Bool) : Option Bool :=
  match u0 with
  | .inl u0 =>
    some true
  | .inr u0 =>
    some u0
noncomputable def m_laws_eqInt64SS (p0 : List (List Int)) (p1 : List (List Int)) : Option Bool :=
  bif (!decide ((p0.length : Int) = (p1.length : Int))) then
    some false
  else
    (iter (m_laws_eqInt64SS_L0 p0 p1) (0 : Int)).bind fun (u0 : Unit ⊕ Bool) =>
    m_laws_eqInt64SS_A0 u0
noncomputable def m_laws_eqPolicy (p0 : Policy) (p1 : Policy) : Option Bool :=
  (m_laws_eqInt64SS p0.Next p1.Next).bind fun (r9 : Bool) =>
  bif (!r9) then
    some false
  else
    some true
noncomputable def m_laws_markInt64S_L0 (s0 : (List Int) × Int × Int) : Option (Ctl ((List Int) × Int × Int) ((Int × (List Int)))) :=
  bif (decide (s0.2.2 < (s0.1.length : Int))) then
    (getI s0.1 s0.2.2).bind fun (x15 : Int) =>
    some (.next ((s0.1.set ((s0.2.2).toNat) s0.2.1), (w64 (s0.2.1 + (1 : Int))), (w64 (s0.2.2 + (1 : Int)))))
  else
    some (.out (s0.2.1, s0.1))
noncomputable def m_laws_markInt64S_A0 (u0 : (Int × (List Int))) : Option (Int × (List Int)) :=
  some (u0.1, u0.2)
noncomputable def m_laws_markInt64S (p0 : List Int) (p1 : Int) : Option (Int × (List Int)) :=
  (iter (m_laws_markInt64S_L0) (p0, p1, (0 : Int))).bind fun (u0 : (Int × (List Int))) =>
  m_laws_markInt64S_A0 u0
noncomputable def m_laws_markInt64SS_L0 (s0 : (List (List Int)) × Int × Int) : Option (Ctl ((List (List Int)) × Int × Int) ((Int × (List (List Int))))) :=
  bif (decide (s0.2.2 < (s0.1.length : Int))) then
    (getI s0.1 s0.2.2).bind fun (x14 : List Int) =>
    (m_laws_markInt64S x14 s0.2.1).bind fun (r17 : Int × (List Int)) =>
    some (.next ((s0.1.set ((s0.2.2).toNat) r17.2), r17.1, (w64 (s0.2.2 + (1 : Int)))))
  else
    some (.out (s0.2.1, s0.1))
noncomputable def m_laws_markInt64SS_A0 (u0 : (Int × (List (List Int)))) : Option (Int × (List (List Int))) :=
  some (u0.1, u0.2)
noncomputable def m_laws_markInt64SS (p0 : List (List Int)) (p1 : Int) : Option (Int × (List (List Int))) :=
  (iter (m_laws_markInt64SS_L0) (p0, p1, (0 : Int))).bind fun (u0 : (Int × (List (List Int)))) =>
  m_laws_markInt64SS_A0 u0
noncomputable def m_laws_markPolicy (p0 : Policy) (p1 : Int) : Option (Int × (List (List Int))) :=
  (m_laws_markInt64SS p0.Next p1).bind fun (r8 : Int × (List (List Int))) =>
  some (r8.1, r8.2)
noncomputable def m_laws_heldInt64S_L0 (p0 : List Int) (s0 : Int × Int) : Option (Ctl (Int × Int) (Int ⊕ Int)) :=
  bif (decide (s0.2 < (p0.length : Int))) then
    (getI p0 s0.2).bind fun (x14 : Int) =>
    bif (!decide (x14 = s0.1)) then
      some (.out (.inr (-1 : Int)))
    else
      some (.next ((w64 (s0.1 + (1 : Int))), (w64 (s0.2 + (1 : Int)))))
  else
    some (.out (.inl s0.1))
noncomputable def m_laws_heldInt64S_A0 (u0 : Int ⊕ Int) : Option Int :=
  match u0 with
  | .inl u0 =>
    some u0
  | .inr u0 =>
    some u0
noncomputable def m_laws_heldInt64S (p0 : List Int) (p1 : Int) : Option Int :=
  (iter (m_laws_heldInt64S_L0 p0) (p1, (0 : Int))).bind fun (u0 : Int ⊕ Int) =>
  m_laws_heldInt64S_A0 u0
noncomputable def m_laws_heldInt64SS_L0 (p0 : List (List Int)) (s0 : Int × Int) : Option (Ctl (Int × Int) (Int ⊕ Int)) :=
  bif (decide (s0.2 < (p0.length : Int))) then
    (getI p0 s0.2).bind fun (x14 : List Int) =>
    (m_laws_heldInt64S x14 s0.1).bind fun (r17 : Int) =>
    bif (decide (r17 < (0 : Int))) then
      some (.out (.inr (-1 : Int)))
    else
      some (.next (r17, (w64 (s0.2 + (1 : Int)))))
  else
    some (.out (.inl s0.1))
noncomputable def m_laws_heldInt64SS_A0 (u0 : Int ⊕ Int) : Option Int :=
  match u0 with
  | .inl u0 =>
    some u0
  | .inr u0 =>
    some u0
noncomputable def m_laws_heldInt64SS (p0 : List (List Int)) (p1 : Int) : Option Int :=
  (iter (m_laws_heldInt64SS_L0 p0) (p1, (0 : Int))).bind fun (u0 : Int ⊕ Int) =>
  m_laws_heldInt64SS_A0 u0
noncomputable def m_laws_heldPolicy (p0 : Policy) (p1 : Int) : Option Int :=
  (m_laws_heldInt64SS p0.Next p1).bind fun (r8 : Int) =>
  bif (decide (r8 < (0 : Int))) then
    some (-1 : Int)
  else
    some r8
noncomputable def m_spec_l10Both_L1 (p0 : Policy) (p1 : Policy) (s0 : (List (List Int)) × Int) (s1 : (List Int) × Int) : Option (Ctl ((List Int) × Int) ((List Int))) :=
  bif (decide (s1.2 < (4 : Int))) then
    (quoI s0.2 (p1.Next.length : Int)).bind fun (q40 : Int) =>
    (getI p0.Next q40).bind fun (x41 : List Int) =>
    (getI x41 s1.2).bind fun (x44 : Int) =>
    (remI s0.2 (p1.Next.length : Int)).bind fun (q52 : Int) =>
    (getI p1.Next q52).bind fun (x53 : List Int) =>
    (getI x53 s1.2).bind fun (x56 : Int) =>
    bif ((decide (x44 < (0 : Int))) || (decide (x56 < (0 : Int)))) then
      (capI (s1.1.length + [(-1 : Int)].length) 8).bind fun (q66 : Unit) =>
      some (.next ((s1.1 ++ [(-1 : Int)]), (w64 (s1.2 + (1 : Int)))))
    else
      (capI (s1.1.length + [(w64 ((w64 (x44 * (p1.Next.length : Int))) + x56))].length) 8).bind fun (q74 : Unit) =>
      some (.next ((s1.1 ++ [(w64 ((w64 (x44 * (p1.Next.length : Int))) + x56))]), (w64 (s1.2 + (1 : Int)))))
  else
    some (.out s1.1)
noncomputable def m_spec_l10Both_A1 (s0 : (List (List Int)) × Int) (u1 : (List Int)) : Option (Ctl ((List (List Int)) × Int) ((List (List Int)))) :=
  (capI (s0.1.length + [u1].length) 24).bind fun (q79 : Unit) =>
  some (.next ((s0.1 ++ [u1]), (w64 (s0.2 + (1 : Int)))))
noncomputable def m_spec_l10Both_L0 (p0 : Policy) (p1 : Policy) (s0 : (List (List Int)) × Int) : Option (Ctl ((List (List Int)) × Int) ((List (List Int)))) :=
  bif (decide (s0.2 < (w64 ((p0.Next.length : Int) * (p1.Next.length : Int))))) then
    (iter (m_spec_l10Both_L1 p0 p1 s0) (([] : List Int), (0 : Int))).bind fun (u1 : (List Int)) =>
    m_spec_l10Both_A1 s0 u1
  else
    some (.out s0.1)
noncomputable def m_spec_l10Both_A0 (u0 : (List (List Int))) : Option Policy :=
  some (Policy.mk u0)
noncomputable def m_spec_l10Both (p0 : Policy) (p1 : Policy) : Option Policy :=
  (iter (m_spec_l10Both_L0 p0 p1) (([] : List (List Int)), (0 : Int))).bind fun (u0 : (List (List Int))) =>
  m_spec_l10Both_A0 u0
noncomputable def m_spec_BothPolicies (p0 : Policy) (p1 : Policy) : Option (Policy × Bool) :=
  (m_spec_l10Is p0).bind fun (r8 : Bool) =>
  bif (!r8) then
    some ((Policy.mk ([] : List (List Int))), false)
  else
    (m_spec_l10Is p1).bind fun (r11 : Bool) =>
    bif (!r11) then
      some ((Policy.mk ([] : List (List Int))), false)
    else
      (m_spec_l10Both p0 p1).bind fun (r15 : Policy) =>
      (m_spec_l10Minimal r15).bind fun (r16 : Policy) =>
      bif (decide ((12 : Int) < (r16.Next.length : Int))) then
        some ((Policy.mk ([] : List (List Int))), false)
      else
        some (r16, true)
noncomputable def m_impl_BothPolicies_1 (p0 : Int × Int) (p1 : Int) (p2_0 : List (List Int)) (p3_0 : List (List Int)) : Option ((Int × Int) × Bool) :=
  (getI p2_0 p0.1).bind fun (x14 : List Int) =>
  (getI x14 p1).bind fun (x17 : Int) =>
  (getI p3_0 p0.2).bind fun (x23 : List Int) =>
  (getI x23 p1).bind fun (x26 : Int) =>
  some ((x17, x26), ((decide ((0 : Int) ≤ x17)) && (decide ((0 : Int) ≤ x26))))
noncomputable def m_impl_grown_2_int64_fBothPolicies_1_L1 (v1_0_0 : List (List Int)) (v1_1_0 : List (List Int)) (s0 : (List ((Int × Int) × Int)) × (List (Int × Int)) × (List (List Int)) × Int) (n1 : Nat) (x1 : Nat) (s1 : (List ((Int × Int) × Int)) × (List (Int × Int)) × (List Int)) : Option (Ctl ((List ((Int × Int) × Int)) × (List (Int × Int)) × (List Int)) (((List ((Int × Int) × Int)) × (List (Int × Int)) × (List Int)))) :=
  (getI s1.2.1 s0.2.2.2).bind fun (x33 : Int × Int) =>
  (m_impl_BothPolicies_1 x33 (n1 : Int) v1_0_0 v1_1_0).bind fun (r36 : (Int × Int) × Bool) =>
  bif (!r36.2) then
    (capI (s1.2.2.length + [(-1 : Int)].length) 8).bind fun (q43 : Unit) =>
    some (.next (s1.1, s1.2.1, (s1.2.2 ++ [(-1 : Int)])))
  else
    bif (!(mget s1.1 r36.1).isSome) then
      (m_impl_size (s1.2.1.length : Int)).bind fun (r54 : Int) =>
      (capI (s1.2.1.length + [r36.1].length) 16).bind fun (q61 : Unit) =>
      (capI (s1.2.2.length + [r54].length) 8).bind fun (q65 : Unit) =>
      some (.next ((mput s1.1 r36.1 r54), (s1.2.1 ++ [r36.1]), (s1.2.2 ++ [r54])))
    else
      (capI (s1.2.2.length + [((mget s1.1 r36.1).getD (0 : Int))].length) 8).bind fun (q65 : Unit) =>
      some (.next (s1.1, s1.2.1, (s1.2.2 ++ [((mget s1.1 r36.1).getD (0 : Int))])))
noncomputable def m_impl_grown_2_int64_fBothPolicies_1_A1 (s0 : (List ((Int × Int) × Int)) × (List (Int × Int)) × (List (List Int)) × Int) (u1 : ((List ((Int × Int) × Int)) × (List (Int × Int)) × (List Int))) : Option (Ctl ((List ((Int × Int) × Int)) × (List (Int × Int)) × (List (List Int)) × Int) ((List (List Int)))) :=
  (capI (s0.2.2.1.length + [u1.2.2].length) 24).bind fun (q70 : Unit) =>
  some (.next (u1.1, u1.2.1, (s0.2.2.1 ++ [u1.2.2]), (w64 (s0.2.2.2 + (1 : Int)))))
noncomputable def m_impl_grown_2_int64_fBothPolicies_1_L0 (v1_0_0 : List (List Int)) (v1_1_0 : List (List Int)) (s0 : (List ((Int × Int) × Int)) × (List (Int × Int)) × (List (List Int)) × Int) : Option (Ctl ((List ((Int × Int) × Int)) × (List (Int × Int)) × (List (List Int)) × Int) ((List (List Int)))) :=
  bif (decide (s0.2.2.2 < (s0.2.1.length : Int))) then
    (forL (m_impl_grown_2_int64_fBothPolicies_1_L1 v1_0_0 v1_1_0 s0) (fun s1 => (s1.1, s1.2.1, s1.2.2)) 0 (List.range 4) (s0.1, s0.2.1, ([] : List Int))).bind fun (u1 : ((List ((Int × Int) × Int)) × (List (Int × Int)) × (List Int))) =>
    m_impl_grown_2_int64_fBothPolicies_1_A1 s0 u1
  else
    some (.out s0.2.2.1)
noncomputable def m_impl_grown_2_int64_fBothPolicies_1_A0 (u0 : (List (List Int))) : Option (List (List Int)) :=
  some u0
noncomputable def m_impl_grown_2_int64_fBothPolicies_1 (p0 : Int × Int) (v1_0_0 : List (List Int)) (v1_1_0 : List (List Int)) : Option (List (List Int)) :=
  (iter (m_impl_grown_2_int64_fBothPolicies_1_L0 v1_0_0 v1_1_0) ((mput ([] : List ((Int × Int) × Int)) p0 (0 : Int)), [p0], ([] : List (List Int)), (0 : Int))).bind fun (u0 : (List (List Int))) =>
  m_impl_grown_2_int64_fBothPolicies_1_A0 u0
noncomputable def m_impl_BothPolicies (p0 : Policy) (p1 : Policy) : Option (Policy × Bool) :=
  (m_impl_ValidPolicy p0).bind fun (r8 : Bool) =>
  bif (!r8) then
    some ((Policy.mk ([] : List (List Int))), false)
  else
    (m_impl_ValidPolicy p1).bind fun (r12 : Bool) =>
    bif (!r12) then
      some ((Policy.mk ([] : List (List Int))), false)
    else
      (m_impl_grown_2_int64_fBothPolicies_1 ((0 : Int), (0 : Int)) p0.Next p1.Next).bind fun (r18 : List (List Int)) =>
      (m_impl_graph_minimal r18).bind fun (r19 : List (List Int)) =>
      bif (decide ((12 : Int) < (r19.length : Int))) then
        some ((Policy.mk ([] : List (List Int))), false)
      else
        some ((Policy.mk r19), true)
noncomputable def m_laws_FnExactBothPolicies_J1 (j0 : (List (List Int)) × Bool) (r85 : Int × (List (List Int))) (j1 : (List (List Int)) × Bool) : Option Bool :=
  (m_laws_eqPolicy (Policy.mk j1.1) (Policy.mk j0.1)).bind fun (r104 : Bool) =>
  bif ((!r104) || (!(j1.2 == j0.2))) then
    some false
  else
    (m_laws_heldPolicy (Policy.mk r85.2) (1 : Int)).bind fun (r113 : Int) =>
    bif (decide (r113 < (0 : Int))) then
      some false
    else
      bif (!decide (r113 = r85.1)) then
        some false
      else
        some true
noncomputable def m_laws_FnExactBothPolicies_J0 (p0 : Policy) (p1 : Policy) (j0 : (List (List Int)) × Bool) : Option Bool :=
  (m_laws_toPolicy p0).bind fun (r36 : Policy) =>
  (m_laws_toPolicy p1).bind fun (r38 : Policy) =>
  (m_impl_BothPolicies r36 r38).bind fun (r42 : Policy × Bool) =>
  (m_laws_eqPolicy r42.1 (Policy.mk j0.1)).bind fun (r47 : Bool) =>
  bif ((!r47) || (!(r42.2 == j0.2))) then
    some false
  else
    (m_laws_toPolicy p0).bind fun (r56 : Policy) =>
    (m_laws_eqPolicy r36 r56).bind fun (r57 : Bool) =>
    bif (!r57) then
      some false
    else
      (m_laws_toPolicy p1).bind fun (r61 : Policy) =>
      (m_laws_eqPolicy r38 r61).bind fun (r62 : Bool) =>
      bif (!r62) then
        some false
      else
        (m_laws_markPolicy r36 (1 : Int)).bind fun (r66 : Int × (List (List Int))) =>
        (m_laws_markPolicy r38 r66.1).bind fun (r69 : Int × (List (List Int))) =>
        bif (decide (r69.1 < (0 : Int))) then
          some false
        else
          (m_laws_eqPolicy r42.1 (Policy.mk j0.1)).bind fun (r75 : Bool) =>
          bif ((!r75) || (!(r42.2 == j0.2))) then
            some false
          else
            (m_laws_markPolicy r42.1 (1 : Int)).bind fun (r85 : Int × (List (List Int))) =>
            (m_laws_heldPolicy (Policy.mk r85.2) (1 : Int)).bind fun (r88 : Int) =>
            bif (decide (r88 < (0 : Int))) then
              some false
            else
              bif (!decide (r88 = r85.1)) then
                some false
              else
                (m_laws_toPolicy p0).bind fun (r96 : Policy) =>
                (m_laws_toPolicy p1).bind fun (r98 : Policy) =>
                (m_impl_BothPolicies r96 r98).bind fun (r99 : Policy × Bool) =>
                m_laws_FnExactBothPolicies_J1 j0 r85 (r99.1.Next, r99.2)
noncomputable def m_laws_FnExactBothPolicies (p0 : Policy) (p1 : Policy) : Option Bool :=
  (m_laws_szPolicy p0 (1048576 : Int)).bind fun (r19 : Int) =>
  bif (decide (r19 < (0 : Int))) then
    some true
  else
    (m_laws_szPolicy p1 r19).bind fun (r24 : Int) =>
    bif (decide (r24 < (0 : Int))) then
      some true
    else
      (m_laws_toPolicy p0).bind fun (r29 : Policy) =>
      (m_laws_toPolicy p1).bind fun (r31 : Policy) =>
      (m_spec_BothPolicies r29 r31).bind fun (r32 : Policy × Bool) =>
      m_laws_FnExactBothPolicies_J0 p0 p1 (r32.1.Next, r32.2)
end Go.Mod

namespace Go.Mod
open Go.AM
set_option linter.unusedVariables false
set_option linter.unusedSimpArgs false
theorem pl_mem_sum {α : Type} {c : α → Nat} {xs : List α} {x : α} (h : x ∈ xs) : c x ≤ (xs.map c).sum := by
  induction xs with
  | nil => cases h
  | cons y r ih =>
    simp only [List.map_cons, List.sum_cons]
    rcases List.mem_cons.1 h with rfl | h
    · omega
    · have := ih h; omega
theorem pl_sum_len {α : Type} {q : α → Nat} {xs : List α} (h : ∀ x, q x ≤ 8 + 8 * 0) : (xs.map q).sum ≤ 8 * xs.length := by
  induction xs with
  | nil => simp
  | cons y r ih => have := h y; simp only [List.map_cons, List.sum_cons, List.length_cons]; omega
theorem pl_sum_le {α : Type} {q c : α → Nat} {xs : List α} (h : ∀ x, q x ≤ 8 + 8 * c x) : (xs.map q).sum ≤ 8 * (xs.length + (xs.map c).sum) := by
  induction xs with
  | nil => simp
  | cons y r ih => have := h y; simp only [List.map_cons, List.sum_cons, List.length_cons]; omega
theorem pl_szB {m : Option Int} {c d b : Nat} {F : Int → Option Int} (h : m = some (szOut c b)) (g : c ≤ b → F ((b - c : Nat) : Int) = some (szOut d (b - c))) :
    (m.bind fun r => bif decide (r < 0) then some (-1) else F r) = some (szOut (c + d) b) := by
  rw [h, Option.bind_some]
  by_cases hc : c ≤ b
  · rw [szOut_ok hc, decide_eq_false (by omega), cond_false, g hc]
    unfold szOut
    by_cases h2 : d ≤ b - c
    · rw [if_pos h2, if_pos (by omega)]; congr 2; omega
    · rw [if_neg h2, if_neg (by omega)]
  · rw [szOut_no hc, szOut_no (by omega)]; rfl
theorem pl_szL {m : Option Int} {c b : Nat} (h : m = some (szOut c b)) : (m.bind fun r => bif decide (r < 0) then some (-1) else some r) = some (szOut c b) := by
  have := pl_szB (d := 0) (F := fun r => some r) h (fun hc => by rw [szOut_ok (Nat.zero_le _)]; rfl)
  simpa using this
theorem pl_eqL {p : Prop} [Decidable p] : (bif !decide p then some false else some true) = some (decide p) := by
  by_cases hp : p <;> simp [hp]
theorem pl_eqML {m : Option Bool} {p : Prop} [Decidable p] (hm : m = some (decide p)) : (m.bind fun r => bif !r then some false else some true) = some (decide p) := by
  rw [hm, Option.bind_some]; exact pl_eqL
theorem pl_neg1 : decide ((-1 : Int) < 0) = true := rfl
theorem pl_condB {α β : Type} {b : Bool} {x y : Option α} {f : α → Option β} : (cond b x y).bind f = cond b (x.bind f) (y.bind f) := by cases b <;> rfl
theorem pl_cond2 {α : Type} {b : Bool} {x y z : α} : cond b x (cond b y z) = cond b x z := by cases b <;> rfl
section
variable {α : Type} {ys : List α} {n : Nat} {a b c d e f g : α} (h : n < ys.length)
include h
theorem pl_get_set : getI (ys.set n a) (n : Int) = some a := getI_some (by rw [List.getElem?_set_self h])
theorem pl_get_set2 : getI ((ys.set n a).set n b) (n : Int) = some b := getI_some (by rw [List.set_set, List.getElem?_set_self h])
theorem pl_get_set3 : getI (((ys.set n a).set n b).set n c) (n : Int) = some c := getI_some (by rw [List.set_set, List.set_set, List.getElem?_set_self h])
theorem pl_get_set4 : getI ((((ys.set n a).set n b).set n c).set n d) (n : Int) = some d := getI_some (by simp only [List.set_set]; rw [List.getElem?_set_self h])
theorem pl_get_set5 : getI (((((ys.set n a).set n b).set n c).set n d).set n e) (n : Int) = some e := getI_some (by simp only [List.set_set]; rw [List.getElem?_set_self h])
theorem pl_get_set6 : getI ((((((ys.set n a).set n b).set n c).set n d).set n e).set n f) (n : Int) = some f := getI_some (by simp only [List.set_set]; rw [List.getElem?_set_self h])
theorem pl_get_set7 : getI (((((((ys.set n a).set n b).set n c).set n d).set n e).set n f).set n g) (n : Int) = some g := getI_some (by simp only [List.set_set]; rw [List.getElem?_set_self h])
end
def pc_Int64S (xs : List Int) : Nat := xs.length
theorem pc_Int64S_len {xs : List Int} : xs.length ≤ pc_Int64S xs := by unfold pc_Int64S; omega
theorem pz_Int64S {xs : List Int} (k : kLa_i64 xs) : SzP m_laws_szInt64S pc_Int64S xs := fun _ hb => sz_flat k.1 hb
theorem pt_Int64S {xs : List Int} (hl : pc_Int64S xs ≤ 1048576) : m_laws_toInt64S xs = some xs := by
  have hlen : xs.length ≤ 1048576 := Nat.le_trans pc_Int64S_len hl
  unfold m_laws_toInt64S
  rw [makeI_some (by omega), Option.bind_some, iter_to (xs := xs) (z := (0 : Int)) (cp := some)
    (fun n x ys hx => by unfold m_laws_toInt64S_L0; rw [dec_lt (get_lt hx), cond_true, getI_some hx]; rfl)
    (fun ys => by unfold m_laws_toInt64S_L0; rw [dec_self]; rfl) hlen (fun x hx => rfl)]
  rfl
theorem pe_Int64S {xs ys : List Int} (hl : pc_Int64S xs ≤ 1048576) : m_laws_eqInt64S xs ys = some (decide (xs = ys)) := by
  have hlen : xs.length ≤ 1048576 := Nat.le_trans pc_Int64S_len hl
  unfold m_laws_eqInt64S
  by_cases h : xs.length = ys.length
  · rw [decide_eq_true (by omega), Bool.not_true, cond_false, iter_eq (xs := xs) (ys := ys) (eq := fun x y => some (decide (x = y)))
      (fun n x y hx hy => by unfold m_laws_eqInt64S_L0; rw [dec_lt (get_lt hx), cond_true, getI_some hx, getI_some hy]; rfl)
      (by unfold m_laws_eqInt64S_L0; rw [dec_self]; rfl) (by omega) h (fun x hx y => rfl)]
    by_cases e : xs = ys
    · rw [if_pos e, decide_eq_true e]; rfl
    · rw [if_neg e, decide_eq_false e]; rfl
  · rw [decide_eq_false (by omega), decide_eq_false (fun e => h (by rw [e]))]; rfl
def pqE_Int64S (x : Int) : Nat := 1
def pq_Int64S (xs : List Int) : Nat := (xs.map pqE_Int64S).sum
theorem pqE_Int64S_le (x : Int) : pqE_Int64S x ≤ 8 + 8 * 0 := by
  unfold pqE_Int64S
  omega
theorem pq_Int64S_le (xs : List Int) : pq_Int64S xs ≤ 8 * pc_Int64S xs := by
  unfold pq_Int64S pc_Int64S
  exact pl_sum_len (fun x => pqE_Int64S_le x)
noncomputable def pmk_Int64S (x : Int) (k : Int) : Option (Int × Int) := some ((w64 (k + 1)), k)
noncomputable def phe_Int64S (x : Int) (k : Int) : Option Int := bif !decide (x = k) then some (-1) else some (w64 (k + 1))
theorem pmE_Int64S (x : Int) : ∀ k : Nat, k + pqE_Int64S x ≤ 4611686018427387904 → ∃ x', pmk_Int64S x k = some (((k + pqE_Int64S x : Nat) : Int), x') ∧ phe_Int64S x' k = some ((k + pqE_Int64S x : Nat) : Int) := fun k hk => by
  unfold pqE_Int64S at hk ⊢
  have tot : ((k + 1 : Nat) : Int) = ((k + (1) : Nat) : Int) := by omega
  have w0 : w64 (((k : Nat) : Int) + 1) = ((k + 1 : Nat) : Int) := w64_succ (by omega)
  refine ⟨((k : Nat) : Int), ?_, ?_⟩
  · unfold pmk_Int64S; simp only [w0, Option.bind_some] <;> rw [← tot]
  · unfold phe_Int64S; simp only [w0, Option.bind_some, decide_true, Bool.not_true, cond_false] <;> rw [← tot]
theorem pm_Int64S {xs : List Int} (hl : pc_Int64S xs ≤ 1048576) {k : Nat} (hk : k + pq_Int64S xs ≤ 4611686018427387904) : ∃ xs', m_laws_markInt64S xs k = some (((k + pq_Int64S xs : Nat) : Int), xs') ∧ m_laws_heldInt64S xs' k = some ((k + pq_Int64S xs : Nat) : Int) := by
  obtain ⟨xs', h1, h2, h3⟩ := iter_mark (xs := xs) (m := pqE_Int64S) (mk := pmk_Int64S) (held := phe_Int64S) (step := m_laws_markInt64S_L0) (hstep := m_laws_heldInt64S_L0)
    (fun n ys x k hk hx => by
      have hn := get_lt hx
      have gen : ∀ k1 : Int, w64 ((k : Int) + 1) = k1 → m_laws_markInt64S_L0 (ys, (k : Int), (n : Int)) = (pmk_Int64S x k).bind fun r => some (.next (ys.set n r.2, r.1, w64 ((n : Int) + 1))) := by
        intro k1 h1
        unfold m_laws_markInt64S_L0 pmk_Int64S
        simp only [h1, dec_lt hn, cond_true, getI_some hx, Option.bind_some, Int.toNat_natCast, pl_get_set hn, pl_get_set2 hn, pl_get_set3 hn, pl_get_set4 hn, pl_get_set5 hn, pl_get_set6 hn, pl_get_set7 hn, List.set_set, Option.bind_assoc]
      exact gen _ rfl)
    (fun ys k => by unfold m_laws_markInt64S_L0; rw [dec_self]; rfl)
    (fun n ys x k hk hx => by
      unfold m_laws_heldInt64S_L0 phe_Int64S
      rw [dec_lt (get_lt hx), cond_true, getI_some hx]
      have w0 : w64 (((k : Nat) : Int) + 1) = ((k + 1 : Nat) : Int) := w64_succ (by omega)
      simp only [Option.bind_some, pl_condB, pl_cond2, Option.bind_assoc, pl_neg1, cond_true, cond_false, dec_neg, w0])
    (fun ys k => by unfold m_laws_heldInt64S_L0; rw [dec_self]; rfl)
    (by have := pc_Int64S_len (xs := xs); omega) (fun x hx => pmE_Int64S x) (k := k) hk
  exact ⟨xs', by unfold m_laws_markInt64S; rw [h1]; rfl, by unfold m_laws_heldInt64S; rw [h3]; rfl⟩
def pc_Int64SS (xs : List (List Int)) : Nat := xs.length + (xs.map pc_Int64S).sum
theorem pc_Int64SS_mem {xs : List (List Int)} {x : List Int} (h : x ∈ xs) : pc_Int64S x ≤ pc_Int64SS xs := by have := pl_mem_sum (c := pc_Int64S) h; unfold pc_Int64SS; omega
theorem pc_Int64SS_len {xs : List (List Int)} : xs.length ≤ pc_Int64SS xs := by unfold pc_Int64SS; omega
theorem pz_Int64SS {xs : List (List Int)} (k : kLaLa_i64 xs) : SzP m_laws_szInt64SS pc_Int64SS xs := fun b hb => by
  unfold m_laws_szInt64SS pc_Int64SS
  rw [szW k.1 hb]
  by_cases h : xs.length ≤ b
  · rw [decide_eq_false (by omega), cond_false, show (b : Int) - (xs.length : Int) = ((b - xs.length : Nat) : Int) by omega,
      iter_sz (xs := xs) (c := pc_Int64S) (sz := m_laws_szInt64S)
        (fun n x b hx => by unfold m_laws_szInt64SS_L0; rw [dec_lt (get_lt hx), cond_true, getI_some hx]; rfl)
        (fun b => by unfold m_laws_szInt64SS_L0; rw [dec_self]; rfl) k.1 (fun x hx => pz_Int64S (k.2 x hx)) (by omega), Option.bind_some]
    by_cases h2 : (xs.map pc_Int64S).sum ≤ b - xs.length
    · rw [if_pos h2, szOut_ok (by omega)]
      unfold m_laws_szInt64SS_A0; simp only; congr 2; omega
    · rw [if_neg h2, szOut_no (by omega)]; rfl
  · rw [decide_eq_true (by omega), szOut_no (by omega)]; rfl
theorem pt_Int64SS {xs : List (List Int)} (hl : pc_Int64SS xs ≤ 1048576) : m_laws_toInt64SS xs = some xs := by
  have hlen : xs.length ≤ 1048576 := Nat.le_trans pc_Int64SS_len hl
  unfold m_laws_toInt64SS
  rw [makeI_some (by omega), Option.bind_some, iter_to (xs := xs) (z := ([] : List Int)) (cp := m_laws_toInt64S)
    (fun n x ys hx => by unfold m_laws_toInt64SS_L0; rw [dec_lt (get_lt hx), cond_true, getI_some hx]; rfl)
    (fun ys => by unfold m_laws_toInt64SS_L0; rw [dec_self]; rfl) hlen (fun x hx => pt_Int64S (by have := pc_Int64SS_mem hx; omega))]
  rfl
theorem pe_Int64SS {xs ys : List (List Int)} (hl : pc_Int64SS xs ≤ 1048576) : m_laws_eqInt64SS xs ys = some (decide (xs = ys)) := by
  have hlen : xs.length ≤ 1048576 := Nat.le_trans pc_Int64SS_len hl
  unfold m_laws_eqInt64SS
  by_cases h : xs.length = ys.length
  · rw [decide_eq_true (by omega), Bool.not_true, cond_false, iter_eq (xs := xs) (ys := ys) (eq := m_laws_eqInt64S)
      (fun n x y hx hy => by unfold m_laws_eqInt64SS_L0; rw [dec_lt (get_lt hx), cond_true, getI_some hx, getI_some hy]; rfl)
      (by unfold m_laws_eqInt64SS_L0; rw [dec_self]; rfl) (by omega) h (fun x hx y => pe_Int64S (by have := pc_Int64SS_mem hx; omega))]
    by_cases e : xs = ys
    · rw [if_pos e, decide_eq_true e]; rfl
    · rw [if_neg e, decide_eq_false e]; rfl
  · rw [decide_eq_false (by omega), decide_eq_false (fun e => h (by rw [e]))]; rfl
def pqE_Int64SS (x : List Int) : Nat := 0 + pq_Int64S x
def pq_Int64SS (xs : List (List Int)) : Nat := (xs.map pqE_Int64SS).sum
theorem pqE_Int64SS_le (x : List Int) : pqE_Int64SS x ≤ 8 + 8 * pc_Int64S x := by
  unfold pqE_Int64SS
  have h0 := pq_Int64S_le x
  omega
theorem pq_Int64SS_le (xs : List (List Int)) : pq_Int64SS xs ≤ 8 * pc_Int64SS xs := by
  unfold pq_Int64SS pc_Int64SS
  exact pl_sum_le (fun x => pqE_Int64SS_le x)
noncomputable def pmk_Int64SS (x : List Int) (k : Int) : Option (Int × (List Int)) := (m_laws_markInt64S x k).bind fun r0 => some (r0.1, r0.2)
noncomputable def phe_Int64SS (x : List Int) (k : Int) : Option Int := (m_laws_heldInt64S x k).bind fun r0 => bif decide (r0 < 0) then some (-1) else some r0
theorem pmE_Int64SS (x : List Int) (hc : pc_Int64S x ≤ 1048576) : ∀ k : Nat, k + pqE_Int64SS x ≤ 4611686018427387904 → ∃ x', pmk_Int64SS x k = some (((k + pqE_Int64SS x : Nat) : Int), x') ∧ phe_Int64SS x' k = some ((k + pqE_Int64SS x : Nat) : Int) := fun k hk => by
  unfold pqE_Int64SS at hk ⊢
  obtain ⟨a0, m0, g0⟩ := pm_Int64S (xs := x) (by omega) (k := k) (by omega)
  have n0 : decide ((((k) + pq_Int64S x : Nat) : Int) < 0) = false := decide_eq_false (by omega)
  have tot : ((k + pq_Int64S x : Nat) : Int) = ((k + (0 + pq_Int64S x) : Nat) : Int) := by omega
  refine ⟨a0, ?_, ?_⟩
  · unfold pmk_Int64SS; simp only [m0, Option.bind_some] <;> rw [← tot]
  · unfold phe_Int64SS; simp only [g0, n0, Option.bind_some, decide_true, Bool.not_true, cond_false] <;> rw [← tot]
theorem pm_Int64SS {xs : List (List Int)} (hl : pc_Int64SS xs ≤ 1048576) {k : Nat} (hk : k + pq_Int64SS xs ≤ 4611686018427387904) : ∃ xs', m_laws_markInt64SS xs k = some (((k + pq_Int64SS xs : Nat) : Int), xs') ∧ m_laws_heldInt64SS xs' k = some ((k + pq_Int64SS xs : Nat) : Int) := by
  obtain ⟨xs', h1, h2, h3⟩ := iter_mark (xs := xs) (m := pqE_Int64SS) (mk := pmk_Int64SS) (held := phe_Int64SS) (step := m_laws_markInt64SS_L0) (hstep := m_laws_heldInt64SS_L0)
    (fun n ys x k hk hx => by
      have hn := get_lt hx
      have gen : m_laws_markInt64SS_L0 (ys, (k : Int), (n : Int)) = (pmk_Int64SS x k).bind fun r => some (.next (ys.set n r.2, r.1, w64 ((n : Int) + 1))) := by
        unfold m_laws_markInt64SS_L0 pmk_Int64SS
        simp only [dec_lt hn, cond_true, getI_some hx, Option.bind_some, Int.toNat_natCast, pl_get_set hn, pl_get_set2 hn, pl_get_set3 hn, pl_get_set4 hn, pl_get_set5 hn, pl_get_set6 hn, pl_get_set7 hn, List.set_set, Option.bind_assoc]
      exact gen)
    (fun ys k => by unfold m_laws_markInt64SS_L0; rw [dec_self]; rfl)
    (fun n ys x k hk hx => by
      unfold m_laws_heldInt64SS_L0 phe_Int64SS
      rw [dec_lt (get_lt hx), cond_true, getI_some hx]
      simp only [Option.bind_some, pl_condB, pl_cond2, Option.bind_assoc, pl_neg1, cond_true, cond_false, dec_neg])
    (fun ys k => by unfold m_laws_heldInt64SS_L0; rw [dec_self]; rfl)
    (by have := pc_Int64SS_len (xs := xs); omega) (fun x hx => pmE_Int64SS x (by have := pc_Int64SS_mem hx; omega)) (k := k) hk
  exact ⟨xs', by unfold m_laws_markInt64SS; rw [h1]; rfl, by unfold m_laws_heldInt64SS; rw [h3]; rfl⟩
def pc_Policy (x : Policy) : Nat := pc_Int64SS x.Next
theorem pi_Policy (x y : Policy) : (x.Next = y.Next) ↔ x = y := by cases x; cases y; simp
theorem pz_Policy {x : Policy} (k : k_Policy x) : SzP m_laws_szPolicy pc_Policy x := fun b hb => by
  unfold m_laws_szPolicy pc_Policy
  rw [show pc_Int64SS x.Next = pc_Int64SS x.Next by omega]
  exact pl_szL (pz_Int64SS k (b) (by omega))
theorem pt_Policy {x : Policy} (hl : pc_Policy x ≤ 1048576) : m_laws_toPolicy x = some x := by
  unfold pc_Policy at hl
  unfold m_laws_toPolicy
  simp only [pt_Int64SS (xs := x.Next) (by omega), Option.bind_some]
theorem pe_Policy {x y : Policy} (hl : pc_Policy x ≤ 1048576) : m_laws_eqPolicy x y = some (decide (x = y)) := by
  unfold pc_Policy at hl
  unfold m_laws_eqPolicy
  rw [← decide_eq_decide.2 (pi_Policy x y)]
  exact pl_eqML (pe_Int64SS (by omega))
def pq_Policy (x : Policy) : Nat := pq_Int64SS x.Next
theorem pq_Policy_le (x : Policy) : pq_Policy x ≤ 8 * pc_Policy x := by
  unfold pq_Policy pc_Policy
  have h0 := pq_Int64SS_le x.Next
  omega
theorem pm_Policy {x : Policy} (hl : pc_Policy x ≤ 1048576) {k : Nat} (hk : k + pq_Policy x ≤ 4611686018427387904) : ∃ (a0 : (List (List Int))), m_laws_markPolicy x k = some (((k + pq_Policy x : Nat) : Int), a0) ∧ m_laws_heldPolicy (Policy.mk a0) k = some ((k + pq_Policy x : Nat) : Int) := by
  unfold pq_Policy at hk ⊢
  unfold pc_Policy at hl
  have l0 : x.Next.length ≤ pc_Int64SS x.Next := pc_Int64SS_len
  obtain ⟨a0, m0, g0⟩ := pm_Int64SS (xs := x.Next) (by omega) (k := k) (by omega)
  have n0 : decide ((((k) + pq_Int64SS x.Next : Nat) : Int) < 0) = false := decide_eq_false (by omega)
  have tot : ((k + pq_Int64SS x.Next : Nat) : Int) = ((k + (pq_Int64SS x.Next) : Nat) : Int) := by omega
  refine ⟨a0, ?_, ?_⟩
  · unfold m_laws_markPolicy; simp only [m0, Option.bind_some] <;> rw [← tot]
  · unfold m_laws_heldPolicy; simp only [g0, n0, Option.bind_some, cond_false] <;> rw [← tot]
end Go.Mod

namespace Go.Mod
open Go.AM
set_option linter.unusedVariables false
set_option linter.unusedSimpArgs false
def cLL (xs : List (List Int)) : Nat := xs.length + (xs.map List.length).sum
def cPol (p : Policy) : Nat := cLL p.Next
def rowOK (n : Nat) (x : List Int) : Bool := decide (x.length = 4) && x.all fun v => decide (-1 ≤ v) && decide (v ≤ (n : Int) - 1)
def vP (p : Policy) : Bool := (decide (1 ≤ p.Next.length) && decide (p.Next.length ≤ 12)) && p.Next.all (rowOK p.Next.length)
theorem vP_len {p : Policy} (h : vP p = true) : 1 ≤ p.Next.length ∧ p.Next.length ≤ 12 := by simp [vP] at h; omega
theorem vP_row {p : Policy} (h : vP p = true) {x : List Int} (hx : x ∈ p.Next) : x.length = 4 ∧ ∀ v ∈ x, -1 ≤ v ∧ v ≤ (p.Next.length : Int) - 1 := by
  simp only [vP, Bool.and_eq_true, List.all_eq_true] at h
  have := h.2 x hx
  simp only [rowOK, Bool.and_eq_true, decide_eq_true_eq, List.all_eq_true] at this
  exact this
theorem dec_leI {a : Nat} : decide ((1 : Int) ≤ (a : Int)) = decide (1 ≤ a) := by by_cases h : 1 ≤ a <;> simp [h] <;> omega
theorem dec_le12 {a : Nat} : decide ((a : Int) ≤ 12) = decide (a ≤ 12) := by by_cases h : a ≤ 12 <;> simp [h] <;> omega
theorem spec_row {p : Policy} {x : List Int} (hx : x.length = 4) (hn : p.Next.length ≤ 12) (h1 : 1 ≤ p.Next.length) : iter (m_spec_l10Is_L1 p x) 0 = some (bif x.all fun v => decide (-1 ≤ v) && decide (v ≤ (p.Next.length : Int) - 1) then .inl () else .inr false) := by
  have h := iter_for (step := m_spec_l10Is_L1 p x) x (fun n (_ : Unit) => (n : Int)) (fun _ v _ => bif (decide (-1 ≤ v) && decide (v ≤ (p.Next.length : Int) - 1)) then some (.next ()) else some (.out (.inr false))) (fun _ => .inl ())
    (fun n v r hv => by
      have hlt := get_lt hv
      unfold m_spec_l10Is_L1
      rw [decide_eq_true (by omega), cond_true, getI_some hv, Option.bind_some, w64_eq (n := (p.Next.length : Int) - 1) (by omega)]
      unfold m_spec_l00In
      rw [Option.bind_some, w64_succ (by omega)]
      cases (decide (-1 ≤ v) && decide (v ≤ (p.Next.length : Int) - 1)) <;> rfl)
    (fun r => by unfold m_spec_l10Is_L1; rw [hx]; rfl) ()
  rw [forL_all (fun v => decide (-1 ≤ v) && decide (v ≤ (p.Next.length : Int) - 1)) _ _ (fun n x _ => rfl)] at h
  exact h
theorem spec_vP {p : Policy} (hl : cPol p ≤ 1048576) : m_spec_l10Is p = some (vP p) := by
  unfold m_spec_l10Is m_spec_l00In vP
  rw [Option.bind_some, dec_leI, dec_le12]
  cases h0 : decide (1 ≤ p.Next.length) && decide (p.Next.length ≤ 12) with
  | false => rfl
  | true =>
    simp only [Bool.and_eq_true, decide_eq_true_eq] at h0
    have h := iter_for (step := m_spec_l10Is_L0 p) p.Next (fun n (_ : Unit) => (n : Int)) (fun _ x _ => bif rowOK p.Next.length x then some (.next ()) else some (.out (.inr false))) (fun _ => .inl ())
      (fun n x r hx => by
        have hlt := get_lt hx
        unfold m_spec_l10Is_L0 rowOK
        rw [dec_lt hlt, cond_true, getI_some hx, Option.bind_some]
        by_cases h4 : x.length = 4
        · rw [decide_eq_true h4, decide_eq_true (show (x.length : Int) = 4 by omega), Bool.not_true, cond_false, spec_row h4 h0.2 h0.1, Bool.true_and, Option.bind_some]
          cases x.all fun v => decide (-1 ≤ v) && decide (v ≤ (p.Next.length : Int) - 1)
          · rfl
          · unfold m_spec_l10Is_A1
            simp only [cond_true]
            rw [w64_succ (by omega)]; rfl
        · rw [decide_eq_false h4, decide_eq_false (show ¬ (x.length : Int) = 4 by omega)]; rfl)
      (fun r => by unfold m_spec_l10Is_L0; rw [dec_self]; rfl) ()
    rw [forL_all (rowOK p.Next.length) _ _ (fun n x _ => rfl)] at h
    rw [Bool.not_true, cond_false, show (0 : Int) = ((0 : Nat) : Int) from rfl, h, Option.bind_some, Bool.true_and]
    cases p.Next.all (rowOK p.Next.length) <;> rfl
theorem impl_all {xs : List Int} {a b : Int} : m_impl_allWithin xs a b = some (xs.all fun x => decide (a ≤ x) && decide (x ≤ b)) := by
  unfold m_impl_allWithin
  rw [forL_all (fun x => decide (a ≤ x) && decide (x ≤ b)) (f := .inr false) xs 0 (fun n x _ => by
    unfold m_impl_allWithin_L0 m_impl_within
    rw [Option.bind_some]
    cases (decide (a ≤ x) && decide (x ≤ b)) <;> rfl), Option.bind_some]
  cases xs.all fun x => decide (a ≤ x) && decide (x ≤ b) <;> rfl
theorem impl_vP {p : Policy} : m_impl_ValidPolicy p = some (vP p) := by
  unfold m_impl_ValidPolicy m_impl_size m_impl_within vP
  rw [Option.bind_some, Option.bind_some, dec_leI, dec_le12]
  cases h0 : decide (1 ≤ p.Next.length) && decide (p.Next.length ≤ 12) with
  | false => rfl
  | true =>
    simp only [Bool.and_eq_true, decide_eq_true_eq] at h0
    rw [Bool.not_true, cond_false, forL_all (rowOK p.Next.length) (f := .inr false) p.Next 0 (fun n x _ => by
      unfold m_impl_ValidPolicy_L0 rowOK
      by_cases h4 : x.length = 4
      · rw [decide_eq_true h4, decide_eq_true (show (x.length : Int) = 4 by omega), Bool.not_true, cond_false, impl_all, Option.bind_some, w64_eq (n := (p.Next.length : Int) - 1) (by omega), Bool.true_and]
        cases x.all fun v => decide (-1 ≤ v) && decide (v ≤ (p.Next.length : Int) - 1) <;> rfl
      · rw [decide_eq_false h4, decide_eq_false (show ¬ (x.length : Int) = 4 by omega)]; rfl), Option.bind_some, Bool.true_and]
    cases p.Next.all (rowOK p.Next.length) <;> rfl
def Edge (p : Policy) (a b : Int) : Prop := ∃ row, 0 ≤ a ∧ p.Next[a.toNat]? = some row ∧ b ∈ row ∧ 0 ≤ b
inductive Reach (p : Policy) : Int → Prop where
  | zero : Reach p 0
  | step {a b : Int} : Reach p a → Edge p a b → Reach p b
theorem Edge.rng {p : Policy} (hv : vP p = true) {a b : Int} (h : Edge p a b) : 0 ≤ b ∧ b < p.Next.length := by
  obtain ⟨row, _, h1, h2, h3⟩ := h
  have := (vP_row hv (List.mem_of_getElem? h1)).2 b h2
  omega
theorem Reach.rng {p : Policy} (hv : vP p = true) {a : Int} (h : Reach p a) : 0 ≤ a ∧ a < p.Next.length := by
  cases h with
  | zero => have := vP_len hv; omega
  | step _ e => exact e.rng hv
theorem nodup_len : ∀ (n : Nat) (xs : List Int), xs.Nodup → (∀ x ∈ xs, 0 ≤ x ∧ x < n) → xs.length ≤ n := by
  intro n
  induction n with
  | zero =>
    intro xs _ h
    cases xs with
    | nil => exact Nat.le_refl 0
    | cons x r => have := h x (by simp); omega
  | succ n ih =>
    intro xs hn h
    have h1 := ih (xs.erase (n : Int)) (hn.erase _) (fun x hx => by
      rw [hn.mem_erase_iff] at hx
      have := h x hx.2
      have h2 := hx.1
      omega)
    rw [List.length_erase] at h1
    split at h1 <;> omega
structure Ord (p : Policy) (L : List Int) (i : Nat) : Prop where
  nd : L.Nodup
  rc : ∀ v ∈ L, Reach p v
  z : 0 ∈ L
  cl : ∀ (j : Nat) a b, j < i → L[j]? = some a → Edge p a b → b ∈ L
theorem Ord.len {p : Policy} (hv : vP p = true) {L : List Int} {i : Nat} (h : Ord p L i) : L.length ≤ p.Next.length := nodup_len _ _ h.nd (fun x hx => (h.rc x hx).rng hv)
theorem getI_of {α : Type} {xs : List α} {x : Int} {v : α} (h0 : 0 ≤ x) (h : xs[x.toNat]? = some v) : getI xs x = some v := by
  unfold getI; rw [decide_eq_true h0]; exact h
def On (s : List Bool) (a : Int) : Prop := 0 ≤ a ∧ s[a.toNat]? = some true
structure Seen (p : Policy) (s : List Bool) : Prop where
  len : s.length = p.Next.length
  rc : ∀ a, On s a → Reach p a
theorem On.set {s : List Bool} {b : Int} (h0 : 0 ≤ b) (hb : b < s.length) {a : Int} : On (s.set b.toNat true) a ↔ On s a ∨ a = b := by
  unfold On
  rw [List.getElem?_set]
  by_cases e : b.toNat = a.toNat
  · rw [if_pos e, if_pos (by omega)]
    constructor
    · rintro ⟨h1, _⟩; exact .inr (by omega)
    · rintro (⟨h1, _⟩ | rfl)
      · exact ⟨h1, rfl⟩
      · exact ⟨h0, rfl⟩
  · rw [if_neg e]
    constructor
    · exact fun h => .inl h
    · rintro (h | rfl)
      · exact h
      · exact absurd rfl e
def cnt (s : List Bool) : Nat := (s.filter id).length
end Go.Mod

namespace Go.Mod
open Go.AM
set_option linter.unusedVariables false
def Mt (R : Nat → Nat → Prop) : Option Nat → Option Nat → Prop
  | none, none => True
  | some x, some y => R x y
  | _, _ => False
theorem Mt.mono {R R' : Nat → Nat → Prop} (h : ∀ x y, R x y → R' x y) {a b : Option Nat} (m : Mt R a b) : Mt R' a b := by
  cases a <;> cases b <;> simp only [Mt] at * <;> first | exact h _ _ m | exact m
def Rr (δ : Nat → Nat → Option Nat) : Nat → Nat → Nat → Prop
  | 0, _, _ => True
  | r + 1, a, b => Rr δ r a b ∧ ∀ e, e < 4 → Mt (Rr δ r) (δ a e) (δ b e)
section
variable {δ : Nat → Nat → Option Nat}
theorem Rr.refl : ∀ (r a : Nat), Rr δ r a a
  | 0, _ => trivial
  | r + 1, a => ⟨Rr.refl r a, fun e _ => by cases δ a e with | none => trivial | some x => exact Rr.refl r x⟩
theorem Rr.symm : ∀ {r a b : Nat}, Rr δ r a b → Rr δ r b a
  | 0, _, _, _ => trivial
  | r + 1, a, b, h => ⟨Rr.symm h.1, fun e he => by
    have := h.2 e he
    cases h1 : δ a e <;> cases h2 : δ b e <;> rw [h1, h2] at this <;> simp only [Mt] at * <;> exact Rr.symm this⟩
theorem Rr.trans : ∀ {r a b c : Nat}, Rr δ r a b → Rr δ r b c → Rr δ r a c
  | 0, _, _, _, _, _ => trivial
  | r + 1, a, b, c, h, g => ⟨Rr.trans h.1 g.1, fun e he => by
    have h1 := h.2 e he
    have g1 := g.2 e he
    cases x : δ a e <;> cases y : δ b e <;> cases z : δ c e <;> rw [x, y] at h1 <;> rw [y, z] at g1 <;> simp only [Mt] at * <;> first | exact Rr.trans h1 g1 | trivial⟩
theorem Rr.le {r m a b : Nat} (hm : r ≤ m) (h : Rr δ m a b) : Rr δ r a b := by
  induction hm with
  | refl => exact h
  | step _ ih => exact ih h.1
def Stab4 (δ : Nat → Nat → Option Nat) (n r : Nat) : Prop := ∀ a b, a < n → b < n → Rr δ r a b → Rr δ (r + 1) a b
def Clo (δ : Nat → Nat → Option Nat) (n : Nat) : Prop := ∀ a e x, a < n → e < 4 → δ a e = some x → x < n
theorem Stab4.all {n r : Nat} (hc : Clo δ n) (h : Stab4 δ n r) : ∀ (m : Nat) a b, a < n → b < n → Rr δ r a b → Rr δ (r + m) a b
  | 0, _, _, _, _, h1 => h1
  | m + 1, a, b, ha, hb, h1 => ⟨h.all hc m a b ha hb h1, fun e he => by
    have := (h a b ha hb h1).2 e he
    cases x : δ a e <;> cases y : δ b e <;> rw [x, y] at this <;> simp only [Mt] at *
    exact h.all hc m _ _ (hc _ _ _ ha he x) (hc _ _ _ hb he y) this⟩
def Ra (δ : Nat → Nat → Option Nat) (a b : Nat) : Prop := ∀ r, Rr δ r a b
theorem Stab4.ra {n r : Nat} (hc : Clo δ n) (h : Stab4 δ n r) {a b : Nat} (ha : a < n) (hb : b < n) : Rr δ r a b ↔ Ra δ a b :=
  ⟨fun h1 m => (h.all hc m a b ha hb h1).le (by omega), fun h1 => h1 r⟩
theorem Ra.step {a b : Nat} (h : Ra δ a b) {e : Nat} (he : e < 4) : Mt (Ra δ) (δ a e) (δ b e) := by
  have h1 := fun r => (h (r + 1)).2 e he
  cases x : δ a e <;> cases y : δ b e
  · trivial
  · have := h1 0; rw [x, y] at this; exact this
  · have := h1 0; rw [x, y] at this; exact this
  · exact fun r => by have := h1 r; rw [x, y] at this; exact this
theorem Rr.emb {δ' : Nat → Nat → Option Nat} {ι : Nat → Nat} {n : Nat} (hc : Clo δ n) (hi : ∀ a e, a < n → e < 4 → δ' (ι a) e = (δ a e).map ι) :
    ∀ (r : Nat) {a b : Nat}, a < n → b < n → (Rr δ r a b ↔ Rr δ' r (ι a) (ι b))
  | 0, _, _, _, _ => Iff.rfl
  | r + 1, a, b, ha, hb => by
    have ih := Rr.emb hc hi r (a := a) (b := b) ha hb
    constructor
    · rintro ⟨h1, h2⟩
      refine ⟨ih.1 h1, fun e he => ?_⟩
      have := h2 e he
      rw [hi a e ha he, hi b e hb he]
      cases x : δ a e <;> cases y : δ b e <;> rw [x, y] at this <;> simp only [Mt, Option.map_some, Option.map_none] at *
      exact (Rr.emb hc hi r (hc _ _ _ ha he x) (hc _ _ _ hb he y)).1 this
    · rintro ⟨h1, h2⟩
      refine ⟨ih.2 h1, fun e he => ?_⟩
      have := h2 e he
      rw [hi a e ha he, hi b e hb he] at this
      cases x : δ a e <;> cases y : δ b e <;> rw [x, y] at this <;> simp only [Mt, Option.map_some, Option.map_none] at *
      exact (Rr.emb hc hi r (hc _ _ _ ha he x) (hc _ _ _ hb he y)).2 this
theorem Ra.emb {δ' : Nat → Nat → Option Nat} {ι : Nat → Nat} {n : Nat} (hc : Clo δ n) (hi : ∀ a e, a < n → e < 4 → δ' (ι a) e = (δ a e).map ι) {a b : Nat} (ha : a < n) (hb : b < n) :
    Ra δ a b ↔ Ra δ' (ι a) (ι b) := ⟨fun h r => (Rr.emb hc hi r ha hb).1 (h r), fun h r => (Rr.emb hc hi r ha hb).2 (h r)⟩
end
structure Num (R : Nat → Nat → Prop) (n : Nat) (f : List Int) (c : Nat) : Prop where
  len : f.length = n
  rng : ∀ (a : Nat) v, f[a]? = some v → 0 ≤ v ∧ v < c
  eqv : ∀ (a b : Nat) v w, f[a]? = some v → f[b]? = some w → (v = w ↔ R a b)
  sur : ∀ i : Nat, i < c → ∃ a : Nat, f[a]? = some (i : Int)
theorem Num.at {R : Nat → Nat → Prop} {n c : Nat} {f : List Int} (h : Num R n f c) {a : Nat} (ha : a < n) : ∃ v, f[a]? = some v ∧ 0 ≤ v ∧ v < c := by
  have ha' : a < f.length := by rw [h.len]; exact ha
  exact ⟨f[a], List.getElem?_eq_getElem ha', h.rng a _ (List.getElem?_eq_getElem ha')⟩
theorem nodup_int : ∀ (n : Nat) (xs : List Int), xs.Nodup → (∀ x ∈ xs, 0 ≤ x ∧ x < n) → xs.length ≤ n := by
  intro n
  induction n with
  | zero =>
    intro xs _ h
    cases xs with
    | nil => exact Nat.le_refl _
    | cons x r => have := h x (by simp); omega
  | succ n ih =>
    intro xs hn h
    by_cases hm : (n : Int) ∈ xs
    · have := ih (xs.erase (n : Int)) (hn.erase _) (fun x hx => by
        obtain ⟨h1, h2⟩ := hn.mem_erase_iff.1 hx
        have := h x h2
        omega)
      rw [List.length_erase_of_mem hm] at this
      omega
    · have := ih xs hn (fun x hx => by
        have := h x hx
        have : x ≠ n := fun e => hm (e ▸ hx)
        omega)
      omega
theorem Num.pick {R : Nat → Nat → Prop} {n c : Nat} {f : List Int} (h : Num R n f c) : ∀ k : Nat, k ≤ c → ∃ s : List Nat, s.length = k ∧ ∀ (i : Nat) a, s[i]? = some a → f[a]? = some (i : Int)
  | 0, _ => ⟨[], rfl, fun i a hi => by simp at hi⟩
  | k + 1, hk => by
    obtain ⟨s, h1, h2⟩ := h.pick k (by omega)
    obtain ⟨a, ha⟩ := h.sur k (by omega)
    refine ⟨s ++ [a], by simp [h1], fun i b hi => ?_⟩
    rcases Nat.lt_or_ge i s.length with hlt | hge
    · rw [List.getElem?_append_left hlt] at hi; exact h2 i b hi
    · rw [List.getElem?_append_right hge] at hi
      have : i - s.length = 0 := by
        rcases Nat.eq_zero_or_pos (i - s.length) with h | h
        · exact h
        · rw [List.getElem?_eq_none (by simp; omega)] at hi; cases hi
      rw [this] at hi
      simp at hi
      subst hi
      rw [show i = k by omega]; exact ha
theorem Num.val {R : Nat → Nat → Prop} {n c : Nat} {f : List Int} (h : Num R n f c) {a : Nat} {v : Int} (ha : f[a]? = some v) : a < n := by
  rw [← h.len]; exact (List.getElem?_eq_some_iff.1 ha).1
theorem Num.le {R R' : Nat → Nat → Prop} {n c c' : Nat} {f f' : List Int} (h : Num R n f c) (h' : Num R' n f' c') (hs : ∀ a b, a < n → b < n → R' a b → R a b) : c ≤ c' := by
  obtain ⟨s, h1, h2⟩ := h.pick c (Nat.le_refl _)
  have key := nodup_int c' (s.map fun a => (f'[a]?).getD (-1)) ?_ ?_
  · simpa [h1] using key
  · refine List.pairwise_map.2 (List.pairwise_iff_getElem.2 fun i j hi hj hij e => ?_)
    have a1 := h2 i _ (List.getElem?_eq_getElem hi)
    have a2 := h2 j _ (List.getElem?_eq_getElem hj)
    obtain ⟨v, hv, _⟩ := h'.at (h.val a1)
    obtain ⟨w, hw, _⟩ := h'.at (h.val a2)
    rw [hv, hw] at e
    have := (h.eqv _ _ _ _ a1 a2).2 (hs _ _ (h.val a1) (h.val a2) ((h'.eqv _ _ _ _ hv hw).1 e))
    omega
  · intro x hx
    obtain ⟨a, ha, rfl⟩ := List.mem_map.1 hx
    obtain ⟨i, hi, rfl⟩ := List.getElem_of_mem ha
    have a1 := h2 i _ (List.getElem?_eq_getElem hi)
    obtain ⟨v, hv, h3⟩ := h'.at (h.val a1)
    rw [hv]; exact h3
theorem Num.same {R R' : Nat → Nat → Prop} {n c : Nat} {f f' : List Int} (h : Num R n f c) (h' : Num R' n f' c) (hs : ∀ a b, a < n → b < n → R' a b → R a b) : ∀ a b, a < n → b < n → R a b → R' a b := by
  intro a b ha hb hab
  obtain ⟨va, fa, ra⟩ := h.at ha
  obtain ⟨vb, fb, rb⟩ := h.at hb
  obtain ⟨wa, ga, sa⟩ := h'.at ha
  obtain ⟨wb, gb, sb⟩ := h'.at hb
  refine (h'.eqv _ _ _ _ ga gb).1 (Classical.byContradiction fun hne => ?_)
  have hv : va = vb := (h.eqv _ _ _ _ fa fb).2 hab
  subst hv
  obtain ⟨s, h1, h2⟩ := h.pick c (Nat.le_refl _)
  -- in the class of both, the first of them
  have hk : va.toNat < s.length := by omega
  have key := nodup_int c (wb :: (s.set va.toNat a).map fun x => (f'[x]?).getD (-1)) ?_ ?_
  · simp [h1] at key
    omega
  · have hset : ∀ (i : Nat) x, (s.set va.toNat a)[i]? = some x → f[x]? = some (i : Int) := by
      intro i x hx
      rw [List.getElem?_set] at hx
      split at hx
      · rename_i hi
        obtain rfl : a = x := by simpa [hk] using hx
        rw [fa]; congr 1; omega
      · exact h2 i x hx
    refine List.nodup_cons.2 ⟨fun hm => ?_, List.pairwise_map.2 (List.pairwise_iff_getElem.2 fun i j hi hj hij e => ?_)⟩
    · obtain ⟨x, hx, e⟩ := List.mem_map.1 hm
      obtain ⟨i, hi, rfl⟩ := List.getElem_of_mem hx
      have a1 := hset i _ (List.getElem?_eq_getElem hi)
      obtain ⟨v, hv, _⟩ := h'.at (h.val a1)
      rw [hv] at e
      have e : v = wb := e
      subst e
      have := (h.eqv _ _ _ _ a1 fb).2 (hs _ _ (h.val a1) hb ((h'.eqv _ _ _ _ hv gb).1 rfl))
      have hi2 : i = va.toNat := by omega
      have hx : (s.set va.toNat a)[i]? = some a := by rw [hi2, List.getElem?_set_self hk]
      rw [List.getElem?_eq_getElem hi] at hx
      have hx := Option.some.inj hx
      rw [hx, ga] at hv
      exact hne (Option.some.inj hv)
    · have a1 := hset i _ (List.getElem?_eq_getElem hi)
      have a2 := hset j _ (List.getElem?_eq_getElem hj)
      obtain ⟨v, hv, _⟩ := h'.at (h.val a1)
      obtain ⟨w, hw, _⟩ := h'.at (h.val a2)
      rw [hv, hw] at e
      have := (h.eqv _ _ _ _ a1 a2).2 (hs _ _ (h.val a1) (h.val a2) ((h'.eqv _ _ _ _ hv hw).1 e))
      omega
  · intro x hx
    rcases List.mem_cons.1 hx with rfl | hx
    · exact sb
    · obtain ⟨y, hy, rfl⟩ := List.mem_map.1 hx
      have hyn : y < n := by
        rcases List.mem_or_eq_of_mem_set hy with hy | rfl
        · obtain ⟨i, hi, rfl⟩ := List.getElem_of_mem hy
          exact h.val (h2 i _ (List.getElem?_eq_getElem hi))
        · exact ha
      obtain ⟨v, hv, h3⟩ := h'.at hyn
      rw [hv]; exact h3
theorem num_id (n : Nat) : Num (fun a b => a = b) n ((List.range n).map fun i : Nat => (i : Int)) n := by
  have key : ∀ (a : Nat) v, ((List.range n).map fun i : Nat => (i : Int))[a]? = some v → a < n ∧ v = a := by
    intro a v hv
    rw [List.getElem?_map] at hv
    by_cases h : a < n
    · rw [List.getElem?_range h] at hv; exact ⟨h, (Option.some.inj hv).symm⟩
    · rw [List.getElem?_eq_none (by simp; omega)] at hv; cases hv
  refine ⟨by simp, fun a v hv => ?_, fun a b v w hv hw => ?_, fun i hi => ⟨i, by rw [List.getElem?_map, List.getElem?_range hi]; rfl⟩⟩
  · have := key a v hv; omega
  · have h1 := key a v hv
    have h2 := key b w hw
    omega
theorem Num.cle {R : Nat → Nat → Prop} {n c : Nat} {f : List Int} (h : Num R n f c) : c ≤ n :=
  h.le (num_id n) (fun a b ha _ e => by
    subst e
    obtain ⟨v, hv, _⟩ := h.at ha
    exact (h.eqv _ _ _ _ hv hv).1 rfl)
theorem Num.pos {R : Nat → Nat → Prop} {n c : Nat} {f : List Int} (h : Num R n f c) (hn : 1 ≤ n) : 1 ≤ c := by
  obtain ⟨v, _, h1, h2⟩ := h.at hn
  omega
theorem Num.ex {R : Nat → Nat → Prop} (hr : ∀ a, R a a) (hs : ∀ a b, R a b → R b a) (ht : ∀ a b c, R a b → R b c → R a c) : ∀ n, ∃ f c, Num R n f c
  | 0 => ⟨[], 0, rfl, fun a v h => by simp at h, fun a b v w h => by simp at h, fun i hi => by omega⟩
  | n + 1 => by
    obtain ⟨f, c, h⟩ := Num.ex hr hs ht n
    by_cases hx : ∃ a, a < n ∧ R a n
    · obtain ⟨a, ha, hr1⟩ := hx
      obtain ⟨v, hv, h0, h1⟩ := h.at ha
      have hget : ∀ (i : Nat) w, (f ++ [v])[i]? = some w → (i < n ∧ f[i]? = some w) ∨ (i = n ∧ w = v) := by
        intro i w hi
        rcases Nat.lt_or_ge i f.length with hlt | hge
        · rw [List.getElem?_append_left hlt] at hi; exact .inl ⟨by rw [← h.len]; exact hlt, hi⟩
        · rw [List.getElem?_append_right hge] at hi
          have h0 : i - f.length = 0 := by
            rcases Nat.eq_zero_or_pos (i - f.length) with h | h
            · exact h
            · rw [List.getElem?_eq_none (by simp; omega)] at hi; cases hi
          rw [h0] at hi
          simp at hi
          exact .inr ⟨by have := h.len; omega, hi.symm⟩
      refine ⟨f ++ [v], c, by simp [h.len], fun i w hi => ?_, fun i j u w hi hj => ?_, fun i hi => ?_⟩
      · rcases hget i w hi with ⟨_, hi⟩ | ⟨_, rfl⟩
        · exact h.rng _ _ hi
        · exact ⟨h0, h1⟩
      · rcases hget i u hi with ⟨_, hi2⟩ | ⟨rfl, rfl⟩ <;> rcases hget j w hj with ⟨_, hj2⟩ | ⟨rfl, rfl⟩
        · exact h.eqv _ _ _ _ hi2 hj2
        · rw [h.eqv _ _ _ _ hi2 hv]
          exact ⟨fun g => ht _ _ _ g hr1, fun g => ht _ _ _ g (hs _ _ hr1)⟩
        · rw [h.eqv _ _ _ _ hv hj2]
          exact ⟨fun g => ht _ _ _ (hs _ _ hr1) g, fun g => ht _ _ _ hr1 g⟩
        · exact ⟨fun _ => hr _, fun _ => rfl⟩
      · obtain ⟨b, hb⟩ := h.sur i hi
        exact ⟨b, by rw [List.getElem?_append_left (by rw [h.len]; exact h.val hb)]; exact hb⟩
    · have hget : ∀ (i : Nat) w, (f ++ [(c : Int)])[i]? = some w → (i < n ∧ f[i]? = some w) ∨ (i = n ∧ w = c) := by
        intro i w hi
        rcases Nat.lt_or_ge i f.length with hlt | hge
        · rw [List.getElem?_append_left hlt] at hi; exact .inl ⟨by rw [← h.len]; exact hlt, hi⟩
        · rw [List.getElem?_append_right hge] at hi
          have h0 : i - f.length = 0 := by
            rcases Nat.eq_zero_or_pos (i - f.length) with h | h
            · exact h
            · rw [List.getElem?_eq_none (by simp; omega)] at hi; cases hi
          rw [h0] at hi
          simp at hi
          exact .inr ⟨by have := h.len; omega, hi.symm⟩
      refine ⟨f ++ [(c : Int)], c + 1, by simp [h.len], fun i w hi => ?_, fun i j u w hi hj => ?_, fun i hi => ?_⟩
      · rcases hget i w hi with ⟨_, hi⟩ | ⟨_, rfl⟩
        · have := h.rng _ _ hi; omega
        · omega
      · rcases hget i u hi with ⟨hi', hi2⟩ | ⟨rfl, rfl⟩ <;> rcases hget j w hj with ⟨hj', hj2⟩ | ⟨rfl, rfl⟩
        · exact h.eqv _ _ _ _ hi2 hj2
        · have := h.rng _ _ hi2
          exact ⟨fun g => by omega, fun g => absurd ⟨i, hi', g⟩ hx⟩
        · have := h.rng _ _ hj2
          exact ⟨fun g => by omega, fun g => absurd ⟨j, hj', hs _ _ g⟩ hx⟩
        · exact ⟨fun _ => hr _, fun _ => rfl⟩
      · rcases Nat.lt_or_ge i c with hlt | hge
        · obtain ⟨b, hb⟩ := h.sur i hlt
          exact ⟨b, by rw [List.getElem?_append_left (by rw [h.len]; exact h.val hb)]; exact hb⟩
        · refine ⟨n, ?_⟩
          rw [List.getElem?_append_right (by rw [h.len]; omega), h.len, Nat.sub_self]
          simp; omega
section
variable {δ : Nat → Nat → Option Nat} {n : Nat}
theorem Rr.num (r : Nat) : ∃ f c, Num (Rr δ r) n f c := Num.ex (Rr.refl r) (fun _ _ h => h.symm) (fun _ _ _ h g => h.trans g) n
theorem Stab4.of_num {r c : Nat} {f f' : List Int} (h : Num (Rr δ r) n f c) (h' : Num (Rr δ (r + 1)) n f' c) : Stab4 δ n r := h.same h' (fun _ _ _ _ g => g.1)
theorem grow_num {r c c' : Nat} {f f' : List Int} (h : Num (Rr δ r) n f c) (h' : Num (Rr δ (r + 1)) n f' c') : c ≤ c' := h.le h' (fun _ _ _ _ g => g.1)
theorem stab_n (hc : Clo δ n) (hn : 1 ≤ n) : ∀ a b, a < n → b < n → (Rr δ n a b ↔ Ra δ a b) := by
  have key : ∀ r, (∃ q, q ≤ r ∧ Stab4 δ n q) ∨ ∀ f c, Num (Rr δ r) n f c → r + 1 ≤ c := by
    intro r
    induction r with
    | zero => exact .inr fun f c h => h.pos hn
    | succ r ih =>
      rcases ih with ⟨q, h1, h2⟩ | h
      · exact .inl ⟨q, by omega, h2⟩
      · by_cases hs : Stab4 δ n r
        · exact .inl ⟨r, by omega, hs⟩
        · refine .inr fun f' c' h' => ?_
          obtain ⟨f, c, hf⟩ := Rr.num (δ := δ) (n := n) r
          have h1 := h f c hf
          have h2 := grow_num hf h'
          have h3 : c ≠ c' := fun e => hs (Stab4.of_num hf (e ▸ h'))
          omega
  intro a b ha hb
  rcases key n with ⟨q, h1, h2⟩ | h
  · exact ⟨fun h3 => (h2.ra hc ha hb).1 (h3.le h1), fun h3 => h3 n⟩
  · obtain ⟨f, c, hf⟩ := Rr.num (δ := δ) (n := n) n
    have h1 := h f c hf
    have h2 := hf.cle
    omega
end
def hop {K : Type} [DecidableEq K] (cl : Nat → K) (L : List Nat) (row : List Int) : Option Nat → List Nat × List Int
  | none => (L, row ++ [-1])
  | some x => match kfind (cl x) (L.map cl) with
    | some j => (L, row ++ [(j : Int)])
    | none => (L ++ [x], row ++ [(L.length : Int)])
def hops {K : Type} [DecidableEq K] (δ : Nat → Nat → Option Nat) (cl : Nat → K) (s : Nat) : Nat → Nat → List Nat → List Int → List Nat × List Int
  | 0, _, L, row => (L, row)
  | k + 1, e, L, row => let p := hop cl L row (δ s e); hops δ cl s k (e + 1) p.1 p.2
inductive Bfs {K : Type} [DecidableEq K] (δ : Nat → Nat → Option Nat) (cl : Nat → K) : Nat → List Nat → List (List Int) → List Nat → List (List Int) → Prop
  | done {i : Nat} {L : List Nat} {out : List (List Int)} : L.length ≤ i → Bfs δ cl i L out L out
  | step {i s : Nat} {L Lf : List Nat} {out res : List (List Int)} : L[i]? = some s → Bfs δ cl (i + 1) (hops δ cl s 4 0 L []).1 (out ++ [(hops δ cl s 4 0 L []).2]) Lf res → Bfs δ cl i L out Lf res
theorem Bfs.det {K : Type} [DecidableEq K] {δ : Nat → Nat → Option Nat} {cl : Nat → K} {i : Nat} {L Lf Lg : List Nat} {out r s : List (List Int)} (h : Bfs δ cl i L out Lf r) : Bfs δ cl i L out Lg s → Lf = Lg ∧ r = s := by
  induction h with
  | done hl =>
    intro g
    cases g with
    | done _ => exact ⟨rfl, rfl⟩
    | step hs _ => have := (List.getElem?_eq_some_iff.1 hs).1; omega
  | step hs _ ih =>
    intro g
    cases g with
    | done hl => have := (List.getElem?_eq_some_iff.1 hs).1; omega
    | step hs2 g => rw [hs] at hs2; cases hs2; exact ih g
theorem kfind_map {α β : Type} [DecidableEq α] [DecidableEq β] {f : Nat → α} {g : Nat → β} {x y : Nat} : ∀ {L M : List Nat}, L.length = M.length → (∀ (j : Nat) a b, L[j]? = some a → M[j]? = some b → (f a = f x ↔ g b = g y)) → kfind (f x) (L.map f) = kfind (g y) (M.map g)
  | [], [], _, _ => rfl
  | a :: L, b :: M, hl, h => by
    simp only [List.map_cons, kfind]
    have h0 := h 0 a b rfl rfl
    have ih := kfind_map (L := L) (M := M) (by simpa using hl) (fun j p q hp hq => h (j + 1) p q (by simpa using hp) (by simpa using hq))
    by_cases hx : f a = f x
    · rw [if_pos hx, if_pos (h0.1 hx)]
    · rw [if_neg hx, if_neg (fun e => hx (h0.2 e)), ih]
  | [], _ :: _, hl, _ => by simp at hl
  | _ :: _, [], hl, _ => by simp at hl
section
variable {K K' : Type} [DecidableEq K] [DecidableEq K'] {δ δ' : Nat → Nat → Option Nat} {cl : Nat → K} {cl' : Nat → K'} {ι : Nat → Nat} {n : Nat}
theorem hop_rng {L : List Nat} {row : List Int} {o : Option Nat} (hL : ∀ x ∈ L, x < n) (ho : ∀ x, o = some x → x < n) : ∀ x ∈ (hop cl L row o).1, x < n := by
  unfold hop
  cases o with
  | none => exact hL
  | some x =>
    cases h : kfind (cl x) (L.map cl) with
    | some j => simp only [h]; exact hL
    | none =>
      simp only [h]
      intro y hy
      rcases List.mem_append.1 hy with hy | hy
      · exact hL y hy
      · simp at hy; subst hy; exact ho _ rfl
theorem hops_rng (hc : Clo δ n) {s : Nat} (hs : s < n) : ∀ (k e : Nat) (L : List Nat) (row : List Int), e + k ≤ 4 → (∀ x ∈ L, x < n) → ∀ x ∈ (hops δ cl s k e L row).1, x < n
  | 0, _, _, _, _, hL => hL
  | k + 1, e, L, row, he, hL => hops_rng hc hs k (e + 1) _ _ (by omega) (hop_rng hL (fun x hx => hc _ _ _ hs (by omega) hx))
theorem hops_emb (hc : Clo δ n) (hi : ∀ a e, a < n → e < 4 → δ' (ι a) e = (δ a e).map ι) (hcl : ∀ a b, a < n → b < n → (cl a = cl b ↔ cl' (ι a) = cl' (ι b))) {s : Nat} (hs : s < n) :
    ∀ (k e : Nat) (L : List Nat) (row : List Int), e + k ≤ 4 → (∀ x ∈ L, x < n) → hops δ' cl' (ι s) k e (L.map ι) row = ((hops δ cl s k e L row).1.map ι, (hops δ cl s k e L row).2)
  | 0, _, _, _, _, _ => rfl
  | k + 1, e, L, row, he, hL => by
    have key : hop cl' (L.map ι) row (δ' (ι s) e) = ((hop cl L row (δ s e)).1.map ι, (hop cl L row (δ s e)).2) := by
      rw [hi s e hs (by omega)]
      cases hx : δ s e with
      | none => rfl
      | some x =>
        have hxn := hc s e x hs (by omega) hx
        have hk : kfind (cl' (ι x)) ((L.map ι).map cl') = kfind (cl x) (L.map cl) := by
          rw [List.map_map]
          refine (kfind_map (f := cl) (g := cl' ∘ ι) (x := x) (y := x) rfl (fun j a b ha hb => ?_)).symm
          rw [ha] at hb; cases hb
          exact hcl a x (hL a (List.mem_of_getElem? ha)) hxn
        simp only [hop, Option.map_some, hk]
        cases kfind (cl x) (L.map cl) with
        | some j => rfl
        | none => simp
    simp only [hops, key]
    exact hops_emb hc hi hcl hs k (e + 1) _ _ (by omega) (hop_rng hL (fun x hx => hc _ _ _ hs (by omega) hx))
theorem Bfs.emb (hc : Clo δ n) (hi : ∀ a e, a < n → e < 4 → δ' (ι a) e = (δ a e).map ι) (hcl : ∀ a b, a < n → b < n → (cl a = cl b ↔ cl' (ι a) = cl' (ι b))) {i : Nat} {L Lf : List Nat} {out res : List (List Int)}
    (h : Bfs δ cl i L out Lf res) : (∀ x ∈ L, x < n) → Bfs δ' cl' i (L.map ι) out (Lf.map ι) res := by
  induction h with
  | done hl => exact fun _ => .done (by simpa using hl)
  | step hs hb ih =>
    intro hL
    have hsn := hL _ (List.mem_of_getElem? hs)
    refine .step (s := ι _) (by rw [List.getElem?_map, hs]; rfl) ?_
    rw [hops_emb hc hi hcl hsn 4 0 _ _ (Nat.le_refl _) hL]
    exact ih (hops_rng hc hsn 4 0 _ _ (Nat.le_refl _) hL)
end
end Go.Mod

namespace Go.Mod
open Go.AM
set_option linter.unusedVariables false
set_option linter.unusedSimpArgs false
abbrev nm (v : Int) : List UInt8 := Go.Lib.itoa v
theorem nm_nat (n : Nat) : nm (n : Int) = Go.Lib.decDigits n := by unfold nm Go.Lib.itoa; rw [if_neg (by omega)]; simp
theorem digit_val {d : Nat} (h : d < 10) : (UInt8.ofNat (48 + d)).toNat = 48 + d := by simp [UInt8.toNat_ofNat]; omega
theorem dd_digits : ∀ (u : Nat), ∀ b ∈ Go.Lib.decDigits u, 48 ≤ b.toNat ∧ b.toNat ≤ 57 := by
  intro u
  induction u using Nat.strongRecOn with
  | _ u ih =>
    intro b hb
    rw [Go.Lib.decDigits] at hb
    by_cases h : u < 10
    · rw [dif_pos h] at hb
      simp only [List.mem_singleton] at hb
      subst hb; rw [digit_val h]; omega
    · rw [dif_neg h] at hb
      rcases List.mem_append.1 hb with hb | hb
      · exact ih (u / 10) (by omega) b hb
      · simp only [List.mem_singleton] at hb
        subst hb; rw [digit_val (by omega)]; omega
theorem dd_ne (u : Nat) : Go.Lib.decDigits u ≠ [] := by
  rw [Go.Lib.decDigits]
  by_cases h : u < 10
  · rw [dif_pos h]; simp
  · rw [dif_neg h]; simp
theorem dd_inj : ∀ (u v : Nat), Go.Lib.decDigits u = Go.Lib.decDigits v → u = v := by
  intro u
  induction u using Nat.strongRecOn with
  | _ u ih =>
    intro v e
    rw [Go.Lib.decDigits, Go.Lib.decDigits.eq_1 v] at e
    by_cases h : u < 10 <;> by_cases g : v < 10
    · rw [dif_pos h, dif_pos g] at e
      have := congrArg (fun l => (l.headD 0).toNat) e
      simp only [List.headD_cons, digit_val h, digit_val g] at this
      omega
    · rw [dif_pos h, dif_neg g] at e
      have := congrArg List.length e
      have h1 := List.length_pos_iff.2 (dd_ne (v / 10))
      simp only [List.length_append, List.length_cons, List.length_nil] at this; omega
    · rw [dif_neg h, dif_pos g] at e
      have := congrArg List.length e
      have h1 := List.length_pos_iff.2 (dd_ne (u / 10))
      simp only [List.length_append, List.length_cons, List.length_nil] at this; omega
    · rw [dif_neg h, dif_neg g] at e
      obtain ⟨e1, e2⟩ := List.append_inj' e rfl
      have h1 := ih (u / 10) (by omega) _ e1
      have h2 := congrArg (fun l => (l.headD 0).toNat) e2
      simp only [List.headD_cons, digit_val (show u % 10 < 10 by omega), digit_val (show v % 10 < 10 by omega)] at h2
      omega
theorem dd_len : ∀ (k u : Nat), u < 10 ^ (k + 1) → (Go.Lib.decDigits u).length ≤ k + 1
  | 0, u, h => by rw [Go.Lib.decDigits, dif_pos (by omega)]; simp
  | k + 1, u, h => by
    rw [Go.Lib.decDigits]
    by_cases g : u < 10
    · rw [dif_pos g]; simp
    · rw [dif_neg g]
      have := dd_len k (u / 10) (by rw [Nat.pow_succ] at h; omega)
      simp; omega
theorem impl_dec {v : Int} (h0 : -9223372036854775808 ≤ v) (h1 : v ≤ 9223372036854775807) : m_impl_Decimal v = some (nm v) := by
  unfold m_impl_Decimal m_strconv_FormatInt
  rw [decide_eq_true rfl, decide_eq_true h0, decide_eq_true h1]
  rfl
def cel (f : List Int) (v : Int) : List UInt8 := 44 :: (if v < 0 then [120] else nm ((f[v.toNat]?).getD 0))
def keyOf (f : List Int) (x : Int) (row : List Int) : List UInt8 := nm x ++ (row.map (cel f)).flatten
theorem cut_comma : ∀ {a b s t : List UInt8}, (∀ c ∈ a, c ≠ 44) → (∀ c ∈ b, c ≠ 44) → (s = [] ∨ ∃ q, s = 44 :: q) → (t = [] ∨ ∃ q, t = 44 :: q) → a ++ s = b ++ t → a = b ∧ s = t
  | [], [], _, _, _, _, _, _, e => ⟨rfl, e⟩
  | [], y :: b, s, t, _, hb, hs, _, e => by
    rcases hs with rfl | ⟨q, rfl⟩
    · simp at e
    · simp at e; exact absurd e.1.symm (hb y (by simp))
  | x :: a, [], s, t, ha, _, _, ht, e => by
    rcases ht with rfl | ⟨q, rfl⟩
    · simp at e
    · simp at e; exact absurd e.1 (ha x (by simp))
  | x :: a, y :: b, s, t, ha, hb, hs, ht, e => by
    simp only [List.cons_append, List.cons.injEq] at e
    obtain ⟨h1, h2⟩ := cut_comma (fun c hc => ha c (by simp [hc])) (fun c hc => hb c (by simp [hc])) hs ht e.2
    exact ⟨by rw [e.1, h1], h2⟩
theorem nm_no_comma {v : Int} (h : 0 ≤ v) : ∀ c ∈ nm v, c ≠ 44 ∧ c ≠ 120 := by
  obtain ⟨n, rfl⟩ : ∃ n : Nat, v = n := ⟨v.toNat, by omega⟩
  rw [nm_nat]
  intro c hc
  have := dd_digits n c hc
  refine ⟨fun e => ?_, fun e => ?_⟩ <;> subst e <;> revert this <;> decide
theorem nm_inj {v w : Int} (hv : 0 ≤ v) (hw : 0 ≤ w) (e : nm v = nm w) : v = w := by
  obtain ⟨n, rfl⟩ : ∃ n : Nat, v = n := ⟨v.toNat, by omega⟩
  obtain ⟨m, rfl⟩ : ∃ n : Nat, w = n := ⟨w.toNat, by omega⟩
  rw [nm_nat, nm_nat] at e
  exact congrArg _ (dd_inj _ _ e)
def tgt (f : List Int) (v : Int) : Option Int := if v < 0 then none else some ((f[v.toNat]?).getD 0)
theorem cel_inj {f : List Int} (hf : ∀ (i : Nat) v, f[i]? = some v → 0 ≤ v) {a b : Int} {s t : List UInt8} (hs : s = [] ∨ ∃ q, s = 44 :: q) (ht : t = [] ∨ ∃ q, t = 44 :: q)
    (e : cel f a ++ s = cel f b ++ t) : tgt f a = tgt f b ∧ s = t := by
  have h0 : ∀ v : Int, 0 ≤ (f[v.toNat]?).getD 0 := by
    intro v
    cases h : f[v.toNat]? with
    | none => simp
    | some x => simpa using hf _ _ h
  have hc : ∀ v : Int, ∀ c ∈ (if v < 0 then [120] else nm ((f[v.toNat]?).getD 0)), c ≠ (44 : UInt8) := by
    intro v c hc
    split at hc
    · simp only [List.mem_singleton] at hc; subst hc; decide
    · exact (nm_no_comma (h0 v) c hc).1
  unfold cel at e
  simp only [List.cons_append, List.cons.injEq, true_and] at e
  obtain ⟨e1, e2⟩ := cut_comma (hc a) (hc b) hs ht e
  refine ⟨?_, e2⟩
  unfold tgt
  by_cases ha : a < 0 <;> by_cases hb : b < 0
  · rw [if_pos ha, if_pos hb]
  · rw [if_pos ha, if_neg hb] at e1
    exact absurd rfl (nm_no_comma (h0 b) 120 (by rw [← e1]; simp)).2
  · rw [if_neg ha, if_pos hb] at e1
    exact absurd rfl (nm_no_comma (h0 a) 120 (by rw [e1]; simp)).2
  · rw [if_neg ha, if_neg hb] at e1
    rw [if_neg ha, if_neg hb, nm_inj (h0 a) (h0 b) e1]
theorem flat_start {f : List Int} (row : List Int) : ((row.map (cel f)).flatten = [] ∨ ∃ q, (row.map (cel f)).flatten = 44 :: q) := by
  cases row with
  | nil => exact .inl rfl
  | cons a r => exact .inr ⟨_, rfl⟩
theorem row_inj {f : List Int} (hf : ∀ (i : Nat) v, f[i]? = some v → 0 ≤ v) : ∀ {r q : List Int}, r.length = q.length → (r.map (cel f)).flatten = (q.map (cel f)).flatten → r.map (tgt f) = q.map (tgt f)
  | [], [], _, _ => rfl
  | a :: r, b :: q, hl, e => by
    simp only [List.map_cons, List.flatten_cons] at e ⊢
    obtain ⟨h1, h2⟩ := cel_inj hf (flat_start r) (flat_start q) e
    rw [h1, row_inj hf (by simpa using hl) h2]
  | [], _ :: _, hl, _ => by simp at hl
  | _ :: _, [], hl, _ => by simp at hl
theorem key_inj {f : List Int} (hf : ∀ (i : Nat) v, f[i]? = some v → 0 ≤ v) {x y : Int} {r q : List Int} (hx : 0 ≤ x) (hy : 0 ≤ y) (hl : r.length = q.length) :
    keyOf f x r = keyOf f y q ↔ x = y ∧ r.map (tgt f) = q.map (tgt f) := by
  constructor
  · intro e
    obtain ⟨h1, h2⟩ := cut_comma (fun c hc => (nm_no_comma hx c hc).1) (fun c hc => (nm_no_comma hy c hc).1) (flat_start r) (flat_start q) e
    exact ⟨nm_inj hx hy h1, row_inj hf hl h2⟩
  · rintro ⟨rfl, h⟩
    unfold keyOf
    congr 2
    have : ∀ v, cel f v = 44 :: (match tgt f v with | none => [120] | some w => nm w) := by
      intro v; unfold cel tgt; by_cases hv : v < 0 <;> simp [hv]
    have e : cel f = (fun o : Option Int => 44 :: (match o with | none => [120] | some w => nm w)) ∘ tgt f := funext this
    rw [e, ← List.map_map, ← List.map_map, h]
theorem nm_len {v : Int} (h0 : 0 ≤ v) (h1 : v < 1000) : (nm v).length ≤ 3 := by
  obtain ⟨n, rfl⟩ : ∃ n : Nat, v = n := ⟨v.toNat, by omega⟩
  rw [nm_nat]; exact dd_len 2 n (by omega)
end Go.Mod

namespace Go.Mod
open Go.AM
set_option linter.unusedVariables false
set_option linter.unusedSimpArgs false
structure GOK (g : List (List Int)) : Prop where
  pos : 1 ≤ g.length
  le : g.length ≤ 200
  row : ∀ x ∈ g, x.length = 4 ∧ ∀ v ∈ x, -1 ≤ v ∧ v < g.length
def dl (g : List (List Int)) (a e : Nat) : Option Nat := (g[a]?).bind fun x => (x[e]?).bind fun v => if v < 0 then none else some v.toNat
theorem dl_clo {g : List (List Int)} (h : GOK g) : Clo (dl g) g.length := by
  intro a e x ha he hx
  unfold dl at hx
  rw [List.getElem?_eq_getElem ha, Option.bind_some] at hx
  obtain ⟨h1, h2⟩ := h.row _ (List.getElem_mem ha)
  rw [List.getElem?_eq_getElem (by omega), Option.bind_some] at hx
  have := h2 _ (List.getElem_mem (show e < g[a].length by omega))
  split at hx
  · cases hx
  · obtain rfl := Option.some.inj hx; omega
theorem kfind_app {K : Type} [DecidableEq K] {x q : K} : ∀ (ks : List K), kfind q (ks ++ [x]) = match kfind q ks with | some i => some i | none => if x = q then some ks.length else none
  | [] => by simp [kfind]
  | a :: r => by
    simp only [List.cons_append, kfind]
    by_cases h : a = q
    · simp [h]
    · rw [if_neg h, if_neg h, kfind_app r]
      cases kfind q r with
      | some i => rfl
      | none => by_cases h2 : x = q <;> simp [h2]
theorem mget_put {K V : Type} [DecidableEq K] {v : V} {k q : K} : ∀ (m : List (K × V)), mget (mput m k v) q = if k = q then some v else mget m q := by
  intro m
  induction m with
  | nil => unfold mput; simp only [mget]
  | cons x r ih =>
    obtain ⟨a, b⟩ := x
    unfold mput
    by_cases ha : a = k
    · subst ha
      rw [if_pos rfl]
      simp only [mget]
      by_cases hq : a = q
      · rw [if_pos hq, if_pos hq]
      · rw [if_neg hq, if_neg hq, if_neg hq]
    · rw [if_neg ha]
      simp only [mget]
      by_cases hq : a = q
      · rw [if_pos hq, if_pos hq, if_neg (fun h => ha (hq.trans h.symm))]
      · rw [if_neg hq, if_neg hq]; exact ih
structure Enum {K : Type} [DecidableEq K] (M : List (K × Int)) (ks : List K) : Prop where
  keys : M.map (·.1) = ks
  get : ∀ q, mget M q = (kfind q ks).map fun i : Nat => (i : Int)
theorem Enum.len {K : Type} [DecidableEq K] {M : List (K × Int)} {ks : List K} (h : Enum M ks) : M.length = ks.length := by rw [← h.keys, List.length_map]
theorem Enum.nil {K : Type} [DecidableEq K] : Enum ([] : List (K × Int)) [] := ⟨rfl, fun q => rfl⟩
theorem Enum.add {K : Type} [DecidableEq K] {M : List (K × Int)} {ks : List K} (h : Enum M ks) {x : K} (hx : kfind x ks = none) : Enum (mput M x (ks.length : Int)) (ks ++ [x]) := by
  refine ⟨?_, fun q => ?_⟩
  · rw [mput_none (by rw [h.keys]; exact hx), List.map_append, h.keys]; rfl
  · rw [mget_put, kfind_app, h.get]
    by_cases e : x = q
    · subst e; simp [hx]
    · rw [if_neg e]
      cases kfind q ks with
      | some i => rfl
      | none => simp only [if_neg e]
section
variable {g : List (List Int)} (hg : GOK g)
def ky (g : List (List Int)) (f : List Int) (a : Nat) : List UInt8 := keyOf f ((f[a]?).getD 0) ((g[a]?).getD [])
theorem tgt_dl {f : List Int} {a e : Nat} (hc : Clo (dl g) g.length) (hl : f.length = g.length) (ha : a < g.length) {x : List Int} (hx : g[a]? = some x) (he : e < 4) (h4 : x.length = 4) :
    (x.map (tgt f))[e]? = some ((dl g a e).bind fun b => f[b]?) := by
  have hex : e < x.length := by omega
  rw [List.getElem?_map, List.getElem?_eq_getElem hex, Option.map_some]
  have hd : dl g a e = if x[e] < 0 then none else some x[e].toNat := by unfold dl; rw [hx, Option.bind_some, List.getElem?_eq_getElem hex, Option.bind_some]
  unfold tgt
  by_cases h : x[e] < 0
  · rw [if_pos h] at hd ⊢; rw [hd, Option.bind_none]
  · rw [if_neg h] at hd ⊢
    have hb := hc a e _ ha he hd
    rw [hd, Option.bind_some, List.getElem?_eq_getElem (by omega)]; rfl
include hg in
theorem ky_rr {f : List Int} {r c : Nat} (hn : Num (Rr (dl g) r) g.length f c) {a b : Nat} (ha : a < g.length) (hb : b < g.length) : ky g f a = ky g f b ↔ Rr (dl g) (r + 1) a b := by
  obtain ⟨va, fa, ra⟩ := hn.at ha
  obtain ⟨vb, fb, rb⟩ := hn.at hb
  have ga : g[a]? = some g[a] := List.getElem?_eq_getElem ha
  have gb : g[b]? = some g[b] := List.getElem?_eq_getElem hb
  have la := (hg.row _ (List.getElem_mem ha)).1
  have lb := (hg.row _ (List.getElem_mem hb)).1
  unfold ky
  rw [fa, fb, ga, gb, Option.getD_some, Option.getD_some, Option.getD_some, Option.getD_some, key_inj (fun i v h => (hn.rng i v h).1) ra.1 rb.1 (by omega), hn.eqv _ _ _ _ fa fb]
  show _ ↔ Rr (dl g) r a b ∧ _
  refine and_congr Iff.rfl ?_
  have hc := dl_clo hg
  constructor
  · intro e k hk
    have h1 := tgt_dl hc hn.len ha ga hk la
    have h2 := tgt_dl hc hn.len hb gb hk lb
    rw [e, h2] at h1
    have h1 := Option.some.inj h1
    cases x : dl g a k <;> cases y : dl g b k <;> rw [x, y] at h1
    · trivial
    · obtain ⟨v, hv, _⟩ := hn.at (hc _ _ _ hb hk y)
      simp [hv] at h1
    · obtain ⟨v, hv, _⟩ := hn.at (hc _ _ _ ha hk x)
      simp [hv] at h1
    · obtain ⟨v, hv, _⟩ := hn.at (hc _ _ _ hb hk y)
      obtain ⟨w, hw, _⟩ := hn.at (hc _ _ _ ha hk x)
      simp only [Option.bind_some, hv, hw, Option.some.injEq] at h1
      exact (hn.eqv _ _ _ _ hw hv).1 h1.symm
  · intro e
    apply List.ext_getElem?
    intro k
    by_cases hk : k < 4
    · rw [tgt_dl hc hn.len ha ga hk la, tgt_dl hc hn.len hb gb hk lb]
      have := e k hk
      cases x : dl g a k <;> cases y : dl g b k <;> rw [x, y] at this <;> simp only [Mt] at this
      · obtain ⟨v, hv, _⟩ := hn.at (hc _ _ _ hb hk y)
        obtain ⟨w, hw, _⟩ := hn.at (hc _ _ _ ha hk x)
        rw [Option.bind_some, Option.bind_some, hv, hw, (hn.eqv _ _ _ _ hw hv).2 this]
    · rw [List.getElem?_eq_none (by simp; omega), List.getElem?_eq_none (by simp; omega)]
theorem key_ok {f : List Int} {n : Nat} (hl : f.length = n) (hr : ∀ (i : Nat) v, f[i]? = some v → 0 ≤ v ∧ v < 200) {x : List Int} (hx : ∀ v ∈ x, -1 ≤ v ∧ v < n) (h4 : x.length = 4) {k0 : List UInt8} (hk : k0.length ≤ 100) (cnt : Int) :
    forL (m_impl_graph_minimal_L2 (f, cnt)) (fun s2 => s2) 0 x k0 = some (k0 ++ (x.map (cel f)).flatten) := by
  have key : ∀ (y : List Int) (k : Nat) (s : List UInt8), (∀ v ∈ y, -1 ≤ v ∧ v < n) → s.length + 4 * y.length ≤ 1000 → forL (m_impl_graph_minimal_L2 (f, cnt)) (fun s2 => s2) k y s = some (s ++ (y.map (cel f)).flatten) := by
    intro y
    induction y with
    | nil => intro k s _ _; simp [forL]
    | cons v y ih =>
      intro k s hv hs
      simp only [List.length_cons] at hs
      have h1 : m_impl_graph_minimal_L2 (f, cnt) k v s = some (.next (s ++ cel f v)) ∧ (cel f v).length ≤ 4 := by
        unfold m_impl_graph_minimal_L2 cel
        by_cases hv0 : v < 0
        · rw [decide_eq_true hv0, cond_true, if_pos hv0, strI_some (by simp; omega)]
          exact ⟨rfl, by simp⟩
        · have := hv v (by simp)
          obtain ⟨w, hw⟩ : ∃ w, f[v.toNat]? = some w := ⟨_, List.getElem?_eq_getElem (show v.toNat < f.length by omega)⟩
          have hw2 := hr _ _ hw
          have hnl := nm_len hw2.1 (by omega)
          rw [decide_eq_false hv0, cond_false, if_neg hv0, getI_of (by omega) hw, Option.bind_some, impl_dec (by omega) (by omega), Option.bind_some, strI_some (by simp; omega), Option.bind_some, strI_some (by simp; omega), hw]
          exact ⟨rfl, by simp; omega⟩
      unfold forL
      rw [h1.1]
      show forL _ _ (k + 1) y (s ++ cel f v) = _
      rw [ih (k + 1) _ (fun u hu => hv u (by simp [hu])) (by simp; omega)]
      simp
  exact key x 0 k0 hx (by omega)
structure Mid (g : List (List Int)) (f : List Int) (k : Nat) (s : (List ((List UInt8) × Int)) × (List Int)) (ks : List (List UInt8)) : Prop where
  len : s.2.length = g.length
  en : Enum s.1 ks
  le : ks.length ≤ k
  num : ∀ a, a < k → ∃ j, kfind (ky g f a) ks = some j ∧ s.2[a]? = some (j : Int)
  sur : ∀ j, j < ks.length → ∃ a, a < k ∧ s.2[a]? = some (j : Int)
include hg in
theorem mid_step {f : List Int} {r c : Nat} (hn : Num (Rr (dl g) r) g.length f c) (cnt : Int) {k : Nat} {x : List Int} (hx : g[k]? = some x) {s : (List ((List UInt8) × Int)) × (List Int)} {ks : List (List UInt8)} (h : Mid g f k s ks) :
    ∃ s' ks', m_impl_graph_minimal_L1 (f, cnt) k x s = some (.next s') ∧ Mid g f (k + 1) s' ks' := by
  have hk := get_lt hx
  have hr := hg.row _ (List.mem_of_getElem? hx)
  have hgl := hg.le
  obtain ⟨v, hv, hv0, hv1⟩ := hn.at hk
  have hcl := hn.cle
  have hkey : (nm v ++ (x.map (cel f)).flatten) = ky g f k := by unfold ky keyOf; rw [hv, hx]; rfl
  obtain ⟨w, hw⟩ : ∃ w, s.2[k]? = some w := ⟨_, List.getElem?_eq_getElem (show k < s.2.length by rw [h.len]; exact hk)⟩
  have hstep : m_impl_graph_minimal_L1 (f, cnt) k x s = m_impl_graph_minimal_A2 s k (ky g f k) := by
    unfold m_impl_graph_minimal_L1
    have hnl := nm_len hv0 (by omega)
    rw [getI_some hv, Option.bind_some, impl_dec (by omega) (by omega), Option.bind_some,
      key_ok hn.len (fun i u hu => by have := hn.rng i u hu; omega) hr.2 hr.1 (by omega), Option.bind_some, hkey]
  have key : ∀ j : Nat, ∀ ks', (∀ q i, kfind q ks = some i → kfind q ks' = some i) → kfind (ky g f k) ks' = some j →
      ∀ a, a < k + 1 → ∃ i, kfind (ky g f a) ks' = some i ∧ (s.2.set ((k : Int)).toNat (j : Int))[a]? = some (i : Int) := by
    intro j ks' hmono hj a ha
    rw [Int.toNat_natCast, List.getElem?_set]
    by_cases e : k = a
    · subst e; rw [if_pos rfl, if_pos (by rw [h.len]; exact hk)]; exact ⟨j, hj, rfl⟩
    · rw [if_neg e]
      obtain ⟨i, h1, h2⟩ := h.num a (by omega)
      exact ⟨i, hmono _ _ h1, h2⟩
  rw [hstep]
  unfold m_impl_graph_minimal_A2
  rw [h.en.get]
  cases hf : kfind (ky g f k) ks with
  | none =>
    refine ⟨(mput s.1 (ky g f k) (ks.length : Int), s.2.set ((k : Int)).toNat (ks.length : Int)), ks ++ [ky g f k], ?_, ⟨by simp [h.len], h.en.add hf, by simp; have := h.le; omega, ?_, ?_⟩⟩
    · simp only [Option.map_none, Option.isSome_none, Bool.not_false, cond_true]
      unfold m_impl_size
      rw [Option.bind_some, getI_some hw, Option.bind_some, h.en.len]
    · refine key ks.length _ (fun q i hq => by rw [kfind_app, hq]) (by rw [kfind_app, hf]; simp)
    · intro j hj
      rcases Nat.lt_or_ge j ks.length with hlt | hge
      · obtain ⟨a, ha, h2⟩ := h.sur j hlt
        refine ⟨a, by omega, ?_⟩
        show (s.2.set _ _)[a]? = _
        rw [Int.toNat_natCast, List.getElem?_set, if_neg (by omega)]; exact h2
      · refine ⟨k, by omega, ?_⟩
        show (s.2.set _ _)[k]? = _
        have : j = ks.length := by simp at hj; omega
        subst this
        rw [Int.toNat_natCast, List.getElem?_set, if_pos rfl, if_pos (by rw [h.len]; exact hk)]
  | some j =>
    have hjl : j < ks.length := (List.getElem?_eq_some_iff.1 (kfind_some hf)).1
    refine ⟨(s.1, s.2.set ((k : Int)).toNat (j : Int)), ks, ?_, ⟨by simp [h.len], h.en, by have := h.le; omega, key j ks (fun q i hq => hq) hf, ?_⟩⟩
    · simp only [Option.map_some, Option.isSome_some, Bool.not_true, cond_false, Option.getD_some]
      rw [getI_some hw, Option.bind_some]
    · intro i hi
      obtain ⟨a, ha, h2⟩ := h.sur i hi
      refine ⟨a, by omega, ?_⟩
      show (s.2.set _ _)[a]? = _
      rw [Int.toNat_natCast, List.getElem?_set, if_neg (by omega)]; exact h2
include hg in
theorem round_num {f : List Int} {r c : Nat} (hn : Num (Rr (dl g) r) g.length f c) (cnt : Int) :
    ∃ M f', forL (m_impl_graph_minimal_L1 (f, cnt)) (fun s1 => (s1.1, s1.2)) 0 g (([] : List ((List UInt8) × Int)), List.replicate g.length (0 : Int)) = some (M, f') ∧ Num (Rr (dl g) (r + 1)) g.length f' M.length := by
  obtain ⟨t, h1, ks, h2⟩ := forL_inv (step := m_impl_graph_minimal_L1 (f, cnt)) (fin := fun s1 => (s1.1, s1.2)) (xs := g) (fun k s => ∃ ks, Mid g f k s ks) (fun t => ∃ ks, Mid g f g.length t ks)
    (fun k x s hx ⟨ks, h⟩ => by
      obtain ⟨s', ks', e1, e2⟩ := mid_step hg hn cnt hx h
      exact .inl ⟨s', e1, ks', e2⟩)
    (fun s hI => hI) (s := (([] : List ((List UInt8) × Int)), List.replicate g.length (0 : Int))) ⟨[], by simp, Enum.nil, Nat.le_refl _, fun a ha => by omega, fun j hj => by simp at hj⟩
  refine ⟨t.1, t.2, h1, h2.len, fun a v hv => ?_, fun a b v w hv hw => ?_, fun i hi => ?_⟩
  · have ha : a < g.length := by rw [← h2.len]; exact get_lt hv
    obtain ⟨j, hj, e⟩ := h2.num a ha
    rw [e] at hv
    obtain rfl := Option.some.inj hv
    have := (List.getElem?_eq_some_iff.1 (kfind_some hj)).1
    rw [h2.en.len]; omega
  · have ha : a < g.length := by rw [← h2.len]; exact get_lt hv
    have hb : b < g.length := by rw [← h2.len]; exact get_lt hw
    obtain ⟨j, hj, e⟩ := h2.num a ha
    obtain ⟨i, hi, e'⟩ := h2.num b hb
    rw [e] at hv; rw [e'] at hw
    obtain rfl := Option.some.inj hv
    obtain rfl := Option.some.inj hw
    rw [← ky_rr hg hn ha hb]
    constructor
    · intro q
      have q : j = i := by omega
      subst q
      have := (kfind_some hj).symm.trans (kfind_some hi)
      exact Option.some.inj this
    · intro q
      rw [q, hi] at hj
      have := Option.some.inj hj
      omega
  · obtain ⟨a, _, h3⟩ := h2.sur i (by rw [← h2.en.len]; exact hi)
    exact ⟨a, h3⟩
theorem num_zero {n : Nat} (hn : 1 ≤ n) (δ : Nat → Nat → Option Nat) : Num (Rr δ 0) n (List.replicate n (0 : Int)) 1 := by
  have key : ∀ (a : Nat) v, (List.replicate n (0 : Int))[a]? = some v → v = 0 := by
    intro a v hv
    rw [List.getElem?_replicate] at hv
    split at hv
    · exact (Option.some.inj hv).symm
    · cases hv
  refine ⟨by simp, fun a v hv => by have := key a v hv; omega, fun a b v w hv hw => ?_, fun i hi => ⟨0, ?_⟩⟩
  · rw [key a v hv, key b w hw]; exact ⟨fun _ => trivial, fun _ => rfl⟩
  · have : i = 0 := by omega
    subst this
    rw [List.getElem?_replicate, if_pos (by omega)]; rfl
include hg in
theorem rounds_num : ∃ f c, iter (m_impl_graph_minimal_L0 g) ((List.replicate g.length (0 : Int)), (0 : Int)) = some f ∧ Num (Ra (dl g)) g.length f c ∧
    ∀ a b, a < g.length → b < g.length → (Ra (dl g) a b → ∀ e, e < 4 → Mt (Ra (dl g)) (dl g a e) (dl g b e)) := by
  have hgl := hg.le
  have hc := dl_clo hg
  obtain ⟨f, h1, c, h2⟩ := iter_inv (step := m_impl_graph_minimal_L0 g)
    (fun s => ∃ r c, Num (Rr (dl g) r) g.length s.1 c ∧ (s.2 = (c : Int) ∨ s.2 = 0)) (fun s => g.length + 1 - s.2.toNat) (fun f => ∃ c, Num (Ra (dl g)) g.length f c)
    (fun s ⟨r, c, hn, hs⟩ => by
      obtain ⟨M, f', e1, e2⟩ := round_num hg hn s.2
      have hle := grow_num hn e2
      have hp := hn.pos hg.pos
      have hM := e2.cle
      have hstep : m_impl_graph_minimal_L0 g s = m_impl_graph_minimal_A1 s (M, f') := by
        unfold m_impl_graph_minimal_L0
        rw [makeI_some (by omega), Option.bind_some]
        show (forL (m_impl_graph_minimal_L1 (s.1, s.2)) _ 0 g _).bind _ = _
        rw [e1, Option.bind_some]
      rw [hstep]
      unfold m_impl_graph_minimal_A1
      by_cases hq : (M.length : Int) = s.2
      · rw [decide_eq_true hq, cond_true]
        refine .inr ⟨f', rfl, M.length, ?_⟩
        have hcM : c = M.length := by omega
        subst hcM
        have hst := Stab4.of_num hn e2
        have hst2 : Stab4 (dl g) g.length (r + 1) := fun a b ha hb h => hst.all hc 2 a b ha hb (h.le (Nat.le_succ r))
        exact ⟨e2.len, e2.rng, fun a b v w hv hw => by
          rw [e2.eqv a b v w hv hw]
          exact hst2.ra hc (e2.val hv) (e2.val hw), e2.sur⟩
      · rw [decide_eq_false hq, cond_false]
        refine .inl ⟨_, rfl, ⟨r + 1, M.length, e2, .inl rfl⟩, ?_⟩
        show g.length + 1 - ((M.length : Int)).toNat < g.length + 1 - s.2.toNat
        rcases hs with hs | hs <;> omega)
    (s := ((List.replicate g.length (0 : Int)), (0 : Int))) ⟨0, 1, num_zero hg.pos _, .inr rfl⟩
  exact ⟨f, c, h1, h2, fun a b _ _ h e he => h.step he⟩
end
end Go.Mod

namespace Go.Mod
open Go.AM
set_option linter.unusedVariables false
set_option linter.unusedSimpArgs false
section
variable {K : Type} [DecidableEq K]
noncomputable def gwL1 (bz : Nat) (nx : K → Int → Option (K × Bool)) (s0 : (List (K × Int)) × (List K) × (List (List Int)) × Int) (n1 : Nat) (x1 : Nat) (s1 : (List (K × Int)) × (List K) × (List Int)) : Option (Ctl ((List (K × Int)) × (List K) × (List Int)) (((List (K × Int)) × (List K) × (List Int)))) :=
  (getI s1.2.1 s0.2.2.2).bind fun (x33 : K) =>
  (nx x33 (n1 : Int)).bind fun (r36 : K × Bool) =>
  bif (!r36.2) then
    (capI (s1.2.2.length + [(-1 : Int)].length) 8).bind fun (q43 : Unit) =>
    some (.next (s1.1, s1.2.1, (s1.2.2 ++ [(-1 : Int)])))
  else
    bif (!(mget s1.1 r36.1).isSome) then
      (m_impl_size (s1.2.1.length : Int)).bind fun (r54 : Int) =>
      (capI (s1.2.1.length + [r36.1].length) bz).bind fun (q61 : Unit) =>
      (capI (s1.2.2.length + [r54].length) 8).bind fun (q65 : Unit) =>
      some (.next ((mput s1.1 r36.1 r54), (s1.2.1 ++ [r36.1]), (s1.2.2 ++ [r54])))
    else
      (capI (s1.2.2.length + [((mget s1.1 r36.1).getD (0 : Int))].length) 8).bind fun (q65 : Unit) =>
      some (.next (s1.1, s1.2.1, (s1.2.2 ++ [((mget s1.1 r36.1).getD (0 : Int))])))
noncomputable def gwA1 (s0 : (List (K × Int)) × (List K) × (List (List Int)) × Int) (u1 : ((List (K × Int)) × (List K) × (List Int))) : Option (Ctl ((List (K × Int)) × (List K) × (List (List Int)) × Int) ((List (List Int)))) :=
  (capI (s0.2.2.1.length + [u1.2.2].length) 24).bind fun (q70 : Unit) =>
  some (.next (u1.1, u1.2.1, (s0.2.2.1 ++ [u1.2.2]), (w64 (s0.2.2.2 + (1 : Int)))))
noncomputable def gwL0 (bz : Nat) (nx : K → Int → Option (K × Bool)) (s0 : (List (K × Int)) × (List K) × (List (List Int)) × Int) : Option (Ctl ((List (K × Int)) × (List K) × (List (List Int)) × Int) ((List (List Int)))) :=
  bif (decide (s0.2.2.2 < (s0.2.1.length : Int))) then
    (forL (gwL1 bz nx s0) (fun s1 => (s1.1, s1.2.1, s1.2.2)) 0 (List.range 4) (s0.1, s0.2.1, ([] : List Int))).bind fun (u1 : ((List (K × Int)) × (List K) × (List Int))) =>
    gwA1 s0 u1
  else
    some (.out s0.2.2.1)
noncomputable def gw (bz : Nat) (nx : K → Int → Option (K × Bool)) (p0 : K) : Option (List (List Int)) :=
  (iter (gwL0 bz nx) ((mput ([] : List (K × Int)) p0 (0 : Int)), [p0], ([] : List (List Int)), (0 : Int))).bind fun (u0 : (List (List Int))) =>
  some u0
end
theorem grown_min (x : Int) (g : List (List Int)) (one f : List Int) : m_impl_grown_int64_fminimal_1 x g one f = gw 8 (fun k e => m_impl_graph_minimal_1 k e g one f) x := rfl
theorem grown_both (x : Int × Int) (g h : List (List Int)) : m_impl_grown_2_int64_fBothPolicies_1 x g h = gw 16 (fun k e => m_impl_BothPolicies_1 k e g h) x := rfl
theorem nodup_nat {n : Nat} {l : List Nat} (h : l.Nodup) (hl : ∀ x ∈ l, x < n) : l.length ≤ n := by
  have := nodup_int n (l.map fun i : Nat => (i : Int)) (List.pairwise_map.2 (List.Pairwise.imp (fun {a b} h e => h (by omega)) h)) (fun x hx => by
    obtain ⟨y, hy, rfl⟩ := List.mem_map.1 hx
    have := hl y hy; omega)
  simpa using this
theorem kfind_none {K : Type} [DecidableEq K] {q : K} : ∀ {ks : List K}, kfind q ks = none → q ∉ ks
  | [], _ => by simp
  | a :: r, h => by
    unfold kfind at h
    by_cases e : a = q
    · rw [if_pos e] at h; cases h
    · rw [if_neg e] at h
      have := kfind_none (ks := r) (by cases hr : kfind q r with | none => rfl | some j => rw [hr] at h; cases h)
      simp only [List.mem_cons, not_or]
      exact ⟨fun h => e h.symm, this⟩
structure Met {K : Type} (cl : Nat → K) (n : Nat) (L : List Nat) : Prop where
  nd : (L.map cl).Nodup
  lt : ∀ x ∈ L, x < n
theorem Met.len {K : Type} {cl : Nat → K} {n : Nat} {L : List Nat} (h : Met cl n L) : L.length ≤ n := nodup_nat (List.Pairwise.imp (fun {a b} h e => h (by rw [e])) (List.pairwise_map.1 h.nd)) h.lt
section
variable {K : Type} [DecidableEq K] {bz : Nat} {nx : K → Int → Option (K × Bool)} {δ : Nat → Nat → Option Nat} {cl : Nat → K} {n : Nat}
theorem Met.hop {L : List Nat} {row : List Int} {o : Option Nat} (h : Met cl n L) (ho : ∀ x, o = some x → x < n) : Met cl n (hop cl L row o).1 := by
  unfold Mod.hop
  cases o with
  | none => exact h
  | some x =>
    cases hk : kfind (cl x) (L.map cl) with
    | some j => simp only [hk]; exact h
    | none =>
      simp only [hk]
      refine ⟨?_, fun y hy => ?_⟩
      · rw [List.map_append]
        refine List.nodup_append.2 ⟨h.nd, by simp, fun a ha b hb e => ?_⟩
        simp at hb
        subst hb; subst e
        exact kfind_none hk ha
      · rcases List.mem_append.1 hy with hy | hy
        · exact h.lt y hy
        · simp at hy; subst hy; exact ho _ rfl
theorem hop_pre {L : List Nat} {row : List Int} {o : Option Nat} : ∃ M, (hop cl L row o).1 = L ++ M := by
  unfold hop
  cases o with
  | none => exact ⟨[], by simp⟩
  | some x =>
    cases hk : kfind (cl x) (L.map cl) with
    | some j => exact ⟨[], by simp [hk]⟩
    | none => exact ⟨[x], by simp [hk]⟩
theorem hop_row {L : List Nat} {row : List Int} {o : Option Nat} : (hop cl L row o).2.length = row.length + 1 := by
  unfold hop
  cases o with
  | none => simp
  | some x => cases hk : kfind (cl x) (L.map cl) <;> simp [hk]
theorem hops_pre (s : Nat) : ∀ (k e : Nat) (L : List Nat) (row : List Int), ∃ M, (hops δ cl s k e L row).1 = L ++ M
  | 0, _, _, _ => ⟨[], by simp [hops]⟩
  | k + 1, e, L, row => by
    obtain ⟨M, h⟩ := hop_pre (cl := cl) (L := L) (row := row) (o := δ s e)
    obtain ⟨M', h'⟩ := hops_pre s k (e + 1) (hop cl L row (δ s e)).1 (hop cl L row (δ s e)).2
    exact ⟨M ++ M', by simp only [hops]; rw [h', h, List.append_assoc]⟩
theorem hops_row (s : Nat) : ∀ (k e : Nat) (L : List Nat) (row : List Int), (hops δ cl s k e L row).2.length = row.length + k
  | 0, _, _, _ => by simp [hops]
  | k + 1, e, L, row => by simp only [hops]; rw [hops_row s k, hop_row]; omega
def Nx (δ : Nat → Nat → Option Nat) (cl : Nat → K) (n : Nat) (nx : K → Int → Option (K × Bool)) : Prop :=
  ∀ s e, s < n → e < 4 → match δ s e with | none => ∃ k, nx (cl s) (e : Int) = some (k, false) | some x => nx (cl s) (e : Int) = some (cl x, true)
variable (hc : Clo δ n) (hn : n ≤ 200) (hb : bz ≤ 1000) (hx : Nx δ cl n nx)
include hc hn hb hx
theorem gw_row {i : Nat} {s : Nat} (hs : s < n) (out : List (List Int)) (M0 : List (K × Int)) (ids0 : List K) : ∀ (ys : List Nat) (e : Nat) (L : List Nat) (row : List Int) (M : List (K × Int)), e + ys.length ≤ 4 → L[i]? = some s → Met cl n L → Enum M (L.map cl) → row.length ≤ e →
    ∃ M', forL (gwL1 bz nx (M0, ids0, out, (i : Int))) (fun s1 => (s1.1, s1.2.1, s1.2.2)) e ys (M, L.map cl, row) = some (M', (hops δ cl s ys.length e L row).1.map cl, (hops δ cl s ys.length e L row).2) ∧
      Met cl n (hops δ cl s ys.length e L row).1 ∧ Enum M' ((hops δ cl s ys.length e L row).1.map cl)
  | [], e, L, row, M, _, _, hm, he, _ => ⟨M, rfl, hm, he⟩
  | y :: ys, e, L, row, M, hl, hi, hm, he, hr => by
    simp only [List.length_cons] at hl
    have hml := hm.len
    have h4 := hx s e hs (by omega)
    have hxr : ∀ x, δ s e = some x → x < n := fun x h => hc s e x hs (by omega) h
    have step : ∃ M1, gwL1 bz nx (M0, ids0, out, (i : Int)) e y (M, L.map cl, row) = some (.next (M1, (hop cl L row (δ s e)).1.map cl, (hop cl L row (δ s e)).2)) ∧ Enum M1 ((hop cl L row (δ s e)).1.map cl) := by
      unfold gwL1
      simp only
      rw [getI_some (show (L.map cl)[i]? = some (cl s) by rw [List.getElem?_map, hi]; rfl), Option.bind_some]
      cases hd : δ s e with
      | none =>
        rw [hd] at h4
        obtain ⟨k, hk⟩ := h4
        rw [hk, Option.bind_some]
        simp only [Bool.not_false, cond_true]
        rw [capI_some (by simp; omega), Option.bind_some]
        exact ⟨M, rfl, he⟩
      | some x =>
        rw [hd] at h4
        simp only at h4
        rw [h4, Option.bind_some]
        simp only [Bool.not_true, cond_false]
        rw [he.get]
        cases hk : kfind (cl x) (L.map cl) with
        | some j =>
          simp only [Option.map_some, Option.isSome_some, Bool.not_true, cond_false, Option.getD_some]
          rw [capI_some (by simp; omega), Option.bind_some]
          exact ⟨M, by simp only [hop, hk], by simp only [hop, hk]; exact he⟩
        | none =>
          simp only [Option.map_none, Option.isSome_none, Bool.not_false, cond_true, m_impl_size, Option.bind_some, List.length_map]
          have hq : (L.length + [cl x].length) * bz ≤ 140737488355328 := by
            have : (L.length + 1) * bz ≤ 201 * 1000 := Nat.mul_le_mul (by omega) hb
            exact Nat.le_trans this (by decide)
          have hq2 : (row.length + [(L.length : Int)].length) * 8 ≤ 140737488355328 := by simp only [List.length_cons, List.length_nil]; omega
          rw [capI_some hq, Option.bind_some, capI_some hq2, Option.bind_some]
          refine ⟨mput M (cl x) (L.length : Int), by simp only [hop, hk, List.map_append, List.map_cons, List.map_nil], ?_⟩
          simp only [hop, hk, List.map_append, List.map_cons, List.map_nil]
          have := he.add hk
          rw [List.length_map] at this
          exact this
    obtain ⟨M1, h1, h2⟩ := step
    obtain ⟨T, hT⟩ := hop_pre (cl := cl) (L := L) (row := row) (o := δ s e)
    obtain ⟨M', h3, h5⟩ := gw_row hs out M0 ids0 ys (e + 1) (hop cl L row (δ s e)).1 (hop cl L row (δ s e)).2 M1 (by omega)
      (by rw [hT, List.getElem?_append_left (get_lt hi)]; exact hi) (hm.hop hxr) h2 (by rw [hop_row]; omega)
    refine ⟨M', ?_, h5⟩
    unfold forL
    rw [h1]
    exact h3
theorem gw_loop : ∀ (m i : Nat) (L : List Nat) (M : List (K × Int)) (out : List (List Int)), n ≤ i + m → i ≤ L.length → Met cl n L → Enum M (L.map cl) → out.length = i →
    ∃ Lf res, iter (gwL0 bz nx) (M, L.map cl, out, (i : Int)) = some res ∧ Bfs δ cl i L out Lf res ∧ Met cl n Lf := by
  intro m
  induction m with
  | zero =>
    intro i L M out hm hi hmet he ho
    have := hmet.len
    refine ⟨L, out, iter_out ?_, .done (by omega), hmet⟩
    unfold gwL0
    simp only
    rw [List.length_map, decide_eq_false (by omega), cond_false]
  | succ m ih =>
    intro i L M out hm hi hmet he ho
    have hml := hmet.len
    by_cases hlt : i < L.length
    · have hs : L[i]? = some L[i] := List.getElem?_eq_getElem hlt
      have hsn := hmet.lt _ (List.getElem_mem hlt)
      obtain ⟨M', h1, h2, h3⟩ := gw_row hc hn hb hx hsn out M (L.map cl) (List.range 4) 0 L [] M (by simp) hs hmet he (by simp)
      obtain ⟨T, hT⟩ := hops_pre (δ := δ) (cl := cl) L[i] 4 0 L []
      rw [List.length_range] at h1 h2 h3
      have hml2 := h2.len
      have hstep : gwL0 bz nx (M, L.map cl, out, (i : Int)) = some (.next (M', (hops δ cl L[i] 4 0 L []).1.map cl, out ++ [(hops δ cl L[i] 4 0 L []).2], ((i + 1 : Nat) : Int))) := by
        unfold gwL0
        simp only
        rw [List.length_map, dec_lt hlt, cond_true, h1, Option.bind_some]
        unfold gwA1
        simp only
        rw [capI_some (by simp; omega), Option.bind_some, w64_succ (by omega)]
      obtain ⟨Lf, res, h4, h5, h6⟩ := ih (i + 1) (hops δ cl L[i] 4 0 L []).1 M' (out ++ [(hops δ cl L[i] 4 0 L []).2]) (by omega) (by rw [hT]; simp; omega) h2 h3 (by simp [ho])
      exact ⟨Lf, res, by rw [iter_next hstep]; exact h4, .step hs h5, h6⟩
    · refine ⟨L, out, iter_out ?_, .done (by omega), hmet⟩
      unfold gwL0
      simp only
      rw [List.length_map, decide_eq_false (by omega), cond_false]
theorem gw_ok {s : Nat} (hs : s < n) : ∃ Lf res, gw bz nx (cl s) = some res ∧ Bfs δ cl 0 [s] [] Lf res ∧ Met cl n Lf := by
  obtain ⟨Lf, res, h1, h2, h3⟩ := gw_loop hc hn hb hx n 0 [s] (mput [] (cl s) 0) [] (by omega) (by simp) ⟨by simp, by simpa using hs⟩
    (by have := Enum.nil.add (x := cl s) rfl; simpa using this) rfl
  refine ⟨Lf, res, ?_, h2, h3⟩
  unfold gw
  have h1 : iter (gwL0 bz nx) (mput [] (cl s) 0, [cl s], [], (0 : Int)) = some res := h1
  rw [h1]; rfl
end
section
variable {g : List (List Int)} (hg : GOK g)
def cf (f : List Int) (s : Nat) : Int := (f[s]?).getD 0
theorem one_ok {R : Nat → Nat → Prop} {f : List Int} {c : Nat} (hn : Num R g.length f c) :
    ∃ one, forL m_impl_graph_minimal_L3 (fun s3 => s3) 0 f (List.replicate g.length (0 : Int)) = some one ∧ one.length = g.length ∧ ∀ i : Nat, i < c → ∃ a : Nat, one[i]? = some (a : Int) ∧ f[a]? = some (i : Int) := by
  have hcl := hn.cle
  obtain ⟨one, h1, h2, h3⟩ := forL_inv (step := m_impl_graph_minimal_L3) (fin := fun s3 => s3) (xs := f)
    (fun k (s : List Int) => s.length = g.length ∧ ∀ a i : Nat, a < k → f[a]? = some (i : Int) → ∃ b : Nat, b < k ∧ s[i]? = some (b : Int) ∧ f[b]? = some (i : Int))
    (fun s => s.length = g.length ∧ ∀ a i : Nat, a < f.length → f[a]? = some (i : Int) → ∃ b : Nat, b < f.length ∧ s[i]? = some (b : Int) ∧ f[b]? = some (i : Int))
    (fun k x s hx ⟨hl, h⟩ => by
      have hr := hn.rng _ _ hx
      obtain ⟨w, hw⟩ : ∃ w, s[x.toNat]? = some w := ⟨_, List.getElem?_eq_getElem (show x.toNat < s.length by omega)⟩
      refine .inl ⟨s.set x.toNat (k : Int), ?_, by simpa using hl, fun a i ha hi => ?_⟩
      · unfold m_impl_graph_minimal_L3
        rw [getI_of hr.1 hw, Option.bind_some]
      · by_cases e : x.toNat = i
        · subst e
          refine ⟨k, by omega, by rw [List.getElem?_set, if_pos rfl, if_pos (by omega)], ?_⟩
          rw [hx]; congr 1; omega
        · have hak : a ≠ k := fun e2 => by subst e2; rw [hx] at hi; have := Option.some.inj hi; omega
          obtain ⟨b, h1, h2, h3⟩ := h a i (by omega) hi
          exact ⟨b, by omega, by rw [List.getElem?_set, if_neg e]; exact h2, h3⟩)
    (fun s hI => hI) (s := List.replicate g.length (0 : Int)) ⟨by simp, fun a i ha _ => by omega⟩
  refine ⟨one, h1, h2, fun i hi => ?_⟩
  obtain ⟨a, ha⟩ := hn.sur i hi
  obtain ⟨b, _, h4, h5⟩ := h3 a i (get_lt ha) ha
  exact ⟨b, h4, h5⟩
include hg in
theorem minimal_ok : ∃ f c Lf res, Num (Ra (dl g)) g.length f c ∧ m_impl_graph_minimal g = some res ∧ Bfs (dl g) (cf f) 0 [0] [] Lf res ∧ Met (cf f) g.length Lf := by
  have hgl := hg.le
  have hgp := hg.pos
  have hc := dl_clo hg
  obtain ⟨f, c, h1, hn, hst⟩ := rounds_num hg
  have hcl := hn.cle
  obtain ⟨one, h2, h3, h4⟩ := one_ok hn
  have hnx : Nx (dl g) (cf f) g.length (fun k e => m_impl_graph_minimal_1 k e g one f) := by
    intro s e hs he
    obtain ⟨v, hv, hv0, hv1⟩ := hn.at hs
    obtain ⟨a, ha, hfa⟩ := h4 v.toNat (by omega)
    have hvv : ((v.toNat : Nat) : Int) = v := by omega
    rw [hvv] at hfa
    have han := hn.val hfa
    have hr := (hn.eqv _ _ _ _ hfa hv).1 rfl
    have hm := hr.step he
    obtain ⟨hr4, hrv⟩ := hg.row _ (List.getElem_mem han)
    have hval : (g[a])[e]? = some g[a][e] := List.getElem?_eq_getElem (by omega)
    have hd : dl g a e = if g[a][e] < 0 then none else some g[a][e].toNat := by unfold dl; rw [List.getElem?_eq_getElem han, Option.bind_some, hval, Option.bind_some]
    have hmod : m_impl_graph_minimal_1 (cf f s) (e : Int) g one f = bif decide (g[a][e] < 0) then some (0, false) else (getI f g[a][e]).bind fun x24 => some (x24, true) := by
      unfold m_impl_graph_minimal_1 cf
      rw [hv, Option.getD_some, getI_of hv0 ha, Option.bind_some, getI_some (List.getElem?_eq_getElem han), Option.bind_some, getI_some hval, Option.bind_some]
    show match dl g s e with | none => ∃ k, m_impl_graph_minimal_1 (cf f s) (e : Int) g one f = some (k, false) | some x => m_impl_graph_minimal_1 (cf f s) (e : Int) g one f = some (cf f x, true)
    rw [hmod]
    by_cases hneg : g[a][e] < 0
    · rw [if_pos hneg] at hd
      rw [hd] at hm
      cases hs2 : dl g s e with
      | none => rw [decide_eq_true hneg]; exact ⟨0, rfl⟩
      | some x => rw [hs2] at hm; exact hm.elim
    · rw [if_neg hneg] at hd
      rw [hd] at hm
      cases hs2 : dl g s e with
      | none => rw [hs2] at hm; exact hm.elim
      | some x =>
        rw [hs2] at hm
        obtain ⟨u, hu, _⟩ := hn.at (hc _ _ _ hs he hs2)
        obtain ⟨w, hw, _⟩ := hn.at (hc _ _ _ han he hd)
        have hwu : w = u := (hn.eqv _ _ _ _ hw hu).2 hm
        subst hwu
        simp only [decide_eq_false hneg, cond_false]
        rw [getI_of (by omega) hw, Option.bind_some]
        unfold cf
        rw [hu]; rfl
  obtain ⟨Lf, res, h5, h6, h7⟩ := gw_ok (bz := 8) hc hgl (by omega) hnx (s := 0) (by omega)
  refine ⟨f, c, Lf, res, hn, ?_, h6, h7⟩
  obtain ⟨v, hv, _⟩ := hn.at (show 0 < g.length by omega)
  unfold m_impl_graph_minimal
  rw [makeI_some (by omega), Option.bind_some, h1, Option.bind_some]
  unfold m_impl_graph_minimal_A0
  rw [makeI_some (by omega), Option.bind_some, h2, Option.bind_some]
  unfold m_impl_graph_minimal_A3
  have hg0 : getI f (0 : Int) = some v := getI_some (n := 0) hv
  rw [hg0, Option.bind_some, grown_min]
  have hcv : cf f 0 = v := by unfold cf; rw [hv]; rfl
  rw [← hcv, h5, Option.bind_some]
end
end Go.Mod

namespace Go.Mod
open Go.AM
set_option linter.unusedVariables false
set_option linter.unusedSimpArgs false
structure Mk2 (R : Nat → Nat → Prop) (n : Nat) (f : List Int) : Prop where
  len : f.length = n
  rng : ∀ (a : Nat) v, f[a]? = some v → 0 ≤ v ∧ v < 200
  eqv : ∀ (a b : Nat) v w, f[a]? = some v → f[b]? = some w → (v = w ↔ R a b)
theorem Mk2.at {R : Nat → Nat → Prop} {n : Nat} {f : List Int} (h : Mk2 R n f) {a : Nat} (ha : a < n) : ∃ v, f[a]? = some v ∧ 0 ≤ v ∧ v < 200 := by
  have ha' : a < f.length := by rw [h.len]; exact ha
  exact ⟨f[a], List.getElem?_eq_getElem ha', h.rng a _ (List.getElem?_eq_getElem ha')⟩
section
variable {p : Policy} (hg : GOK p.Next)
include hg in
theorem cell_at {a e : Nat} (ha : a < p.Next.length) (he : e < 4) : ∃ x v, p.Next[a]? = some x ∧ x[e]? = some v ∧ -1 ≤ v ∧ v < p.Next.length ∧ dl p.Next a e = if v < 0 then none else some v.toNat := by
  obtain ⟨h4, hv⟩ := hg.row _ (List.getElem_mem ha)
  have hx : e < p.Next[a].length := by omega
  have hb := hv _ (List.getElem_mem hx)
  refine ⟨p.Next[a], p.Next[a][e], List.getElem?_eq_getElem ha, List.getElem?_eq_getElem hx, hb.1, hb.2, ?_⟩
  unfold dl
  rw [List.getElem?_eq_getElem ha, Option.bind_some, List.getElem?_eq_getElem hx, Option.bind_some]
include hg in
theorem alike_ok {f : List Int} {r : Nat} (hf : Mk2 (Rr (dl p.Next) r) p.Next.length f) {a b : Nat} (ha : a < p.Next.length) (hb : b < p.Next.length) :
    ∃ t, m_spec_l10Alike p f (a : Int) (b : Int) = some t ∧ (t = true ↔ Rr (dl p.Next) (r + 1) a b) := by
  obtain ⟨va, fa, _⟩ := hf.at ha
  obtain ⟨vb, fb, _⟩ := hf.at hb
  unfold m_spec_l10Alike
  rw [getI_some fa, Option.bind_some, getI_some fb, Option.bind_some]
  have hab := hf.eqv _ _ _ _ fa fb
  by_cases hv : va = vb
  · rw [decide_eq_true hv, Bool.not_true, cond_false]
    obtain ⟨t, h1, h2⟩ := iter_inv (step := m_spec_l10Alike_L0 p f a b) (fun s => ∃ e : Nat, s = (e : Int) ∧ e ≤ 4 ∧ ∀ k, k < e → Mt (Rr (dl p.Next) r) (dl p.Next a k) (dl p.Next b k)) (fun s => 4 - s.toNat)
      (fun t => (t = .inl () ∧ ∀ k, k < 4 → Mt (Rr (dl p.Next) r) (dl p.Next a k) (dl p.Next b k)) ∨ (t = .inr false ∧ ¬ ∀ k, k < 4 → Mt (Rr (dl p.Next) r) (dl p.Next a k) (dl p.Next b k)))
      (fun s ⟨e, he, h4, hI⟩ => by
        subst he
        unfold m_spec_l10Alike_L0
        by_cases hlt : e < 4
        · obtain ⟨xa, ua, ga, ha1, ha2, ha3, da⟩ := cell_at hg ha hlt
          obtain ⟨xb, ub, gb, hb1, hb2, hb3, db⟩ := cell_at hg hb hlt
          rw [decide_eq_true (show ((e : Nat) : Int) < 4 by omega), cond_true, getI_some ga, Option.bind_some, getI_some ha1, Option.bind_some, getI_some gb, Option.bind_some, getI_some hb1, Option.bind_some]
          have nxt : Mt (Rr (dl p.Next) r) (dl p.Next a e) (dl p.Next b e) → ∃ s', some (Ctl.next (τ := Unit ⊕ Bool) (w64 ((e : Int) + 1))) = some (.next s') ∧ (∃ e : Nat, s' = (e : Int) ∧ e ≤ 4 ∧ ∀ k, k < e → Mt (Rr (dl p.Next) r) (dl p.Next a k) (dl p.Next b k)) ∧ 4 - s'.toNat < 4 - ((e : Nat) : Int).toNat := by
            intro hm
            refine ⟨((e + 1 : Nat) : Int), by rw [w64_succ (by omega)], ⟨e + 1, rfl, by omega, fun k hk => ?_⟩, by omega⟩
            rcases Nat.lt_or_ge k e with h | h
            · exact hI k h
            · rw [show k = e by omega]; exact hm
          by_cases n1 : ua < 0 <;> by_cases n2 : ub < 0
          · rw [if_pos n1] at da; rw [if_pos n2] at db
            rw [decide_eq_true n1, decide_eq_true n2, decide_eq_false (show ¬ (0 : Int) ≤ ua by omega)]
            exact .inl (nxt (by rw [da, db]; trivial))
          · rw [if_pos n1] at da; rw [if_neg n2] at db
            rw [decide_eq_true n1, decide_eq_false n2]
            exact .inr ⟨_, rfl, .inr ⟨rfl, fun h => by have := h e hlt; rw [da, db] at this; exact this⟩⟩
          · rw [if_neg n1] at da; rw [if_pos n2] at db
            rw [decide_eq_false n1, decide_eq_true n2]
            exact .inr ⟨_, rfl, .inr ⟨rfl, fun h => by have := h e hlt; rw [da, db] at this; exact this⟩⟩
          · rw [if_neg n1] at da; rw [if_neg n2] at db
            obtain ⟨ca, hca, _⟩ := hf.at (show ua.toNat < p.Next.length by omega)
            obtain ⟨cb, hcb, _⟩ := hf.at (show ub.toNat < p.Next.length by omega)
            have hcc := hf.eqv _ _ _ _ hca hcb
            rw [decide_eq_false n1, decide_eq_false n2, decide_eq_true (show (0 : Int) ≤ ua by omega), getI_of (by omega) hca, Option.bind_some, getI_of (by omega) hcb, Option.bind_some]
            by_cases e1 : ca = cb
            · rw [decide_eq_true e1]
              exact .inl (nxt (by rw [da, db]; exact hcc.1 e1))
            · rw [decide_eq_false e1]
              exact .inr ⟨_, rfl, .inr ⟨rfl, fun h => by have := h e hlt; rw [da, db] at this; exact e1 (hcc.2 this)⟩⟩
        · have : e = 4 := by omega
          subst this
          exact .inr ⟨_, rfl, .inl ⟨rfl, hI⟩⟩)
      (s := (0 : Int)) ⟨0, rfl, by omega, fun k hk => by omega⟩
    rw [h1, Option.bind_some]
    rcases h2 with ⟨rfl, h2⟩ | ⟨rfl, h2⟩
    · exact ⟨true, rfl, fun _ => ⟨hab.1 hv, h2⟩, fun _ => rfl⟩
    · exact ⟨false, rfl, fun h => (by cases h), fun h => absurd h.2 h2⟩
  · rw [decide_eq_false hv, Bool.not_false, cond_true]
    exact ⟨false, rfl, fun h => (by cases h), fun h => absurd (hab.2 h.1) hv⟩
structure Mid2 (R : Nat → Nat → Prop) (i : Nat) (nx : List Int) : Prop where
  len : nx.length = i
  rng : ∀ (a : Nat) v, nx[a]? = some v → 0 ≤ v ∧ v ≤ a
  eqv : ∀ (a b : Nat) v w, nx[a]? = some v → nx[b]? = some w → (v = w ↔ R a b)
theorem Mid2.add {δ : Nat → Nat → Option Nat} {r i : Nat} {nx : List Int} {v : Int} (h : Mid2 (Rr δ r) i nx) (hv : (v = i ∧ ∀ k, k < i → ¬ Rr δ r k i) ∨ ∃ k, k < i ∧ Rr δ r k i ∧ nx[k]? = some v) : Mid2 (Rr δ r) (i + 1) (nx ++ [v]) := by
  have hget : ∀ (a : Nat) w, (nx ++ [v])[a]? = some w → (a < i ∧ nx[a]? = some w) ∨ (a = i ∧ w = v) := by
    intro a w ha
    rcases Nat.lt_or_ge a nx.length with hlt | hge
    · rw [List.getElem?_append_left hlt] at ha; exact .inl ⟨by rw [← h.len]; exact hlt, ha⟩
    · rw [List.getElem?_append_right hge] at ha
      have h0 : a - nx.length = 0 := by
        rcases Nat.eq_zero_or_pos (a - nx.length) with h | h
        · exact h
        · rw [List.getElem?_eq_none (by simp; omega)] at ha; cases ha
      rw [h0] at ha
      simp at ha
      exact .inr ⟨by have := h.len; omega, ha.symm⟩
  refine ⟨by simp [h.len], fun a w ha => ?_, fun a b x w ha hb => ?_⟩
  · rcases hget a w ha with ⟨_, h2⟩ | ⟨rfl, rfl⟩
    · exact h.rng a w h2
    · rcases hv with ⟨e, _⟩ | ⟨k, hk, _, h3⟩
      · omega
      · have := h.rng k _ h3; omega
  · rcases hget a x ha with ⟨la, ha2⟩ | ⟨rfl, rfl⟩ <;> rcases hget b w hb with ⟨lb, hb2⟩ | ⟨rfl, rfl⟩
    · exact h.eqv _ _ _ _ ha2 hb2
    · rcases hv with ⟨e, hno⟩ | ⟨k, hk, hr, h3⟩
      · have := h.rng a _ ha2
        exact ⟨fun g => by omega, fun g => absurd g (hno a la)⟩
      · rw [h.eqv _ _ _ _ ha2 h3]
        exact ⟨fun g => g.trans hr, fun g => g.trans hr.symm⟩
    · rcases hv with ⟨e, hno⟩ | ⟨k, hk, hr, h3⟩
      · have := h.rng b _ hb2
        exact ⟨fun g => by omega, fun g => absurd g.symm (hno b lb)⟩
      · rw [h.eqv _ _ _ _ h3 hb2]
        exact ⟨fun g => hr.symm.trans g, fun g => hr.trans g⟩
    · exact ⟨fun _ => Rr.refl _ _, fun _ => rfl⟩
include hg in
theorem find_ok {f : List Int} {r : Nat} (hf : Mk2 (Rr (dl p.Next) r) p.Next.length f) {i : Nat} (hi : i < p.Next.length) {nx : List Int} (h : Mid2 (Rr (dl p.Next) (r + 1)) i nx) (rd : Int) :
    ∃ t, iter (m_spec_l10Classes_L2 p (f, rd) (nx, (i : Int))) ((-1 : Int), (0 : Int)) = some t ∧ ((t = -1 ∧ ∀ k, k < i → ¬ Rr (dl p.Next) (r + 1) k i) ∨ ∃ k, k < i ∧ Rr (dl p.Next) (r + 1) k i ∧ nx[k]? = some t) := by
  have hgl := hg.le
  refine iter_inv (step := m_spec_l10Classes_L2 p (f, rd) (nx, (i : Int))) (fun s => ∃ k : Nat, s.2 = (k : Int) ∧ k ≤ i ∧ ((s.1 = -1 ∧ ∀ j, j < k → ¬ Rr (dl p.Next) (r + 1) j i) ∨ ∃ j, j < i ∧ Rr (dl p.Next) (r + 1) j i ∧ nx[j]? = some s.1)) (fun s => i - s.2.toNat) _
    (fun s ⟨k, hk, hki, hs⟩ => ?_) (s := ((-1 : Int), (0 : Int))) ⟨0, rfl, by omega, .inl ⟨rfl, fun j hj => by omega⟩⟩
  unfold m_spec_l10Classes_L2
  simp only
  rw [hk]
  have hout : ∀ j, nx[j]? = some s.1 → 0 ≤ s.1 := fun j hj => (h.rng j _ hj).1
  by_cases hlt : k < i
  · rcases hs with ⟨h1, h2⟩ | ⟨j, h1, h2, h3⟩
    · obtain ⟨t, e1, e2⟩ := alike_ok hg hf (a := k) (b := i) (by omega) hi
      rw [h1, dec_lt hlt, decide_eq_true (show (-1 : Int) < 0 by omega), Bool.and_self, cond_true, e1, Option.bind_some]
      obtain ⟨w, hw⟩ : ∃ w, nx[k]? = some w := ⟨_, List.getElem?_eq_getElem (show k < nx.length by rw [h.len]; exact hlt)⟩
      cases t with
      | true =>
        rw [cond_true, getI_some hw, Option.bind_some, w64_succ (by omega)]
        exact .inl ⟨_, rfl, ⟨k + 1, rfl, by omega, .inr ⟨k, hlt, e2.1 rfl, hw⟩⟩, by show i - ((k + 1 : Nat) : Int).toNat < i - ((k : Nat) : Int).toNat; omega⟩
      | false =>
        rw [cond_false, w64_succ (by omega)]
        refine .inl ⟨_, rfl, ⟨k + 1, rfl, by omega, .inl ⟨rfl, fun j hj => ?_⟩⟩, by show i - ((k + 1 : Nat) : Int).toNat < i - ((k : Nat) : Int).toNat; omega⟩
        rcases Nat.lt_or_ge j k with g | g
        · exact h2 j g
        · rw [show j = k by omega]; exact fun q => by have := e2.2 q; cases this
    · have := hout j h3
      rw [decide_eq_false (show ¬ s.1 < 0 by omega), Bool.and_false, cond_false]
      exact .inr ⟨_, rfl, .inr ⟨j, h1, h2, h3⟩⟩
  · have : k = i := by omega
    subst this
    rw [dec_self, Bool.false_and, cond_false]
    exact .inr ⟨_, rfl, hs⟩
include hg in
theorem round2 {f : List Int} {r : Nat} (hf : Mk2 (Rr (dl p.Next) r) p.Next.length f) (rd : Int) : ∃ f', iter (m_spec_l10Classes_L1 p (f, rd)) (([] : List Int), (0 : Int)) = some f' ∧ Mk2 (Rr (dl p.Next) (r + 1)) p.Next.length f' := by
  have hgl := hg.le
  obtain ⟨f', h1, h2⟩ := iter_inv (step := m_spec_l10Classes_L1 p (f, rd)) (fun s => ∃ i : Nat, s.2 = (i : Int) ∧ i ≤ p.Next.length ∧ Mid2 (Rr (dl p.Next) (r + 1)) i s.1) (fun s => p.Next.length - s.2.toNat) (fun t => Mid2 (Rr (dl p.Next) (r + 1)) p.Next.length t)
    (fun s ⟨i, hs, hi, hm⟩ => by
      unfold m_spec_l10Classes_L1
      rw [hs]
      by_cases hlt : i < p.Next.length
      · obtain ⟨t, e1, e2⟩ := find_ok hg hf hlt hm rd
        have hs1 : s = (s.1, (i : Int)) := by rw [← hs]
        rw [dec_lt hlt, cond_true, hs1, e1, Option.bind_some]
        unfold m_spec_l10Classes_A2
        simp only
        have hl := hm.len
        rcases e2 with ⟨rfl, e2⟩ | ⟨k, hk, e3, e4⟩
        · rw [decide_eq_true (show (-1 : Int) < 0 by omega), cond_true, capI_some (by simp; omega), Option.bind_some, w64_succ (by omega)]
          exact .inl ⟨_, rfl, ⟨i + 1, rfl, by omega, hm.add (.inl ⟨rfl, e2⟩)⟩, by show p.Next.length - ((i + 1 : Nat) : Int).toNat < p.Next.length - ((i : Nat) : Int).toNat; omega⟩
        · have := hm.rng k _ e4
          rw [decide_eq_false (show ¬ t < 0 by omega), cond_false, capI_some (by simp; omega), Option.bind_some, w64_succ (by omega)]
          exact .inl ⟨_, rfl, ⟨i + 1, rfl, by omega, hm.add (.inr ⟨k, hk, e3, e4⟩)⟩, by show p.Next.length - ((i + 1 : Nat) : Int).toNat < p.Next.length - ((i : Nat) : Int).toNat; omega⟩
      · have : i = p.Next.length := by omega
        subst this
        rw [dec_self, cond_false]
        exact .inr ⟨_, rfl, hm⟩)
    (s := (([] : List Int), (0 : Int))) ⟨0, rfl, by omega, rfl, fun a v hv => (by simp at hv), fun a b v w hv => (by simp at hv)⟩
  exact ⟨f', h1, h2.len, fun a v hv => by have := h2.rng a v hv; have := get_lt hv; have := h2.len; omega, h2.eqv⟩
include hg in
theorem classes_ok : ∃ f, m_spec_l10Classes p = some f ∧ f.length = p.Next.length ∧ ∀ (a b : Nat) v w, f[a]? = some v → f[b]? = some w → (v = w ↔ Ra (dl p.Next) a b) := by
  have hgl := hg.le
  obtain ⟨f, h1, h2⟩ := iter_inv (step := m_spec_l10Classes_L0 p) (fun s => ∃ r : Nat, s.2 = (r : Int) ∧ r ≤ p.Next.length ∧ Mk2 (Rr (dl p.Next) r) p.Next.length s.1) (fun s => p.Next.length - s.2.toNat) (fun t => Mk2 (Rr (dl p.Next) p.Next.length) p.Next.length t)
    (fun s ⟨r, hs, hr, hm⟩ => by
      unfold m_spec_l10Classes_L0
      rw [hs]
      by_cases hlt : r < p.Next.length
      · obtain ⟨f', e1, e2⟩ := round2 hg hm s.2
        rw [dec_lt hlt, cond_true]
        have e1 : iter (m_spec_l10Classes_L1 p s) (([] : List Int), (0 : Int)) = some f' := e1
        rw [e1, Option.bind_some]
        unfold m_spec_l10Classes_A1
        rw [hs, w64_succ (by omega)]
        exact .inl ⟨_, rfl, ⟨r + 1, rfl, by omega, e2⟩, by show p.Next.length - ((r + 1 : Nat) : Int).toNat < p.Next.length - ((r : Nat) : Int).toNat; omega⟩
      · have : r = p.Next.length := by omega
        subst this
        rw [dec_self, cond_false]
        exact .inr ⟨_, rfl, hm⟩)
    (s := (List.replicate p.Next.length (0 : Int), (0 : Int))) ⟨0, rfl, by omega, by simp, fun a v hv => (by
        rw [List.getElem?_replicate] at hv; split at hv
        · have := Option.some.inj hv; omega
        · cases hv), fun a b v w hv hw => by
        rw [List.getElem?_replicate] at hv hw; split at hv <;> split at hw
        · have := Option.some.inj hv; have := Option.some.inj hw; exact ⟨fun _ => trivial, fun _ => by omega⟩
        · cases hw
        · cases hv
        · cases hv⟩
  refine ⟨f, ?_, h2.len, fun a b v w hv hw => ?_⟩
  · unfold m_spec_l10Classes
    rw [makeI_some (by omega), Option.bind_some, h1]; rfl
  · rw [h2.eqv a b v w hv hw]
    exact stab_n (dl_clo hg) hg.pos a b (by rw [← h2.len]; exact get_lt hv) (by rw [← h2.len]; exact get_lt hw)
end
theorem kfind_last {K : Type} [DecidableEq K] {c x : K} {ks : List K} {k : Nat} (hk : ks[k]? = some x) (hn : ks.Nodup) : kfind c (ks.take (k + 1)) = if x = c then some k else kfind c (ks.take k) := by
  have hl : (ks.take k).length = k := by rw [List.length_take]; have := get_lt hk; omega
  rw [List.take_add_one, hk, Option.toList_some, kfind_app, hl]
  by_cases e : x = c
  · subst e
    rw [if_pos rfl]
    cases h : kfind x (ks.take k) with
    | none => rw [if_pos rfl]
    | some i =>
      have h1 := kfind_some h
      rw [List.getElem?_take] at h1
      split at h1
      · rename_i hi
        have h2 := (List.getElem?_eq_some_iff.1 h1)
        have h3 := (List.getElem?_eq_some_iff.1 hk)
        have := List.pairwise_iff_getElem.1 hn i k h2.1 h3.1 hi
        exact absurd (h2.2.trans h3.2.symm) this
      · cases h1
  · rw [if_neg e]
    cases kfind c (ks.take k) with
    | none => simp only [if_neg e]
    | some i => simp only [if_neg e]
section
variable {p : Policy} (hg : GOK p.Next) {f : List Int} (hfl : f.length = p.Next.length)
include hg hfl in
theorem look_ok {L : List Nat} (hm : Met (cf f) p.Next.length L) {x : Nat} (hx : x < p.Next.length) (l1 row : List Int) (e : Int) :
    iter (m_spec_l10Minimal_L2 f (l1, L.map (cf f), row, e) (x : Int)) ((-1 : Int), (0 : Int)) = some (match kfind (cf f x) (L.map (cf f)) with | some j => (j : Int) | none => -1) := by
  have hml := hm.len
  have hgl := hg.le
  have hfx : f[x]? = some (cf f x) := by unfold cf; rw [List.getElem?_eq_getElem (by omega)]; rfl
  obtain ⟨t, h1, h2⟩ := iter_inv (step := m_spec_l10Minimal_L2 f (l1, L.map (cf f), row, e) (x : Int)) (fun s => ∃ k : Nat, s.2 = (k : Int) ∧ k ≤ (L.map (cf f)).length ∧ s.1 = match kfind (cf f x) ((L.map (cf f)).take k) with | some j => (j : Int) | none => -1)
    (fun s => (L.map (cf f)).length - s.2.toNat) (fun t => t = match kfind (cf f x) (L.map (cf f)) with | some j => (j : Int) | none => -1)
    (fun s ⟨k, hk, hkl, hs⟩ => by
      unfold m_spec_l10Minimal_L2
      simp only
      rw [hk]
      by_cases hlt : k < (L.map (cf f)).length
      · have hv := List.getElem?_eq_getElem hlt
        rw [dec_lt hlt, cond_true, getI_some hv, Option.bind_some, getI_some hfx, Option.bind_some, w64_succ (by rw [List.length_map] at hlt; omega)]
        have hl := kfind_last (c := cf f x) hv hm.nd
        by_cases e1 : (L.map (cf f))[k] = cf f x
        · rw [decide_eq_true e1, cond_true]
          exact .inl ⟨_, rfl, ⟨k + 1, rfl, by omega, by rw [hl, if_pos e1]⟩, by show (L.map (cf f)).length - ((k + 1 : Nat) : Int).toNat < (L.map (cf f)).length - ((k : Nat) : Int).toNat; omega⟩
        · rw [decide_eq_false e1, cond_false]
          exact .inl ⟨_, rfl, ⟨k + 1, rfl, by omega, by rw [hl, if_neg e1]; exact hs⟩, by show (L.map (cf f)).length - ((k + 1 : Nat) : Int).toNat < (L.map (cf f)).length - ((k : Nat) : Int).toNat; omega⟩
      · have : k = (L.map (cf f)).length := by omega
        subst this
        rw [dec_self, cond_false]
        exact .inr ⟨_, rfl, by rw [hs, List.take_length]⟩)
    (s := ((-1 : Int), (0 : Int))) ⟨0, rfl, by omega, by simp [kfind]⟩
  rw [h1, h2]
def ns (L : List Nat) : List Int := L.map fun i : Nat => (i : Int)
include hg hfl in
theorem row2 {i s : Nat} (hs : s < p.Next.length) (s0 : (List Int) × (List Int) × (List (List Int)) × Int) (h0 : s0.2.2.2 = (i : Int)) : ∀ (k e : Nat) (L : List Nat) (row : List Int), e + k = 4 → L[i]? = some s → Met (cf f) p.Next.length L → row.length ≤ e →
    iter (m_spec_l10Minimal_L1 p f s0) (ns L, L.map (cf f), row, (e : Int)) = some (ns (hops (dl p.Next) (cf f) s k e L row).1, (hops (dl p.Next) (cf f) s k e L row).1.map (cf f), (hops (dl p.Next) (cf f) s k e L row).2)
  | 0, e, L, row, he, _, _, _ => by
    have : e = 4 := by omega
    subst this
    exact iter_out rfl
  | k + 1, e, L, row, he, hi, hm, hr => by
    have hml := hm.len
    have hgl := hg.le
    have hc := dl_clo hg
    obtain ⟨x, v, g1, g2, g3, g4, hd⟩ := cell_at hg hs (show e < 4 by omega)
    have step : m_spec_l10Minimal_L1 p f s0 (ns L, L.map (cf f), row, (e : Int)) = some (.next (ns (hop (cf f) L row (dl p.Next s e)).1, (hop (cf f) L row (dl p.Next s e)).1.map (cf f), (hop (cf f) L row (dl p.Next s e)).2, ((e + 1 : Nat) : Int))) := by
      unfold m_spec_l10Minimal_L1
      simp only
      rw [decide_eq_true (show ((e : Nat) : Int) < 4 by omega), cond_true, h0, getI_some (show (ns L)[i]? = some (s : Int) by unfold ns; rw [List.getElem?_map, hi]; rfl), Option.bind_some, getI_some g1, Option.bind_some, getI_some g2, Option.bind_some]
      by_cases n1 : v < 0
      · rw [if_pos n1] at hd
        rw [decide_eq_true n1, cond_true, capI_some (by simp; omega), Option.bind_some, w64_succ (by omega), hd]
        rfl
      · rw [if_neg n1] at hd
        have hvx : v = ((v.toNat : Nat) : Int) := by omega
        have hxn := hc s e _ hs (by omega) hd
        rw [decide_eq_false n1, cond_false, hvx, look_ok hg hfl hm hxn, Option.bind_some, hd]
        unfold m_spec_l10Minimal_A2
        simp only
        have hfx : f[v.toNat]? = some (cf f v.toNat) := by unfold cf; rw [List.getElem?_eq_getElem (by omega)]; rfl
        cases hk : kfind (cf f v.toNat) (L.map (cf f)) with
        | some j =>
          simp only [Int.toNat_natCast, hk]
          rw [decide_eq_false (show ¬ ((j : Nat) : Int) < 0 by omega), cond_false, capI_some (by simp; omega), Option.bind_some, w64_succ (by omega)]
          simp only [hop, hk]
        | none =>
          simp only [Int.toNat_natCast, hk]
          rw [decide_eq_true (show (-1 : Int) < 0 by omega), cond_true, getI_some hfx, Option.bind_some, capI_some (by simp; omega), Option.bind_some, capI_some (by simp [ns]; omega), Option.bind_some, capI_some (by simp; omega), Option.bind_some, w64_succ (by omega)]
          simp [hop, hk, ns]
    obtain ⟨T, hT⟩ := hop_pre (cl := cf f) (L := L) (row := row) (o := dl p.Next s e)
    rw [iter_next step]
    exact row2 hs s0 h0 k (e + 1) _ _ (by omega) (by rw [hT, List.getElem?_append_left (get_lt hi)]; exact hi) (hm.hop (fun x h => hc s e x hs (by omega) h)) (by rw [hop_row]; omega)
include hg hfl in
theorem loop2 : ∀ (m i : Nat) (L : List Nat) (out : List (List Int)), p.Next.length ≤ i + m → i ≤ L.length → Met (cf f) p.Next.length L → out.length = i →
    ∃ Lf res, iter (m_spec_l10Minimal_L0 p f) (ns L, L.map (cf f), out, (i : Int)) = some res ∧ Bfs (dl p.Next) (cf f) i L out Lf res ∧ Met (cf f) p.Next.length Lf := by
  have hgl := hg.le
  have hc := dl_clo hg
  intro m
  induction m with
  | zero =>
    intro i L out hm hi hmet ho
    have := hmet.len
    refine ⟨L, out, iter_out ?_, .done (by omega), hmet⟩
    unfold m_spec_l10Minimal_L0 ns
    simp only
    rw [List.length_map, decide_eq_false (by omega), cond_false]
  | succ m ih =>
    intro i L out hm hi hmet ho
    have hml := hmet.len
    by_cases hlt : i < L.length
    · have hs : L[i]? = some L[i] := List.getElem?_eq_getElem hlt
      have hsn := hmet.lt _ (List.getElem_mem hlt)
      have h1 := row2 hg hfl hsn (ns L, L.map (cf f), out, (i : Int)) rfl 4 0 L [] rfl hs hmet (by simp)
      obtain ⟨T, hT⟩ := hops_pre (δ := dl p.Next) (cl := cf f) L[i] 4 0 L []
      have h2 : ∀ (k e : Nat) (L' : List Nat) (row : List Int), e + k ≤ 4 → Met (cf f) p.Next.length L' → Met (cf f) p.Next.length (hops (dl p.Next) (cf f) L[i] k e L' row).1 := by
        intro k
        induction k with
        | zero => intro e L' row _ h; exact h
        | succ k ihk => intro e L' row he h; exact ihk (e + 1) _ _ (by omega) (h.hop (fun x hx => hc _ _ _ hsn (by omega) hx))
      have hmet2 := h2 4 0 L [] (by omega) hmet
      have hstep : m_spec_l10Minimal_L0 p f (ns L, L.map (cf f), out, (i : Int)) = some (.next (ns (hops (dl p.Next) (cf f) L[i] 4 0 L []).1, (hops (dl p.Next) (cf f) L[i] 4 0 L []).1.map (cf f), out ++ [(hops (dl p.Next) (cf f) L[i] 4 0 L []).2], ((i + 1 : Nat) : Int))) := by
        unfold m_spec_l10Minimal_L0
        simp only
        have h1 : iter (m_spec_l10Minimal_L1 p f (ns L, L.map (cf f), out, (i : Int))) (ns L, L.map (cf f), [], (0 : Int)) = _ := h1
        rw [show (ns L).length = L.length from List.length_map _, dec_lt hlt, cond_true, h1, Option.bind_some]
        unfold m_spec_l10Minimal_A1
        simp only
        rw [capI_some (by simp; omega), Option.bind_some, w64_succ (by omega)]
      obtain ⟨Lf, res, h4, h5, h6⟩ := ih (i + 1) (hops (dl p.Next) (cf f) L[i] 4 0 L []).1 (out ++ [(hops (dl p.Next) (cf f) L[i] 4 0 L []).2]) (by omega) (by rw [hT]; simp; omega) hmet2 (by simp [ho])
      exact ⟨Lf, res, by rw [iter_next hstep]; exact h4, .step hs h5, h6⟩
    · refine ⟨L, out, iter_out ?_, .done (by omega), hmet⟩
      unfold m_spec_l10Minimal_L0 ns
      simp only
      rw [List.length_map, decide_eq_false (by omega), cond_false]
include hg in
theorem spec_minimal : ∃ f Lf res, f.length = p.Next.length ∧ (∀ (a b : Nat) v w, f[a]? = some v → f[b]? = some w → (v = w ↔ Ra (dl p.Next) a b)) ∧ m_spec_l10Minimal p = some ⟨res⟩ ∧ Bfs (dl p.Next) (cf f) 0 [0] [] Lf res ∧ Met (cf f) p.Next.length Lf := by
  have hgp := hg.pos
  obtain ⟨f, h1, h2, h3⟩ := classes_ok hg
  obtain ⟨Lf, res, h4, h5, h6⟩ := loop2 hg h2 p.Next.length 0 [0] [] (by omega) (by simp) ⟨by simp, by simp; omega⟩ rfl
  refine ⟨f, Lf, res, h2, h3, ?_, h5, h6⟩
  have hf0 : f[0]? = some (cf f 0) := by unfold cf; rw [List.getElem?_eq_getElem (by omega)]; rfl
  unfold m_spec_l10Minimal
  rw [h1, Option.bind_some, show getI f (0 : Int) = some (cf f 0) from getI_some (n := 0) hf0, Option.bind_some]
  have h4 : iter (m_spec_l10Minimal_L0 p f) ([(0 : Int)], [cf f 0], [], (0 : Int)) = some res := h4
  rw [h4]; rfl
end
theorem cf_iff {R : Nat → Nat → Prop} {n : Nat} {f : List Int} (hl : f.length = n) (h : ∀ (a b : Nat) v w, f[a]? = some v → f[b]? = some w → (v = w ↔ R a b)) {a b : Nat} (ha : a < n) (hb : b < n) : cf f a = cf f b ↔ R a b := by
  have h1 : f[a]? = some (cf f a) := by unfold cf; rw [List.getElem?_eq_getElem (by omega)]; rfl
  have h2 : f[b]? = some (cf f b) := by unfold cf; rw [List.getElem?_eq_getElem (by omega)]; rfl
  exact h a b _ _ h1 h2
theorem Bfs.size {K : Type} [DecidableEq K] {δ : Nat → Nat → Option Nat} {cl : Nat → K} {i : Nat} {L Lf : List Nat} {out res : List (List Int)} (h : Bfs δ cl i L out Lf res) : i ≤ L.length → out.length = i → (∀ x ∈ out, x.length = 4) → res.length = Lf.length ∧ ∀ x ∈ res, x.length = 4 := by
  induction h with
  | done hl => exact fun h1 h2 h3 => ⟨by omega, h3⟩
  | @step i s L Lf out res hs hb ih =>
    intro h1 h2 h3
    obtain ⟨T, hT⟩ := hops_pre (δ := δ) (cl := cl) s 4 0 L []
    refine ih (by rw [hT]; have := get_lt hs; simp; omega) (by simp [h2]) (fun x hx => ?_)
    rcases List.mem_append.1 hx with hx | hx
    · exact h3 x hx
    · simp at hx; subst hx; rw [hops_row]; rfl
theorem pc_of_rows {res : List (List Int)} {n : Nat} (h1 : res.length ≤ n) (h2 : ∀ x ∈ res, x.length = 4) : res.length + (res.map List.length).sum ≤ 5 * n := by
  have : (res.map List.length).sum = 4 * res.length := by
    induction res with
    | nil => rfl
    | cons a r ih =>
      simp only [List.map_cons, List.sum_cons, List.length_cons]
      rw [ih (by simp at h1; omega) (fun x hx => h2 x (by simp [hx])), h2 a (by simp)]; omega
  omega
end Go.Mod

namespace Go.Mod
open Go.AM
set_option linter.unusedVariables false
set_option linter.unusedSimpArgs false
def Cell {K : Type} (cl : Nat → K) (L : List Nat) (o : Option Nat) (c : Int) : Prop :=
  match o with
  | none => c = -1
  | some x => ∃ (t y : Nat), c = (t : Int) ∧ L[t]? = some y ∧ cl y = cl x
theorem Cell.more {K : Type} {cl : Nat → K} {L M : List Nat} {o : Option Nat} {c : Int} (h : Cell cl L o c) : Cell cl (L ++ M) o c := by
  cases o with
  | none => exact h
  | some x =>
    obtain ⟨t, y, h1, h2, h3⟩ := h
    exact ⟨t, y, h1, by rw [List.getElem?_append_left (get_lt h2)]; exact h2, h3⟩
section
variable {K : Type} [DecidableEq K] {δ : Nat → Nat → Option Nat} {cl : Nat → K}
theorem hop_cell {L : List Nat} {row : List Int} {o : Option Nat} : ∃ c, (hop cl L row o).2 = row ++ [c] ∧ Cell cl (hop cl L row o).1 o c := by
  unfold hop
  cases o with
  | none => exact ⟨_, rfl, rfl⟩
  | some x =>
    cases hk : kfind (cl x) (L.map cl) with
    | some j =>
      simp only [hk]
      have := kfind_some hk
      rw [List.getElem?_map] at this
      cases hy : L[j]? with
      | none => rw [hy] at this; cases this
      | some y => rw [hy] at this; exact ⟨_, rfl, j, y, rfl, hy, Option.some.inj this⟩
    | none =>
      simp only [hk]
      exact ⟨_, rfl, L.length, x, rfl, by simp, rfl⟩
theorem hops_cells (s : Nat) : ∀ (k e : Nat) (L : List Nat) (row : List Int), ∃ cs, (hops δ cl s k e L row).2 = row ++ cs ∧ cs.length = k ∧ ∀ j, j < k → ∃ c, cs[j]? = some c ∧ Cell cl (hops δ cl s k e L row).1 (δ s (e + j)) c
  | 0, e, L, row => ⟨[], by simp [hops], rfl, fun j hj => by omega⟩
  | k + 1, e, L, row => by
    obtain ⟨c, h1, h2⟩ := hop_cell (cl := cl) (L := L) (row := row) (o := δ s e)
    obtain ⟨cs, h3, h4, h5⟩ := hops_cells s k (e + 1) (hop cl L row (δ s e)).1 (hop cl L row (δ s e)).2
    obtain ⟨M, hM⟩ := hops_pre (δ := δ) (cl := cl) s k (e + 1) (hop cl L row (δ s e)).1 (hop cl L row (δ s e)).2
    refine ⟨c :: cs, ?_, by simp [h4], fun j hj => ?_⟩
    · simp only [hops]; rw [h3, h1]; simp
    · cases j with
      | zero => exact ⟨c, rfl, by simp only [hops]; rw [hM]; exact h2.more⟩
      | succ j =>
        obtain ⟨d, h6, h7⟩ := h5 j (by omega)
        exact ⟨d, by simpa using h6, by simp only [hops]; rw [show e + (j + 1) = e + 1 + j by omega]; exact h7⟩
theorem Bfs.rows {i : Nat} {L Lf : List Nat} {out res : List (List Int)} (h : Bfs δ cl i L out Lf res) : i ≤ L.length → out.length = i →
    (∃ T, Lf = L ++ T) ∧ (∃ U, res = out ++ U) ∧ res.length = Lf.length ∧ ∀ j, i ≤ j → j < Lf.length → ∃ s row, Lf[j]? = some s ∧ res[j]? = some row ∧ row.length = 4 ∧ ∀ e, e < 4 → ∃ c, row[e]? = some c ∧ Cell cl Lf (δ s e) c := by
  induction h with
  | done hl => exact fun h1 h2 => ⟨⟨[], by simp⟩, ⟨[], by simp⟩, by omega, fun j h3 h4 => by omega⟩
  | @step i s L Lf out res hs hb ih =>
    intro h1 h2
    obtain ⟨T, hT⟩ := hops_pre (δ := δ) (cl := cl) s 4 0 L []
    obtain ⟨cs, c1, c2, c3⟩ := hops_cells (δ := δ) (cl := cl) s 4 0 L []
    obtain ⟨⟨T2, e1⟩, ⟨U, e2⟩, e3, e4⟩ := ih (by rw [hT]; have := get_lt hs; simp; omega) (by simp [h2])
    refine ⟨⟨T ++ T2, by rw [e1, hT, List.append_assoc]⟩, ⟨[(hops δ cl s 4 0 L []).2] ++ U, by rw [e2, List.append_assoc]⟩, e3, fun j hj hjl => ?_⟩
    rcases Nat.eq_or_lt_of_le hj with rfl | hlt
    · refine ⟨s, (hops δ cl s 4 0 L []).2, ?_, ?_, by rw [hops_row]; rfl, fun e he => ?_⟩
      · rw [e1, hT, List.append_assoc, List.getElem?_append_left (get_lt hs)]; exact hs
      · rw [e2, List.append_assoc, List.getElem?_append_right (by omega), h2]; simp
      · obtain ⟨c, d1, d2⟩ := c3 e he
        refine ⟨c, by rw [c1]; simpa using d1, ?_⟩
        rw [Nat.zero_add] at d2
        rw [e1]
        exact d2.more
    · exact e4 j hlt hjl
end
theorem quoI_nat {a b : Nat} (hb : 0 < b) (ha : a < 1000) : quoI (a : Int) (b : Int) = some ((a / b : Nat) : Int) := by
  unfold quoI
  rw [decide_eq_false (by omega), cond_false]
  have h1 : a / b ≤ a := Nat.div_le_self _ _
  have e : Int.tdiv (a : Int) (b : Int) = ((a / b : Nat) : Int) := rfl
  rw [e]
  generalize a / b = k at h1
  rw [w64_eq (by omega)]
theorem remI_nat {a b : Nat} (hb : 0 < b) : remI (a : Int) (b : Int) = some ((a % b : Nat) : Int) := by
  unfold remI
  rw [decide_eq_false (by omega), cond_false]
  rfl
section
variable {p q : Policy} (hp : vP p = true) (hq : vP q = true)
def pr (q : Policy) (i : Nat) : Int × Int := (((i / q.Next.length : Nat) : Int), ((i % q.Next.length : Nat) : Int))
def bthE (q : Policy) (x y : Int) : Int := if x < 0 ∨ y < 0 then -1 else x * (q.Next.length : Int) + y
include hp hq in
theorem pair_at {i e : Nat} (hi : i < p.Next.length * q.Next.length) (he : e < 4) : ∃ xr x yr y, p.Next[i / q.Next.length]? = some xr ∧ xr[e]? = some x ∧ q.Next[i % q.Next.length]? = some yr ∧ yr[e]? = some y ∧
    -1 ≤ x ∧ x < p.Next.length ∧ -1 ≤ y ∧ y < q.Next.length := by
  have h1 := vP_len hq
  have ha : i / q.Next.length < p.Next.length := (Nat.div_lt_iff_lt_mul (by omega)).2 hi
  have hb : i % q.Next.length < q.Next.length := Nat.mod_lt _ (by omega)
  obtain ⟨a4, av⟩ := vP_row hp (List.getElem_mem ha)
  obtain ⟨b4, bv⟩ := vP_row hq (List.getElem_mem hb)
  have l1 : e < (p.Next[i / q.Next.length]).length := by omega
  have l2 : e < (q.Next[i % q.Next.length]).length := by omega
  have v1 := av _ (List.getElem_mem l1)
  have v2 := bv _ (List.getElem_mem l2)
  exact ⟨_, _, _, _, List.getElem?_eq_getElem ha, List.getElem?_eq_getElem l1, List.getElem?_eq_getElem hb, List.getElem?_eq_getElem l2, v1.1, by omega, v2.1, by omega⟩
theorem code_lt {a b n m : Nat} (ha : a < n) (hb : b < m) : a * m + b < n * m := by
  have : (a + 1) * m ≤ n * m := Nat.mul_le_mul_right m ha
  rw [Nat.add_mul, Nat.one_mul] at this
  omega
theorem code_of {x y : Int} {m : Nat} (hx : 0 ≤ x) (hy : 0 ≤ y) : ((x.toNat * m + y.toNat : Nat) : Int) = x * (m : Int) + y := by
  rw [Int.natCast_add, Int.natCast_mul, Int.toNat_of_nonneg hx, Int.toNat_of_nonneg hy]
theorem bnd_mul {n m : Nat} (h1 : n ≤ 12) (h2 : m ≤ 12) : n * m ≤ 144 := Nat.mul_le_mul h1 h2
include hp hq in
theorem both_ok : ∃ g, m_spec_l10Both p q = some ⟨g⟩ ∧ g.length = p.Next.length * q.Next.length ∧ ∀ i, i < p.Next.length * q.Next.length → ∃ row, g[i]? = some row ∧ row.length = 4 ∧
    ∀ e xr x yr y, e < 4 → p.Next[i / q.Next.length]? = some xr → xr[e]? = some x → q.Next[i % q.Next.length]? = some yr → yr[e]? = some y → row[e]? = some (bthE q x y) := by
  have h1 := vP_len hp
  have h2 := vP_len hq
  have hb := bnd_mul h1.2 h2.2
  have row_ok : ∀ i, i < p.Next.length * q.Next.length → ∀ s0 : (List (List Int)) × Int, s0.2 = (i : Int) → ∃ row, iter (m_spec_l10Both_L1 p q s0) (([] : List Int), (0 : Int)) = some row ∧ row.length = 4 ∧
      ∀ e xr x yr y, e < 4 → p.Next[i / q.Next.length]? = some xr → xr[e]? = some x → q.Next[i % q.Next.length]? = some yr → yr[e]? = some y → row[e]? = some (bthE q x y) := by
    intro i hi s0 h0
    refine iter_inv (step := m_spec_l10Both_L1 p q s0) (fun s => ∃ k : Nat, s.2 = (k : Int) ∧ k ≤ 4 ∧ s.1.length = k ∧
      ∀ e xr x yr y, e < k → p.Next[i / q.Next.length]? = some xr → xr[e]? = some x → q.Next[i % q.Next.length]? = some yr → yr[e]? = some y → s.1[e]? = some (bthE q x y)) (fun s => 4 - s.2.toNat) _
      (fun s ⟨k, hk, hk4, hl, hs⟩ => ?_) (s := (([] : List Int), (0 : Int))) ⟨0, rfl, by omega, rfl, fun e _ _ _ _ he => by omega⟩
    unfold m_spec_l10Both_L1
    rw [hk]
    by_cases hlt : k < 4
    · obtain ⟨xr, x, yr, y, g1, g2, g3, g4, b1, b2, b3, b4⟩ := pair_at hp hq hi hlt
      rw [decide_eq_true (show ((k : Nat) : Int) < 4 by omega), cond_true, h0, quoI_nat (by omega) (by omega), Option.bind_some, getI_some g1, Option.bind_some, getI_some g2, Option.bind_some, remI_nat (by omega), Option.bind_some, getI_some g3, Option.bind_some, getI_some g4, Option.bind_some]
      have nxt : ∀ v, v = bthE q x y → ∃ k' : Nat, w64 ((k : Int) + 1) = (k' : Int) ∧ k' ≤ 4 ∧ (s.1 ++ [v]).length = k' ∧ ∀ e xr x yr y, e < k' → p.Next[i / q.Next.length]? = some xr → xr[e]? = some x → q.Next[i % q.Next.length]? = some yr → yr[e]? = some y → (s.1 ++ [v])[e]? = some (bthE q x y) := by
        rintro v rfl
        refine ⟨k + 1, w64_succ (by omega), by omega, by simp [hl], fun e xr' x' yr' y' he e1 e2 e3 e4 => ?_⟩
        rcases Nat.lt_or_ge e k with h | h
        · rw [List.getElem?_append_left (by omega)]; exact hs e xr' x' yr' y' h e1 e2 e3 e4
        · have : e = k := by omega
          subst this
          rw [g1] at e1; rw [g3] at e3
          obtain rfl := Option.some.inj e1
          obtain rfl := Option.some.inj e3
          rw [g2] at e2; rw [g4] at e4
          obtain rfl := Option.some.inj e2
          obtain rfl := Option.some.inj e4
          rw [List.getElem?_append_right (by omega), hl, Nat.sub_self]; rfl
      have dec : 4 - (w64 ((k : Int) + 1)).toNat < 4 - ((k : Nat) : Int).toNat := by rw [w64_succ (by omega)]; omega
      by_cases hn : x < 0 ∨ y < 0
      · have e1 : (decide (x < 0) || decide (y < 0)) = true := by rcases hn with h | h <;> simp [h]
        rw [e1, cond_true, capI_some (by simp; omega), Option.bind_some]
        exact .inl ⟨_, rfl, nxt (-1) (by unfold bthE; rw [if_pos hn]), dec⟩
      · have e1 : (decide (x < 0) || decide (y < 0)) = false := by rw [decide_eq_false (by omega), decide_eq_false (by omega)]; rfl
        have hc := code_of (m := q.Next.length) (show 0 ≤ x by omega) (show 0 ≤ y by omega)
        have hlt2 := code_lt (a := x.toNat) (b := y.toNat) (n := p.Next.length) (m := q.Next.length) (by omega) (by omega)
        have hxm : 0 ≤ x * (q.Next.length : Int) := Int.mul_nonneg (by omega) (by omega)
        rw [e1, cond_false, w64_eq (n := x * (q.Next.length : Int)) (by omega), w64_eq (n := x * (q.Next.length : Int) + y) (by omega), capI_some (by simp; omega), Option.bind_some]
        exact .inl ⟨_, rfl, nxt _ (by unfold bthE; rw [if_neg hn]), dec⟩
    · have : k = 4 := by omega
      subst this
      exact .inr ⟨_, rfl, hl, fun e xr x yr y he => hs e xr x yr y he⟩
  have hw : w64 ((p.Next.length : Int) * (q.Next.length : Int)) = ((p.Next.length * q.Next.length : Nat) : Int) := by rw [Int.natCast_mul, w64_eq (by rw [← Int.natCast_mul]; omega)]
  obtain ⟨g, e1, e2, e3⟩ := iter_inv (step := m_spec_l10Both_L0 p q) (fun s => ∃ k : Nat, s.2 = (k : Int) ∧ k ≤ p.Next.length * q.Next.length ∧ s.1.length = k ∧
      ∀ i, i < k → ∃ row, s.1[i]? = some row ∧ row.length = 4 ∧ ∀ e xr x yr y, e < 4 → p.Next[i / q.Next.length]? = some xr → xr[e]? = some x → q.Next[i % q.Next.length]? = some yr → yr[e]? = some y → row[e]? = some (bthE q x y))
    (fun s => p.Next.length * q.Next.length - s.2.toNat) (fun g => g.length = p.Next.length * q.Next.length ∧ ∀ i, i < p.Next.length * q.Next.length → ∃ row, g[i]? = some row ∧ row.length = 4 ∧
      ∀ e xr x yr y, e < 4 → p.Next[i / q.Next.length]? = some xr → xr[e]? = some x → q.Next[i % q.Next.length]? = some yr → yr[e]? = some y → row[e]? = some (bthE q x y))
    (fun s ⟨k, hk, hkn, hl, hs⟩ => by
      unfold m_spec_l10Both_L0
      rw [hk, hw]
      by_cases hlt : k < p.Next.length * q.Next.length
      · obtain ⟨row, r1, r2, r3⟩ := row_ok k hlt s hk
        rw [dec_lt hlt, cond_true, r1, Option.bind_some]
        unfold m_spec_l10Both_A1
        rw [hk, capI_some (by simp; omega), Option.bind_some, w64_succ (by omega)]
        refine .inl ⟨_, rfl, ⟨k + 1, rfl, by omega, by simp [hl], fun i hi => ?_⟩, by show p.Next.length * q.Next.length - ((k + 1 : Nat) : Int).toNat < p.Next.length * q.Next.length - ((k : Nat) : Int).toNat; omega⟩
        rcases Nat.lt_or_ge i k with h | h
        · obtain ⟨r, a1, a2⟩ := hs i h
          exact ⟨r, by show (s.1 ++ [row])[i]? = _; rw [List.getElem?_append_left (by omega)]; exact a1, a2⟩
        · have : i = k := by omega
          subst this
          exact ⟨row, by show (s.1 ++ [row])[i]? = _; rw [List.getElem?_append_right (by omega), hl, Nat.sub_self]; rfl, r2, r3⟩
      · have : k = p.Next.length * q.Next.length := by omega
        subst this
        rw [dec_self, cond_false]
        exact .inr ⟨_, rfl, hl, hs⟩)
    (s := (([] : List (List Int)), (0 : Int))) ⟨0, rfl, by omega, rfl, fun i hi => by omega⟩
  refine ⟨g, ?_, e2, e3⟩
  unfold m_spec_l10Both
  rw [e1]; rfl
include hp hq in
theorem both_gok {g : List (List Int)} (hl : g.length = p.Next.length * q.Next.length) (h : ∀ i, i < p.Next.length * q.Next.length → ∃ row, g[i]? = some row ∧ row.length = 4 ∧
    ∀ e xr x yr y, e < 4 → p.Next[i / q.Next.length]? = some xr → xr[e]? = some x → q.Next[i % q.Next.length]? = some yr → yr[e]? = some y → row[e]? = some (bthE q x y)) : GOK g := by
  have h1 := vP_len hp
  have h2 := vP_len hq
  have hb := bnd_mul h1.2 h2.2
  have hpos : 1 * 1 ≤ p.Next.length * q.Next.length := Nat.mul_le_mul h1.1 h2.1
  refine ⟨by omega, by omega, fun r hr => ?_⟩
  obtain ⟨i, hi, rfl⟩ := List.getElem_of_mem hr
  obtain ⟨row, a1, a2, a3⟩ := h i (by omega)
  rw [List.getElem?_eq_getElem hi] at a1
  have a1 := Option.some.inj a1
  rw [a1]
  refine ⟨a2, fun v hv => ?_⟩
  obtain ⟨e, he, rfl⟩ := List.getElem_of_mem hv
  obtain ⟨xr, x, yr, y, g1, g2, g3, g4, b1, b2, b3, b4⟩ := pair_at hp hq (i := i) (e := e) (by omega) (by omega)
  have a3 := a3 e xr x yr y (by omega) g1 g2 g3 g4
  rw [List.getElem?_eq_getElem he] at a3
  have a3 := Option.some.inj a3
  rw [a3]
  unfold bthE
  by_cases hn : x < 0 ∨ y < 0
  · rw [if_pos hn]; omega
  · rw [if_neg hn]
    have hc := code_of (m := q.Next.length) (show 0 ≤ x by omega) (show 0 ≤ y by omega)
    have hlt2 := code_lt (a := x.toNat) (b := y.toNat) (n := p.Next.length) (m := q.Next.length) (by omega) (by omega)
    omega
include hp hq in
theorem grown_ok {g : List (List Int)} (hl : g.length = p.Next.length * q.Next.length) (h : ∀ i, i < p.Next.length * q.Next.length → ∃ row, g[i]? = some row ∧ row.length = 4 ∧
    ∀ e xr x yr y, e < 4 → p.Next[i / q.Next.length]? = some xr → xr[e]? = some x → q.Next[i % q.Next.length]? = some yr → yr[e]? = some y → row[e]? = some (bthE q x y)) :
    ∃ Lf res, m_impl_grown_2_int64_fBothPolicies_1 ((0 : Int), (0 : Int)) p.Next q.Next = some res ∧ Bfs (dl g) (pr q) 0 [0] [] Lf res ∧ Met (pr q) g.length Lf := by
  have h1 := vP_len hp
  have h2 := vP_len hq
  have hg := both_gok hp hq hl h
  have hgl := hg.le
  have hnx : Nx (dl g) (pr q) g.length (fun k e => m_impl_BothPolicies_1 k e p.Next q.Next) := by
    intro s e hs he
    obtain ⟨xr, x, yr, y, g1, g2, g3, g4, b1, b2, b3, b4⟩ := pair_at hp hq (i := s) (e := e) (by omega) he
    obtain ⟨row, a1, a2, a3⟩ := h s (by omega)
    have a3 := a3 e xr x yr y he g1 g2 g3 g4
    have hd : dl g s e = if bthE q x y < 0 then none else some (bthE q x y).toNat := by unfold dl; rw [a1, Option.bind_some, a3, Option.bind_some]
    have hm : m_impl_BothPolicies_1 (pr q s) (e : Int) p.Next q.Next = some ((x, y), (decide ((0 : Int) ≤ x)) && (decide ((0 : Int) ≤ y))) := by
      unfold m_impl_BothPolicies_1 pr
      rw [getI_some g1, Option.bind_some, getI_some g2, Option.bind_some, getI_some g3, Option.bind_some, getI_some g4, Option.bind_some]
    show match dl g s e with | none => ∃ k, m_impl_BothPolicies_1 (pr q s) (e : Int) p.Next q.Next = some (k, false) | some x => m_impl_BothPolicies_1 (pr q s) (e : Int) p.Next q.Next = some (pr q x, true)
    rw [hm, hd]
    unfold bthE
    by_cases hn : x < 0 ∨ y < 0
    · rw [if_pos hn, if_pos (by omega)]
      have e1 : (decide ((0 : Int) ≤ x) && decide ((0 : Int) ≤ y)) = false := by
        rcases hn with h | h
        · rw [decide_eq_false (show ¬ (0 : Int) ≤ x by omega)]; rfl
        · rw [decide_eq_false (show ¬ (0 : Int) ≤ y by omega), Bool.and_false]
      rw [e1]
      exact ⟨_, rfl⟩
    · have hc := code_of (m := q.Next.length) (show 0 ≤ x by omega) (show 0 ≤ y by omega)
      rw [if_neg hn, if_neg (by omega), decide_eq_true (show (0 : Int) ≤ x by omega), decide_eq_true (show (0 : Int) ≤ y by omega), ← hc]
      simp only [Bool.and_self, Int.toNat_natCast]
      unfold pr
      have hy : y.toNat < q.Next.length := by omega
      have d1 : (x.toNat * q.Next.length + y.toNat) / q.Next.length = x.toNat := by
        rw [Nat.mul_comm, Nat.mul_add_div (by omega), Nat.div_eq_of_lt hy, Nat.add_zero]
      have d2 : (x.toNat * q.Next.length + y.toNat) % q.Next.length = y.toNat := by
        rw [Nat.mul_comm, Nat.mul_add_mod, Nat.mod_eq_of_lt hy]
      rw [d1, d2, Int.toNat_of_nonneg (by omega), Int.toNat_of_nonneg (by omega)]
  obtain ⟨Lf, res, e1, e2, e3⟩ := gw_ok (bz := 16) (dl_clo hg) hgl (by omega) hnx (s := 0) (by have := hg.pos; omega)
  refine ⟨Lf, res, ?_, e2, e3⟩
  rw [grown_both]
  have : pr q 0 = ((0 : Int), (0 : Int)) := by unfold pr; simp
  rw [← this]; exact e1
theorem pr_inj {a b : Nat} (h : pr q a = pr q b) : a = b := by
  unfold pr at h
  have h1 := congrArg Prod.fst h
  have h2 := congrArg Prod.snd h
  simp only [Int.natCast_inj] at h1 h2
  have ha := Nat.div_add_mod a q.Next.length
  have hb := Nat.div_add_mod b q.Next.length
  rw [h1, h2] at ha
  omega
include hp hq in
theorem both_same : ∃ (g : List (List Int)) (res r1 : List (List Int)) (Lf : List Nat), m_spec_l10Both p q = some ⟨g⟩ ∧ m_spec_l10Minimal ⟨g⟩ = some ⟨res⟩ ∧ m_impl_grown_2_int64_fBothPolicies_1 ((0 : Int), (0 : Int)) p.Next q.Next = some r1 ∧ m_impl_graph_minimal r1 = some res ∧
    res.length = Lf.length ∧ Lf.length ≤ 200 ∧ ∀ x ∈ res, x.length = 4 := by
  obtain ⟨g, g1, g2, g3⟩ := both_ok hp hq
  have hg := both_gok hp hq g2 g3
  have hgp := hg.pos
  have hgl := hg.le
  obtain ⟨L1, r1, h1, h2, h3⟩ := grown_ok hp hq g2 g3
  obtain ⟨⟨T, t1⟩, _, t2, t3⟩ := h2.rows (by simp) rfl
  have hL0 : L1[0]? = some 0 := by rw [t1]; rfl
  have hl1 := h3.len
  -- the graph of the pairs reached
  have hcell : ∀ j, j < L1.length → ∃ s row, L1[j]? = some s ∧ r1[j]? = some row ∧ row.length = 4 ∧ s < g.length ∧ ∀ e, e < 4 → ∃ c, row[e]? = some c ∧ match dl g s e with | none => c = -1 | some x => ∃ t : Nat, c = (t : Int) ∧ L1[t]? = some x := by
    intro j hj
    obtain ⟨s, row, a1, a2, a3, a4⟩ := t3 j (by omega) hj
    have hs := h3.lt s (List.mem_of_getElem? a1)
    refine ⟨s, row, a1, a2, a3, hs, fun e he => ?_⟩
    obtain ⟨c, b1, b2⟩ := a4 e he
    refine ⟨c, b1, ?_⟩
    unfold Cell at b2
    cases hd : dl g s e with
    | none => rw [hd] at b2; exact b2
    | some x =>
      rw [hd] at b2
      obtain ⟨t, y, c1, c2, c3⟩ := b2
      exact ⟨t, c1, by rw [c2, pr_inj c3]⟩
  have hg1 : GOK r1 := by
    have hl : 1 ≤ L1.length := by have := get_lt hL0; omega
    refine ⟨by omega, by omega, fun r hr => ?_⟩
    obtain ⟨j, hj, rfl⟩ := List.getElem_of_mem hr
    obtain ⟨s, row, a1, a2, a3, a4, a5⟩ := hcell j (by omega)
    rw [List.getElem?_eq_getElem hj] at a2
    have a2 := Option.some.inj a2
    rw [a2]
    refine ⟨a3, fun v hv => ?_⟩
    obtain ⟨e, he, rfl⟩ := List.getElem_of_mem hv
    obtain ⟨c, b1, b2⟩ := a5 e (by omega)
    rw [List.getElem?_eq_getElem he] at b1
    have b1 := Option.some.inj b1
    rw [b1]
    cases hd : dl g s e with
    | none => rw [hd] at b2; simp only at b2; omega
    | some x =>
      rw [hd] at b2
      obtain ⟨t, c1, c2⟩ := b2
      have := get_lt c2
      omega
  -- the two graphs side by side
  have hemb : ∀ a e, a < r1.length → e < 4 → dl g ((L1[a]?).getD 0) e = (dl r1 a e).map (fun i => (L1[i]?).getD 0) := by
    intro a e ha he
    obtain ⟨s, row, a1, a2, a3, a4, a5⟩ := hcell a (by omega)
    obtain ⟨c, b1, b2⟩ := a5 e he
    have hd1 : dl r1 a e = if c < 0 then none else some c.toNat := by unfold dl; rw [a2, Option.bind_some, b1, Option.bind_some]
    rw [a1, Option.getD_some, hd1]
    cases hd : dl g s e with
    | none => rw [hd] at b2; simp only at b2; rw [if_pos (by omega)]; rfl
    | some x =>
      rw [hd] at b2
      obtain ⟨t, c1, c2⟩ := b2
      rw [if_neg (by omega), c1, Option.map_some, Int.toNat_natCast, c2]; rfl
  have hι : ∀ a, a < r1.length → (L1[a]?).getD 0 < g.length := by
    intro a ha
    obtain ⟨s, row, a1, _, _, a4, _⟩ := hcell a (by omega)
    rw [a1]; exact a4
  obtain ⟨f, Lf, res, k1, k2, k3, k4, k5⟩ := spec_minimal (p := ⟨g⟩) hg
  obtain ⟨f', c, Lf', res', m1, m2, m3, m4⟩ := minimal_ok hg1
  have he := Bfs.emb (δ' := dl g) (cl' := cf f) (ι := fun i => (L1[i]?).getD 0) (dl_clo hg1) hemb
    (fun a b ha hb => (cf_iff m1.len m1.eqv ha hb).trans ((Ra.emb (dl_clo hg1) hemb ha hb).trans (cf_iff k1 k2 (hι a ha) (hι b hb)).symm)) m3 (by have := hg1.pos; simp; omega)
  simp only [List.map_cons, List.map_nil, hL0, Option.getD_some] at he
  obtain ⟨e1, e2⟩ := k4.det he
  subst e2
  obtain ⟨s1, s2⟩ := k4.size (by simp) rfl (by simp)
  exact ⟨g, res, r1, Lf, g1, k3, h1, m2, s1, by have h5 := k5.len; have h6 : g.length ≤ 200 := hgl; exact Nat.le_trans h5 h6, s2⟩
end
theorem same_BothPolicies (p0 p1 : Policy) (k0 : k_Policy p0) (k1 : k_Policy p1) (h0 : pc_Policy p0 ≤ 1048576) (h1 : pc_Policy p1 ≤ 1048576) : ∃ r, m_spec_BothPolicies p0 p1 = some r ∧ m_impl_BothPolicies p0 p1 = some r ∧ pc_Policy r.1 ≤ 1048576 := by
  unfold m_spec_BothPolicies m_impl_BothPolicies
  rw [spec_vP h0, impl_vP, Option.bind_some, Option.bind_some]
  cases hv : vP p0 with
  | false => exact ⟨_, rfl, rfl, by decide⟩
  | true =>
    rw [Bool.not_true, cond_false, cond_false, spec_vP h1, impl_vP, Option.bind_some, Option.bind_some]
    cases hv1 : vP p1 with
    | false => exact ⟨_, rfl, rfl, by decide⟩
    | true =>
      obtain ⟨g, res, r1, Lf, e1, e2, e3, e4, e5, e6, e7⟩ := both_same hv hv1
      rw [Bool.not_true, cond_false, cond_false, e1, Option.bind_some, e2, Option.bind_some, e3, Option.bind_some, e4, Option.bind_some]
      simp only
      by_cases h12 : (12 : Int) < (res.length : Int)
      · rw [decide_eq_true h12]; exact ⟨_, rfl, rfl, by decide⟩
      · rw [decide_eq_false h12]
        refine ⟨_, rfl, rfl, ?_⟩
        have := pc_of_rows (n := 200) (by omega) e7
        show res.length + (res.map List.length).sum ≤ _
        omega
end Go.Mod

namespace Go.Mod
open Go.AM
set_option linter.unusedVariables false
set_option linter.unusedSimpArgs false
theorem law_BothPolicies {p0 : Policy} {p1 : Policy} (k0 : k_Policy p0) (k1 : k_Policy p1) : m_laws_FnExactBothPolicies p0 p1 = some true := by
  unfold m_laws_FnExactBothPolicies
  rw [show (1048576 : Int) = ((1048576 : Nat) : Int) from rfl]
  rw [pz_Policy k0 _ (by omega), Option.bind_some]
  by_cases h0 : pc_Policy p0 ≤ 1048576
  · rw [szOut_ok h0, dec_neg, cond_false]
    rw [pz_Policy k1 _ (by omega), Option.bind_some]
    by_cases h1 : pc_Policy p1 ≤ 1048576 - pc_Policy p0
    · rw [szOut_ok h1, dec_neg, cond_false]
      obtain ⟨⟨⟨r0_0⟩, r1_⟩, e1, e2, b0⟩ := same_BothPolicies p0 p1 k0 k1 (show pc_Policy p0 ≤ 1048576 by omega) (show pc_Policy p1 ≤ 1048576 by omega)
      have q0 := pq_Policy_le p0
      have q1 := pq_Policy_le p1
      have qr0 := pq_Policy_le (Policy.mk r0_0)
      try simp only at b0 qr0
      obtain ⟨am0_0, m0, -⟩ := pm_Policy (show pc_Policy p0 ≤ 1048576 by omega) (k := 1) (by omega)
      replace m0 : m_laws_markPolicy p0 1 = _ := m0
      obtain ⟨am1_0, m1, -⟩ := pm_Policy (show pc_Policy p1 ≤ 1048576 by omega) (k := 1 + pq_Policy p0) (by omega)
      obtain ⟨rm0_0, mr0, gr0⟩ := pm_Policy (show pc_Policy (Policy.mk r0_0) ≤ 1048576 by omega) (k := 1) (by omega)
      replace mr0 : m_laws_markPolicy (Policy.mk r0_0) 1 = _ := mr0
      replace gr0 : m_laws_heldPolicy _ 1 = _ := gr0
      simp only [m_laws_FnExactBothPolicies_J0, m_laws_FnExactBothPolicies_J1, Option.bind_some, cond_false, cond_true, dec_neg, e1, e2, decide_true, bool_beq, Bool.not_true, Bool.or_false, Bool.false_eq_true, pt_Policy (show pc_Policy p0 ≤ 1048576 by omega), pe_Policy (show pc_Policy p0 ≤ 1048576 by omega), pt_Policy (show pc_Policy p1 ≤ 1048576 by omega), pe_Policy (show pc_Policy p1 ≤ 1048576 by omega), m0, m1, pe_Policy (show pc_Policy (Policy.mk r0_0) ≤ 1048576 by omega), mr0, gr0]
    · rw [szOut_no h1]; rfl
  · rw [szOut_no h0]; rfl
end Go.Mod
