import Derived.Test.YtejcidjaedahhaaDoorGc
import Derived.Lib.ItoaNum
import Derived.Lib.Join
import Derived.Lib.Replace
import Derived.Lib.ParseIntB
namespace Go.Mod
open Go.AM
def m_strconv_FormatInt (p0 p1 : Int) : Option (List UInt8) :=
  bif decide (p1 = 10) && decide (-9223372036854775808 ≤ p0) && decide (p0 ≤ 9223372036854775807) then some (Lib.itoa p0) else none
def m_strings_Split (p0 p1 : List UInt8) : Option (List (List UInt8)) :=
  bif decide (p0.length < 4294967281) && decide (1 ≤ p1.length) then some (Lib.split p0 p1) else none
def m_strconv_ParseInt (p0 : List UInt8) (p1 p2 : Int) : Option (Int × Bool) :=
  bif decide (p1 = 10) && decide (p2 = 64) && decide (p0.length ≤ 281474976710656) then
    (match Lib.parseIntB 64 p0 with
    | .ok v => some (v, false)
    | .syntax => some (0, true)
    | .range => some (Lib.intSat 64 p0, true))
  else none
end Go.Mod

namespace Go.Mod
open Go.AM
set_option linter.unusedVariables false
structure l00Src where
  code : List Int
  at_ : Int
  seed : Int
  deriving DecidableEq, Inhabited
structure Policy where
  Next : List (List Int)
  deriving DecidableEq, Inhabited
def k_str (x : List UInt8) : Prop := x.length ≤ 9223372036854775807
noncomputable def m_spec_l00In (p0 : Int) (p1 : Int) (p2 : Int) : Option Bool :=
  some ((decide (p1 ≤ p0)) && (decide (p0 ≤ p2)))
noncomputable def m_spec_l10Is_L1 (p0 : Policy) (x24 : List Int) (s1 : Int) : Option (Ctl Int (Unit ⊕ Bool)) :=
  bif (decide (s1 < (4 : Int))) then
    (getI x24 s1).bind fun (x40 : Int) =>
    (m_spec_l00In x40 (-1 : Int) (w64 ((p0.Next.length : Int) - (1 : Int)))).bind fun (r44 : Bool) =>
    bif (!r44) then
      some (.out (.inr false))
    else
      some (.next (w64 (s1 + (1 : Int))))
  else
    some (.out (.inl ()))
noncomputable def m_spec_l10Is_A1 (s0 : Int) (u1 : Unit ⊕ Bool) : Option (Ctl Int (Unit ⊕ Bool)) :=
  match u1 with
  | .inl u1 =>
    some (.next (w64 (s0 + (1 : Int))))
  | .inr u1 =>
    some (.out (.inr u1))
noncomputable def m_spec_l10Is_L0 (p0 : Policy) (s0 : Int) : Option (Ctl Int (Unit ⊕ Bool)) :=
  bif (decide (s0 < (p0.Next.length : Int))) then
    (getI p0.Next s0).bind fun (x24 : List Int) =>
    bif (!decide ((x24.length : Int) = (4 : Int))) then
      some (.out (.inr false))
    else
      (iter (m_spec_l10Is_L1 p0 x24) (0 : Int)).bind fun (u1 : Unit ⊕ Bool) =>
      m_spec_l10Is_A1 s0 u1
  else
    some (.out (.inl ()))
noncomputable def m_spec_l10Is_A0 (u0 : Unit ⊕ Bool) : Option Bool :=
  match u0 with
  | .inl u0 =>
    some true
  | .inr u0 =>
    some u0
noncomputable def m_spec_l10Is (p0 : Policy) : Option Bool :=
  (m_spec_l00In (p0.Next.length : Int) (1 : Int) (12 : Int)).bind fun (r12 : Bool) =>
  bif (!r12) then
    some false
  else
    (iter (m_spec_l10Is_L0 p0) (0 : Int)).bind fun (u0 : Unit ⊕ Bool) =>
    m_spec_l10Is_A0 u0
noncomputable def m_impl_size (p0 : Int) : Option Int :=
  some p0
noncomputable def m_impl_within (p0 : Int) (p1 : Int) (p2 : Int) : Option Bool :=
  some ((decide (p1 ≤ p0)) && (decide (p0 ≤ p2)))
noncomputable def m_impl_allWithin_L0 (p1 : Int) (p2 : Int) (n0 : Nat) (x0 : Int) (s0 : Unit) : Option (Ctl Unit (Unit ⊕ Bool)) :=
  (m_impl_within x0 p1 p2).bind fun (r18 : Bool) =>
  bif (!r18) then
    some (.out (.inr false))
  else
    some (.next ())
noncomputable def m_impl_allWithin_A0 (u0 : Unit ⊕ Bool) : Option Bool :=
  match u0 with
  | .inl u0 =>
    some true
  | .inr u0 =>
    some u0
noncomputable def m_impl_allWithin (p0 : List Int) (p1 : Int) (p2 : Int) : Option Bool :=
  (forL (m_impl_allWithin_L0 p1 p2) (fun s0 => (.inl ())) 0 p0 ()).bind fun (u0 : Unit ⊕ Bool) =>
  m_impl_allWithin_A0 u0
noncomputable def m_impl_ValidPolicy_L0 (r9 : Int) (n0 : Nat) (x0 : List Int) (s0 : Unit) : Option (Ctl Unit (Unit ⊕ Bool)) :=
  bif (!decide ((x0.length : Int) = (4 : Int))) then
    some (.out (.inr false))
  else
    (m_impl_allWithin x0 (-1 : Int) (w64 (r9 - (1 : Int)))).bind fun (r27 : Bool) =>
    bif (!r27) then
      some (.out (.inr false))
    else
      some (.next ())
noncomputable def m_impl_ValidPolicy_A0 (u0 : Unit ⊕ Bool) : Option Bool :=
  match u0 with
  | .inl u0 =>
    some true
  | .inr u0 =>
    some u0
noncomputable def m_impl_ValidPolicy (p0 : Policy) : Option Bool :=
  (m_impl_size (p0.Next.length : Int)).bind fun (r9 : Int) =>
  (m_impl_within r9 (1 : Int) (12 : Int)).bind fun (r11 : Bool) =>
  bif (!r11) then
    some false
  else
    (forL (m_impl_ValidPolicy_L0 r9) (fun s0 => (.inl ())) 0 p0.Next ()).bind fun (u0 : Unit ⊕ Bool) =>
    m_impl_ValidPolicy_A0 u0
noncomputable def m_impl_Decimal (p0 : Int) : Option (List UInt8) :=
  (m_strconv_FormatInt p0 (10 : Int)).bind fun (r4 : List UInt8) =>
  some r4
noncomputable def m_laws_eqInt64S_L0 (p0 : List Int) (p1 : List Int) (s0 : Int) : Option (Ctl Int (Unit ⊕ Bool)) :=
  bif (decide (s0 < (p0.length : Int))) then
    (getI p0 s0).bind fun (x19 : Int) =>
    (getI p1 s0).bind fun (x23 : Int) =>
    bif (!decide (x19 = x23)) then
      some (.out (.inr false))
    else
      some (.next (w64 (s0 + (1 : Int))))
  else
    some (.out (.inl ()))
noncomputable def m_laws_eqInt64S_A0 (u0 : Unit ⊕ Bool) : Option Bool :=
  match u0 with
  | .inl u0 =>
    some true
  | .inr u0 =>
    some u0
noncomputable def m_laws_eqInt64S (p0 : List Int) (p1 : List Int) : Option Bool :=
  bif (!decide ((p0.length : Int) = (p1.length : Int))) then
    some false
  else
    (iter (m_laws_eqInt64S_L0 p0 p1) (0 : Int)).bind fun (u0 : Unit ⊕ Bool) =>
    m_laws_eqInt64S_A0 u0
noncomputable def m_laws_eqInt64SS_L0 (p0 : List (List Int)) (p1 : List (List Int)) (s0 : Int) : Option (Ctl Int (Unit ⊕ Bool)) :=
  bif (decide (s0 < (p0.length : Int))) then
    (getI p0 s0).bind fun (x19 : List Int) =>
    (getI p1 s0).bind fun (x23 : List Int) =>
    (m_laws_eqInt64S x19 x23).bind fun (r25 : Bool) =>
    bif (!r25) then
      some (.out (.inr false))
    else
      some (.next (w64 (s0 + (1 : Int))))
  else
    some (.out (.inl ()))
noncomputable def m_laws_eqInt64SS_A0 (u0 : Unit ⊕ Bool) : Option Bool :=
  match u0 with
  | .inl u0 =>
    some true
  | .inr u0 =>
    some u0
noncomputable def m_laws_eqInt64SS (p0 : List (List Int)) (p1 : List (List Int)) : Option Bool :=
  bif (!decide ((p0.length : Int) = (p1.length : Int))) then
    some false
  else
    (iter (m_laws_eqInt64SS_L0 p0 p1) (0 : Int)).bind fun (u0 : Unit ⊕ Bool) =>
    m_laws_eqInt64SS_A0 u0
noncomputable def m_laws_eqPolicy (p0 : Policy) (p1 : Policy) : Option Bool :=
  (m_laws_eqInt64SS p0.Next p1.Next).bind fun (r9 : Bool) =>
  bif (!r9) then
    some false
  else
    some true
noncomputable def m_laws_markInt64S_L0 (s0 : (List Int) × Int × Int) : Option (Ctl ((List Int) × Int × Int) ((Int × (List Int)))) :=
  bif (decide (s0.2.2 < (s0.1.length : Int))) then
    (getI s0.1 s0.2.2).bind fun (x15 : Int) =>
    some (.next ((s0.1.set ((s0.2.2).toNat) s0.2.1), (w64 (s0.2.1 + (1 : Int))), (w64 (s0.2.2 + (1 : Int)))))
  else
    some (.out (s0.2.1, s0.1))
noncomputable def m_laws_markInt64S_A0 (u0 : (Int × (List Int))) : Option (Int × (List Int)) :=
  some (u0.1, u0.2)
noncomputable def m_laws_markInt64S (p0 : List Int) (p1 : Int) : Option (Int × (List Int)) :=
  (iter (m_laws_markInt64S_L0) (p0, p1, (0 : Int))).bind fun (u0 : (Int × (List Int))) =>
  m_laws_markInt64S_A0 u0
noncomputable def m_laws_markInt64SS_L0 (s0 : (List (List Int)) × Int × Int) : Option (Ctl ((List (List Int)) × Int × Int) ((Int × (List (List Int))))) :=
  bif (decide (s0.2.2 < (s0.1.length : Int))) then
    (getI s0.1 s0.2.2).bind fun (x14 : List Int) =>
    (m_laws_markInt64S x14 s0.2.1).bind fun (r17 : Int × (List Int)) =>
    some (.next ((s0.1.set ((s0.2.2).toNat) r17.2), r17.1, (w64 (s0.2.2 + (1 : Int)))))
  else
    some (.out (s0.2.1, s0.1))
noncomputable def m_laws_markInt64SS_A0 (u0 : (Int × (List (List Int)))) : Option (Int × (List (List Int))) :=
  some (u0.1, u0.2)
noncomputable def m_laws_markInt64SS (p0 : List (List Int)) (p1 : Int) : Option (Int × (List (List Int))) :=
  (iter (m_laws_markInt64SS_L0) (p0, p1, (0 : Int))).bind fun (u0 : (Int × (List (List Int)))) =>
  m_laws_markInt64SS_A0 u0
noncomputable def m_laws_markPolicy (p0 : Policy) (p1 : Int) : Option (Int × (List (List Int))) :=
  (m_laws_markInt64SS p0.Next p1).bind fun (r8 : Int × (List (List Int))) =>
  some (r8.1, r8.2)
noncomputable def m_laws_heldInt64S_L0 (p0 : List Int) (s0 : Int × Int) : Option (Ctl (Int × Int) (Int ⊕ Int)) :=
  bif (decide (s0.2 < (p0.length : Int))) then
    (getI p0 s0.2).bind fun (x14 : Int) =>
    bif (!decide (x14 = s0.1)) then
      some (.out (.inr (-1 : Int)))
    else
      some (.next ((w64 (s0.1 + (1 : Int))), (w64 (s0.2 + (1 : Int)))))
  else
    some (.out (.inl s0.1))
noncomputable def m_laws_heldInt64S_A0 (u0 : Int ⊕ Int) : Option Int :=
  match u0 with
  | .inl u0 =>
    some u0
  | .inr u0 =>
    some u0
noncomputable def m_laws_heldInt64S (p0 : List Int) (p1 : Int) : Option Int :=
  (iter (m_laws_heldInt64S_L0 p0) (p1, (0 : Int))).bind fun (u0 : Int ⊕ Int) =>
  m_laws_heldInt64S_A0 u0
noncomputable def m_laws_heldInt64SS_L0 (p0 : List (List Int)) (s0 : Int × Int) : Option (Ctl (Int × Int) (Int ⊕ Int)) :=
  bif (decide (s0.2 < (p0.length : Int))) then
    (getI p0 s0.2).bind fun (x14 : List Int) =>
    (m_laws_heldInt64S x14 s0.1).bind fun (r17 : Int) =>
    bif (decide (r17 < (0 : Int))) then
      some (.out (.inr (-1 : Int)))
    else
      some (.next (r17, (w64 (s0.2 + (1 : Int)))))
  else
    some (.out (.inl s0.1))
noncomputable def m_laws_heldInt64SS_A0 (u0 : Int ⊕ Int) : Option Int :=
  match u0 with
  | .inl u0 =>
    some u0
  | .inr u0 =>
    some u0
noncomputable def m_laws_heldInt64SS (p0 : List (List Int)) (p1 : Int) : Option Int :=
  (iter (m_laws_heldInt64SS_L0 p0) (p1, (0 : Int))).bind fun (u0 : Int ⊕ Int) =>
  m_laws_heldInt64SS_A0 u0
noncomputable def m_laws_heldPolicy (p0 : Policy) (p1 : Int) : Option Int :=
  (m_laws_heldInt64SS p0.Next p1).bind fun (r8 : Int) =>
  bif (decide (r8 < (0 : Int))) then
    some (-1 : Int)
  else
    some r8
noncomputable def m_spec_l01Dec_L0 (s0 : Int × (List UInt8)) : Option (Ctl (Int × (List UInt8)) ((List UInt8))) :=
  bif (decide (s0.1 < (0 : Int))) then
    (strI ((List.map (fun n => UInt8.ofNat (Int.toNat n)) [(wu 8 (w64 ((48 : Int) - (Int.tmod s0.1 (10 : Int)))))]).length + s0.2.length)).bind fun (q21 : Unit) =>
    some (.next ((w64 (Int.tdiv s0.1 (10 : Int))), ((List.map (fun n => UInt8.ofNat (Int.toNat n)) [(wu 8 (w64 ((48 : Int) - (Int.tmod s0.1 (10 : Int)))))]) ++ s0.2)))
  else
    some (.out s0.2)
noncomputable def m_spec_l01Dec_A0 (p0 : Int) (u0 : (List UInt8)) : Option (List UInt8) :=
  bif (decide (p0 < (0 : Int))) then
    (strI (([45] : List UInt8).length + u0.length)).bind fun (q27 : Unit) =>
    some (([45] : List UInt8) ++ u0)
  else
    some u0
noncomputable def m_spec_l01Dec_J0 (p0 : Int) (j0 : Int) : Option (List UInt8) :=
  (iter (m_spec_l01Dec_L0) (j0, ([] : List UInt8))).bind fun (u0 : (List UInt8)) =>
  m_spec_l01Dec_A0 p0 u0
noncomputable def m_spec_l01Dec (p0 : Int) : Option (List UInt8) :=
  bif (decide (p0 = (0 : Int))) then
    some ([48] : List UInt8)
  else
    bif (decide ((0 : Int) < p0)) then
      m_spec_l01Dec_J0 p0 (w64 (0 - p0))
    else
      m_spec_l01Dec_J0 p0 p0
noncomputable def m_spec_l10Text_J1 (p0 : Policy) (s0 : (List UInt8) × Int) (s1 : (List UInt8) × Int) (j1 : List UInt8) : Option (Ctl ((List UInt8) × Int) ((List UInt8))) :=
  (getI p0.Next s0.2).bind fun (x32 : List Int) =>
  (getI x32 s1.2).bind fun (x35 : Int) =>
  bif (decide (x35 < (0 : Int))) then
    (strI (j1.length + ([120] : List UInt8).length)).bind fun (q39 : Unit) =>
    some (.next ((j1 ++ ([120] : List UInt8)), (w64 (s1.2 + (1 : Int)))))
  else
    (m_spec_l01Dec x35).bind fun (r51 : List UInt8) =>
    (strI (j1.length + r51.length)).bind fun (q52 : Unit) =>
    some (.next ((j1 ++ r51), (w64 (s1.2 + (1 : Int)))))
noncomputable def m_spec_l10Text_L1 (p0 : Policy) (s0 : (List UInt8) × Int) (s1 : (List UInt8) × Int) : Option (Ctl ((List UInt8) × Int) ((List UInt8))) :=
  bif (decide (s1.2 < (4 : Int))) then
    bif (decide ((0 : Int) < s1.2)) then
      (strI (s1.1.length + ([44] : List UInt8).length)).bind fun (q26 : Unit) =>
      m_spec_l10Text_J1 p0 s0 s1 (s1.1 ++ ([44] : List UInt8))
    else
      m_spec_l10Text_J1 p0 s0 s1 s1.1
  else
    some (.out s1.1)
noncomputable def m_spec_l10Text_A1 (s0 : (List UInt8) × Int) (u1 : (List UInt8)) : Option (Ctl ((List UInt8) × Int) ((List UInt8))) :=
  some (.next (u1, (w64 (s0.2 + (1 : Int)))))
noncomputable def m_spec_l10Text_J0 (p0 : Policy) (s0 : (List UInt8) × Int) (j0 : List UInt8) : Option (Ctl ((List UInt8) × Int) ((List UInt8))) :=
  (iter (m_spec_l10Text_L1 p0 s0) (j0, (0 : Int))).bind fun (u1 : (List UInt8)) =>
  m_spec_l10Text_A1 s0 u1
noncomputable def m_spec_l10Text_L0 (p0 : Policy) (s0 : (List UInt8) × Int) : Option (Ctl ((List UInt8) × Int) ((List UInt8))) :=
  bif (decide (s0.2 < (p0.Next.length : Int))) then
    bif (decide ((0 : Int) < s0.2)) then
      (strI (s0.1.length + ([47] : List UInt8).length)).bind fun (q18 : Unit) =>
      m_spec_l10Text_J0 p0 s0 (s0.1 ++ ([47] : List UInt8))
    else
      m_spec_l10Text_J0 p0 s0 s0.1
  else
    some (.out s0.1)
noncomputable def m_spec_l10Text_A0 (u0 : (List UInt8)) : Option (List UInt8) :=
  some u0
noncomputable def m_spec_l10Text (p0 : Policy) : Option (List UInt8) :=
  (iter (m_spec_l10Text_L0 p0) (([] : List UInt8), (0 : Int))).bind fun (u0 : (List UInt8)) =>
  m_spec_l10Text_A0 u0
noncomputable def m_spec_l01Value_J0 (p0 : List UInt8) (s0 : Int × Int) (j0 : Bool) : Option (Ctl (Int × Int) Int) :=
  bif j0 then
    (getI p0 s0.2).bind fun (x29 : UInt8) =>
    some (.next ((w64 ((w64 ((10 : Int) * s0.1)) + (w64 (wu 8 ((x29.toNat : Int) - (48 : Int)))))), (w64 (s0.2 + (1 : Int)))))
  else
    some (.next (s0.1, (w64 (s0.2 + (1 : Int)))))
noncomputable def m_spec_l01Value_L0 (p0 : List UInt8) (s0 : Int × Int) : Option (Ctl (Int × Int) Int) :=
  bif (decide (s0.2 < (p0.length : Int))) then
    (getI p0 s0.2).bind fun (x17 : UInt8) =>
    bif (decide ((48 : Int) ≤ (x17.toNat : Int))) then
      m_spec_l01Value_J0 p0 s0 (decide ((x17.toNat : Int) ≤ (57 : Int)))
    else
      m_spec_l01Value_J0 p0 s0 false
  else
    some (.out s0.1)
noncomputable def m_spec_l01Value_J1 (p0 : List UInt8) (j1 : Int) : Option (Int × Bool) :=
  (m_spec_l00In j1 (-1000000000 : Int) (1000000000 : Int)).bind fun (r44 : Bool) =>
  bif (!r44) then
    some ((0 : Int), false)
  else
    (m_spec_l01Dec j1).bind fun (r48 : List UInt8) =>
    bif (!decide (r48 = p0)) then
      some ((0 : Int), false)
    else
      some (j1, true)
noncomputable def m_spec_l01Value_A0 (p0 : List UInt8) (u0 : Int) : Option (Int × Bool) :=
  bif (decide ((0 : Int) < (p0.length : Int))) then
    (getI p0 (0 : Int)).bind fun (x38 : UInt8) =>
    bif (decide ((x38.toNat : Int) = (45 : Int))) then
      m_spec_l01Value_J1 p0 (w64 (0 - u0))
    else
      m_spec_l01Value_J1 p0 u0
  else
    m_spec_l01Value_J1 p0 u0
noncomputable def m_spec_l01Value (p0 : List UInt8) : Option (Int × Bool) :=
  bif (decide ((11 : Int) < (p0.length : Int))) then
    some ((0 : Int), false)
  else
    (iter (m_spec_l01Value_L0 p0) ((0 : Int), (0 : Int))).bind fun (u0 : Int) =>
    m_spec_l01Value_A0 p0 u0
noncomputable def m_spec_l10Read_J2 (s0 : (List (List Int)) × (List Int) × Int × Int) (j1 : Int) (j2 : Bool) : Option (Ctl ((List (List Int)) × (List Int) × Int × Int) ((List (List Int)) ⊕ ((List (List Int)) × Bool))) :=
  bif j2 then
    bif (decide ((s0.1.length : Int) = (12 : Int))) then
      some (.out (.inr (([] : List (List Int)), false)))
    else
      (capI (s0.1.length + ([(s0.2.1 ++ [j1])]).length) 24).bind fun (q69 : Unit) =>
      some (.next ((s0.1 ++ [(s0.2.1 ++ [j1])]), ([] : List Int), (w64 (s0.2.2.2 + (1 : Int))), (w64 (s0.2.2.2 + (1 : Int)))))
  else
    some (.next (s0.1, (s0.2.1 ++ [j1]), (w64 (s0.2.2.2 + (1 : Int))), (w64 (s0.2.2.2 + (1 : Int)))))
noncomputable def m_spec_l10Read_J1 (p0 : List UInt8) (s0 : (List (List Int)) × (List Int) × Int × Int) (j1 : Int) : Option (Ctl ((List (List Int)) × (List Int) × Int × Int) ((List (List Int)) ⊕ ((List (List Int)) × Bool))) :=
  (capI (s0.2.1.length + [j1].length) 8).bind fun (q47 : Unit) =>
  bif (decide (s0.2.2.2 = (p0.length : Int))) then
    m_spec_l10Read_J2 s0 j1 true
  else
    (getI p0 s0.2.2.2).bind fun (x57 : UInt8) =>
    m_spec_l10Read_J2 s0 j1 (decide ((x57.toNat : Int) = (47 : Int)))
noncomputable def m_spec_l10Read_J0 (p0 : List UInt8) (s0 : (List (List Int)) × (List Int) × Int × Int) (j0 : Unit) : Option (Ctl ((List (List Int)) × (List Int) × Int × Int) ((List (List Int)) ⊕ ((List (List Int)) × Bool))) :=
  (sliceI p0 s0.2.2.1 s0.2.2.2).bind fun (y38 : List UInt8) =>
  (m_spec_l01Value y38).bind fun (r39 : Int × Bool) =>
  bif (!r39.2) then
    m_spec_l10Read_J1 p0 s0 (-1 : Int)
  else
    m_spec_l10Read_J1 p0 s0 r39.1
noncomputable def m_spec_l10Read_L0 (p0 : List UInt8) (s0 : (List (List Int)) × (List Int) × Int × Int) : Option (Ctl ((List (List Int)) × (List Int) × Int × Int) ((List (List Int)) ⊕ ((List (List Int)) × Bool))) :=
  bif (decide (s0.2.2.2 ≤ (p0.length : Int))) then
    bif (decide (s0.2.2.2 < (p0.length : Int))) then
      (getI p0 s0.2.2.2).bind fun (x25 : UInt8) =>
      bif (!decide ((x25.toNat : Int) = (47 : Int))) then
        bif (!decide ((x25.toNat : Int) = (44 : Int))) then
          some (.next (s0.1, s0.2.1, s0.2.2.1, (w64 (s0.2.2.2 + (1 : Int)))))
        else
          m_spec_l10Read_J0 p0 s0 ()
      else
        m_spec_l10Read_J0 p0 s0 ()
    else
      m_spec_l10Read_J0 p0 s0 ()
  else
    some (.out (.inl s0.1))
noncomputable def m_spec_l10Read_A0 (p0 : List UInt8) (u0 : (List (List Int)) ⊕ ((List (List Int)) × Bool)) : Option (Policy × Bool) :=
  match u0 with
  | .inl u0 =>
    (m_spec_l10Is (Policy.mk u0)).bind fun (r72 : Bool) =>
    bif (!r72) then
      some ((Policy.mk ([] : List (List Int))), false)
    else
      (m_spec_l10Text (Policy.mk u0)).bind fun (r75 : List UInt8) =>
      bif (!decide (r75 = p0)) then
        some ((Policy.mk ([] : List (List Int))), false)
      else
        some ((Policy.mk u0), true)
  | .inr u0 =>
    some ((Policy.mk u0.1), u0.2)
noncomputable def m_spec_l10Read (p0 : List UInt8) : Option (Policy × Bool) :=
  (iter (m_spec_l10Read_L0 p0) (([] : List (List Int)), ([] : List Int), (0 : Int), (0 : Int))).bind fun (u0 : (List (List Int)) ⊕ ((List (List Int)) × Bool)) =>
  m_spec_l10Read_A0 p0 u0
noncomputable def m_spec_ReadPolicy (p0 : List UInt8) : Option (Policy × Bool) :=
  (m_spec_l10Read p0).bind fun (r5 : Policy × Bool) =>
  some (r5.1, r5.2)
noncomputable def m_impl_ReadDecimal (p0 : List UInt8) : Option (Int × Bool) :=
  (m_strconv_ParseInt p0 (10 : Int) (64 : Int)).bind fun (r8 : Int × Bool) =>
  bif r8.2 then
    some ((0 : Int), false)
  else
    (m_impl_within r8.1 (-1000000000 : Int) (1000000000 : Int)).bind fun (r15 : Bool) =>
    bif (!r15) then
      some ((0 : Int), false)
    else
      (m_impl_Decimal r8.1).bind fun (r20 : List UInt8) =>
      bif (!decide (r20 = p0)) then
        some ((0 : Int), false)
      else
        some (r8.1, true)
noncomputable def m_impl_ReadPolicy_J0 (s1 : List Int) (j0 : Int × Bool) : Option (Ctl (List Int) ((List Int) ⊕ ((List (List Int)) × Bool))) :=
  bif (!j0.2) then
    some (.out (.inr (([] : List (List Int)), false)))
  else
    (capI (s1.length + [j0.1].length) 8).bind fun (q41 : Unit) =>
    some (.next (s1 ++ [j0.1]))
noncomputable def m_impl_ReadPolicy_L1 (n1 : Nat) (x1 : List UInt8) (s1 : List Int) : Option (Ctl (List Int) ((List Int) ⊕ ((List (List Int)) × Bool))) :=
  (m_impl_ReadDecimal x1).bind fun (r28 : Int × Bool) =>
  bif (decide (x1 = ([120] : List UInt8))) then
    m_impl_ReadPolicy_J0 s1 ((-1 : Int), true)
  else
    bif (decide (r28.1 < (0 : Int))) then
      m_impl_ReadPolicy_J0 s1 (r28.1, false)
    else
      m_impl_ReadPolicy_J0 s1 (r28.1, r28.2)
noncomputable def m_impl_ReadPolicy_A1 (s0 : List (List Int)) (u1 : (List Int) ⊕ ((List (List Int)) × Bool)) : Option (Ctl (List (List Int)) ((List (List Int)) ⊕ ((List (List Int)) × Bool))) :=
  match u1 with
  | .inl u1 =>
    (capI (s0.length + [u1].length) 24).bind fun (q47 : Unit) =>
    some (.next (s0 ++ [u1]))
  | .inr u1 =>
    some (.out (.inr (u1.1, u1.2)))
noncomputable def m_impl_ReadPolicy_L0 (n0 : Nat) (x0 : List UInt8) (s0 : List (List Int)) : Option (Ctl (List (List Int)) ((List (List Int)) ⊕ ((List (List Int)) × Bool))) :=
  (m_strings_Split x0 ([44] : List UInt8)).bind fun (r20 : List (List UInt8)) =>
  (forL (m_impl_ReadPolicy_L1) (fun s1 => (.inl s1)) 0 r20 ([] : List Int)).bind fun (u1 : (List Int) ⊕ ((List (List Int)) × Bool)) =>
  m_impl_ReadPolicy_A1 s0 u1
noncomputable def m_impl_ReadPolicy_A0 (u0 : (List (List Int)) ⊕ ((List (List Int)) × Bool)) : Option (Policy × Bool) :=
  match u0 with
  | .inl u0 =>
    (m_impl_ValidPolicy (Policy.mk u0)).bind fun (r51 : Bool) =>
    bif (!r51) then
      some ((Policy.mk ([] : List (List Int))), false)
    else
      some ((Policy.mk u0), true)
  | .inr u0 =>
    some ((Policy.mk u0.1), u0.2)
noncomputable def m_impl_ReadPolicy (p0 : List UInt8) : Option (Policy × Bool) :=
  (m_strings_Split p0 ([47] : List UInt8)).bind fun (r13 : List (List UInt8)) =>
  (forL (m_impl_ReadPolicy_L0) (fun s0 => (.inl s0)) 0 r13 ([] : List (List Int))).bind fun (u0 : (List (List Int)) ⊕ ((List (List Int)) × Bool)) =>
  m_impl_ReadPolicy_A0 u0
noncomputable def m_laws_FnExactReadPolicy (p0 : List UInt8) : Option Bool :=
  bif (decide ((1048576 : Int) < (p0.length : Int))) then
    some true
  else
    (m_spec_ReadPolicy p0).bind fun (r16 : Policy × Bool) =>
    (m_impl_ReadPolicy p0).bind fun (r21 : Policy × Bool) =>
    (m_laws_eqPolicy r21.1 r16.1).bind fun (r26 : Bool) =>
    bif ((!r26) || (!(r21.2 == r16.2))) then
      some false
    else
      (m_laws_markPolicy r21.1 (1 : Int)).bind fun (r35 : Int × (List (List Int))) =>
      (m_laws_heldPolicy (Policy.mk r35.2) (1 : Int)).bind fun (r38 : Int) =>
      bif (decide (r38 < (0 : Int))) then
        some false
      else
        bif (!decide (r38 = r35.1)) then
          some false
        else
          (m_impl_ReadPolicy p0).bind fun (r46 : Policy × Bool) =>
          (m_laws_eqPolicy r46.1 r16.1).bind fun (r51 : Bool) =>
          bif ((!r51) || (!(r46.2 == r16.2))) then
            some false
          else
            (m_laws_heldPolicy (Policy.mk r35.2) (1 : Int)).bind fun (r60 : Int) =>
            bif (decide (r60 < (0 : Int))) then
              some false
            else
              bif (!decide (r60 = r35.1)) then
                some false
              else
                some true
end Go.Mod

namespace Go.Mod
open Go.AM
set_option linter.unusedVariables false
set_option linter.unusedSimpArgs false
theorem pl_mem_sum {α : Type} {c : α → Nat} {xs : List α} {x : α} (h : x ∈ xs) : c x ≤ (xs.map c).sum := by
  induction xs with
  | nil => cases h
  | cons y r ih =>
    simp only [List.map_cons, List.sum_cons]
    rcases List.mem_cons.1 h with rfl | h
    · omega
    · have := ih h; omega
theorem pl_sum_len {α : Type} {q : α → Nat} {xs : List α} (h : ∀ x, q x ≤ 8 + 8 * 0) : (xs.map q).sum ≤ 8 * xs.length := by
  induction xs with
  | nil => simp
  | cons y r ih => have := h y; simp only [List.map_cons, List.sum_cons, List.length_cons]; omega
theorem pl_sum_le {α : Type} {q c : α → Nat} {xs : List α} (h : ∀ x, q x ≤ 8 + 8 * c x) : (xs.map q).sum ≤ 8 * (xs.length + (xs.map c).sum) := by
  induction xs with
  | nil => simp
  | cons y r ih => have := h y; simp only [List.map_cons, List.sum_cons, List.length_cons]; omega
theorem pl_eqL {p : Prop} [Decidable p] : (bif !decide p then some false else some true) = some (decide p) := by
  by_cases hp : p <;> simp [hp]
theorem pl_eqML {m : Option Bool} {p : Prop} [Decidable p] (hm : m = some (decide p)) : (m.bind fun r => bif !r then some false else some true) = some (decide p) := by
  rw [hm, Option.bind_some]; exact pl_eqL
theorem pl_neg1 : decide ((-1 : Int) < 0) = true := rfl
theorem pl_condB {α β : Type} {b : Bool} {x y : Option α} {f : α → Option β} : (cond b x y).bind f = cond b (x.bind f) (y.bind f) := by cases b <;> rfl
theorem pl_cond2 {α : Type} {b : Bool} {x y z : α} : cond b x (cond b y z) = cond b x z := by cases b <;> rfl
section
variable {α : Type} {ys : List α} {n : Nat} {a b c d e f g : α} (h : n < ys.length)
include h
theorem pl_get_set : getI (ys.set n a) (n : Int) = some a := getI_some (by rw [List.getElem?_set_self h])
theorem pl_get_set2 : getI ((ys.set n a).set n b) (n : Int) = some b := getI_some (by rw [List.set_set, List.getElem?_set_self h])
theorem pl_get_set3 : getI (((ys.set n a).set n b).set n c) (n : Int) = some c := getI_some (by rw [List.set_set, List.set_set, List.getElem?_set_self h])
theorem pl_get_set4 : getI ((((ys.set n a).set n b).set n c).set n d) (n : Int) = some d := getI_some (by simp only [List.set_set]; rw [List.getElem?_set_self h])
theorem pl_get_set5 : getI (((((ys.set n a).set n b).set n c).set n d).set n e) (n : Int) = some e := getI_some (by simp only [List.set_set]; rw [List.getElem?_set_self h])
theorem pl_get_set6 : getI ((((((ys.set n a).set n b).set n c).set n d).set n e).set n f) (n : Int) = some f := getI_some (by simp only [List.set_set]; rw [List.getElem?_set_self h])
theorem pl_get_set7 : getI (((((((ys.set n a).set n b).set n c).set n d).set n e).set n f).set n g) (n : Int) = some g := getI_some (by simp only [List.set_set]; rw [List.getElem?_set_self h])
end
def pc_Int64S (xs : List Int) : Nat := xs.length
theorem pc_Int64S_len {xs : List Int} : xs.length ≤ pc_Int64S xs := by unfold pc_Int64S; omega
theorem pe_Int64S {xs ys : List Int} (hl : pc_Int64S xs ≤ 1048576) : m_laws_eqInt64S xs ys = some (decide (xs = ys)) := by
  have hlen : xs.length ≤ 1048576 := Nat.le_trans pc_Int64S_len hl
  unfold m_laws_eqInt64S
  by_cases h : xs.length = ys.length
  · rw [decide_eq_true (by omega), Bool.not_true, cond_false, iter_eq (xs := xs) (ys := ys) (eq := fun x y => some (decide (x = y)))
      (fun n x y hx hy => by unfold m_laws_eqInt64S_L0; rw [dec_lt (get_lt hx), cond_true, getI_some hx, getI_some hy]; rfl)
      (by unfold m_laws_eqInt64S_L0; rw [dec_self]; rfl) (by omega) h (fun x hx y => rfl)]
    by_cases e : xs = ys
    · rw [if_pos e, decide_eq_true e]; rfl
    · rw [if_neg e, decide_eq_false e]; rfl
  · rw [decide_eq_false (by omega), decide_eq_false (fun e => h (by rw [e]))]; rfl
def pqE_Int64S (x : Int) : Nat := 1
def pq_Int64S (xs : List Int) : Nat := (xs.map pqE_Int64S).sum
theorem pqE_Int64S_le (x : Int) : pqE_Int64S x ≤ 8 + 8 * 0 := by
  unfold pqE_Int64S
  omega
theorem pq_Int64S_le (xs : List Int) : pq_Int64S xs ≤ 8 * pc_Int64S xs := by
  unfold pq_Int64S pc_Int64S
  exact pl_sum_len (fun x => pqE_Int64S_le x)
noncomputable def pmk_Int64S (x : Int) (k : Int) : Option (Int × Int) := some ((w64 (k + 1)), k)
noncomputable def phe_Int64S (x : Int) (k : Int) : Option Int := bif !decide (x = k) then some (-1) else some (w64 (k + 1))
theorem pmE_Int64S (x : Int) : ∀ k : Nat, k + pqE_Int64S x ≤ 4611686018427387904 → ∃ x', pmk_Int64S x k = some (((k + pqE_Int64S x : Nat) : Int), x') ∧ phe_Int64S x' k = some ((k + pqE_Int64S x : Nat) : Int) := fun k hk => by
  unfold pqE_Int64S at hk ⊢
  have tot : ((k + 1 : Nat) : Int) = ((k + (1) : Nat) : Int) := by omega
  have w0 : w64 (((k : Nat) : Int) + 1) = ((k + 1 : Nat) : Int) := w64_succ (by omega)
  refine ⟨((k : Nat) : Int), ?_, ?_⟩
  · unfold pmk_Int64S; simp only [w0, Option.bind_some] <;> rw [← tot]
  · unfold phe_Int64S; simp only [w0, Option.bind_some, decide_true, Bool.not_true, cond_false] <;> rw [← tot]
theorem pm_Int64S {xs : List Int} (hl : pc_Int64S xs ≤ 1048576) {k : Nat} (hk : k + pq_Int64S xs ≤ 4611686018427387904) : ∃ xs', m_laws_markInt64S xs k = some (((k + pq_Int64S xs : Nat) : Int), xs') ∧ m_laws_heldInt64S xs' k = some ((k + pq_Int64S xs : Nat) : Int) := by
  obtain ⟨xs', h1, h2, h3⟩ := iter_mark (xs := xs) (m := pqE_Int64S) (mk := pmk_Int64S) (held := phe_Int64S) (step := m_laws_markInt64S_L0) (hstep := m_laws_heldInt64S_L0)
    (fun n ys x k hk hx => by
      have hn := get_lt hx
      have gen : ∀ k1 : Int, w64 ((k : Int) + 1) = k1 → m_laws_markInt64S_L0 (ys, (k : Int), (n : Int)) = (pmk_Int64S x k).bind fun r => some (.next (ys.set n r.2, r.1, w64 ((n : Int) + 1))) := by
        intro k1 h1
        unfold m_laws_markInt64S_L0 pmk_Int64S
        simp only [h1, dec_lt hn, cond_true, getI_some hx, Option.bind_some, Int.toNat_natCast, pl_get_set hn, pl_get_set2 hn, pl_get_set3 hn, pl_get_set4 hn, pl_get_set5 hn, pl_get_set6 hn, pl_get_set7 hn, List.set_set, Option.bind_assoc]
      exact gen _ rfl)
    (fun ys k => by unfold m_laws_markInt64S_L0; rw [dec_self]; rfl)
    (fun n ys x k hk hx => by
      unfold m_laws_heldInt64S_L0 phe_Int64S
      rw [dec_lt (get_lt hx), cond_true, getI_some hx]
      have w0 : w64 (((k : Nat) : Int) + 1) = ((k + 1 : Nat) : Int) := w64_succ (by omega)
      simp only [Option.bind_some, pl_condB, pl_cond2, Option.bind_assoc, pl_neg1, cond_true, cond_false, dec_neg, w0])
    (fun ys k => by unfold m_laws_heldInt64S_L0; rw [dec_self]; rfl)
    (by have := pc_Int64S_len (xs := xs); omega) (fun x hx => pmE_Int64S x) (k := k) hk
  exact ⟨xs', by unfold m_laws_markInt64S; rw [h1]; rfl, by unfold m_laws_heldInt64S; rw [h3]; rfl⟩
def pc_Int64SS (xs : List (List Int)) : Nat := xs.length + (xs.map pc_Int64S).sum
theorem pc_Int64SS_mem {xs : List (List Int)} {x : List Int} (h : x ∈ xs) : pc_Int64S x ≤ pc_Int64SS xs := by have := pl_mem_sum (c := pc_Int64S) h; unfold pc_Int64SS; omega
theorem pc_Int64SS_len {xs : List (List Int)} : xs.length ≤ pc_Int64SS xs := by unfold pc_Int64SS; omega
theorem pe_Int64SS {xs ys : List (List Int)} (hl : pc_Int64SS xs ≤ 1048576) : m_laws_eqInt64SS xs ys = some (decide (xs = ys)) := by
  have hlen : xs.length ≤ 1048576 := Nat.le_trans pc_Int64SS_len hl
  unfold m_laws_eqInt64SS
  by_cases h : xs.length = ys.length
  · rw [decide_eq_true (by omega), Bool.not_true, cond_false, iter_eq (xs := xs) (ys := ys) (eq := m_laws_eqInt64S)
      (fun n x y hx hy => by unfold m_laws_eqInt64SS_L0; rw [dec_lt (get_lt hx), cond_true, getI_some hx, getI_some hy]; rfl)
      (by unfold m_laws_eqInt64SS_L0; rw [dec_self]; rfl) (by omega) h (fun x hx y => pe_Int64S (by have := pc_Int64SS_mem hx; omega))]
    by_cases e : xs = ys
    · rw [if_pos e, decide_eq_true e]; rfl
    · rw [if_neg e, decide_eq_false e]; rfl
  · rw [decide_eq_false (by omega), decide_eq_false (fun e => h (by rw [e]))]; rfl
def pqE_Int64SS (x : List Int) : Nat := 0 + pq_Int64S x
def pq_Int64SS (xs : List (List Int)) : Nat := (xs.map pqE_Int64SS).sum
theorem pqE_Int64SS_le (x : List Int) : pqE_Int64SS x ≤ 8 + 8 * pc_Int64S x := by
  unfold pqE_Int64SS
  have h0 := pq_Int64S_le x
  omega
theorem pq_Int64SS_le (xs : List (List Int)) : pq_Int64SS xs ≤ 8 * pc_Int64SS xs := by
  unfold pq_Int64SS pc_Int64SS
  exact pl_sum_le (fun x => pqE_Int64SS_le x)
noncomputable def pmk_Int64SS (x : List Int) (k : Int) : Option (Int × (List Int)) := (m_laws_markInt64S x k).bind fun r0 => some (r0.1, r0.2)
noncomputable def phe_Int64SS (x : List Int) (k : Int) : Option Int := (m_laws_heldInt64S x k).bind fun r0 => bif decide (r0 < 0) then some (-1) else some r0
theorem pmE_Int64SS (x : List Int) (hc : pc_Int64S x ≤ 1048576) : ∀ k : Nat, k + pqE_Int64SS x ≤ 4611686018427387904 → ∃ x', pmk_Int64SS x k = some (((k + pqE_Int64SS x : Nat) : Int), x') ∧ phe_Int64SS x' k = some ((k + pqE_Int64SS x : Nat) : Int) := fun k hk => by
  unfold pqE_Int64SS at hk ⊢
  obtain ⟨a0, m0, g0⟩ := pm_Int64S (xs := x) (by omega) (k := k) (by omega)
  have n0 : decide ((((k) + pq_Int64S x : Nat) : Int) < 0) = false := decide_eq_false (by omega)
  have tot : ((k + pq_Int64S x : Nat) : Int) = ((k + (0 + pq_Int64S x) : Nat) : Int) := by omega
  refine ⟨a0, ?_, ?_⟩
  · unfold pmk_Int64SS; simp only [m0, Option.bind_some] <;> rw [← tot]
  · unfold phe_Int64SS; simp only [g0, n0, Option.bind_some, decide_true, Bool.not_true, cond_false] <;> rw [← tot]
theorem pm_Int64SS {xs : List (List Int)} (hl : pc_Int64SS xs ≤ 1048576) {k : Nat} (hk : k + pq_Int64SS xs ≤ 4611686018427387904) : ∃ xs', m_laws_markInt64SS xs k = some (((k + pq_Int64SS xs : Nat) : Int), xs') ∧ m_laws_heldInt64SS xs' k = some ((k + pq_Int64SS xs : Nat) : Int) := by
  obtain ⟨xs', h1, h2, h3⟩ := iter_mark (xs := xs) (m := pqE_Int64SS) (mk := pmk_Int64SS) (held := phe_Int64SS) (step := m_laws_markInt64SS_L0) (hstep := m_laws_heldInt64SS_L0)
    (fun n ys x k hk hx => by
      have hn := get_lt hx
      have gen : m_laws_markInt64SS_L0 (ys, (k : Int), (n : Int)) = (pmk_Int64SS x k).bind fun r => some (.next (ys.set n r.2, r.1, w64 ((n : Int) + 1))) := by
        unfold m_laws_markInt64SS_L0 pmk_Int64SS
        simp only [dec_lt hn, cond_true, getI_some hx, Option.bind_some, Int.toNat_natCast, pl_get_set hn, pl_get_set2 hn, pl_get_set3 hn, pl_get_set4 hn, pl_get_set5 hn, pl_get_set6 hn, pl_get_set7 hn, List.set_set, Option.bind_assoc]
      exact gen)
    (fun ys k => by unfold m_laws_markInt64SS_L0; rw [dec_self]; rfl)
    (fun n ys x k hk hx => by
      unfold m_laws_heldInt64SS_L0 phe_Int64SS
      rw [dec_lt (get_lt hx), cond_true, getI_some hx]
      simp only [Option.bind_some, pl_condB, pl_cond2, Option.bind_assoc, pl_neg1, cond_true, cond_false, dec_neg])
    (fun ys k => by unfold m_laws_heldInt64SS_L0; rw [dec_self]; rfl)
    (by have := pc_Int64SS_len (xs := xs); omega) (fun x hx => pmE_Int64SS x (by have := pc_Int64SS_mem hx; omega)) (k := k) hk
  exact ⟨xs', by unfold m_laws_markInt64SS; rw [h1]; rfl, by unfold m_laws_heldInt64SS; rw [h3]; rfl⟩
def pc_Policy (x : Policy) : Nat := pc_Int64SS x.Next
theorem pi_Policy (x y : Policy) : (x.Next = y.Next) ↔ x = y := by cases x; cases y; simp
theorem pe_Policy {x y : Policy} (hl : pc_Policy x ≤ 1048576) : m_laws_eqPolicy x y = some (decide (x = y)) := by
  unfold pc_Policy at hl
  unfold m_laws_eqPolicy
  rw [← decide_eq_decide.2 (pi_Policy x y)]
  exact pl_eqML (pe_Int64SS (by omega))
def pq_Policy (x : Policy) : Nat := pq_Int64SS x.Next
theorem pq_Policy_le (x : Policy) : pq_Policy x ≤ 8 * pc_Policy x := by
  unfold pq_Policy pc_Policy
  have h0 := pq_Int64SS_le x.Next
  omega
theorem pm_Policy {x : Policy} (hl : pc_Policy x ≤ 1048576) {k : Nat} (hk : k + pq_Policy x ≤ 4611686018427387904) : ∃ (a0 : (List (List Int))), m_laws_markPolicy x k = some (((k + pq_Policy x : Nat) : Int), a0) ∧ m_laws_heldPolicy (Policy.mk a0) k = some ((k + pq_Policy x : Nat) : Int) := by
  unfold pq_Policy at hk ⊢
  unfold pc_Policy at hl
  have l0 : x.Next.length ≤ pc_Int64SS x.Next := pc_Int64SS_len
  obtain ⟨a0, m0, g0⟩ := pm_Int64SS (xs := x.Next) (by omega) (k := k) (by omega)
  have n0 : decide ((((k) + pq_Int64SS x.Next : Nat) : Int) < 0) = false := decide_eq_false (by omega)
  have tot : ((k + pq_Int64SS x.Next : Nat) : Int) = ((k + (pq_Int64SS x.Next) : Nat) : Int) := by omega
  refine ⟨a0, ?_, ?_⟩
  · unfold m_laws_markPolicy; simp only [m0, Option.bind_some] <;> rw [← tot]
  · unfold m_laws_heldPolicy; simp only [g0, n0, Option.bind_some, cond_false] <;> rw [← tot]
end Go.Mod

namespace Go.Mod
open Go.AM
set_option linter.unusedVariables false
set_option linter.unusedSimpArgs false
def rowOK (n : Nat) (x : List Int) : Bool := decide (x.length = 4) && x.all fun v => decide (-1 ≤ v) && decide (v ≤ (n : Int) - 1)
def vP (p : Policy) : Bool := (decide (1 ≤ p.Next.length) && decide (p.Next.length ≤ 12)) && p.Next.all (rowOK p.Next.length)
theorem vP_len {p : Policy} (h : vP p = true) : 1 ≤ p.Next.length ∧ p.Next.length ≤ 12 := by simp [vP] at h; omega
theorem vP_row {p : Policy} (h : vP p = true) {x : List Int} (hx : x ∈ p.Next) : x.length = 4 ∧ ∀ v ∈ x, -1 ≤ v ∧ v ≤ (p.Next.length : Int) - 1 := by
  simp only [vP, Bool.and_eq_true, List.all_eq_true] at h
  have := h.2 x hx
  simp only [rowOK, Bool.and_eq_true, decide_eq_true_eq, List.all_eq_true] at this
  exact this
theorem dec_leI {a : Nat} : decide ((1 : Int) ≤ (a : Int)) = decide (1 ≤ a) := by by_cases h : 1 ≤ a <;> simp [h] <;> omega
theorem dec_le12 {a : Nat} : decide ((a : Int) ≤ 12) = decide (a ≤ 12) := by by_cases h : a ≤ 12 <;> simp [h] <;> omega
theorem spec_row {p : Policy} {x : List Int} (hx : x.length = 4) (hn : p.Next.length ≤ 12) (h1 : 1 ≤ p.Next.length) : iter (m_spec_l10Is_L1 p x) 0 = some (bif x.all fun v => decide (-1 ≤ v) && decide (v ≤ (p.Next.length : Int) - 1) then .inl () else .inr false) := by
  have h := iter_for (step := m_spec_l10Is_L1 p x) x (fun n (_ : Unit) => (n : Int)) (fun _ v _ => bif (decide (-1 ≤ v) && decide (v ≤ (p.Next.length : Int) - 1)) then some (.next ()) else some (.out (.inr false))) (fun _ => .inl ())
    (fun n v r hv => by
      have hlt := get_lt hv
      unfold m_spec_l10Is_L1
      rw [decide_eq_true (by omega), cond_true, getI_some hv, Option.bind_some, w64_eq (n := (p.Next.length : Int) - 1) (by omega)]
      unfold m_spec_l00In
      rw [Option.bind_some, w64_succ (by omega)]
      cases (decide (-1 ≤ v) && decide (v ≤ (p.Next.length : Int) - 1)) <;> rfl)
    (fun r => by unfold m_spec_l10Is_L1; rw [hx]; rfl) ()
  rw [forL_all (fun v => decide (-1 ≤ v) && decide (v ≤ (p.Next.length : Int) - 1)) _ _ (fun n x _ => rfl)] at h
  exact h
theorem impl_all {xs : List Int} {a b : Int} : m_impl_allWithin xs a b = some (xs.all fun x => decide (a ≤ x) && decide (x ≤ b)) := by
  unfold m_impl_allWithin
  rw [forL_all (fun x => decide (a ≤ x) && decide (x ≤ b)) (f := .inr false) xs 0 (fun n x _ => by
    unfold m_impl_allWithin_L0 m_impl_within
    rw [Option.bind_some]
    cases (decide (a ≤ x) && decide (x ≤ b)) <;> rfl), Option.bind_some]
  cases xs.all fun x => decide (a ≤ x) && decide (x ≤ b) <;> rfl
theorem impl_vP {p : Policy} : m_impl_ValidPolicy p = some (vP p) := by
  unfold m_impl_ValidPolicy m_impl_size m_impl_within vP
  rw [Option.bind_some, Option.bind_some, dec_leI, dec_le12]
  cases h0 : decide (1 ≤ p.Next.length) && decide (p.Next.length ≤ 12) with
  | false => rfl
  | true =>
    simp only [Bool.and_eq_true, decide_eq_true_eq] at h0
    rw [Bool.not_true, cond_false, forL_all (rowOK p.Next.length) (f := .inr false) p.Next 0 (fun n x _ => by
      unfold m_impl_ValidPolicy_L0 rowOK
      by_cases h4 : x.length = 4
      · rw [decide_eq_true h4, decide_eq_true (show (x.length : Int) = 4 by omega), Bool.not_true, cond_false, impl_all, Option.bind_some, w64_eq (n := (p.Next.length : Int) - 1) (by omega), Bool.true_and]
        cases x.all fun v => decide (-1 ≤ v) && decide (v ≤ (p.Next.length : Int) - 1) <;> rfl
      · rw [decide_eq_false h4, decide_eq_false (show ¬ (x.length : Int) = 4 by omega)]; rfl), Option.bind_some, Bool.true_and]
    cases p.Next.all (rowOK p.Next.length) <;> rfl
def Edge (p : Policy) (a b : Int) : Prop := ∃ row, 0 ≤ a ∧ p.Next[a.toNat]? = some row ∧ b ∈ row ∧ 0 ≤ b
inductive Reach (p : Policy) : Int → Prop where
  | zero : Reach p 0
  | step {a b : Int} : Reach p a → Edge p a b → Reach p b
theorem Edge.rng {p : Policy} (hv : vP p = true) {a b : Int} (h : Edge p a b) : 0 ≤ b ∧ b < p.Next.length := by
  obtain ⟨row, _, h1, h2, h3⟩ := h
  have := (vP_row hv (List.mem_of_getElem? h1)).2 b h2
  omega
theorem Reach.rng {p : Policy} (hv : vP p = true) {a : Int} (h : Reach p a) : 0 ≤ a ∧ a < p.Next.length := by
  cases h with
  | zero => have := vP_len hv; omega
  | step _ e => exact e.rng hv
theorem nodup_len : ∀ (n : Nat) (xs : List Int), xs.Nodup → (∀ x ∈ xs, 0 ≤ x ∧ x < n) → xs.length ≤ n := by
  intro n
  induction n with
  | zero =>
    intro xs _ h
    cases xs with
    | nil => exact Nat.le_refl 0
    | cons x r => have := h x (by simp); omega
  | succ n ih =>
    intro xs hn h
    have h1 := ih (xs.erase (n : Int)) (hn.erase _) (fun x hx => by
      rw [hn.mem_erase_iff] at hx
      have := h x hx.2
      have h2 := hx.1
      omega)
    rw [List.length_erase] at h1
    split at h1 <;> omega
structure Ord (p : Policy) (L : List Int) (i : Nat) : Prop where
  nd : L.Nodup
  rc : ∀ v ∈ L, Reach p v
  z : 0 ∈ L
  cl : ∀ (j : Nat) a b, j < i → L[j]? = some a → Edge p a b → b ∈ L
theorem Ord.len {p : Policy} (hv : vP p = true) {L : List Int} {i : Nat} (h : Ord p L i) : L.length ≤ p.Next.length := nodup_len _ _ h.nd (fun x hx => (h.rc x hx).rng hv)
def On (s : List Bool) (a : Int) : Prop := 0 ≤ a ∧ s[a.toNat]? = some true
structure Seen (p : Policy) (s : List Bool) : Prop where
  len : s.length = p.Next.length
  rc : ∀ a, On s a → Reach p a
theorem On.set {s : List Bool} {b : Int} (h0 : 0 ≤ b) (hb : b < s.length) {a : Int} : On (s.set b.toNat true) a ↔ On s a ∨ a = b := by
  unfold On
  rw [List.getElem?_set]
  by_cases e : b.toNat = a.toNat
  · rw [if_pos e, if_pos (by omega)]
    constructor
    · rintro ⟨h1, _⟩; exact .inr (by omega)
    · rintro (⟨h1, _⟩ | rfl)
      · exact ⟨h1, rfl⟩
      · exact ⟨h0, rfl⟩
  · rw [if_neg e]
    constructor
    · exact fun h => .inl h
    · rintro (h | rfl)
      · exact h
      · exact absurd rfl e
end Go.Mod

namespace Go.Mod
open Go.AM
set_option linter.unusedVariables false
def Mt (R : Nat → Nat → Prop) : Option Nat → Option Nat → Prop
  | none, none => True
  | some x, some y => R x y
  | _, _ => False
theorem Mt.mono {R R' : Nat → Nat → Prop} (h : ∀ x y, R x y → R' x y) {a b : Option Nat} (m : Mt R a b) : Mt R' a b := by
  cases a <;> cases b <;> simp only [Mt] at * <;> first | exact h _ _ m | exact m
def Rr (δ : Nat → Nat → Option Nat) : Nat → Nat → Nat → Prop
  | 0, _, _ => True
  | r + 1, a, b => Rr δ r a b ∧ ∀ e, e < 4 → Mt (Rr δ r) (δ a e) (δ b e)
section
variable {δ : Nat → Nat → Option Nat}
theorem Rr.refl : ∀ (r a : Nat), Rr δ r a a
  | 0, _ => trivial
  | r + 1, a => ⟨Rr.refl r a, fun e _ => by cases δ a e with | none => trivial | some x => exact Rr.refl r x⟩
theorem Rr.symm : ∀ {r a b : Nat}, Rr δ r a b → Rr δ r b a
  | 0, _, _, _ => trivial
  | r + 1, a, b, h => ⟨Rr.symm h.1, fun e he => by
    have := h.2 e he
    cases h1 : δ a e <;> cases h2 : δ b e <;> rw [h1, h2] at this <;> simp only [Mt] at * <;> exact Rr.symm this⟩
theorem Rr.trans : ∀ {r a b c : Nat}, Rr δ r a b → Rr δ r b c → Rr δ r a c
  | 0, _, _, _, _, _ => trivial
  | r + 1, a, b, c, h, g => ⟨Rr.trans h.1 g.1, fun e he => by
    have h1 := h.2 e he
    have g1 := g.2 e he
    cases x : δ a e <;> cases y : δ b e <;> cases z : δ c e <;> rw [x, y] at h1 <;> rw [y, z] at g1 <;> simp only [Mt] at * <;> first | exact Rr.trans h1 g1 | trivial⟩
theorem Rr.le {r m a b : Nat} (hm : r ≤ m) (h : Rr δ m a b) : Rr δ r a b := by
  induction hm with
  | refl => exact h
  | step _ ih => exact ih h.1
def Stab4 (δ : Nat → Nat → Option Nat) (n r : Nat) : Prop := ∀ a b, a < n → b < n → Rr δ r a b → Rr δ (r + 1) a b
def Clo (δ : Nat → Nat → Option Nat) (n : Nat) : Prop := ∀ a e x, a < n → e < 4 → δ a e = some x → x < n
theorem Stab4.all {n r : Nat} (hc : Clo δ n) (h : Stab4 δ n r) : ∀ (m : Nat) a b, a < n → b < n → Rr δ r a b → Rr δ (r + m) a b
  | 0, _, _, _, _, h1 => h1
  | m + 1, a, b, ha, hb, h1 => ⟨h.all hc m a b ha hb h1, fun e he => by
    have := (h a b ha hb h1).2 e he
    cases x : δ a e <;> cases y : δ b e <;> rw [x, y] at this <;> simp only [Mt] at *
    exact h.all hc m _ _ (hc _ _ _ ha he x) (hc _ _ _ hb he y) this⟩
def Ra (δ : Nat → Nat → Option Nat) (a b : Nat) : Prop := ∀ r, Rr δ r a b
theorem Stab4.ra {n r : Nat} (hc : Clo δ n) (h : Stab4 δ n r) {a b : Nat} (ha : a < n) (hb : b < n) : Rr δ r a b ↔ Ra δ a b :=
  ⟨fun h1 m => (h.all hc m a b ha hb h1).le (by omega), fun h1 => h1 r⟩
theorem Ra.step {a b : Nat} (h : Ra δ a b) {e : Nat} (he : e < 4) : Mt (Ra δ) (δ a e) (δ b e) := by
  have h1 := fun r => (h (r + 1)).2 e he
  cases x : δ a e <;> cases y : δ b e
  · trivial
  · have := h1 0; rw [x, y] at this; exact this
  · have := h1 0; rw [x, y] at this; exact this
  · exact fun r => by have := h1 r; rw [x, y] at this; exact this
end
structure Num (R : Nat → Nat → Prop) (n : Nat) (f : List Int) (c : Nat) : Prop where
  len : f.length = n
  rng : ∀ (a : Nat) v, f[a]? = some v → 0 ≤ v ∧ v < c
  eqv : ∀ (a b : Nat) v w, f[a]? = some v → f[b]? = some w → (v = w ↔ R a b)
  sur : ∀ i : Nat, i < c → ∃ a : Nat, f[a]? = some (i : Int)
theorem Num.at {R : Nat → Nat → Prop} {n c : Nat} {f : List Int} (h : Num R n f c) {a : Nat} (ha : a < n) : ∃ v, f[a]? = some v ∧ 0 ≤ v ∧ v < c := by
  have ha' : a < f.length := by rw [h.len]; exact ha
  exact ⟨f[a], List.getElem?_eq_getElem ha', h.rng a _ (List.getElem?_eq_getElem ha')⟩
theorem nodup_int : ∀ (n : Nat) (xs : List Int), xs.Nodup → (∀ x ∈ xs, 0 ≤ x ∧ x < n) → xs.length ≤ n := by
  intro n
  induction n with
  | zero =>
    intro xs _ h
    cases xs with
    | nil => exact Nat.le_refl _
    | cons x r => have := h x (by simp); omega
  | succ n ih =>
    intro xs hn h
    by_cases hm : (n : Int) ∈ xs
    · have := ih (xs.erase (n : Int)) (hn.erase _) (fun x hx => by
        obtain ⟨h1, h2⟩ := hn.mem_erase_iff.1 hx
        have := h x h2
        omega)
      rw [List.length_erase_of_mem hm] at this
      omega
    · have := ih xs hn (fun x hx => by
        have := h x hx
        have : x ≠ n := fun e => hm (e ▸ hx)
        omega)
      omega
theorem Num.pick {R : Nat → Nat → Prop} {n c : Nat} {f : List Int} (h : Num R n f c) : ∀ k : Nat, k ≤ c → ∃ s : List Nat, s.length = k ∧ ∀ (i : Nat) a, s[i]? = some a → f[a]? = some (i : Int)
  | 0, _ => ⟨[], rfl, fun i a hi => by simp at hi⟩
  | k + 1, hk => by
    obtain ⟨s, h1, h2⟩ := h.pick k (by omega)
    obtain ⟨a, ha⟩ := h.sur k (by omega)
    refine ⟨s ++ [a], by simp [h1], fun i b hi => ?_⟩
    rcases Nat.lt_or_ge i s.length with hlt | hge
    · rw [List.getElem?_append_left hlt] at hi; exact h2 i b hi
    · rw [List.getElem?_append_right hge] at hi
      have : i - s.length = 0 := by
        rcases Nat.eq_zero_or_pos (i - s.length) with h | h
        · exact h
        · rw [List.getElem?_eq_none (by simp; omega)] at hi; cases hi
      rw [this] at hi
      simp at hi
      subst hi
      rw [show i = k by omega]; exact ha
theorem Num.val {R : Nat → Nat → Prop} {n c : Nat} {f : List Int} (h : Num R n f c) {a : Nat} {v : Int} (ha : f[a]? = some v) : a < n := by
  rw [← h.len]; exact (List.getElem?_eq_some_iff.1 ha).1
theorem Num.le {R R' : Nat → Nat → Prop} {n c c' : Nat} {f f' : List Int} (h : Num R n f c) (h' : Num R' n f' c') (hs : ∀ a b, a < n → b < n → R' a b → R a b) : c ≤ c' := by
  obtain ⟨s, h1, h2⟩ := h.pick c (Nat.le_refl _)
  have key := nodup_int c' (s.map fun a => (f'[a]?).getD (-1)) ?_ ?_
  · simpa [h1] using key
  · refine List.pairwise_map.2 (List.pairwise_iff_getElem.2 fun i j hi hj hij e => ?_)
    have a1 := h2 i _ (List.getElem?_eq_getElem hi)
    have a2 := h2 j _ (List.getElem?_eq_getElem hj)
    obtain ⟨v, hv, _⟩ := h'.at (h.val a1)
    obtain ⟨w, hw, _⟩ := h'.at (h.val a2)
    rw [hv, hw] at e
    have := (h.eqv _ _ _ _ a1 a2).2 (hs _ _ (h.val a1) (h.val a2) ((h'.eqv _ _ _ _ hv hw).1 e))
    omega
  · intro x hx
    obtain ⟨a, ha, rfl⟩ := List.mem_map.1 hx
    obtain ⟨i, hi, rfl⟩ := List.getElem_of_mem ha
    have a1 := h2 i _ (List.getElem?_eq_getElem hi)
    obtain ⟨v, hv, h3⟩ := h'.at (h.val a1)
    rw [hv]; exact h3
theorem Num.same {R R' : Nat → Nat → Prop} {n c : Nat} {f f' : List Int} (h : Num R n f c) (h' : Num R' n f' c) (hs : ∀ a b, a < n → b < n → R' a b → R a b) : ∀ a b, a < n → b < n → R a b → R' a b := by
  intro a b ha hb hab
  obtain ⟨va, fa, ra⟩ := h.at ha
  obtain ⟨vb, fb, rb⟩ := h.at hb
  obtain ⟨wa, ga, sa⟩ := h'.at ha
  obtain ⟨wb, gb, sb⟩ := h'.at hb
  refine (h'.eqv _ _ _ _ ga gb).1 (Classical.byContradiction fun hne => ?_)
  have hv : va = vb := (h.eqv _ _ _ _ fa fb).2 hab
  subst hv
  obtain ⟨s, h1, h2⟩ := h.pick c (Nat.le_refl _)
  -- in the class of both, the first of them
  have hk : va.toNat < s.length := by omega
  have key := nodup_int c (wb :: (s.set va.toNat a).map fun x => (f'[x]?).getD (-1)) ?_ ?_
  · simp [h1] at key
    omega
  · have hset : ∀ (i : Nat) x, (s.set va.toNat a)[i]? = some x → f[x]? = some (i : Int) := by
      intro i x hx
      rw [List.getElem?_set] at hx
      split at hx
      · rename_i hi
        obtain rfl : a = x := by simpa [hk] using hx
        rw [fa]; congr 1; omega
      · exact h2 i x hx
    refine List.nodup_cons.2 ⟨fun hm => ?_, List.pairwise_map.2 (List.pairwise_iff_getElem.2 fun i j hi hj hij e => ?_)⟩
    · obtain ⟨x, hx, e⟩ := List.mem_map.1 hm
      obtain ⟨i, hi, rfl⟩ := List.getElem_of_mem hx
      have a1 := hset i _ (List.getElem?_eq_getElem hi)
      obtain ⟨v, hv, _⟩ := h'.at (h.val a1)
      rw [hv] at e
      have e : v = wb := e
      subst e
      have := (h.eqv _ _ _ _ a1 fb).2 (hs _ _ (h.val a1) hb ((h'.eqv _ _ _ _ hv gb).1 rfl))
      have hi2 : i = va.toNat := by omega
      have hx : (s.set va.toNat a)[i]? = some a := by rw [hi2, List.getElem?_set_self hk]
      rw [List.getElem?_eq_getElem hi] at hx
      have hx := Option.some.inj hx
      rw [hx, ga] at hv
      exact hne (Option.some.inj hv)
    · have a1 := hset i _ (List.getElem?_eq_getElem hi)
      have a2 := hset j _ (List.getElem?_eq_getElem hj)
      obtain ⟨v, hv, _⟩ := h'.at (h.val a1)
      obtain ⟨w, hw, _⟩ := h'.at (h.val a2)
      rw [hv, hw] at e
      have := (h.eqv _ _ _ _ a1 a2).2 (hs _ _ (h.val a1) (h.val a2) ((h'.eqv _ _ _ _ hv hw).1 e))
      omega
  · intro x hx
    rcases List.mem_cons.1 hx with rfl | hx
    · exact sb
    · obtain ⟨y, hy, rfl⟩ := List.mem_map.1 hx
      have hyn : y < n := by
        rcases List.mem_or_eq_of_mem_set hy with hy | rfl
        · obtain ⟨i, hi, rfl⟩ := List.getElem_of_mem hy
          exact h.val (h2 i _ (List.getElem?_eq_getElem hi))
        · exact ha
      obtain ⟨v, hv, h3⟩ := h'.at hyn
      rw [hv]; exact h3
theorem Num.pos {R : Nat → Nat → Prop} {n c : Nat} {f : List Int} (h : Num R n f c) (hn : 1 ≤ n) : 1 ≤ c := by
  obtain ⟨v, _, h1, h2⟩ := h.at hn
  omega
theorem Num.ex {R : Nat → Nat → Prop} (hr : ∀ a, R a a) (hs : ∀ a b, R a b → R b a) (ht : ∀ a b c, R a b → R b c → R a c) : ∀ n, ∃ f c, Num R n f c
  | 0 => ⟨[], 0, rfl, fun a v h => by simp at h, fun a b v w h => by simp at h, fun i hi => by omega⟩
  | n + 1 => by
    obtain ⟨f, c, h⟩ := Num.ex hr hs ht n
    by_cases hx : ∃ a, a < n ∧ R a n
    · obtain ⟨a, ha, hr1⟩ := hx
      obtain ⟨v, hv, h0, h1⟩ := h.at ha
      have hget : ∀ (i : Nat) w, (f ++ [v])[i]? = some w → (i < n ∧ f[i]? = some w) ∨ (i = n ∧ w = v) := by
        intro i w hi
        rcases Nat.lt_or_ge i f.length with hlt | hge
        · rw [List.getElem?_append_left hlt] at hi; exact .inl ⟨by rw [← h.len]; exact hlt, hi⟩
        · rw [List.getElem?_append_right hge] at hi
          have h0 : i - f.length = 0 := by
            rcases Nat.eq_zero_or_pos (i - f.length) with h | h
            · exact h
            · rw [List.getElem?_eq_none (by simp; omega)] at hi; cases hi
          rw [h0] at hi
          simp at hi
          exact .inr ⟨by have := h.len; omega, hi.symm⟩
      refine ⟨f ++ [v], c, by simp [h.len], fun i w hi => ?_, fun i j u w hi hj => ?_, fun i hi => ?_⟩
      · rcases hget i w hi with ⟨_, hi⟩ | ⟨_, rfl⟩
        · exact h.rng _ _ hi
        · exact ⟨h0, h1⟩
      · rcases hget i u hi with ⟨_, hi2⟩ | ⟨rfl, rfl⟩ <;> rcases hget j w hj with ⟨_, hj2⟩ | ⟨rfl, rfl⟩
        · exact h.eqv _ _ _ _ hi2 hj2
        · rw [h.eqv _ _ _ _ hi2 hv]
          exact ⟨fun g => ht _ _ _ g hr1, fun g => ht _ _ _ g (hs _ _ hr1)⟩
        · rw [h.eqv _ _ _ _ hv hj2]
          exact ⟨fun g => ht _ _ _ (hs _ _ hr1) g, fun g => ht _ _ _ hr1 g⟩
        · exact ⟨fun _ => hr _, fun _ => rfl⟩
      · obtain ⟨b, hb⟩ := h.sur i hi
        exact ⟨b, by rw [List.getElem?_append_left (by rw [h.len]; exact h.val hb)]; exact hb⟩
    · have hget : ∀ (i : Nat) w, (f ++ [(c : Int)])[i]? = some w → (i < n ∧ f[i]? = some w) ∨ (i = n ∧ w = c) := by
        intro i w hi
        rcases Nat.lt_or_ge i f.length with hlt | hge
        · rw [List.getElem?_append_left hlt] at hi; exact .inl ⟨by rw [← h.len]; exact hlt, hi⟩
        · rw [List.getElem?_append_right hge] at hi
          have h0 : i - f.length = 0 := by
            rcases Nat.eq_zero_or_pos (i - f.length) with h | h
            · exact h
            · rw [List.getElem?_eq_none (by simp; omega)] at hi; cases hi
          rw [h0] at hi
          simp at hi
          exact .inr ⟨by have := h.len; omega, hi.symm⟩
      refine ⟨f ++ [(c : Int)], c + 1, by simp [h.len], fun i w hi => ?_, fun i j u w hi hj => ?_, fun i hi => ?_⟩
      · rcases hget i w hi with ⟨_, hi⟩ | ⟨_, rfl⟩
        · have := h.rng _ _ hi; omega
        · omega
      · rcases hget i u hi with ⟨hi', hi2⟩ | ⟨rfl, rfl⟩ <;> rcases hget j w hj with ⟨hj', hj2⟩ | ⟨rfl, rfl⟩
        · exact h.eqv _ _ _ _ hi2 hj2
        · have := h.rng _ _ hi2
          exact ⟨fun g => by omega, fun g => absurd ⟨i, hi', g⟩ hx⟩
        · have := h.rng _ _ hj2
          exact ⟨fun g => by omega, fun g => absurd ⟨j, hj', hs _ _ g⟩ hx⟩
        · exact ⟨fun _ => hr _, fun _ => rfl⟩
      · rcases Nat.lt_or_ge i c with hlt | hge
        · obtain ⟨b, hb⟩ := h.sur i hlt
          exact ⟨b, by rw [List.getElem?_append_left (by rw [h.len]; exact h.val hb)]; exact hb⟩
        · refine ⟨n, ?_⟩
          rw [List.getElem?_append_right (by rw [h.len]; omega), h.len, Nat.sub_self]
          simp; omega
section
variable {δ : Nat → Nat → Option Nat} {n : Nat}
theorem Rr.num (r : Nat) : ∃ f c, Num (Rr δ r) n f c := Num.ex (Rr.refl r) (fun _ _ h => h.symm) (fun _ _ _ h g => h.trans g) n
end
def hop {K : Type} [DecidableEq K] (cl : Nat → K) (L : List Nat) (row : List Int) : Option Nat → List Nat × List Int
  | none => (L, row ++ [-1])
  | some x => match kfind (cl x) (L.map cl) with
    | some j => (L, row ++ [(j : Int)])
    | none => (L ++ [x], row ++ [(L.length : Int)])
def hops {K : Type} [DecidableEq K] (δ : Nat → Nat → Option Nat) (cl : Nat → K) (s : Nat) : Nat → Nat → List Nat → List Int → List Nat × List Int
  | 0, _, L, row => (L, row)
  | k + 1, e, L, row => let p := hop cl L row (δ s e); hops δ cl s k (e + 1) p.1 p.2
inductive Bfs {K : Type} [DecidableEq K] (δ : Nat → Nat → Option Nat) (cl : Nat → K) : Nat → List Nat → List (List Int) → List Nat → List (List Int) → Prop
  | done {i : Nat} {L : List Nat} {out : List (List Int)} : L.length ≤ i → Bfs δ cl i L out L out
  | step {i s : Nat} {L Lf : List Nat} {out res : List (List Int)} : L[i]? = some s → Bfs δ cl (i + 1) (hops δ cl s 4 0 L []).1 (out ++ [(hops δ cl s 4 0 L []).2]) Lf res → Bfs δ cl i L out Lf res
section
variable {K K' : Type} [DecidableEq K] [DecidableEq K'] {δ δ' : Nat → Nat → Option Nat} {cl : Nat → K} {cl' : Nat → K'} {ι : Nat → Nat} {n : Nat}
end
end Go.Mod

namespace Go.Mod
open Go.AM
set_option linter.unusedVariables false
set_option linter.unusedSimpArgs false
abbrev nm (v : Int) : List UInt8 := Go.Lib.itoa v
theorem nm_nat (n : Nat) : nm (n : Int) = Go.Lib.decDigits n := by unfold nm Go.Lib.itoa; rw [if_neg (by omega)]; simp
theorem digit_val {d : Nat} (h : d < 10) : (UInt8.ofNat (48 + d)).toNat = 48 + d := by simp [UInt8.toNat_ofNat]; omega
theorem dd_digits : ∀ (u : Nat), ∀ b ∈ Go.Lib.decDigits u, 48 ≤ b.toNat ∧ b.toNat ≤ 57 := by
  intro u
  induction u using Nat.strongRecOn with
  | _ u ih =>
    intro b hb
    rw [Go.Lib.decDigits] at hb
    by_cases h : u < 10
    · rw [dif_pos h] at hb
      simp only [List.mem_singleton] at hb
      subst hb; rw [digit_val h]; omega
    · rw [dif_neg h] at hb
      rcases List.mem_append.1 hb with hb | hb
      · exact ih (u / 10) (by omega) b hb
      · simp only [List.mem_singleton] at hb
        subst hb; rw [digit_val (by omega)]; omega
theorem dd_ne (u : Nat) : Go.Lib.decDigits u ≠ [] := by
  rw [Go.Lib.decDigits]
  by_cases h : u < 10
  · rw [dif_pos h]; simp
  · rw [dif_neg h]; simp
theorem dd_len : ∀ (k u : Nat), u < 10 ^ (k + 1) → (Go.Lib.decDigits u).length ≤ k + 1
  | 0, u, h => by rw [Go.Lib.decDigits, dif_pos (by omega)]; simp
  | k + 1, u, h => by
    rw [Go.Lib.decDigits]
    by_cases g : u < 10
    · rw [dif_pos g]; simp
    · rw [dif_neg g]
      have := dd_len k (u / 10) (by rw [Nat.pow_succ] at h; omega)
      simp; omega
theorem impl_dec {v : Int} (h0 : -9223372036854775808 ≤ v) (h1 : v ≤ 9223372036854775807) : m_impl_Decimal v = some (nm v) := by
  unfold m_impl_Decimal m_strconv_FormatInt
  rw [decide_eq_true rfl, decide_eq_true h0, decide_eq_true h1]
  rfl
def cel (f : List Int) (v : Int) : List UInt8 := 44 :: (if v < 0 then [120] else nm ((f[v.toNat]?).getD 0))
def keyOf (f : List Int) (x : Int) (row : List Int) : List UInt8 := nm x ++ (row.map (cel f)).flatten
theorem nm_len {v : Int} (h0 : 0 ≤ v) (h1 : v < 1000) : (nm v).length ≤ 3 := by
  obtain ⟨n, rfl⟩ : ∃ n : Nat, v = n := ⟨v.toNat, by omega⟩
  rw [nm_nat]; exact dd_len 2 n (by omega)
end Go.Mod

namespace Go.Mod
open Go.AM
set_option linter.unusedVariables false
set_option linter.unusedSimpArgs false
structure GOK (g : List (List Int)) : Prop where
  pos : 1 ≤ g.length
  le : g.length ≤ 200
  row : ∀ x ∈ g, x.length = 4 ∧ ∀ v ∈ x, -1 ≤ v ∧ v < g.length
def dl (g : List (List Int)) (a e : Nat) : Option Nat := (g[a]?).bind fun x => (x[e]?).bind fun v => if v < 0 then none else some v.toNat
theorem kfind_app {K : Type} [DecidableEq K] {x q : K} : ∀ (ks : List K), kfind q (ks ++ [x]) = match kfind q ks with | some i => some i | none => if x = q then some ks.length else none
  | [] => by simp [kfind]
  | a :: r => by
    simp only [List.cons_append, kfind]
    by_cases h : a = q
    · simp [h]
    · rw [if_neg h, if_neg h, kfind_app r]
      cases kfind q r with
      | some i => rfl
      | none => by_cases h2 : x = q <;> simp [h2]
theorem mget_put {K V : Type} [DecidableEq K] {v : V} {k q : K} : ∀ (m : List (K × V)), mget (mput m k v) q = if k = q then some v else mget m q := by
  intro m
  induction m with
  | nil => unfold mput; simp only [mget]
  | cons x r ih =>
    obtain ⟨a, b⟩ := x
    unfold mput
    by_cases ha : a = k
    · subst ha
      rw [if_pos rfl]
      simp only [mget]
      by_cases hq : a = q
      · rw [if_pos hq, if_pos hq]
      · rw [if_neg hq, if_neg hq, if_neg hq]
    · rw [if_neg ha]
      simp only [mget]
      by_cases hq : a = q
      · rw [if_pos hq, if_pos hq, if_neg (fun h => ha (hq.trans h.symm))]
      · rw [if_neg hq, if_neg hq]; exact ih
structure Enum {K : Type} [DecidableEq K] (M : List (K × Int)) (ks : List K) : Prop where
  keys : M.map (·.1) = ks
  get : ∀ q, mget M q = (kfind q ks).map fun i : Nat => (i : Int)
theorem Enum.len {K : Type} [DecidableEq K] {M : List (K × Int)} {ks : List K} (h : Enum M ks) : M.length = ks.length := by rw [← h.keys, List.length_map]
theorem Enum.nil {K : Type} [DecidableEq K] : Enum ([] : List (K × Int)) [] := ⟨rfl, fun q => rfl⟩
theorem Enum.add {K : Type} [DecidableEq K] {M : List (K × Int)} {ks : List K} (h : Enum M ks) {x : K} (hx : kfind x ks = none) : Enum (mput M x (ks.length : Int)) (ks ++ [x]) := by
  refine ⟨?_, fun q => ?_⟩
  · rw [mput_none (by rw [h.keys]; exact hx), List.map_append, h.keys]; rfl
  · rw [mget_put, kfind_app, h.get]
    by_cases e : x = q
    · subst e; simp [hx]
    · rw [if_neg e]
      cases kfind q ks with
      | some i => rfl
      | none => simp only [if_neg e]
section
variable {g : List (List Int)} (hg : GOK g)
def ky (g : List (List Int)) (f : List Int) (a : Nat) : List UInt8 := keyOf f ((f[a]?).getD 0) ((g[a]?).getD [])
include hg in
structure Mid (g : List (List Int)) (f : List Int) (k : Nat) (s : (List ((List UInt8) × Int)) × (List Int)) (ks : List (List UInt8)) : Prop where
  len : s.2.length = g.length
  en : Enum s.1 ks
  le : ks.length ≤ k
  num : ∀ a, a < k → ∃ j, kfind (ky g f a) ks = some j ∧ s.2[a]? = some (j : Int)
  sur : ∀ j, j < ks.length → ∃ a, a < k ∧ s.2[a]? = some (j : Int)
include hg in
include hg in
include hg in
end
end Go.Mod

namespace Go.Mod
open Go.AM
set_option linter.unusedVariables false
set_option linter.unusedSimpArgs false
section
variable {K : Type} [DecidableEq K]
end
theorem nodup_nat {n : Nat} {l : List Nat} (h : l.Nodup) (hl : ∀ x ∈ l, x < n) : l.length ≤ n := by
  have := nodup_int n (l.map fun i : Nat => (i : Int)) (List.pairwise_map.2 (List.Pairwise.imp (fun {a b} h e => h (by omega)) h)) (fun x hx => by
    obtain ⟨y, hy, rfl⟩ := List.mem_map.1 hx
    have := hl y hy; omega)
  simpa using this
theorem kfind_none {K : Type} [DecidableEq K] {q : K} : ∀ {ks : List K}, kfind q ks = none → q ∉ ks
  | [], _ => by simp
  | a :: r, h => by
    unfold kfind at h
    by_cases e : a = q
    · rw [if_pos e] at h; cases h
    · rw [if_neg e] at h
      have := kfind_none (ks := r) (by cases hr : kfind q r with | none => rfl | some j => rw [hr] at h; cases h)
      simp only [List.mem_cons, not_or]
      exact ⟨fun h => e h.symm, this⟩
structure Met {K : Type} (cl : Nat → K) (n : Nat) (L : List Nat) : Prop where
  nd : (L.map cl).Nodup
  lt : ∀ x ∈ L, x < n
theorem Met.len {K : Type} {cl : Nat → K} {n : Nat} {L : List Nat} (h : Met cl n L) : L.length ≤ n := nodup_nat (List.Pairwise.imp (fun {a b} h e => h (by rw [e])) (List.pairwise_map.1 h.nd)) h.lt
section
variable {K : Type} [DecidableEq K] {bz : Nat} {nx : K → Int → Option (K × Bool)} {δ : Nat → Nat → Option Nat} {cl : Nat → K} {n : Nat}
theorem Met.hop {L : List Nat} {row : List Int} {o : Option Nat} (h : Met cl n L) (ho : ∀ x, o = some x → x < n) : Met cl n (hop cl L row o).1 := by
  unfold Mod.hop
  cases o with
  | none => exact h
  | some x =>
    cases hk : kfind (cl x) (L.map cl) with
    | some j => simp only [hk]; exact h
    | none =>
      simp only [hk]
      refine ⟨?_, fun y hy => ?_⟩
      · rw [List.map_append]
        refine List.nodup_append.2 ⟨h.nd, by simp, fun a ha b hb e => ?_⟩
        simp at hb
        subst hb; subst e
        exact kfind_none hk ha
      · rcases List.mem_append.1 hy with hy | hy
        · exact h.lt y hy
        · simp at hy; subst hy; exact ho _ rfl
theorem hop_pre {L : List Nat} {row : List Int} {o : Option Nat} : ∃ M, (hop cl L row o).1 = L ++ M := by
  unfold hop
  cases o with
  | none => exact ⟨[], by simp⟩
  | some x =>
    cases hk : kfind (cl x) (L.map cl) with
    | some j => exact ⟨[], by simp [hk]⟩
    | none => exact ⟨[x], by simp [hk]⟩
theorem hop_row {L : List Nat} {row : List Int} {o : Option Nat} : (hop cl L row o).2.length = row.length + 1 := by
  unfold hop
  cases o with
  | none => simp
  | some x => cases hk : kfind (cl x) (L.map cl) <;> simp [hk]
theorem hops_pre (s : Nat) : ∀ (k e : Nat) (L : List Nat) (row : List Int), ∃ M, (hops δ cl s k e L row).1 = L ++ M
  | 0, _, _, _ => ⟨[], by simp [hops]⟩
  | k + 1, e, L, row => by
    obtain ⟨M, h⟩ := hop_pre (cl := cl) (L := L) (row := row) (o := δ s e)
    obtain ⟨M', h'⟩ := hops_pre s k (e + 1) (hop cl L row (δ s e)).1 (hop cl L row (δ s e)).2
    exact ⟨M ++ M', by simp only [hops]; rw [h', h, List.append_assoc]⟩
theorem hops_row (s : Nat) : ∀ (k e : Nat) (L : List Nat) (row : List Int), (hops δ cl s k e L row).2.length = row.length + k
  | 0, _, _, _ => by simp [hops]
  | k + 1, e, L, row => by simp only [hops]; rw [hops_row s k, hop_row]; omega
def Nx (δ : Nat → Nat → Option Nat) (cl : Nat → K) (n : Nat) (nx : K → Int → Option (K × Bool)) : Prop :=
  ∀ s e, s < n → e < 4 → match δ s e with | none => ∃ k, nx (cl s) (e : Int) = some (k, false) | some x => nx (cl s) (e : Int) = some (cl x, true)
variable (hc : Clo δ n) (hn : n ≤ 200) (hb : bz ≤ 1000) (hx : Nx δ cl n nx)
include hc hn hb hx
end
section
variable {g : List (List Int)} (hg : GOK g)
include hg in
end
end Go.Mod

namespace Go.Mod
open Go.AM
set_option linter.unusedVariables false
set_option linter.unusedSimpArgs false
structure Mk2 (R : Nat → Nat → Prop) (n : Nat) (f : List Int) : Prop where
  len : f.length = n
  rng : ∀ (a : Nat) v, f[a]? = some v → 0 ≤ v ∧ v < 200
  eqv : ∀ (a b : Nat) v w, f[a]? = some v → f[b]? = some w → (v = w ↔ R a b)
theorem Mk2.at {R : Nat → Nat → Prop} {n : Nat} {f : List Int} (h : Mk2 R n f) {a : Nat} (ha : a < n) : ∃ v, f[a]? = some v ∧ 0 ≤ v ∧ v < 200 := by
  have ha' : a < f.length := by rw [h.len]; exact ha
  exact ⟨f[a], List.getElem?_eq_getElem ha', h.rng a _ (List.getElem?_eq_getElem ha')⟩
section
variable {p : Policy} (hg : GOK p.Next)
include hg in
theorem cell_at {a e : Nat} (ha : a < p.Next.length) (he : e < 4) : ∃ x v, p.Next[a]? = some x ∧ x[e]? = some v ∧ -1 ≤ v ∧ v < p.Next.length ∧ dl p.Next a e = if v < 0 then none else some v.toNat := by
  obtain ⟨h4, hv⟩ := hg.row _ (List.getElem_mem ha)
  have hx : e < p.Next[a].length := by omega
  have hb := hv _ (List.getElem_mem hx)
  refine ⟨p.Next[a], p.Next[a][e], List.getElem?_eq_getElem ha, List.getElem?_eq_getElem hx, hb.1, hb.2, ?_⟩
  unfold dl
  rw [List.getElem?_eq_getElem ha, Option.bind_some, List.getElem?_eq_getElem hx, Option.bind_some]
include hg in
structure Mid2 (R : Nat → Nat → Prop) (i : Nat) (nx : List Int) : Prop where
  len : nx.length = i
  rng : ∀ (a : Nat) v, nx[a]? = some v → 0 ≤ v ∧ v ≤ a
  eqv : ∀ (a b : Nat) v w, nx[a]? = some v → nx[b]? = some w → (v = w ↔ R a b)
theorem Mid2.add {δ : Nat → Nat → Option Nat} {r i : Nat} {nx : List Int} {v : Int} (h : Mid2 (Rr δ r) i nx) (hv : (v = i ∧ ∀ k, k < i → ¬ Rr δ r k i) ∨ ∃ k, k < i ∧ Rr δ r k i ∧ nx[k]? = some v) : Mid2 (Rr δ r) (i + 1) (nx ++ [v]) := by
  have hget : ∀ (a : Nat) w, (nx ++ [v])[a]? = some w → (a < i ∧ nx[a]? = some w) ∨ (a = i ∧ w = v) := by
    intro a w ha
    rcases Nat.lt_or_ge a nx.length with hlt | hge
    · rw [List.getElem?_append_left hlt] at ha; exact .inl ⟨by rw [← h.len]; exact hlt, ha⟩
    · rw [List.getElem?_append_right hge] at ha
      have h0 : a - nx.length = 0 := by
        rcases Nat.eq_zero_or_pos (a - nx.length) with h | h
        · exact h
        · rw [List.getElem?_eq_none (by simp; omega)] at ha; cases ha
      rw [h0] at ha
      simp at ha
      exact .inr ⟨by have := h.len; omega, ha.symm⟩
  refine ⟨by simp [h.len], fun a w ha => ?_, fun a b x w ha hb => ?_⟩
  · rcases hget a w ha with ⟨_, h2⟩ | ⟨rfl, rfl⟩
    · exact h.rng a w h2
    · rcases hv with ⟨e, _⟩ | ⟨k, hk, _, h3⟩
      · omega
      · have := h.rng k _ h3; omega
  · rcases hget a x ha with ⟨la, ha2⟩ | ⟨rfl, rfl⟩ <;> rcases hget b w hb with ⟨lb, hb2⟩ | ⟨rfl, rfl⟩
    · exact h.eqv _ _ _ _ ha2 hb2
    · rcases hv with ⟨e, hno⟩ | ⟨k, hk, hr, h3⟩
      · have := h.rng a _ ha2
        exact ⟨fun g => by omega, fun g => absurd g (hno a la)⟩
      · rw [h.eqv _ _ _ _ ha2 h3]
        exact ⟨fun g => g.trans hr, fun g => g.trans hr.symm⟩
    · rcases hv with ⟨e, hno⟩ | ⟨k, hk, hr, h3⟩
      · have := h.rng b _ hb2
        exact ⟨fun g => by omega, fun g => absurd g.symm (hno b lb)⟩
      · rw [h.eqv _ _ _ _ h3 hb2]
        exact ⟨fun g => hr.symm.trans g, fun g => hr.trans g⟩
    · exact ⟨fun _ => Rr.refl _ _, fun _ => rfl⟩
include hg in
include hg in
include hg in
end
section
variable {p : Policy} (hg : GOK p.Next) {f : List Int} (hfl : f.length = p.Next.length)
include hg hfl in
def ns (L : List Nat) : List Int := L.map fun i : Nat => (i : Int)
include hg hfl in
include hg hfl in
include hg in
end
theorem Bfs.size {K : Type} [DecidableEq K] {δ : Nat → Nat → Option Nat} {cl : Nat → K} {i : Nat} {L Lf : List Nat} {out res : List (List Int)} (h : Bfs δ cl i L out Lf res) : i ≤ L.length → out.length = i → (∀ x ∈ out, x.length = 4) → res.length = Lf.length ∧ ∀ x ∈ res, x.length = 4 := by
  induction h with
  | done hl => exact fun h1 h2 h3 => ⟨by omega, h3⟩
  | @step i s L Lf out res hs hb ih =>
    intro h1 h2 h3
    obtain ⟨T, hT⟩ := hops_pre (δ := δ) (cl := cl) s 4 0 L []
    refine ih (by rw [hT]; have := get_lt hs; simp; omega) (by simp [h2]) (fun x hx => ?_)
    rcases List.mem_append.1 hx with hx | hx
    · exact h3 x hx
    · simp at hx; subst hx; rw [hops_row]; rfl
end Go.Mod

namespace Go.Mod
open Go.AM
set_option linter.unusedVariables false
set_option linter.unusedSimpArgs false
theorem dec_step {u : Nat} {s : List UInt8} (h1 : 1 ≤ u) (h2 : u < 1000000000000000000) (hs : s.length ≤ 1000000) :
    m_spec_l01Dec_L0 (-(u : Int), s) = some (.next (-((u / 10 : Nat) : Int), UInt8.ofNat (48 + u % 10) :: s)) := by
  unfold m_spec_l01Dec_L0
  simp only
  have e1 : Int.tmod (-(u : Int)) 10 = -((u % 10 : Nat) : Int) := by rw [Int.neg_tmod]; rfl
  have e2 : Int.tdiv (-(u : Int)) 10 = -((u / 10 : Nat) : Int) := by rw [Int.neg_tdiv]; rfl
  have hm : u % 10 < 10 := Nat.mod_lt _ (by omega)
  have hd : u / 10 ≤ u := Nat.div_le_self _ _
  rw [decide_eq_true (by omega), cond_true, e1, e2, strI_some (by simp; omega), Option.bind_some]
  generalize u % 10 = d at hm
  generalize u / 10 = q at hd
  rw [w64_eq (n := 48 - -(d : Int)) (by omega), w64_eq (n := -(q : Int)) (by omega)]
  have e3 : wu 8 (48 - -(d : Int)) = ((48 + d : Nat) : Int) := by unfold wu; omega
  rw [e3]
  rfl
theorem spec_dec {v : Int} (h0 : -1000000000000000 ≤ v) (h1 : v ≤ 1000000000000000) : m_spec_l01Dec v = some (nm v) := by
  have key : ∀ u : Nat, 1 ≤ u → u ≤ 1000000000000000 → iter m_spec_l01Dec_L0 (-(u : Int), []) = some (Go.Lib.decDigits u) := by
    intro u h1 h2
    have main : ∀ (n u : Nat) (s : List UInt8), u < 10 ^ n → s.length + n ≤ 100 → 1 ≤ u → u < 1000000000000000000 → iter m_spec_l01Dec_L0 (-(u : Int), s) = some (Go.Lib.decDigits u ++ s) := by
      intro n
      induction n with
      | zero => intro u s h _ h2; simp at h; omega
      | succ n ih =>
        intro u s hn hs h1 h2
        rw [iter_next (dec_step h1 h2 (by omega)), Go.Lib.decDigits]
        by_cases h : u < 10
        · have e0 : u / 10 = 0 := by omega
          rw [dif_pos h, e0, show u % 10 = u by omega]
          exact iter_out rfl
        · rw [dif_neg h, List.append_assoc]
          exact ih (u / 10) _ (by rw [Nat.pow_succ] at hn; omega) (by simp; omega) (by omega) (by omega)
    have := main 16 u [] (by omega) (by simp) h1 (by omega)
    simpa using this
  unfold m_spec_l01Dec
  by_cases e : v = 0
  · subst e; rw [decide_eq_true rfl, cond_true]; rw [show nm 0 = Go.Lib.decDigits 0 from nm_nat 0, Go.Lib.decDigits]; rfl
  · rw [decide_eq_false e, cond_false]
    by_cases hp : 0 < v
    · obtain ⟨n, rfl⟩ : ∃ n : Nat, v = n := ⟨v.toNat, by omega⟩
      rw [decide_eq_true hp, cond_true, nm_nat, w64_eq (n := 0 - (n : Int)) (by omega), show (0 : Int) - (n : Int) = -(n : Int) by omega]
      unfold m_spec_l01Dec_J0
      rw [key n (by omega) (by omega), Option.bind_some]
      unfold m_spec_l01Dec_A0
      rw [decide_eq_false (by omega)]; rfl
    · obtain ⟨n, rfl⟩ : ∃ n : Nat, v = -(n : Int) := ⟨(-v).toNat, by omega⟩
      rw [decide_eq_false hp, cond_false]
      unfold m_spec_l01Dec_J0
      rw [key n (by omega) (by omega), Option.bind_some]
      unfold m_spec_l01Dec_A0
      have hl := dd_len 16 n (by omega)
      rw [decide_eq_true (by omega), cond_true, strI_some (by simp; omega), Option.bind_some]
      unfold nm Go.Lib.itoa
      rw [if_pos (by omega), Int.natAbs_neg, Int.natAbs_natCast]; rfl
def jn (c : UInt8) : List (List UInt8) → List UInt8
  | [] => []
  | [x] => x
  | x :: y :: r => x ++ c :: jn c (y :: r)
theorem jn_snoc (c : UInt8) (y : List UInt8) : ∀ (xs : List (List UInt8)), xs ≠ [] → jn c (xs ++ [y]) = jn c xs ++ c :: y
  | [], h => absurd rfl h
  | [x], _ => rfl
  | x :: z :: r, _ => by
    have ih := jn_snoc c y (z :: r) (by simp)
    simp only [List.cons_append] at ih ⊢
    unfold jn
    rw [ih]
    simp
theorem jn_len (c : UInt8) (n : Nat) : ∀ (xs : List (List UInt8)), (∀ x ∈ xs, x.length ≤ n) → (jn c xs).length ≤ (n + 1) * xs.length
  | [], _ => by simp [jn]
  | [x], h => by have := h x (by simp); simp [jn]; omega
  | x :: y :: r, h => by
    have ih := jn_len c n (y :: r) (fun z hz => h z (by simp [hz]))
    have := h x (by simp)
    unfold jn
    simp only [List.length_append, List.length_cons] at ih ⊢
    rw [Nat.mul_add (n + 1) (r.length + 1) 1]
    omega
def ct (v : Int) : List UInt8 := if v < 0 then [120] else nm v
def rowT (r : List Int) : List UInt8 := jn 44 (r.map ct)
def polT (g : List (List Int)) : List UInt8 := jn 47 (g.map rowT)
theorem ct_len {v : Int} (h : v < 1000) : (ct v).length ≤ 3 := by
  unfold ct
  by_cases hv : v < 0
  · rw [if_pos hv]; simp
  · rw [if_neg hv]; exact nm_len (by omega) h
theorem rowT_len {r : List Int} (h4 : r.length = 4) (hv : ∀ v ∈ r, v < 1000) : (rowT r).length ≤ 16 := by
  have := jn_len 44 3 (r.map ct) (fun x hx => by obtain ⟨v, hv2, rfl⟩ := List.mem_map.1 hx; exact ct_len (hv v hv2))
  rw [List.length_map, h4] at this
  exact this
section
variable {p : Policy} (hv : vP p = true)
include hv in
theorem text_ok : m_spec_l10Text p = some (polT p.Next) := by
  have hl := vP_len hv
  have small : ∀ r ∈ p.Next, r.length = 4 ∧ ∀ v ∈ r, -1 ≤ v ∧ v < 1000 := fun r hr => ⟨(vP_row hv hr).1, fun v hx => by have := (vP_row hv hr).2 v hx; omega⟩
  have row_ok : ∀ (i : Nat) r, p.Next[i]? = some r → ∀ (s0 : (List UInt8) × Int) (o : List UInt8), s0.2 = (i : Int) → o.length ≤ 1000 → iter (m_spec_l10Text_L1 p s0) (o, (0 : Int)) = some (o ++ rowT r) := by
    intro i r hr s0 o h0 ho
    obtain ⟨r4, rv⟩ := small r (List.mem_of_getElem? hr)
    obtain ⟨t, e1, e2⟩ := iter_inv (step := m_spec_l10Text_L1 p s0) (fun s => ∃ k : Nat, s.2 = (k : Int) ∧ k ≤ 4 ∧ s.1 = o ++ jn 44 ((r.map ct).take k)) (fun s => 4 - s.2.toNat) (fun t => t = o ++ rowT r)
      (fun s ⟨k, hk, hk4, hs⟩ => by
        unfold m_spec_l10Text_L1
        rw [hk]
        by_cases hlt : k < 4
        · have hkr : k < r.length := by omega
          have hx : r[k]? = some r[k] := List.getElem?_eq_getElem hkr
          have hb := rv _ (List.getElem_mem hkr)
          have hcl := ct_len (v := r[k]) (by omega)
          have htk : (jn 44 ((r.map ct).take k)).length ≤ 16 := by
            have := jn_len 44 3 ((r.map ct).take k) (fun x hx => by obtain ⟨v, hv2, rfl⟩ := List.mem_map.1 (List.mem_of_mem_take hx); exact ct_len (by have := rv v hv2; omega))
            rw [List.length_take, List.length_map] at this
            omega
          have hsl : s.1.length ≤ 1016 := by rw [hs]; simp; omega
          have hnx : (r.map ct).take (k + 1) = (r.map ct).take k ++ [ct r[k]] := by rw [List.take_add_one, List.getElem?_map, hx]; rfl
          have cellok : ∀ j1 : List UInt8, j1.length ≤ 1017 → m_spec_l10Text_J1 p s0 s j1 = some (.next (j1 ++ ct r[k], ((k + 1 : Nat) : Int))) := by
            intro j1 hj
            unfold m_spec_l10Text_J1
            rw [h0, getI_some hr, Option.bind_some, hk, getI_some hx, Option.bind_some]
            unfold ct at hcl ⊢
            by_cases hn : r[k] < 0
            · rw [if_pos hn] at *
              rw [decide_eq_true hn, cond_true, strI_some (by simp; omega), Option.bind_some, w64_succ (by omega)]
            · rw [if_neg hn] at *
              rw [decide_eq_false hn, cond_false, spec_dec (by omega) (by omega), Option.bind_some, strI_some (by omega), Option.bind_some, w64_succ (by omega)]
          rw [decide_eq_true (show ((k : Nat) : Int) < 4 by omega), cond_true]
          by_cases hk0 : 0 < k
          · rw [decide_eq_true (show (0 : Int) < ((k : Nat) : Int) by omega), cond_true, strI_some (by simp; omega), Option.bind_some, cellok _ (by simp; omega)]
            refine .inl ⟨_, rfl, ⟨k + 1, rfl, by omega, ?_⟩, by show 4 - ((k + 1 : Nat) : Int).toNat < 4 - ((k : Nat) : Int).toNat; omega⟩
            show s.1 ++ [44] ++ ct r[k] = _
            rw [hnx, jn_snoc _ _ _ (by intro e; have := congrArg List.length e; simp [r4] at this; omega), hs]
            simp
          · have : k = 0 := by omega
            subst this
            rw [decide_eq_false (show ¬ (0 : Int) < ((0 : Nat) : Int) by omega), cond_false, cellok _ (by omega)]
            refine .inl ⟨_, rfl, ⟨1, rfl, by omega, ?_⟩, by show 4 - ((0 + 1 : Nat) : Int).toNat < 4 - ((0 : Nat) : Int).toNat; omega⟩
            show s.1 ++ ct r[0] = _
            rw [hnx, hs]
            simp [jn]
        · have : k = 4 := by omega
          subst this
          exact .inr ⟨_, rfl, by rw [hs, List.take_of_length_le (by rw [List.length_map]; omega)]; rfl⟩)
      (s := (o, (0 : Int))) ⟨0, rfl, by omega, by simp [jn]⟩
    rw [e1, e2]
  have hall : ∀ k, (jn 47 ((p.Next.map rowT).take k)).length ≤ 500 := by
    intro k
    have := jn_len 47 16 ((p.Next.map rowT).take k) (fun x hx => by obtain ⟨r, hr, rfl⟩ := List.mem_map.1 (List.mem_of_mem_take hx); exact rowT_len (small r hr).1 (fun v hv2 => ((small r hr).2 v hv2).2))
    rw [List.length_take, List.length_map] at this
    omega
  obtain ⟨t, e1, e2⟩ := iter_inv (step := m_spec_l10Text_L0 p) (fun s => ∃ k : Nat, s.2 = (k : Int) ∧ k ≤ p.Next.length ∧ s.1 = jn 47 ((p.Next.map rowT).take k)) (fun s => p.Next.length - s.2.toNat) (fun t => t = polT p.Next)
    (fun s ⟨k, hk, hkl, hs⟩ => by
      unfold m_spec_l10Text_L0
      rw [hk]
      by_cases hlt : k < p.Next.length
      · have hr : p.Next[k]? = some p.Next[k] := List.getElem?_eq_getElem hlt
        have hsl : s.1.length ≤ 500 := by rw [hs]; exact hall k
        have hnx : (p.Next.map rowT).take (k + 1) = (p.Next.map rowT).take k ++ [rowT p.Next[k]] := by rw [List.take_add_one, List.getElem?_map, hr]; rfl
        rw [dec_lt hlt, cond_true]
        by_cases hk0 : 0 < k
        · rw [decide_eq_true (show (0 : Int) < ((k : Nat) : Int) by omega), cond_true, strI_some (by simp; omega), Option.bind_some]
          unfold m_spec_l10Text_J0
          rw [row_ok k _ hr s _ hk (by simp; omega), Option.bind_some]
          unfold m_spec_l10Text_A1
          rw [hk, w64_succ (by omega)]
          refine .inl ⟨_, rfl, ⟨k + 1, rfl, by omega, ?_⟩, by show p.Next.length - ((k + 1 : Nat) : Int).toNat < p.Next.length - ((k : Nat) : Int).toNat; omega⟩
          show s.1 ++ [47] ++ rowT p.Next[k] = _
          rw [hnx, jn_snoc _ _ _ (by intro e; have := congrArg List.length e; rw [List.length_take, List.length_map, List.length_nil] at this; omega), hs]
          simp
        · have : k = 0 := by omega
          subst this
          rw [decide_eq_false (show ¬ (0 : Int) < ((0 : Nat) : Int) by omega), cond_false]
          unfold m_spec_l10Text_J0
          rw [row_ok 0 _ hr s _ hk (by omega), Option.bind_some]
          unfold m_spec_l10Text_A1
          rw [hk, w64_succ (by omega)]
          refine .inl ⟨_, rfl, ⟨1, rfl, by omega, ?_⟩, by show p.Next.length - ((0 + 1 : Nat) : Int).toNat < p.Next.length - ((0 : Nat) : Int).toNat; omega⟩
          show s.1 ++ rowT p.Next[0] = _
          rw [hnx, hs]
          simp [jn]
      · have : k = p.Next.length := by omega
        subst this
        rw [dec_self, cond_false]
        exact .inr ⟨_, rfl, by rw [hs, List.take_of_length_le (by simp)]; rfl⟩)
    (s := (([] : List UInt8), (0 : Int))) ⟨0, rfl, by omega, by simp [jn]⟩
  unfold m_spec_l10Text
  rw [e1, e2]; rfl
include hv in
end
end Go.Mod

namespace Go.Mod
open Go.AM
set_option linter.unusedVariables false
set_option linter.unusedSimpArgs false
def splitL (c : UInt8) : List UInt8 → List (List UInt8)
  | [] => [[]]
  | b :: l => if b = c then [] :: splitL c l else match splitL c l with
    | [] => [[b]]
    | x :: r => (b :: x) :: r
theorem splitL_ne (c : UInt8) : ∀ s, splitL c s ≠ []
  | [] => by simp [splitL]
  | b :: l => by
    unfold splitL
    by_cases h : b = c
    · rw [if_pos h]; simp
    · rw [if_neg h]; cases splitL c l <;> simp
theorem splitL_sep (c : UInt8) (l : List UInt8) : splitL c (c :: l) = [] :: splitL c l := by rw [splitL, if_pos rfl]
theorem splitL_cons {c b : UInt8} (h : b ≠ c) {l x : List UInt8} {r : List (List UInt8)} (e : splitL c l = x :: r) : splitL c (b :: l) = (b :: x) :: r := by
  rw [splitL, if_neg h, e]
theorem split_eq (c : UInt8) : ∀ s, Go.Lib.split s [c] = splitL c s
  | [] => by
    unfold Go.Lib.split
    rw [Go.Lib.count_miss (by simp [Go.Lib.index])]; rfl
  | b :: l => by
    have ih := split_eq c l
    unfold Go.Lib.split at ih ⊢
    by_cases h : b = c
    · subst h
      have hi : Go.Lib.index (b :: l) [b] = ((0 : Nat) : Int) := by rw [Go.Lib.index]; simp [List.isPrefixOf]
      rw [Go.Lib.count_cons_eq, Nat.add_comm 1, Go.Lib.splitK, hi, splitL_sep, ← ih]
      simp
    · have hp : ([c] : List UInt8).isPrefixOf (b :: l) = false := by simp [List.isPrefixOf, Ne.symm h]
      have hi : Go.Lib.index (b :: l) [c] = if Go.Lib.index l [c] == -1 then -1 else Go.Lib.index l [c] + 1 := by rw [Go.Lib.index, hp]; simp
      rw [Go.Lib.count_cons_ne b c l h]
      by_cases hm : Go.Lib.index l [c] = -1
      · rw [Go.Lib.count_miss hm] at ih ⊢
        exact (splitL_cons h ih.symm).symm
      · have hge := Go.Lib.index_ge l [c]
        obtain ⟨j, hj⟩ : ∃ j : Nat, Go.Lib.index l [c] = j := ⟨(Go.Lib.index l [c]).toNat, by omega⟩
        rw [if_neg (by rw [beq_iff_eq]; exact hm), hj] at hi
        rw [Go.Lib.count_hit (by simp) hj, Nat.add_comm 1, Go.Lib.splitK, hj] at ih
        rw [if_neg (by rw [beq_iff_eq]; omega)] at ih
        rw [Go.Lib.count_hit (by simp) hj, Nat.add_comm 1, Go.Lib.splitK, hi]
        rw [if_neg (by rw [beq_iff_eq]; omega)]
        rw [splitL_cons h ih.symm, show ((j : Int) + 1).toNat = j + 1 by omega, show (j : Int).toNat = j by omega]
        simp only [Nat.add_zero, List.take_succ_cons, List.length_cons, List.length_nil]
        rw [show j + 1 + (0 + 1) = (j + (0 + 1)) + 1 by omega, List.drop_succ_cons]
theorem jn_cons (c : UInt8) (x : List UInt8) {r : List (List UInt8)} (h : r ≠ []) : jn c (x :: r) = x ++ c :: jn c r := by
  cases r with
  | nil => exact absurd rfl h
  | cons y r => rfl
theorem jn_head (c b : UInt8) (x : List UInt8) (r : List (List UInt8)) : jn c ((b :: x) :: r) = b :: jn c (x :: r) := by
  cases r with
  | nil => rfl
  | cons y r => rfl
theorem jn_split (c : UInt8) : ∀ s, jn c (splitL c s) = s
  | [] => rfl
  | b :: l => by
    have ih := jn_split c l
    by_cases h : b = c
    · subst h; rw [splitL_sep, jn_cons _ _ (splitL_ne b l), ih]; rfl
    · cases e : splitL c l with
      | nil => exact absurd e (splitL_ne c l)
      | cons x r => rw [splitL_cons h e, jn_head, ← e, ih]
theorem split_len (c : UInt8) : ∀ s, (splitL c s).length ≤ s.length + 1 ∧ ∀ x ∈ splitL c s, x.length ≤ s.length
  | [] => by simp [splitL]
  | b :: l => by
    have ih := split_len c l
    by_cases h : b = c
    · subst h; rw [splitL_sep]
      refine ⟨by simp; omega, fun x hx => ?_⟩
      rcases List.mem_cons.1 hx with rfl | hx
      · simp
      · have := ih.2 x hx; simp; omega
    · cases e : splitL c l with
      | nil => exact absurd e (splitL_ne c l)
      | cons y r =>
        rw [e] at ih
        rw [splitL_cons h e]
        refine ⟨by have := ih.1; simp at this ⊢; omega, fun x hx => ?_⟩
        rcases List.mem_cons.1 hx with rfl | hx
        · have := ih.2 y (by simp); simp; omega
        · have := ih.2 x (by simp [hx]); simp; omega
theorem split_pre (c : UInt8) : ∀ (d s : List UInt8), c ∉ d → splitL c (d ++ c :: s) = d :: splitL c s
  | [], s, _ => splitL_sep c s
  | b :: d, s, h => by
    have := split_pre c d s (fun e => h (by simp [e]))
    exact splitL_cons (fun e => h (by simp [e])) this
theorem split_one (c : UInt8) : ∀ (d : List UInt8), c ∉ d → splitL c d = [d]
  | [], _ => rfl
  | b :: d, h => splitL_cons (fun e => h (by simp [e])) (split_one c d (fun e => h (by simp [e])))
theorem split_app (c : UInt8) : ∀ (d : List UInt8) {s x : List UInt8} {r : List (List UInt8)}, c ∉ d → splitL c s = x :: r → splitL c (d ++ s) = (d ++ x) :: r
  | [], _, _, _, _, e => e
  | b :: d, _, _, _, h, e => splitL_cons (fun e => h (by simp [e])) (split_app c d (fun e => h (by simp [e])) e)
theorem split_jn (c : UInt8) : ∀ (xs : List (List UInt8)), xs ≠ [] → (∀ x ∈ xs, c ∉ x) → splitL c (jn c xs) = xs
  | [], h, _ => absurd rfl h
  | [x], _, h => split_one c x (h x (by simp))
  | x :: y :: r, _, h => by
    rw [jn_cons _ _ (by simp), split_pre c x _ (h x (by simp)), split_jn c (y :: r) (by simp) (fun z hz => h z (by simp [hz]))]
def dstep (u : Int) (b : UInt8) : Int := if 48 ≤ b.toNat ∧ b.toNat ≤ 57 then 10 * u + ((b.toNat : Int) - 48) else u
theorem fold_dd : ∀ (n : Nat) (r : List UInt8), (Go.Lib.decDigits n ++ r).foldl dstep 0 = r.foldl dstep (n : Int) := by
  intro n
  induction n using Nat.strongRecOn with
  | _ n ih =>
    intro r
    rw [Go.Lib.decDigits]
    by_cases h : n < 10
    · rw [dif_pos h, List.cons_append, List.foldl_cons, List.nil_append]
      unfold dstep
      rw [digit_val h, if_pos (by omega)]
      congr 1; omega
    · rw [dif_neg h, List.append_assoc, ih (n / 10) (by omega), List.cons_append, List.foldl_cons, List.nil_append]
      congr 1
      unfold dstep
      rw [digit_val (by omega), if_pos (by omega)]
      omega
def val (x : List UInt8) : Int := if x.head? = some 45 then -(x.foldl dstep 0) else x.foldl dstep 0
theorem dd_head (n : Nat) : ∃ b l, Go.Lib.decDigits n = b :: l ∧ 48 ≤ b.toNat ∧ b.toNat ≤ 57 := by
  cases e : Go.Lib.decDigits n with
  | nil => exact absurd e (dd_ne n)
  | cons b l => exact ⟨b, l, rfl, dd_digits n b (by rw [e]; simp)⟩
theorem nm_negN {n : Nat} (h : 0 < n) : nm (-(n : Int)) = 45 :: Go.Lib.decDigits n := by unfold nm Go.Lib.itoa; rw [if_pos (by omega)]; simp
theorem val_nm (v : Int) : val (nm v) = v := by
  by_cases h : 0 ≤ v
  · obtain ⟨n, rfl⟩ : ∃ n : Nat, v = n := ⟨v.toNat, by omega⟩
    obtain ⟨b, l, e, h1, h2⟩ := dd_head n
    have hf := fold_dd n []
    rw [List.append_nil] at hf
    unfold val
    rw [nm_nat, hf, e, if_neg (by simp only [List.head?_cons, Option.some.injEq]; rintro rfl; revert h1; decide)]
    rfl
  · obtain ⟨n, rfl⟩ : ∃ n : Nat, v = -(n : Int) := ⟨(-v).toNat, by omega⟩
    have hf := fold_dd n []
    rw [List.append_nil] at hf
    unfold val
    rw [nm_negN (by omega), List.head?_cons, if_pos rfl, List.foldl_cons, show dstep 0 45 = 0 by decide, hf]
    rfl
def rd (x : List UInt8) : Int × Bool := if (-1000000000 ≤ val x ∧ val x ≤ 1000000000) ∧ nm (val x) = x then (val x, true) else (0, false)
theorem rd_yes {v : Int} (h : -1000000000 ≤ v ∧ v ≤ 1000000000) : rd (nm v) = (v, true) := by unfold rd; rw [val_nm, if_pos ⟨h, rfl⟩]
theorem rd_cases (x : List UInt8) : rd x = (0, false) ∨ ∃ v, (-1000000000 ≤ v ∧ v ≤ 1000000000) ∧ x = nm v ∧ rd x = (v, true) := by
  by_cases h : (-1000000000 ≤ val x ∧ val x ≤ 1000000000) ∧ nm (val x) = x
  · exact .inr ⟨val x, h.1, h.2.symm, by unfold rd; rw [if_pos h]⟩
  · exact .inl (by unfold rd; rw [if_neg h])
theorem nm_len11 {v : Int} (h : -1000000000 ≤ v ∧ v ≤ 1000000000) : (nm v).length ≤ 11 := by
  by_cases h0 : 0 ≤ v
  · obtain ⟨n, rfl⟩ : ∃ n : Nat, v = n := ⟨v.toNat, by omega⟩
    rw [nm_nat]
    have := dd_len 9 n (by omega)
    omega
  · obtain ⟨n, rfl⟩ : ∃ n : Nat, v = -(n : Int) := ⟨(-v).toNat, by omega⟩
    rw [nm_negN (by omega)]
    have := dd_len 9 n (by omega)
    simp; omega
theorem fold_bnd : ∀ (x : List UInt8) (u : Int) (k : Nat), 0 ≤ u → u < (10 : Int) ^ k → 0 ≤ x.foldl dstep u ∧ x.foldl dstep u < (10 : Int) ^ (k + x.length)
  | [], u, k, h0, h1 => ⟨h0, h1⟩
  | b :: l, u, k, h0, h1 => by
    have e : (10 : Int) ^ (k + 1) = 10 ^ k * 10 := Int.pow_succ _ _
    have := fold_bnd l (dstep u b) (k + 1) (by unfold dstep; split <;> omega) (by unfold dstep; split <;> omega)
    rw [List.foldl_cons, List.length_cons, show k + (l.length + 1) = k + 1 + l.length by omega]
    exact this
theorem spec_fold {x : List UInt8} (hx : x.length ≤ 11) : iter (m_spec_l01Value_L0 x) ((0 : Int), (0 : Int)) = some (x.foldl dstep 0) := by
  have h := iter_for (step := m_spec_l01Value_L0 x) x (fun n (u : Int) => (u, (n : Int))) (fun _ b u => some (.next (w64 (w64 (10 * u) + w64 (wu 8 ((b.toNat : Int) - 48)) ) |> fun t => if 48 ≤ b.toNat ∧ b.toNat ≤ 57 then t else u))) (fun u => u)
    (fun n b u hb => by
      have hlt := get_lt hb
      unfold m_spec_l01Value_L0
      simp only
      rw [dec_lt hlt, cond_true, getI_some hb, Option.bind_some]
      unfold m_spec_l01Value_J0
      simp only
      rw [getI_some hb, w64_succ (by omega)]
      by_cases h1 : 48 ≤ b.toNat
      · rw [decide_eq_true (show (48 : Int) ≤ (b.toNat : Int) by omega), cond_true]
        by_cases h2 : b.toNat ≤ 57
        · rw [decide_eq_true (show (b.toNat : Int) ≤ 57 by omega), cond_true, if_pos ⟨h1, h2⟩]; rfl
        · rw [decide_eq_false (show ¬ (b.toNat : Int) ≤ 57 by omega), cond_false, if_neg (by omega)]; rfl
      · rw [decide_eq_false (show ¬ (48 : Int) ≤ (b.toNat : Int) by omega), cond_false, cond_false, if_neg (by omega)]; rfl)
    (fun u => by unfold m_spec_l01Value_L0; simp only; rw [dec_self]; rfl) 0
  have h2 := forL_fold (body := fun (_ : Nat) (b : UInt8) (u : Int) => some (Ctl.next (τ := Int) (w64 (w64 (10 * u) + w64 (wu 8 ((b.toNat : Int) - 48)) ) |> fun t => if 48 ≤ b.toNat ∧ b.toNat ≤ 57 then t else u))) (fin := fun u => u) (g := dstep) (fun k u => 0 ≤ u ∧ u < (10 : Int) ^ k) x 0 0 (by decide) (fun n b u hb hI => by
    have hlt := get_lt hb
    obtain ⟨h0, h1⟩ := hI
    rw [Nat.zero_add] at h1
    have hp : (10 : Int) ^ n ≤ 10 ^ 11 := by
      have : (10 : Nat) ^ n ≤ 10 ^ 11 := Nat.pow_le_pow_right (by omega) (by omega)
      exact_mod_cast this
    have e : (10 : Int) ^ (n + 1) = 10 ^ n * 10 := Int.pow_succ _ _
    have hb8 : b.toNat < 256 := b.toNat_lt
    refine ⟨?_, by rw [Nat.zero_add]; unfold dstep; split <;> omega⟩
    unfold dstep
    by_cases hd : 48 ≤ b.toNat ∧ b.toNat ≤ 57
    · rw [if_pos hd]
      simp only [if_pos hd]
      rw [show wu 8 ((b.toNat : Int) - 48) = (b.toNat : Int) - 48 by unfold wu; omega, w64_eq (n := 10 * u) (by omega), w64_eq (n := (b.toNat : Int) - 48) (by omega), w64_eq (by omega)]
    · rw [if_neg hd]
      simp only [if_neg hd])
  exact h.trans h2
theorem spec_value (x : List UInt8) : m_spec_l01Value x = some (rd x) := by
  unfold m_spec_l01Value
  by_cases hx : x.length ≤ 11
  · rw [decide_eq_false (by omega), cond_false, spec_fold hx, Option.bind_some]
    obtain ⟨b0, b1⟩ := fold_bnd x 0 0 (by omega) (by decide)
    have hp : (10 : Int) ^ (0 + x.length) ≤ 10 ^ 11 := by
      have : (10 : Nat) ^ (0 + x.length) ≤ 10 ^ 11 := Nat.pow_le_pow_right (by omega) (by omega)
      exact_mod_cast this
    have last : ∀ v : Int, v = val x → m_spec_l01Value_J1 x v = some (rd x) := by
      rintro v rfl
      unfold m_spec_l01Value_J1 m_spec_l00In rd
      rw [Option.bind_some]
      by_cases h : -1000000000 ≤ val x ∧ val x ≤ 1000000000
      · rw [decide_eq_true h.1, decide_eq_true h.2, spec_dec (by omega) (by omega)]
        simp only [Bool.and_self, Bool.not_true, cond_false, Option.bind_some]
        by_cases e : nm (val x) = x
        · rw [decide_eq_true e, if_pos ⟨h, e⟩]; rfl
        · rw [decide_eq_false e, if_neg (fun h => e h.2)]; rfl
      · rw [if_neg (fun g => h g.1), show (decide (-1000000000 ≤ val x) && decide (val x ≤ 1000000000)) = false from Bool.eq_false_iff.2 (fun e => h (by simpa using e))]; rfl
    unfold m_spec_l01Value_A0
    cases x with
    | nil => exact last _ rfl
    | cons b l =>
      rw [decide_eq_true (by simp; try omega), cond_true, show getI (b :: l) 0 = some b from getI_some (n := 0) rfl, Option.bind_some]
      by_cases e : b = 45
      · subst e
        rw [decide_eq_true (by decide), cond_true, w64_eq (by omega)]
        exact last _ (by unfold val; rw [List.head?_cons, if_pos rfl]; omega)
      · rw [decide_eq_false (fun h => e (UInt8.toNat_inj.1 (by have : b.toNat = 45 := by omega
                                                               rw [this]; rfl))), cond_false]
        exact last _ (by unfold val; rw [if_neg (by simpa using e)])
  · rw [decide_eq_true (by omega), cond_true]
    rcases rd_cases x with e | ⟨v, hv, rfl, _⟩
    · rw [e]
    · exact absurd (nm_len11 hv) hx
theorem parse_dd {M : Nat} : ∀ (n : Nat), n ≤ M → n ≤ 1000000000000 → ∀ r, Go.Lib.parseUintM M 0 (Go.Lib.decDigits n ++ r) = Go.Lib.parseUintM M n r := by
  intro n
  induction n using Nat.strongRecOn with
  | _ n ih =>
    intro hM hn r
    have one : ∀ (a d : Nat) (r : List UInt8), d < 10 → a * 10 + d ≤ M → a ≤ 1000000000000 → Go.Lib.parseUintM M a (UInt8.ofNat (48 + d) :: r) = Go.Lib.parseUintM M (a * 10 + d) r := by
      intro a d r hd h1 h2
      rw [Go.Lib.parseUintM, digit_val hd, if_pos (by omega), if_neg (by omega), if_neg (by omega), show 48 + d - 48 = d by omega]
    rw [Go.Lib.decDigits]
    by_cases h : n < 10
    · rw [dif_pos h, List.cons_append, List.nil_append, one 0 n r h (by omega) (by omega), Nat.zero_mul, Nat.zero_add]
    · rw [dif_neg h, List.append_assoc, ih (n / 10) (by omega) (by omega) (by omega), List.cons_append, List.nil_append, one _ _ _ (by omega) (by omega) (by omega)]
      congr 1; omega
theorem parseU_dd {n : Nat} (h : n ≤ 1000000000000) : Go.Lib.parseUintB 64 (Go.Lib.decDigits n) = .ok n := by
  unfold Go.Lib.parseUintB
  rw [if_neg (dd_ne n)]
  have := parse_dd (M := 2 ^ 64 - 1) n (by omega) h []
  rw [List.append_nil] at this
  rw [this]; rfl
theorem parse_nm {v : Int} (h : -1000000000 ≤ v ∧ v ≤ 1000000000) : Go.Lib.parseIntB 64 (nm v) = .ok v := by
  by_cases h0 : 0 ≤ v
  · obtain ⟨n, rfl⟩ : ∃ n : Nat, v = n := ⟨v.toNat, by omega⟩
    obtain ⟨b, l, e, h1, h2⟩ := dd_head n
    have hp := parseU_dd (n := n) (by omega)
    rw [nm_nat]
    rw [e] at hp ⊢
    unfold Go.Lib.parseIntB
    simp only
    rw [if_neg (by omega), hp]
    simp only
    rw [if_neg (by omega), if_neg (by omega), if_neg (by omega)]
  · obtain ⟨n, rfl⟩ : ∃ n : Nat, v = -(n : Int) := ⟨(-v).toNat, by omega⟩
    have hp := parseU_dd (n := n) (by omega)
    rw [nm_negN (by omega)]
    unfold Go.Lib.parseIntB
    simp only
    rw [if_pos (by decide), hp]
    simp only
    rw [if_neg (by simp), if_neg (by omega), if_pos (by decide)]
theorem impl_read {x : List UInt8} (hx : x.length ≤ 1048576) : m_impl_ReadDecimal x = some (rd x) := by
  have no : ∀ {v : Int}, (-1000000000 ≤ v ∧ v ≤ 1000000000) → x = nm v → Go.Lib.parseIntB 64 x = .ok v := fun h e => by rw [e]; exact parse_nm h
  unfold m_impl_ReadDecimal m_strconv_ParseInt
  rw [decide_eq_true (show x.length ≤ 281474976710656 by omega), decide_eq_true rfl, decide_eq_true rfl]
  simp only [Bool.and_self, cond_true]
  cases hp : Go.Lib.parseIntB 64 x with
  | ok w =>
    simp only [Option.bind_some, cond_false]
    unfold m_impl_within
    rw [Option.bind_some]
    by_cases h : -1000000000 ≤ w ∧ w ≤ 1000000000
    · rw [decide_eq_true h.1, decide_eq_true h.2, impl_dec (by omega) (by omega)]
      simp only [Bool.and_self, Bool.not_true, cond_false, Option.bind_some]
      by_cases e : nm w = x
      · rw [decide_eq_true e]
        subst e
        rw [rd_yes h]; rfl
      · rw [decide_eq_false e]
        rcases rd_cases x with e2 | ⟨v, hv, e2, _⟩
        · rw [e2]; rfl
        · have := no hv e2
          rw [hp] at this
          cases this
          exact absurd e2.symm e
    · rw [show (decide (-1000000000 ≤ w) && decide (w ≤ 1000000000)) = false from Bool.eq_false_iff.2 (fun e => h (by simpa using e))]
      rcases rd_cases x with e2 | ⟨v, hv, e2, _⟩
      · rw [e2]; rfl
      · have := no hv e2
        rw [hp] at this
        cases this
        exact absurd hv h
  | «syntax» =>
    rcases rd_cases x with e2 | ⟨v, hv, e2, _⟩
    · rw [e2]; rfl
    · have := no hv e2; rw [hp] at this; cases this
  | range =>
    rcases rd_cases x with e2 | ⟨v, hv, e2, _⟩
    · rw [e2]; rfl
    · have := no hv e2; rw [hp] at this; cases this
def sc (x : List UInt8) : Int := if (rd x).2 = true then (rd x).1 else -1
def rows (s : List UInt8) : List (List Int) := (splitL 47 s).map fun r => (splitL 44 r).map sc
theorem rows_ne (s : List UInt8) : rows s ≠ [] := by unfold rows; intro e; exact splitL_ne 47 s (List.map_eq_nil_iff.1 e)
def pre (row : List Int) : List (List Int) → List (List Int)
  | [] => [row]
  | h :: t => (row ++ h) :: t
theorem pre_nil {g : List (List Int)} (h : g ≠ []) : pre [] g = g := by cases g with
  | nil => exact absurd rfl h
  | cons a t => rfl
def scan : List UInt8 → List UInt8 → List Int → List (List Int) → Option (List (List Int))
  | [], cur, row, rs => if rs.length = 12 then none else some (rs ++ [row ++ [sc cur]])
  | b :: l, cur, row, rs => if b = 47 then (if rs.length = 12 then none else scan l [] [] (rs ++ [row ++ [sc cur]])) else if b = 44 then scan l [] (row ++ [sc cur]) rs else scan l (cur ++ [b]) row rs
theorem rows_sep (cur l : List UInt8) (h1 : (44 : UInt8) ∉ cur) (h2 : (47 : UInt8) ∉ cur) : rows (cur ++ 47 :: l) = [sc cur] :: rows l := by
  unfold rows
  rw [split_pre 47 cur l h2, List.map_cons, split_one 44 cur h1]; rfl
theorem rows_comma (cur l : List UInt8) (h1 : (44 : UInt8) ∉ cur) (h2 : (47 : UInt8) ∉ cur) : rows (cur ++ 44 :: l) = pre [sc cur] (rows l) := by
  unfold rows
  cases e : splitL 47 l with
  | nil => exact absurd e (splitL_ne 47 l)
  | cons x r =>
    rw [split_app 47 cur h2 (splitL_cons (by decide) e), List.map_cons, split_pre 44 cur x h1]; rfl
theorem scan_eq : ∀ (l cur : List UInt8) (row : List Int) (rs : List (List Int)), (44 : UInt8) ∉ cur → (47 : UInt8) ∉ cur → rs.length ≤ 12 →
    scan l cur row rs = if rs.length + (rows (cur ++ l)).length > 12 then none else some (rs ++ pre row (rows (cur ++ l)))
  | [], cur, row, rs, h1, h2, h3 => by
    have e : rows (cur ++ []) = [[sc cur]] := by rw [List.append_nil]; unfold rows; rw [split_one 47 cur h2]; simp [split_one 44 cur h1]
    rw [e, scan]
    by_cases h : rs.length = 12
    · rw [if_pos h, if_pos (by simp; omega)]
    · rw [if_neg h, if_neg (by simp; omega)]; rfl
  | b :: l, cur, row, rs, h1, h2, h3 => by
    rw [scan]
    by_cases hb : b = 47
    · subst hb
      have hne := List.length_pos_iff.2 (rows_ne l)
      rw [if_pos rfl, rows_sep cur l h1 h2]
      by_cases h : rs.length = 12
      · rw [if_pos h, if_pos (by simp; omega)]
      · rw [if_neg h, scan_eq l [] [] _ (by simp) (by simp) (by simp; omega), List.nil_append]
        rw [pre_nil (rows_ne l)]
        simp only [List.length_append, List.length_cons, List.length_nil, pre, List.append_assoc, List.singleton_append]
        rw [show rs.length + (0 + 1) + (rows l).length = rs.length + ((rows l).length + 1) by omega]
    · rw [if_neg hb]
      by_cases hc : b = 44
      · subst hc
        rw [if_pos rfl, rows_comma cur l h1 h2, scan_eq l [] _ rs (by simp) (by simp) h3, List.nil_append]
        cases e : rows l with
        | nil => exact absurd e (rows_ne l)
        | cons a t => simp [pre]
      · rw [if_neg hc, scan_eq l (cur ++ [b]) row rs (by simp [h1]; exact Ne.symm hc) (by simp [h2]; exact Ne.symm hb) h3]
        simp
def outR : Option (List (List Int)) → (List (List Int)) ⊕ ((List (List Int)) × Bool)
  | none => .inr ([], false)
  | some g => .inl g
theorem spec_scan {s : List UInt8} (hs : s.length ≤ 1048576) : ∀ (l cur pr : List UInt8) (row : List Int) (rs : List (List Int)), s = pr ++ (cur ++ l) → rs.length ≤ 12 → row.length ≤ pr.length →
    iter (m_spec_l10Read_L0 s) (rs, row, (pr.length : Int), ((pr.length + cur.length : Nat) : Int)) = some (outR (scan l cur row rs))
  | l, cur, pr, row, rs, e, h3, h4 => by
    have hl : s.length = pr.length + (cur.length + l.length) := by rw [e]; simp
    have hcell : sliceI s (pr.length : Int) ((pr.length + cur.length : Nat) : Int) = some cur := by
      rw [sliceI_some (by omega) (by omega), e]
      congr 1
      rw [List.drop_left, show pr.length + cur.length - pr.length = cur.length by omega, List.take_left]
    have j1 : ∀ (t : List (List Int) × List Int × Int × Int), t = (rs, row, (pr.length : Int), ((pr.length + cur.length : Nat) : Int)) → m_spec_l10Read_J0 s t () = m_spec_l10Read_J1 s t (sc cur) := by
      rintro t rfl
      unfold m_spec_l10Read_J0
      simp only
      rw [hcell, Option.bind_some, spec_value, Option.bind_some]
      unfold sc
      cases (rd cur).2 <;> rfl
    have cap1 : ∀ v : Int, capI (row.length + [v].length) 8 = some () := fun v => capI_some (by simp; omega)
    have cap2 : ∀ v : List Int, capI (rs.length + [v].length) 24 = some () := fun v => capI_some (by simp; omega)
    have hw : w64 (((pr.length + cur.length : Nat) : Int) + 1) = ((pr.length + cur.length + 1 : Nat) : Int) := w64_succ (by omega)
    cases l with
    | nil =>
      have hend : pr.length + cur.length = s.length := by rw [hl]; simp
      have hstep : m_spec_l10Read_L0 s (rs, row, (pr.length : Int), ((pr.length + cur.length : Nat) : Int)) = m_spec_l10Read_J2 (rs, row, (pr.length : Int), ((pr.length + cur.length : Nat) : Int)) (sc cur) true := by
        unfold m_spec_l10Read_L0
        simp only
        rw [hend, decide_eq_true (Int.le_refl _), cond_true, dec_self, cond_false, ← hend, j1 _ rfl]
        unfold m_spec_l10Read_J1
        simp only
        rw [cap1, Option.bind_some, hend, decide_eq_true rfl, cond_true]
      unfold m_spec_l10Read_J2 at hstep
      simp only [cond_true] at hstep
      rw [scan]
      by_cases h : rs.length = 12
      · rw [decide_eq_true (by omega), cond_true] at hstep
        rw [iter_out hstep, if_pos h]; rfl
      · rw [decide_eq_false (by omega), cond_false, cap2, Option.bind_some, hw] at hstep
        rw [iter_next hstep, if_neg h]
        refine iter_out ?_
        unfold m_spec_l10Read_L0
        simp only
        rw [decide_eq_false (by omega)]; rfl
    | cons b l =>
      have hb : s[pr.length + cur.length]? = some b := by rw [e, ← List.append_assoc, List.getElem?_append_right (by simp)]; simp
      have hlt : pr.length + cur.length < s.length := get_lt hb
      have hbt : ∀ n : Nat, n < 256 → (decide ((b.toNat : Int) = (n : Int)) = decide (b = UInt8.ofNat n)) := fun n hn => by
        refine decide_eq_decide.2 ⟨fun h => UInt8.toNat_inj.1 ?_, fun h => ?_⟩
        · rw [UInt8.toNat_ofNat']; omega
        · rw [h, UInt8.toNat_ofNat']; omega
      have b47 : decide ((b.toNat : Int) = 47) = decide (b = 47) := hbt 47 (by omega)
      have b44 : decide ((b.toNat : Int) = 44) = decide (b = 44) := hbt 44 (by omega)
      have hstep : m_spec_l10Read_L0 s (rs, row, (pr.length : Int), ((pr.length + cur.length : Nat) : Int)) = if b = 47 ∨ b = 44 then m_spec_l10Read_J2 (rs, row, (pr.length : Int), ((pr.length + cur.length : Nat) : Int)) (sc cur) (decide (b = 47)) else some (.next (rs, row, (pr.length : Int), ((pr.length + cur.length + 1 : Nat) : Int))) := by
        have hj : m_spec_l10Read_J1 s (rs, row, (pr.length : Int), ((pr.length + cur.length : Nat) : Int)) (sc cur) = m_spec_l10Read_J2 (rs, row, (pr.length : Int), ((pr.length + cur.length : Nat) : Int)) (sc cur) (decide (b = 47)) := by
          unfold m_spec_l10Read_J1
          simp only
          rw [cap1, Option.bind_some, decide_eq_false (by omega), cond_false, getI_some hb, Option.bind_some, b47]
        unfold m_spec_l10Read_L0
        simp only
        rw [decide_eq_true (by omega), cond_true, dec_lt hlt, cond_true, getI_some hb, Option.bind_some, b47, b44, j1 _ rfl, hj, hw]
        by_cases h1 : b = 47
        · subst h1; rfl
        · by_cases h2 : b = 44
          · subst h2; rfl
          · rw [decide_eq_false h1, decide_eq_false h2, if_neg (by simp [h1, h2])]; rfl
      rw [scan]
      by_cases h1 : b = 47
      · subst h1
        rw [if_pos (.inl rfl), decide_eq_true rfl] at hstep
        unfold m_spec_l10Read_J2 at hstep
        simp only [cond_true] at hstep
        rw [if_pos rfl]
        by_cases h : rs.length = 12
        · rw [decide_eq_true (by omega), cond_true] at hstep
          rw [iter_out hstep, if_pos h]; rfl
        · rw [decide_eq_false (by omega), cond_false, cap2, Option.bind_some, hw] at hstep
          rw [iter_next hstep, if_neg h]
          have := spec_scan hs l [] (pr ++ cur ++ [47]) [] (rs ++ [row ++ [sc cur]]) (by rw [e]; simp) (by simp; omega) (by simp)
          have el : (pr ++ cur ++ [47]).length = pr.length + cur.length + 1 := by simp; omega
          rw [el] at this
          exact this
      · rw [if_neg h1]
        by_cases h2 : b = 44
        · subst h2
          rw [if_pos (.inr rfl), decide_eq_false (by decide)] at hstep
          unfold m_spec_l10Read_J2 at hstep
          simp only [cond_false] at hstep
          rw [hw] at hstep
          rw [iter_next hstep, if_pos rfl]
          have := spec_scan hs l [] (pr ++ cur ++ [44]) (row ++ [sc cur]) rs (by rw [e]; simp) h3 (by simp; omega)
          have el : (pr ++ cur ++ [44]).length = pr.length + cur.length + 1 := by simp; omega
          rw [el] at this
          exact this
        · rw [if_neg (by simp [h1, h2])] at hstep
          rw [iter_next hstep, if_neg h2]
          have := spec_scan hs l (cur ++ [b]) pr row rs (by rw [e]; simp) h3 h4
          have el : pr.length + (cur ++ [b]).length = pr.length + cur.length + 1 := by simp; omega
          rw [el] at this
          exact this
theorem spec_vP0 {p : Policy} : m_spec_l10Is p = some (vP p) := by
  unfold m_spec_l10Is m_spec_l00In vP
  rw [Option.bind_some, dec_leI, dec_le12]
  cases h0 : decide (1 ≤ p.Next.length) && decide (p.Next.length ≤ 12) with
  | false => rfl
  | true =>
    simp only [Bool.and_eq_true, decide_eq_true_eq] at h0
    have h := iter_for (step := m_spec_l10Is_L0 p) p.Next (fun n (_ : Unit) => (n : Int)) (fun _ x _ => bif rowOK p.Next.length x then some (.next ()) else some (.out (.inr false))) (fun _ => .inl ())
      (fun n x r hx => by
        have hlt := get_lt hx
        unfold m_spec_l10Is_L0 rowOK
        rw [dec_lt hlt, cond_true, getI_some hx, Option.bind_some]
        by_cases h4 : x.length = 4
        · rw [decide_eq_true h4, decide_eq_true (show (x.length : Int) = 4 by omega), Bool.not_true, cond_false, spec_row h4 h0.2 h0.1, Bool.true_and, Option.bind_some]
          cases x.all fun v => decide (-1 ≤ v) && decide (v ≤ (p.Next.length : Int) - 1)
          · rfl
          · unfold m_spec_l10Is_A1
            simp only [cond_true]
            rw [w64_succ (by omega)]; rfl
        · rw [decide_eq_false h4, decide_eq_false (show ¬ (x.length : Int) = 4 by omega)]; rfl)
      (fun r => by unfold m_spec_l10Is_L0; rw [dec_self]; rfl) ()
    rw [forL_all (rowOK p.Next.length) _ _ (fun n x _ => rfl)] at h
    rw [Bool.not_true, cond_false, show (0 : Int) = ((0 : Nat) : Int) from rfl, h, Option.bind_some, Bool.true_and]
    cases p.Next.all (rowOK p.Next.length) <;> rfl
def readP (s : List UInt8) : Policy × Bool := if vP ⟨rows s⟩ = true ∧ polT (rows s) = s then (⟨rows s⟩, true) else (⟨[]⟩, false)
theorem spec_readP {s : List UInt8} (hs : s.length ≤ 1048576) : m_spec_l10Read s = some (readP s) := by
  unfold m_spec_l10Read
  have h := spec_scan hs s [] [] [] [] rfl (by simp) (by simp)
  rw [scan_eq _ _ _ _ (by simp) (by simp) (by simp), List.nil_append, pre_nil (rows_ne s)] at h
  rw [show iter (m_spec_l10Read_L0 s) (([] : List (List Int)), ([] : List Int), (0 : Int), (0 : Int)) = _ from h, Option.bind_some]
  unfold readP
  by_cases hr : 12 < (rows s).length
  · rw [if_pos (by simpa using hr), if_neg (fun g => by have := (vP_len g.1).2; simp only at this; omega)]; rfl
  · rw [if_neg (by simpa using hr), List.nil_append]
    unfold m_spec_l10Read_A0 outR
    simp only
    rw [spec_vP0, Option.bind_some]
    cases hv : vP ⟨rows s⟩ with
    | false => rw [if_neg (by simp)]; rfl
    | true =>
      rw [Bool.not_true, cond_false, text_ok hv, Option.bind_some]
      simp only
      by_cases e : polT (rows s) = s
      · rw [decide_eq_true e, if_pos ⟨trivial, e⟩]; rfl
      · rw [decide_eq_false e, if_neg (fun g => e g.2)]; rfl
def ic (x : List UInt8) : Option Int := if x = [120] then some (-1) else if (rd x).2 = true ∧ 0 ≤ (rd x).1 then some (rd x).1 else none
def icL : List (List UInt8) → Option (List Int)
  | [] => some []
  | x :: r => match ic x with
    | none => none
    | some v => match icL r with
      | none => none
      | some vs => some (v :: vs)
def icG : List (List UInt8) → Option (List (List Int))
  | [] => some []
  | x :: r => match icL (splitL 44 x) with
    | none => none
    | some v => match icG r with
      | none => none
      | some vs => some (v :: vs)
theorem impl_cells : ∀ (xs : List (List UInt8)) (k : Nat) (acc : List Int), (∀ x ∈ xs, x.length ≤ 1048576) → acc.length + xs.length ≤ 4000000 →
    forL m_impl_ReadPolicy_L1 (fun s1 => (.inl s1)) k xs acc = some (match icL xs with | none => .inr ([], false) | some vs => .inl (acc ++ vs))
  | [], k, acc, _, _ => by simp [forL, icL]
  | x :: r, k, acc, hx, hl => by
    have hx0 := hx x (by simp)
    simp only [List.length_cons] at hl
    have ok : ∀ v : Int, m_impl_ReadPolicy_J0 acc (v, true) = some (.next (acc ++ [v])) := fun v => by
      unfold m_impl_ReadPolicy_J0
      rw [Bool.not_true, cond_false, capI_some (by simp; omega), Option.bind_some]
    have hstep : m_impl_ReadPolicy_L1 k x acc = match ic x with | none => some (.out (.inr ([], false))) | some v => some (.next (acc ++ [v])) := by
      unfold m_impl_ReadPolicy_L1 ic
      rw [impl_read hx0, Option.bind_some]
      by_cases h1 : x = [120]
      · rw [decide_eq_true h1, cond_true, if_pos h1, ok]
      · rw [decide_eq_false h1, cond_false, if_neg h1]
        by_cases h2 : (rd x).1 < 0
        · rw [decide_eq_true h2, cond_true, if_neg (by omega)]; rfl
        · rw [decide_eq_false h2, cond_false]
          cases h3 : (rd x).2 with
          | false => rw [if_neg (by simp)]; rfl
          | true => rw [if_pos ⟨rfl, by omega⟩, ok]
    unfold forL
    rw [hstep]
    unfold icL
    cases ic x with
    | none => rfl
    | some v =>
      simp only
      rw [impl_cells r (k + 1) (acc ++ [v]) (fun y hy => hx y (by simp [hy])) (by simp; omega)]
      cases icL r <;> simp
theorem impl_rows : ∀ (xs : List (List UInt8)) (k : Nat) (acc : List (List Int)), (∀ x ∈ xs, x.length ≤ 1048576) → acc.length + xs.length ≤ 4000000 →
    forL m_impl_ReadPolicy_L0 (fun s0 => (.inl s0)) k xs acc = some (match icG xs with | none => .inr ([], false) | some vs => .inl (acc ++ vs))
  | [], k, acc, _, _ => by simp [forL, icG]
  | x :: r, k, acc, hx, hl => by
    have hx0 := hx x (by simp)
    have hsl := split_len 44 x
    simp only [List.length_cons] at hl
    have hstep : m_impl_ReadPolicy_L0 k x acc = match icL (splitL 44 x) with | none => some (.out (.inr ([], false))) | some v => some (.next (acc ++ [v])) := by
      unfold m_impl_ReadPolicy_L0 m_strings_Split
      rw [decide_eq_true (show x.length < 4294967281 by omega), decide_eq_true (show 1 ≤ ([44] : List UInt8).length by simp)]
      simp only [Bool.and_self, cond_true, Option.bind_some]
      rw [split_eq, impl_cells _ 0 [] (fun y hy => by have := hsl.2 y hy; omega) (by simp; omega), Option.bind_some]
      unfold m_impl_ReadPolicy_A1
      cases icL (splitL 44 x) with
      | none => rfl
      | some v =>
        simp only
        rw [capI_some (by simp; omega)]; rfl
    unfold forL
    rw [hstep]
    unfold icG
    cases icL (splitL 44 x) with
    | none => rfl
    | some v =>
      simp only
      rw [impl_rows r (k + 1) (acc ++ [v]) (fun y hy => hx y (by simp [hy])) (by simp; omega)]
      cases icG r <;> simp
theorem rd_x : rd [120] = (0, false) := by decide +kernel
theorem ic_some {x : List UInt8} {v : Int} (h : ic x = some v) : sc x = v ∧ ct v = x := by
  unfold ic at h
  by_cases h1 : x = [120]
  · rw [if_pos h1] at h
    cases h
    subst h1
    have e : sc [120] = -1 := by unfold sc; rw [rd_x]; rfl
    exact ⟨e, rfl⟩
  · rw [if_neg h1] at h
    by_cases h2 : (rd x).2 = true ∧ 0 ≤ (rd x).1
    · rw [if_pos h2] at h
      cases h
      unfold sc ct
      rw [if_pos h2.1, if_neg (by omega)]
      rcases rd_cases x with e | ⟨v, _, e1, e2⟩
      · rw [e] at h2; exact absurd h2.1 (by simp)
      · rw [e2]; exact ⟨rfl, e1.symm⟩
    · rw [if_neg h2] at h; cases h
theorem ic_of {x : List UInt8} (h : ct (sc x) = x) : ic x = some (sc x) := by
  unfold ic
  by_cases h1 : x = [120]
  · rw [if_pos h1, h1]; unfold sc; rw [rd_x]; rfl
  · rw [if_neg h1]
    unfold ct at h
    by_cases h2 : sc x < 0
    · rw [if_pos h2] at h; exact absurd h.symm h1
    · have h3 : (rd x).2 = true := by
        cases e : (rd x).2 with
        | true => rfl
        | false => exact absurd (by unfold sc; rw [e, if_neg (by decide)]; decide) h2
      have h4 : sc x = (rd x).1 := by unfold sc; rw [if_pos h3]
      rw [if_pos ⟨h3, by omega⟩, h4]
theorem icL_some : ∀ {xs : List (List UInt8)} {vs : List Int}, icL xs = some vs → xs.map sc = vs ∧ vs.map ct = xs
  | [], vs, h => by unfold icL at h; cases h; exact ⟨rfl, rfl⟩
  | x :: r, vs, h => by
    unfold icL at h
    cases e : ic x with
    | none => rw [e] at h; cases h
    | some v =>
      rw [e] at h
      simp only at h
      cases e2 : icL r with
      | none => rw [e2] at h; cases h
      | some ws =>
        rw [e2] at h
        cases h
        obtain ⟨h1, h2⟩ := ic_some e
        obtain ⟨h3, h4⟩ := icL_some e2
        exact ⟨by rw [List.map_cons, h1, h3], by rw [List.map_cons, h2, h4]⟩
theorem icL_of : ∀ {xs : List (List UInt8)}, (xs.map sc).map ct = xs → icL xs = some (xs.map sc)
  | [], _ => rfl
  | x :: r, h => by
    simp only [List.map_cons, List.cons.injEq] at h
    unfold icL
    rw [ic_of h.1, icL_of h.2]; rfl
theorem icG_some : ∀ {xs : List (List UInt8)} {vs : List (List Int)}, icG xs = some vs → xs.map (fun r => (splitL 44 r).map sc) = vs ∧ vs.map rowT = xs
  | [], vs, h => by unfold icG at h; cases h; exact ⟨rfl, rfl⟩
  | x :: r, vs, h => by
    unfold icG at h
    cases e : icL (splitL 44 x) with
    | none => rw [e] at h; cases h
    | some v =>
      rw [e] at h
      simp only at h
      cases e2 : icG r with
      | none => rw [e2] at h; cases h
      | some ws =>
        rw [e2] at h
        cases h
        obtain ⟨h1, h2⟩ := icL_some e
        obtain ⟨h3, h4⟩ := icG_some e2
        refine ⟨by rw [List.map_cons, h1, h3], ?_⟩
        rw [List.map_cons, h4]
        unfold rowT
        rw [h2, jn_split]
theorem ct_no (v : Int) : (44 : UInt8) ∉ ct v ∧ (47 : UInt8) ∉ ct v := by
  unfold ct
  by_cases h : v < 0
  · rw [if_pos h]; decide
  · rw [if_neg h]
    obtain ⟨n, rfl⟩ : ∃ n : Nat, v = n := ⟨v.toNat, by omega⟩
    rw [nm_nat]
    refine ⟨fun hc => ?_, fun hc => ?_⟩
    · have := (dd_digits n _ hc).1; revert this; decide
    · have := (dd_digits n _ hc).1; revert this; decide
theorem jn_no {c d : UInt8} (hd : c ≠ d) : ∀ (xs : List (List UInt8)), (∀ x ∈ xs, c ∉ x) → c ∉ jn d xs
  | [], _ => by simp [jn]
  | [x], h => h x (by simp)
  | x :: y :: r, h => by
    rw [jn_cons _ _ (by simp)]
    intro hc
    rcases List.mem_append.1 hc with hc | hc
    · exact h x (by simp) hc
    · rcases List.mem_cons.1 hc with e | hc
      · exact hd e
      · exact jn_no hd (y :: r) (fun z hz => h z (by simp [hz])) hc
theorem rowT_no (r : List Int) : (47 : UInt8) ∉ rowT r := jn_no (by decide) _ (fun x hx => by obtain ⟨v, _, rfl⟩ := List.mem_map.1 hx; exact (ct_no v).2)
theorem icG_of : ∀ (xs : List (List UInt8)), (xs.map fun r => (splitL 44 r).map sc).map rowT = xs → icG xs = some (xs.map fun r => (splitL 44 r).map sc)
  | [], _ => rfl
  | x :: r, h => by
    simp only [List.map_cons, List.cons.injEq] at h
    have e : icL (splitL 44 x) = some ((splitL 44 x).map sc) := by
      refine icL_of ?_
      have h1 := congrArg (splitL 44) h.1
      unfold rowT at h1
      rw [split_jn 44 _ (by intro e; exact splitL_ne 44 x (List.map_eq_nil_iff.1 (List.map_eq_nil_iff.1 e))) (fun y hy => by obtain ⟨v, _, rfl⟩ := List.mem_map.1 hy; exact (ct_no v).1)] at h1
      exact h1
    unfold icG
    rw [e, icG_of r h.2]; rfl
theorem impl_readP {s : List UInt8} (hs : s.length ≤ 1048576) : m_impl_ReadPolicy s = some (readP s) := by
  have hsl := split_len 47 s
  unfold m_impl_ReadPolicy m_strings_Split
  rw [decide_eq_true (show s.length < 4294967281 by omega), decide_eq_true (show 1 ≤ ([47] : List UInt8).length by simp)]
  simp only [Bool.and_self, cond_true, Option.bind_some]
  rw [split_eq, impl_rows _ 0 [] (fun y hy => by have := hsl.2 y hy; omega) (by simp; omega), Option.bind_some]
  unfold m_impl_ReadPolicy_A0 readP
  cases e : icG (splitL 47 s) with
  | some g =>
    obtain ⟨h1, h2⟩ := icG_some e
    have h1 : rows s = g := h1
    subst h1
    have ht : polT (rows s) = s := by unfold polT; rw [h2, jn_split]
    simp only [List.nil_append]
    rw [impl_vP, Option.bind_some]
    cases hv : vP ⟨rows s⟩ with
    | false => rw [if_neg (by simp)]; rfl
    | true => rw [if_pos ⟨rfl, ht⟩]; rfl
  | none =>
    simp only
    rw [if_neg]
    rintro ⟨_, ht⟩
    have h1 := congrArg (splitL 47) ht
    unfold polT at h1
    rw [split_jn 47 _ (by intro e; exact rows_ne s (List.map_eq_nil_iff.1 e)) (fun y hy => by obtain ⟨v, _, rfl⟩ := List.mem_map.1 hy; exact rowT_no v)] at h1
    have := icG_of (splitL 47 s) h1
    rw [e] at this
    cases this
theorem same_ReadPolicy (p0 : List UInt8) (k0 : k_str p0) (h0 : p0.length ≤ 1048576) : ∃ r : Policy × Bool, m_spec_ReadPolicy p0 = some r ∧ m_impl_ReadPolicy p0 = some r ∧ pc_Policy r.1 ≤ 1048576 := by
  refine ⟨readP p0, ?_, impl_readP h0, ?_⟩
  · unfold m_spec_ReadPolicy
    rw [spec_readP h0]; rfl
  · unfold readP
    by_cases h : vP ⟨rows p0⟩ = true ∧ polT (rows p0) = p0
    · rw [if_pos h]
      have hl := vP_len h.1
      have hr := fun x hx => (vP_row h.1 (x := x) hx).1
      have hs : ∀ (xs : List (List Int)), (∀ x ∈ xs, x.length = 4) → (xs.map pc_Int64S).sum ≤ 100 * xs.length := by
        intro xs
        induction xs with
        | nil => intro _; simp
        | cons x r ih =>
          intro hx
          have h4 := hx x (by simp)
          have := ih (fun y hy => hx y (by simp [hy]))
          have hp : pc_Int64S x ≤ 100 := by unfold pc_Int64S; omega
          simp only [List.map_cons, List.sum_cons, List.length_cons]
          omega
      have := hs _ hr
      unfold pc_Policy pc_Int64SS
      simp only at hl this ⊢
      omega
    · rw [if_neg h]; decide
end Go.Mod

namespace Go.Mod
open Go.AM
set_option linter.unusedVariables false
set_option linter.unusedSimpArgs false
theorem law_ReadPolicy {p0 : List UInt8} (k0 : k_str p0) : m_laws_FnExactReadPolicy p0 = some true := by
  unfold m_laws_FnExactReadPolicy
  rw [show (1048576 : Int) = ((1048576 : Nat) : Int) from rfl]
  by_cases h0 : p0.length ≤ 1048576
  case neg => rw [decide_eq_true (by omega)]; rfl
  rw [decide_eq_false (by omega), cond_false]
  obtain ⟨⟨⟨r0_0⟩, r1_⟩, e1, e2, b0⟩ := same_ReadPolicy p0 k0 h0
  have qr0 := pq_Policy_le (Policy.mk r0_0)
  try simp only at b0 qr0
  obtain ⟨rm0_0, mr0, gr0⟩ := pm_Policy (show pc_Policy (Policy.mk r0_0) ≤ 1048576 by omega) (k := 1) (by omega)
  replace mr0 : m_laws_markPolicy (Policy.mk r0_0) 1 = _ := mr0
  replace gr0 : m_laws_heldPolicy _ 1 = _ := gr0
  simp only [Option.bind_some, cond_false, cond_true, dec_neg, e1, e2, decide_true, bool_beq, Bool.not_true, Bool.or_false, Bool.false_eq_true, pe_Policy (show pc_Policy (Policy.mk r0_0) ≤ 1048576 by omega), mr0, gr0]
end Go.Mod
