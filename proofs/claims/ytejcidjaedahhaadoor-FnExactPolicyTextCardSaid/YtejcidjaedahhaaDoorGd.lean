import Derived.Test.YtejcidjaedahhaaDoorGc
import Derived.Lib.ItoaNum
import Derived.Lib.Join
import Derived.Lib.Replace
import Derived.Lib.ParseIntB
namespace Go.Mod
open Go.AM
def m_strconv_FormatInt (p0 p1 : Int) : Option (List UInt8) :=
  bif decide (p1 = 10) && decide (-9223372036854775808 ≤ p0) && decide (p0 ≤ 9223372036854775807) then some (Lib.itoa p0) else none
def m_strings_Join (p0 : List (List UInt8)) (p1 : List UInt8) : Option (List UInt8) :=
  bif decide (p0.length ≤ 140737488355328) && decide ((Lib.join p0 p1).length ≤ 140737488355328) then some (Lib.join p0 p1) else none
def m_strings_ReplaceAll (p0 p1 p2 : List UInt8) : Option (List UInt8) :=
  bif decide (p0.length < 4294967281) && decide (1 ≤ p1.length) && decide (p0.length + Lib.count p0 p1 * p2.length ≤ 140737488355328) then some (Lib.replaceAll p0 p1 p2) else none
end Go.Mod

namespace Go.Mod
open Go.AM
set_option linter.unusedVariables false
structure l00Src where
  code : List Int
  at_ : Int
  seed : Int
  deriving DecidableEq, Inhabited
structure Policy where
  Next : List (List Int)
  deriving DecidableEq, Inhabited
def k_i64 (x : Int) : Prop := -9223372036854775808 ≤ x ∧ x ≤ 9223372036854775807
def kLa_i64 (x : List Int) : Prop := x.length ≤ 9223372036854775807 ∧ ∀ y ∈ x, k_i64 y
def kLaLa_i64 (x : List (List Int)) : Prop := x.length ≤ 9223372036854775807 ∧ ∀ y ∈ x, kLa_i64 y
def k_Policy (x : Policy) : Prop := kLaLa_i64 x.Next
noncomputable def m_laws_szInt64S (p0 : List Int) (p1 : Int) : Option Int :=
  bif (decide ((w64 (p1 - (p0.length : Int))) < (0 : Int))) then
    some (-1 : Int)
  else
    some (w64 (p1 - (p0.length : Int)))
noncomputable def m_laws_szInt64SS_L0 (p0 : List (List Int)) (s0 : Int × Int) : Option (Ctl (Int × Int) (Int ⊕ Int)) :=
  bif (decide (s0.2 < (p0.length : Int))) then
    (getI p0 s0.2).bind fun (x20 : List Int) =>
    (m_laws_szInt64S x20 s0.1).bind fun (r23 : Int) =>
    bif (decide (r23 < (0 : Int))) then
      some (.out (.inr (-1 : Int)))
    else
      some (.next (r23, (w64 (s0.2 + (1 : Int)))))
  else
    some (.out (.inl s0.1))
noncomputable def m_laws_szInt64SS_A0 (u0 : Int ⊕ Int) : Option Int :=
  match u0 with
  | .inl u0 =>
    some u0
  | .inr u0 =>
    some u0
noncomputable def m_laws_szInt64SS (p0 : List (List Int)) (p1 : Int) : Option Int :=
  bif (decide ((w64 (p1 - (p0.length : Int))) < (0 : Int))) then
    some (-1 : Int)
  else
    (iter (m_laws_szInt64SS_L0 p0) ((w64 (p1 - (p0.length : Int))), (0 : Int))).bind fun (u0 : Int ⊕ Int) =>
    m_laws_szInt64SS_A0 u0
noncomputable def m_laws_szPolicy (p0 : Policy) (p1 : Int) : Option Int :=
  (m_laws_szInt64SS p0.Next p1).bind fun (r8 : Int) =>
  bif (decide (r8 < (0 : Int))) then
    some (-1 : Int)
  else
    some r8
noncomputable def m_laws_toInt64S_L0 (p0 : List Int) (s0 : (List Int) × Int) : Option (Ctl ((List Int) × Int) ((List Int))) :=
  bif (decide (s0.2 < (p0.length : Int))) then
    (getI p0 s0.2).bind fun (x18 : Int) =>
    (getI s0.1 s0.2).bind fun (x20 : Int) =>
    some (.next ((s0.1.set ((s0.2).toNat) x18), (w64 (s0.2 + (1 : Int)))))
  else
    some (.out s0.1)
noncomputable def m_laws_toInt64S_A0 (u0 : (List Int)) : Option (List Int) :=
  some u0
noncomputable def m_laws_toInt64S (p0 : List Int) : Option (List Int) :=
  (makeI (p0.length : Int) 8).bind fun (k7 : Nat) =>
  (iter (m_laws_toInt64S_L0 p0) ((List.replicate k7 (0 : Int)), (0 : Int))).bind fun (u0 : (List Int)) =>
  m_laws_toInt64S_A0 u0
noncomputable def m_laws_toInt64SS_L0 (p0 : List (List Int)) (s0 : (List (List Int)) × Int) : Option (Ctl ((List (List Int)) × Int) ((List (List Int)))) :=
  bif (decide (s0.2 < (p0.length : Int))) then
    (getI p0 s0.2).bind fun (x18 : List Int) =>
    (m_laws_toInt64S x18).bind fun (r20 : List Int) =>
    (getI s0.1 s0.2).bind fun (x21 : List Int) =>
    some (.next ((s0.1.set ((s0.2).toNat) r20), (w64 (s0.2 + (1 : Int)))))
  else
    some (.out s0.1)
noncomputable def m_laws_toInt64SS_A0 (u0 : (List (List Int))) : Option (List (List Int)) :=
  some u0
noncomputable def m_laws_toInt64SS (p0 : List (List Int)) : Option (List (List Int)) :=
  (makeI (p0.length : Int) 24).bind fun (k7 : Nat) =>
  (iter (m_laws_toInt64SS_L0 p0) ((List.replicate k7 ([] : List Int)), (0 : Int))).bind fun (u0 : (List (List Int))) =>
  m_laws_toInt64SS_A0 u0
noncomputable def m_laws_toPolicy (p0 : Policy) : Option Policy :=
  (m_laws_toInt64SS p0.Next).bind fun (r6 : List (List Int)) =>
  some (Policy.mk r6)
noncomputable def m_spec_l00In (p0 : Int) (p1 : Int) (p2 : Int) : Option Bool :=
  some ((decide (p1 ≤ p0)) && (decide (p0 ≤ p2)))
noncomputable def m_spec_l10Is_L1 (p0 : Policy) (x24 : List Int) (s1 : Int) : Option (Ctl Int (Unit ⊕ Bool)) :=
  bif (decide (s1 < (4 : Int))) then
    (getI x24 s1).bind fun (x40 : Int) =>
    (m_spec_l00In x40 (-1 : Int) (w64 ((p0.Next.length : Int) - (1 : Int)))).bind fun (r44 : Bool) =>
    bif (!r44) then
      some (.out (.inr false))
    else
      some (.next (w64 (s1 + (1 : Int))))
  else
    some (.out (.inl ()))
noncomputable def m_spec_l10Is_A1 (s0 : Int) (u1 : Unit ⊕ Bool) : Option (Ctl Int (Unit ⊕ Bool)) :=
  match u1 with
  | .inl u1 =>
    some (.next (w64 (s0 + (1 : Int))))
  | .inr u1 =>
    some (.out (.inr u1))
noncomputable def m_spec_l10Is_L0 (p0 : Policy) (s0 : Int) : Option (Ctl Int (Unit ⊕ Bool)) :=
  bif (decide (s0 < (p0.Next.length : Int))) then
    (getI p0.Next s0).bind fun (x24 : List Int) =>
    bif (!decide ((x24.length : Int) = (4 : Int))) then
      some (.out (.inr false))
    else
      (iter (m_spec_l10Is_L1 p0 x24) (0 : Int)).bind fun (u1 : Unit ⊕ Bool) =>
      m_spec_l10Is_A1 s0 u1
  else
    some (.out (.inl ()))
noncomputable def m_spec_l10Is_A0 (u0 : Unit ⊕ Bool) : Option Bool :=
  match u0 with
  | .inl u0 =>
    some true
  | .inr u0 =>
    some u0
noncomputable def m_spec_l10Is (p0 : Policy) : Option Bool :=
  (m_spec_l00In (p0.Next.length : Int) (1 : Int) (12 : Int)).bind fun (r12 : Bool) =>
  bif (!r12) then
    some false
  else
    (iter (m_spec_l10Is_L0 p0) (0 : Int)).bind fun (u0 : Unit ⊕ Bool) =>
    m_spec_l10Is_A0 u0
noncomputable def m_impl_size (p0 : Int) : Option Int :=
  some p0
noncomputable def m_impl_within (p0 : Int) (p1 : Int) (p2 : Int) : Option Bool :=
  some ((decide (p1 ≤ p0)) && (decide (p0 ≤ p2)))
noncomputable def m_impl_allWithin_L0 (p1 : Int) (p2 : Int) (n0 : Nat) (x0 : Int) (s0 : Unit) : Option (Ctl Unit (Unit ⊕ Bool)) :=
  (m_impl_within x0 p1 p2).bind fun (r18 : Bool) =>
  bif (!r18) then
    some (.out (.inr false))
  else
    some (.next ())
noncomputable def m_impl_allWithin_A0 (u0 : Unit ⊕ Bool) : Option Bool :=
  match u0 with
  | .inl u0 =>
    some true
  | .inr u0 =>
    some u0
noncomputable def m_impl_allWithin (p0 : List Int) (p1 : Int) (p2 : Int) : Option Bool :=
  (forL (m_impl_allWithin_L0 p1 p2) (fun s0 => (.inl ())) 0 p0 ()).bind fun (u0 : Unit ⊕ Bool) =>
  m_impl_allWithin_A0 u0
noncomputable def m_impl_ValidPolicy_L0 (r9 : Int) (n0 : Nat) (x0 : List Int) (s0 : Unit) : Option (Ctl Unit (Unit ⊕ Bool)) :=
  bif (!decide ((x0.length : Int) = (4 : Int))) then
    some (.out (.inr false))
  else
    (m_impl_allWithin x0 (-1 : Int) (w64 (r9 - (1 : Int)))).bind fun (r27 : Bool) =>
    bif (!r27) then
      some (.out (.inr false))
    else
      some (.next ())
noncomputable def m_impl_ValidPolicy_A0 (u0 : Unit ⊕ Bool) : Option Bool :=
  match u0 with
  | .inl u0 =>
    some true
  | .inr u0 =>
    some u0
noncomputable def m_impl_ValidPolicy (p0 : Policy) : Option Bool :=
  (m_impl_size (p0.Next.length : Int)).bind fun (r9 : Int) =>
  (m_impl_within r9 (1 : Int) (12 : Int)).bind fun (r11 : Bool) =>
  bif (!r11) then
    some false
  else
    (forL (m_impl_ValidPolicy_L0 r9) (fun s0 => (.inl ())) 0 p0.Next ()).bind fun (u0 : Unit ⊕ Bool) =>
    m_impl_ValidPolicy_A0 u0
noncomputable def m_impl_Decimal (p0 : Int) : Option (List UInt8) :=
  (m_strconv_FormatInt p0 (10 : Int)).bind fun (r4 : List UInt8) =>
  some r4
noncomputable def m_laws_eqInt64S_L0 (p0 : List Int) (p1 : List Int) (s0 : Int) : Option (Ctl Int (Unit ⊕ Bool)) :=
  bif (decide (s0 < (p0.length : Int))) then
    (getI p0 s0).bind fun (x19 : Int) =>
    (getI p1 s0).bind fun (x23 : Int) =>
    bif (!decide (x19 = x23)) then
      some (.out (.inr false))
    else
      some (.next (w64 (s0 + (1 : Int))))
  else
    some (.out (.inl ()))
noncomputable def m_laws_eqInt64S_A0 (u0 : Unit ⊕ Bool) : Option Bool :=
  match u0 with
  | .inl u0 =>
    some true
  | .inr u0 =>
    some u0
noncomputable def m_laws_eqInt64S (p0 : List Int) (p1 : List Int) : Option Bool :=
  bif (!decide ((p0.length : Int) = (p1.length : Int))) then
    some false
  else
    (iter (m_laws_eqInt64S_L0 p0 p1) (0 : Int)).bind fun (u0 : Unit ⊕ Bool) =>
    m_laws_eqInt64S_A0 u0
noncomputable def m_laws_eqInt64SS_L0 (p0 : List (List Int)) (p1 : List (List Int)) (s0 : Int) : Option (Ctl Int (Unit ⊕ Bool)) :=
  bif (decide (s0 < (p0.length : Int))) then
    (getI p0 s0).bind fun (x19 : List Int) =>
    (getI p1 s0).bind fun (x23 : List Int) =>
    (m_laws_eqInt64S x19 x23).bind fun (r25 : Bool) =>
    bif (!r25) then
      some (.out (.inr false))
    else
      some (.next (w64 (s0 + (1 : Int))))
  else
    some (.out (.inl ()))
noncomputable def m_laws_eqInt64SS_A0 (u0 : Unit ⊕ Bool) : Option Bool :=
  match u0 with
  | .inl u0 =>
    some true
  | .inr u0 =>
    some u0
noncomputable def m_laws_eqInt64SS (p0 : List (List Int)) (p1 : List (List Int)) : Option Bool :=
  bif (!decide ((p0.length : Int) = (p1.length : Int))) then
    some false
  else
    (iter (m_laws_eqInt64SS_L0 p0 p1) (0 : Int)).bind fun (u0 : Unit ⊕ Bool) =>
    m_laws_eqInt64SS_A0 u0
noncomputable def m_laws_eqPolicy (p0 : Policy) (p1 : Policy) : Option Bool :=
  (m_laws_eqInt64SS p0.Next p1.Next).bind fun (r9 : Bool) =>
  bif (!r9) then
    some false
  else
    some true
noncomputable def m_laws_markInt64S_L0 (s0 : (List Int) × Int × Int) : Option (Ctl ((List Int) × Int × Int) ((Int × (List Int)))) :=
  bif (decide (s0.2.2 < (s0.1.length : Int))) then
    (getI s0.1 s0.2.2).bind fun (x15 : Int) =>
    some (.next ((s0.1.set ((s0.2.2).toNat) s0.2.1), (w64 (s0.2.1 + (1 : Int))), (w64 (s0.2.2 + (1 : Int)))))
  else
    some (.out (s0.2.1, s0.1))
noncomputable def m_laws_markInt64S_A0 (u0 : (Int × (List Int))) : Option (Int × (List Int)) :=
  some (u0.1, u0.2)
noncomputable def m_laws_markInt64S (p0 : List Int) (p1 : Int) : Option (Int × (List Int)) :=
  (iter (m_laws_markInt64S_L0) (p0, p1, (0 : Int))).bind fun (u0 : (Int × (List Int))) =>
  m_laws_markInt64S_A0 u0
noncomputable def m_laws_markInt64SS_L0 (s0 : (List (List Int)) × Int × Int) : Option (Ctl ((List (List Int)) × Int × Int) ((Int × (List (List Int))))) :=
  bif (decide (s0.2.2 < (s0.1.length : Int))) then
    (getI s0.1 s0.2.2).bind fun (x14 : List Int) =>
    (m_laws_markInt64S x14 s0.2.1).bind fun (r17 : Int × (List Int)) =>
    some (.next ((s0.1.set ((s0.2.2).toNat) r17.2), r17.1, (w64 (s0.2.2 + (1 : Int)))))
  else
    some (.out (s0.2.1, s0.1))
noncomputable def m_laws_markInt64SS_A0 (u0 : (Int × (List (List Int)))) : Option (Int × (List (List Int))) :=
  some (u0.1, u0.2)
noncomputable def m_laws_markInt64SS (p0 : List (List Int)) (p1 : Int) : Option (Int × (List (List Int))) :=
  (iter (m_laws_markInt64SS_L0) (p0, p1, (0 : Int))).bind fun (u0 : (Int × (List (List Int)))) =>
  m_laws_markInt64SS_A0 u0
noncomputable def m_laws_markPolicy (p0 : Policy) (p1 : Int) : Option (Int × (List (List Int))) :=
  (m_laws_markInt64SS p0.Next p1).bind fun (r8 : Int × (List (List Int))) =>
  some (r8.1, r8.2)
noncomputable def m_laws_heldInt64S_L0 (p0 : List Int) (s0 : Int × Int) : Option (Ctl (Int × Int) (Int ⊕ Int)) :=
  bif (decide (s0.2 < (p0.length : Int))) then
    (getI p0 s0.2).bind fun (x14 : Int) =>
    bif (!decide (x14 = s0.1)) then
      some (.out (.inr (-1 : Int)))
    else
      some (.next ((w64 (s0.1 + (1 : Int))), (w64 (s0.2 + (1 : Int)))))
  else
    some (.out (.inl s0.1))
noncomputable def m_laws_heldInt64S_A0 (u0 : Int ⊕ Int) : Option Int :=
  match u0 with
  | .inl u0 =>
    some u0
  | .inr u0 =>
    some u0
noncomputable def m_laws_heldInt64S (p0 : List Int) (p1 : Int) : Option Int :=
  (iter (m_laws_heldInt64S_L0 p0) (p1, (0 : Int))).bind fun (u0 : Int ⊕ Int) =>
  m_laws_heldInt64S_A0 u0
noncomputable def m_laws_heldInt64SS_L0 (p0 : List (List Int)) (s0 : Int × Int) : Option (Ctl (Int × Int) (Int ⊕ Int)) :=
  bif (decide (s0.2 < (p0.length : Int))) then
    (getI p0 s0.2).bind fun (x14 : List Int) =>
    (m_laws_heldInt64S x14 s0.1).bind fun (r17 : Int) =>
    bif (decide (r17 < (0 : Int))) then
      some (.out (.inr (-1 : Int)))
    else
      some (.next (r17, (w64 (s0.2 + (1 : Int)))))
  else
    some (.out (.inl s0.1))
noncomputable def m_laws_heldInt64SS_A0 (u0 : Int ⊕ Int) : Option Int :=
  match u0 with
  | .inl u0 =>
    some u0
  | .inr u0 =>
    some u0
noncomputable def m_laws_heldInt64SS (p0 : List (List Int)) (p1 : Int) : Option Int :=
  (iter (m_laws_heldInt64SS_L0 p0) (p1, (0 : Int))).bind fun (u0 : Int ⊕ Int) =>
  m_laws_heldInt64SS_A0 u0
noncomputable def m_laws_heldPolicy (p0 : Policy) (p1 : Int) : Option Int :=
  (m_laws_heldInt64SS p0.Next p1).bind fun (r8 : Int) =>
  bif (decide (r8 < (0 : Int))) then
    some (-1 : Int)
  else
    some r8
noncomputable def m_spec_l01Dec_L0 (s0 : Int × (List UInt8)) : Option (Ctl (Int × (List UInt8)) ((List UInt8))) :=
  bif (decide (s0.1 < (0 : Int))) then
    (strI ((List.map (fun n => UInt8.ofNat (Int.toNat n)) [(wu 8 (w64 ((48 : Int) - (Int.tmod s0.1 (10 : Int)))))]).length + s0.2.length)).bind fun (q21 : Unit) =>
    some (.next ((w64 (Int.tdiv s0.1 (10 : Int))), ((List.map (fun n => UInt8.ofNat (Int.toNat n)) [(wu 8 (w64 ((48 : Int) - (Int.tmod s0.1 (10 : Int)))))]) ++ s0.2)))
  else
    some (.out s0.2)
noncomputable def m_spec_l01Dec_A0 (p0 : Int) (u0 : (List UInt8)) : Option (List UInt8) :=
  bif (decide (p0 < (0 : Int))) then
    (strI (([45] : List UInt8).length + u0.length)).bind fun (q27 : Unit) =>
    some (([45] : List UInt8) ++ u0)
  else
    some u0
noncomputable def m_spec_l01Dec_J0 (p0 : Int) (j0 : Int) : Option (List UInt8) :=
  (iter (m_spec_l01Dec_L0) (j0, ([] : List UInt8))).bind fun (u0 : (List UInt8)) =>
  m_spec_l01Dec_A0 p0 u0
noncomputable def m_spec_l01Dec (p0 : Int) : Option (List UInt8) :=
  bif (decide (p0 = (0 : Int))) then
    some ([48] : List UInt8)
  else
    bif (decide ((0 : Int) < p0)) then
      m_spec_l01Dec_J0 p0 (w64 (0 - p0))
    else
      m_spec_l01Dec_J0 p0 p0
noncomputable def m_spec_l10Text_J1 (p0 : Policy) (s0 : (List UInt8) × Int) (s1 : (List UInt8) × Int) (j1 : List UInt8) : Option (Ctl ((List UInt8) × Int) ((List UInt8))) :=
  (getI p0.Next s0.2).bind fun (x32 : List Int) =>
  (getI x32 s1.2).bind fun (x35 : Int) =>
  bif (decide (x35 < (0 : Int))) then
    (strI (j1.length + ([120] : List UInt8).length)).bind fun (q39 : Unit) =>
    some (.next ((j1 ++ ([120] : List UInt8)), (w64 (s1.2 + (1 : Int)))))
  else
    (m_spec_l01Dec x35).bind fun (r51 : List UInt8) =>
    (strI (j1.length + r51.length)).bind fun (q52 : Unit) =>
    some (.next ((j1 ++ r51), (w64 (s1.2 + (1 : Int)))))
noncomputable def m_spec_l10Text_L1 (p0 : Policy) (s0 : (List UInt8) × Int) (s1 : (List UInt8) × Int) : Option (Ctl ((List UInt8) × Int) ((List UInt8))) :=
  bif (decide (s1.2 < (4 : Int))) then
    bif (decide ((0 : Int) < s1.2)) then
      (strI (s1.1.length + ([44] : List UInt8).length)).bind fun (q26 : Unit) =>
      m_spec_l10Text_J1 p0 s0 s1 (s1.1 ++ ([44] : List UInt8))
    else
      m_spec_l10Text_J1 p0 s0 s1 s1.1
  else
    some (.out s1.1)
noncomputable def m_spec_l10Text_A1 (s0 : (List UInt8) × Int) (u1 : (List UInt8)) : Option (Ctl ((List UInt8) × Int) ((List UInt8))) :=
  some (.next (u1, (w64 (s0.2 + (1 : Int)))))
noncomputable def m_spec_l10Text_J0 (p0 : Policy) (s0 : (List UInt8) × Int) (j0 : List UInt8) : Option (Ctl ((List UInt8) × Int) ((List UInt8))) :=
  (iter (m_spec_l10Text_L1 p0 s0) (j0, (0 : Int))).bind fun (u1 : (List UInt8)) =>
  m_spec_l10Text_A1 s0 u1
noncomputable def m_spec_l10Text_L0 (p0 : Policy) (s0 : (List UInt8) × Int) : Option (Ctl ((List UInt8) × Int) ((List UInt8))) :=
  bif (decide (s0.2 < (p0.Next.length : Int))) then
    bif (decide ((0 : Int) < s0.2)) then
      (strI (s0.1.length + ([47] : List UInt8).length)).bind fun (q18 : Unit) =>
      m_spec_l10Text_J0 p0 s0 (s0.1 ++ ([47] : List UInt8))
    else
      m_spec_l10Text_J0 p0 s0 s0.1
  else
    some (.out s0.1)
noncomputable def m_spec_l10Text_A0 (u0 : (List UInt8)) : Option (List UInt8) :=
  some u0
noncomputable def m_spec_l10Text (p0 : Policy) : Option (List UInt8) :=
  (iter (m_spec_l10Text_L0 p0) (([] : List UInt8), (0 : Int))).bind fun (u0 : (List UInt8)) =>
  m_spec_l10Text_A0 u0
noncomputable def m_spec_PolicyText (p0 : Policy) : Option ((List UInt8) × Bool) :=
  (m_spec_l10Is p0).bind fun (r4 : Bool) =>
  bif (!r4) then
    some (([] : List UInt8), false)
  else
    (m_spec_l10Text p0).bind fun (r6 : List UInt8) =>
    some (r6, true)
noncomputable def m_impl_listed_L0 (n0 : Nat) (x0 : Int) (s0 : List (List UInt8)) : Option (Ctl (List (List UInt8)) ((List (List UInt8)))) :=
  (m_impl_Decimal x0).bind fun (r14 : List UInt8) =>
  (capI (s0.length + [r14].length) 16).bind fun (q16 : Unit) =>
  some (.next (s0 ++ [r14]))
noncomputable def m_impl_listed_A0 (u0 : (List (List UInt8))) : Option (List UInt8) :=
  (m_strings_Join u0 ([44] : List UInt8)).bind fun (r19 : List UInt8) =>
  some r19
noncomputable def m_impl_listed (p0 : List Int) : Option (List UInt8) :=
  (forL (m_impl_listed_L0) (fun s0 => s0) 0 p0 ([] : List (List UInt8))).bind fun (u0 : (List (List UInt8))) =>
  m_impl_listed_A0 u0
noncomputable def m_impl_PolicyText_L0 (n0 : Nat) (x0 : List Int) (s0 : List (List UInt8)) : Option (Ctl (List (List UInt8)) ((List (List UInt8)))) :=
  (m_impl_listed x0).bind fun (r19 : List UInt8) =>
  (m_strings_ReplaceAll r19 ([45, 49] : List UInt8) ([120] : List UInt8)).bind fun (r20 : List UInt8) =>
  (capI (s0.length + [r20].length) 16).bind fun (q22 : Unit) =>
  some (.next (s0 ++ [r20]))
noncomputable def m_impl_PolicyText_A0 (u0 : (List (List UInt8))) : Option ((List UInt8) × Bool) :=
  (m_strings_Join u0 ([47] : List UInt8)).bind fun (r25 : List UInt8) =>
  some (r25, true)
noncomputable def m_impl_PolicyText (p0 : Policy) : Option ((List UInt8) × Bool) :=
  (m_impl_ValidPolicy p0).bind fun (r8 : Bool) =>
  bif (!r8) then
    some (([] : List UInt8), false)
  else
    (forL (m_impl_PolicyText_L0) (fun s0 => s0) 0 p0.Next ([] : List (List UInt8))).bind fun (u0 : (List (List UInt8))) =>
    m_impl_PolicyText_A0 u0
noncomputable def m_laws_FnExactPolicyText (p0 : Policy) : Option Bool :=
  (m_laws_szPolicy p0 (1048576 : Int)).bind fun (r11 : Int) =>
  bif (decide (r11 < (0 : Int))) then
    some true
  else
    (m_laws_toPolicy p0).bind fun (r16 : Policy) =>
    (m_spec_PolicyText r16).bind fun (r17 : (List UInt8) × Bool) =>
    (m_laws_toPolicy p0).bind fun (r21 : Policy) =>
    (m_impl_PolicyText r21).bind fun (r24 : (List UInt8) × Bool) =>
    bif ((!decide (r24.1 = r17.1)) || (!(r24.2 == r17.2))) then
      some false
    else
      (m_laws_toPolicy p0).bind fun (r37 : Policy) =>
      (m_laws_eqPolicy r21 r37).bind fun (r38 : Bool) =>
      bif (!r38) then
        some false
      else
        some true
end Go.Mod

namespace Go.Mod
open Go.AM
set_option linter.unusedVariables false
set_option linter.unusedSimpArgs false
theorem pl_mem_sum {α : Type} {c : α → Nat} {xs : List α} {x : α} (h : x ∈ xs) : c x ≤ (xs.map c).sum := by
  induction xs with
  | nil => cases h
  | cons y r ih =>
    simp only [List.map_cons, List.sum_cons]
    rcases List.mem_cons.1 h with rfl | h
    · omega
    · have := ih h; omega
theorem pl_sum_len {α : Type} {q : α → Nat} {xs : List α} (h : ∀ x, q x ≤ 8 + 8 * 0) : (xs.map q).sum ≤ 8 * xs.length := by
  induction xs with
  | nil => simp
  | cons y r ih => have := h y; simp only [List.map_cons, List.sum_cons, List.length_cons]; omega
theorem pl_sum_le {α : Type} {q c : α → Nat} {xs : List α} (h : ∀ x, q x ≤ 8 + 8 * c x) : (xs.map q).sum ≤ 8 * (xs.length + (xs.map c).sum) := by
  induction xs with
  | nil => simp
  | cons y r ih => have := h y; simp only [List.map_cons, List.sum_cons, List.length_cons]; omega
theorem pl_szB {m : Option Int} {c d b : Nat} {F : Int → Option Int} (h : m = some (szOut c b)) (g : c ≤ b → F ((b - c : Nat) : Int) = some (szOut d (b - c))) :
    (m.bind fun r => bif decide (r < 0) then some (-1) else F r) = some (szOut (c + d) b) := by
  rw [h, Option.bind_some]
  by_cases hc : c ≤ b
  · rw [szOut_ok hc, decide_eq_false (by omega), cond_false, g hc]
    unfold szOut
    by_cases h2 : d ≤ b - c
    · rw [if_pos h2, if_pos (by omega)]; congr 2; omega
    · rw [if_neg h2, if_neg (by omega)]
  · rw [szOut_no hc, szOut_no (by omega)]; rfl
theorem pl_szL {m : Option Int} {c b : Nat} (h : m = some (szOut c b)) : (m.bind fun r => bif decide (r < 0) then some (-1) else some r) = some (szOut c b) := by
  have := pl_szB (d := 0) (F := fun r => some r) h (fun hc => by rw [szOut_ok (Nat.zero_le _)]; rfl)
  simpa using this
theorem pl_eqL {p : Prop} [Decidable p] : (bif !decide p then some false else some true) = some (decide p) := by
  by_cases hp : p <;> simp [hp]
theorem pl_eqML {m : Option Bool} {p : Prop} [Decidable p] (hm : m = some (decide p)) : (m.bind fun r => bif !r then some false else some true) = some (decide p) := by
  rw [hm, Option.bind_some]; exact pl_eqL
theorem pl_neg1 : decide ((-1 : Int) < 0) = true := rfl
theorem pl_condB {α β : Type} {b : Bool} {x y : Option α} {f : α → Option β} : (cond b x y).bind f = cond b (x.bind f) (y.bind f) := by cases b <;> rfl
theorem pl_cond2 {α : Type} {b : Bool} {x y z : α} : cond b x (cond b y z) = cond b x z := by cases b <;> rfl
section
variable {α : Type} {ys : List α} {n : Nat} {a b c d e f g : α} (h : n < ys.length)
include h
theorem pl_get_set : getI (ys.set n a) (n : Int) = some a := getI_some (by rw [List.getElem?_set_self h])
theorem pl_get_set2 : getI ((ys.set n a).set n b) (n : Int) = some b := getI_some (by rw [List.set_set, List.getElem?_set_self h])
theorem pl_get_set3 : getI (((ys.set n a).set n b).set n c) (n : Int) = some c := getI_some (by rw [List.set_set, List.set_set, List.getElem?_set_self h])
theorem pl_get_set4 : getI ((((ys.set n a).set n b).set n c).set n d) (n : Int) = some d := getI_some (by simp only [List.set_set]; rw [List.getElem?_set_self h])
theorem pl_get_set5 : getI (((((ys.set n a).set n b).set n c).set n d).set n e) (n : Int) = some e := getI_some (by simp only [List.set_set]; rw [List.getElem?_set_self h])
theorem pl_get_set6 : getI ((((((ys.set n a).set n b).set n c).set n d).set n e).set n f) (n : Int) = some f := getI_some (by simp only [List.set_set]; rw [List.getElem?_set_self h])
theorem pl_get_set7 : getI (((((((ys.set n a).set n b).set n c).set n d).set n e).set n f).set n g) (n : Int) = some g := getI_some (by simp only [List.set_set]; rw [List.getElem?_set_self h])
end
def pc_Int64S (xs : List Int) : Nat := xs.length
theorem pc_Int64S_len {xs : List Int} : xs.length ≤ pc_Int64S xs := by unfold pc_Int64S; omega
theorem pz_Int64S {xs : List Int} (k : kLa_i64 xs) : SzP m_laws_szInt64S pc_Int64S xs := fun _ hb => sz_flat k.1 hb
theorem pt_Int64S {xs : List Int} (hl : pc_Int64S xs ≤ 1048576) : m_laws_toInt64S xs = some xs := by
  have hlen : xs.length ≤ 1048576 := Nat.le_trans pc_Int64S_len hl
  unfold m_laws_toInt64S
  rw [makeI_some (by omega), Option.bind_some, iter_to (xs := xs) (z := (0 : Int)) (cp := some)
    (fun n x ys hx => by unfold m_laws_toInt64S_L0; rw [dec_lt (get_lt hx), cond_true, getI_some hx]; rfl)
    (fun ys => by unfold m_laws_toInt64S_L0; rw [dec_self]; rfl) hlen (fun x hx => rfl)]
  rfl
theorem pe_Int64S {xs ys : List Int} (hl : pc_Int64S xs ≤ 1048576) : m_laws_eqInt64S xs ys = some (decide (xs = ys)) := by
  have hlen : xs.length ≤ 1048576 := Nat.le_trans pc_Int64S_len hl
  unfold m_laws_eqInt64S
  by_cases h : xs.length = ys.length
  · rw [decide_eq_true (by omega), Bool.not_true, cond_false, iter_eq (xs := xs) (ys := ys) (eq := fun x y => some (decide (x = y)))
      (fun n x y hx hy => by unfold m_laws_eqInt64S_L0; rw [dec_lt (get_lt hx), cond_true, getI_some hx, getI_some hy]; rfl)
      (by unfold m_laws_eqInt64S_L0; rw [dec_self]; rfl) (by omega) h (fun x hx y => rfl)]
    by_cases e : xs = ys
    · rw [if_pos e, decide_eq_true e]; rfl
    · rw [if_neg e, decide_eq_false e]; rfl
  · rw [decide_eq_false (by omega), decide_eq_false (fun e => h (by rw [e]))]; rfl
def pqE_Int64S (x : Int) : Nat := 1
def pq_Int64S (xs : List Int) : Nat := (xs.map pqE_Int64S).sum
theorem pqE_Int64S_le (x : Int) : pqE_Int64S x ≤ 8 + 8 * 0 := by
  unfold pqE_Int64S
  omega
theorem pq_Int64S_le (xs : List Int) : pq_Int64S xs ≤ 8 * pc_Int64S xs := by
  unfold pq_Int64S pc_Int64S
  exact pl_sum_len (fun x => pqE_Int64S_le x)
noncomputable def pmk_Int64S (x : Int) (k : Int) : Option (Int × Int) := some ((w64 (k + 1)), k)
noncomputable def phe_Int64S (x : Int) (k : Int) : Option Int := bif !decide (x = k) then some (-1) else some (w64 (k + 1))
theorem pmE_Int64S (x : Int) : ∀ k : Nat, k + pqE_Int64S x ≤ 4611686018427387904 → ∃ x', pmk_Int64S x k = some (((k + pqE_Int64S x : Nat) : Int), x') ∧ phe_Int64S x' k = some ((k + pqE_Int64S x : Nat) : Int) := fun k hk => by
  unfold pqE_Int64S at hk ⊢
  have tot : ((k + 1 : Nat) : Int) = ((k + (1) : Nat) : Int) := by omega
  have w0 : w64 (((k : Nat) : Int) + 1) = ((k + 1 : Nat) : Int) := w64_succ (by omega)
  refine ⟨((k : Nat) : Int), ?_, ?_⟩
  · unfold pmk_Int64S; simp only [w0, Option.bind_some] <;> rw [← tot]
  · unfold phe_Int64S; simp only [w0, Option.bind_some, decide_true, Bool.not_true, cond_false] <;> rw [← tot]
theorem pm_Int64S {xs : List Int} (hl : pc_Int64S xs ≤ 1048576) {k : Nat} (hk : k + pq_Int64S xs ≤ 4611686018427387904) : ∃ xs', m_laws_markInt64S xs k = some (((k + pq_Int64S xs : Nat) : Int), xs') ∧ m_laws_heldInt64S xs' k = some ((k + pq_Int64S xs : Nat) : Int) := by
  obtain ⟨xs', h1, h2, h3⟩ := iter_mark (xs := xs) (m := pqE_Int64S) (mk := pmk_Int64S) (held := phe_Int64S) (step := m_laws_markInt64S_L0) (hstep := m_laws_heldInt64S_L0)
    (fun n ys x k hk hx => by
      have hn := get_lt hx
      have gen : ∀ k1 : Int, w64 ((k : Int) + 1) = k1 → m_laws_markInt64S_L0 (ys, (k : Int), (n : Int)) = (pmk_Int64S x k).bind fun r => some (.next (ys.set n r.2, r.1, w64 ((n : Int) + 1))) := by
        intro k1 h1
        unfold m_laws_markInt64S_L0 pmk_Int64S
        simp only [h1, dec_lt hn, cond_true, getI_some hx, Option.bind_some, Int.toNat_natCast, pl_get_set hn, pl_get_set2 hn, pl_get_set3 hn, pl_get_set4 hn, pl_get_set5 hn, pl_get_set6 hn, pl_get_set7 hn, List.set_set, Option.bind_assoc]
      exact gen _ rfl)
    (fun ys k => by unfold m_laws_markInt64S_L0; rw [dec_self]; rfl)
    (fun n ys x k hk hx => by
      unfold m_laws_heldInt64S_L0 phe_Int64S
      rw [dec_lt (get_lt hx), cond_true, getI_some hx]
      have w0 : w64 (((k : Nat) : Int) + 1) = ((k + 1 : Nat) : Int) := w64_succ (by omega)
      simp only [Option.bind_some, pl_condB, pl_cond2, Option.bind_assoc, pl_neg1, cond_true, cond_false, dec_neg, w0])
    (fun ys k => by unfold m_laws_heldInt64S_L0; rw [dec_self]; rfl)
    (by have := pc_Int64S_len (xs := xs); omega) (fun x hx => pmE_Int64S x) (k := k) hk
  exact ⟨xs', by unfold m_laws_markInt64S; rw [h1]; rfl, by unfold m_laws_heldInt64S; rw [h3]; rfl⟩
def pc_Int64SS (xs : List (List Int)) : Nat := xs.length + (xs.map pc_Int64S).sum
theorem pc_Int64SS_mem {xs : List (List Int)} {x : List Int} (h : x ∈ xs) : pc_Int64S x ≤ pc_Int64SS xs := by have := pl_mem_sum (c := pc_Int64S) h; unfold pc_Int64SS; omega
theorem pc_Int64SS_len {xs : List (List Int)} : xs.length ≤ pc_Int64SS xs := by unfold pc_Int64SS; omega
theorem pz_Int64SS {xs : List (List Int)} (k : kLaLa_i64 xs) : SzP m_laws_szInt64SS pc_Int64SS xs := fun b hb => by
  unfold m_laws_szInt64SS pc_Int64SS
  rw [szW k.1 hb]
  by_cases h : xs.length ≤ b
  · rw [decide_eq_false (by omega), cond_false, show (b : Int) - (xs.length : Int) = ((b - xs.length : Nat) : Int) by omega,
      iter_sz (xs := xs) (c := pc_Int64S) (sz := m_laws_szInt64S)
        (fun n x b hx => by unfold m_laws_szInt64SS_L0; rw [dec_lt (get_lt hx), cond_true, getI_some hx]; rfl)
        (fun b => by unfold m_laws_szInt64SS_L0; rw [dec_self]; rfl) k.1 (fun x hx => pz_Int64S (k.2 x hx)) (by omega), Option.bind_some]
    by_cases h2 : (xs.map pc_Int64S).sum ≤ b - xs.length
    · rw [if_pos h2, szOut_ok (by omega)]
      unfold m_laws_szInt64SS_A0; simp only; congr 2; omega
    · rw [if_neg h2, szOut_no (by omega)]; rfl
  · rw [decide_eq_true (by omega), szOut_no (by omega)]; rfl
theorem pt_Int64SS {xs : List (List Int)} (hl : pc_Int64SS xs ≤ 1048576) : m_laws_toInt64SS xs = some xs := by
  have hlen : xs.length ≤ 1048576 := Nat.le_trans pc_Int64SS_len hl
  unfold m_laws_toInt64SS
  rw [makeI_some (by omega), Option.bind_some, iter_to (xs := xs) (z := ([] : List Int)) (cp := m_laws_toInt64S)
    (fun n x ys hx => by unfold m_laws_toInt64SS_L0; rw [dec_lt (get_lt hx), cond_true, getI_some hx]; rfl)
    (fun ys => by unfold m_laws_toInt64SS_L0; rw [dec_self]; rfl) hlen (fun x hx => pt_Int64S (by have := pc_Int64SS_mem hx; omega))]
  rfl
theorem pe_Int64SS {xs ys : List (List Int)} (hl : pc_Int64SS xs ≤ 1048576) : m_laws_eqInt64SS xs ys = some (decide (xs = ys)) := by
  have hlen : xs.length ≤ 1048576 := Nat.le_trans pc_Int64SS_len hl
  unfold m_laws_eqInt64SS
  by_cases h : xs.length = ys.length
  · rw [decide_eq_true (by omega), Bool.not_true, cond_false, iter_eq (xs := xs) (ys := ys) (eq := m_laws_eqInt64S)
      (fun n x y hx hy => by unfold m_laws_eqInt64SS_L0; rw [dec_lt (get_lt hx), cond_true, getI_some hx, getI_some hy]; rfl)
      (by unfold m_laws_eqInt64SS_L0; rw [dec_self]; rfl) (by omega) h (fun x hx y => pe_Int64S (by have := pc_Int64SS_mem hx; omega))]
    by_cases e : xs = ys
    · rw [if_pos e, decide_eq_true e]; rfl
    · rw [if_neg e, decide_eq_false e]; rfl
  · rw [decide_eq_false (by omega), decide_eq_false (fun e => h (by rw [e]))]; rfl
def pqE_Int64SS (x : List Int) : Nat := 0 + pq_Int64S x
def pq_Int64SS (xs : List (List Int)) : Nat := (xs.map pqE_Int64SS).sum
theorem pqE_Int64SS_le (x : List Int) : pqE_Int64SS x ≤ 8 + 8 * pc_Int64S x := by
  unfold pqE_Int64SS
  have h0 := pq_Int64S_le x
  omega
theorem pq_Int64SS_le (xs : List (List Int)) : pq_Int64SS xs ≤ 8 * pc_Int64SS xs := by
  unfold pq_Int64SS pc_Int64SS
  exact pl_sum_le (fun x => pqE_Int64SS_le x)
noncomputable def pmk_Int64SS (x : List Int) (k : Int) : Option (Int × (List Int)) := (m_laws_markInt64S x k).bind fun r0 => some (r0.1, r0.2)
noncomputable def phe_Int64SS (x : List Int) (k : Int) : Option Int := (m_laws_heldInt64S x k).bind fun r0 => bif decide (r0 < 0) then some (-1) else some r0
theorem pmE_Int64SS (x : List Int) (hc : pc_Int64S x ≤ 1048576) : ∀ k : Nat, k + pqE_Int64SS x ≤ 4611686018427387904 → ∃ x', pmk_Int64SS x k = some (((k + pqE_Int64SS x : Nat) : Int), x') ∧ phe_Int64SS x' k = some ((k + pqE_Int64SS x : Nat) : Int) := fun k hk => by
  unfold pqE_Int64SS at hk ⊢
  obtain ⟨a0, m0, g0⟩ := pm_Int64S (xs := x) (by omega) (k := k) (by omega)
  have n0 : decide ((((k) + pq_Int64S x : Nat) : Int) < 0) = false := decide_eq_false (by omega)
  have tot : ((k + pq_Int64S x : Nat) : Int) = ((k + (0 + pq_Int64S x) : Nat) : Int) := by omega
  refine ⟨a0, ?_, ?_⟩
  · unfold pmk_Int64SS; simp only [m0, Option.bind_some] <;> rw [← tot]
  · unfold phe_Int64SS; simp only [g0, n0, Option.bind_some, decide_true, Bool.not_true, cond_false] <;> rw [← tot]
theorem pm_Int64SS {xs : List (List Int)} (hl : pc_Int64SS xs ≤ 1048576) {k : Nat} (hk : k + pq_Int64SS xs ≤ 4611686018427387904) : ∃ xs', m_laws_markInt64SS xs k = some (((k + pq_Int64SS xs : Nat) : Int), xs') ∧ m_laws_heldInt64SS xs' k = some ((k + pq_Int64SS xs : Nat) : Int) := by
  obtain ⟨xs', h1, h2, h3⟩ := iter_mark (xs := xs) (m := pqE_Int64SS) (mk := pmk_Int64SS) (held := phe_Int64SS) (step := m_laws_markInt64SS_L0) (hstep := m_laws_heldInt64SS_L0)
    (fun n ys x k hk hx => by
      have hn := get_lt hx
      have gen : m_laws_markInt64SS_L0 (ys, (k : Int), (n : Int)) = (pmk_Int64SS x k).bind fun r => some (.next (ys.set n r.2, r.1, w64 ((n : Int) + 1))) := by
        unfold m_laws_markInt64SS_L0 pmk_Int64SS
        simp only [dec_lt hn, cond_true, getI_some hx, Option.bind_some, Int.toNat_natCast, pl_get_set hn, pl_get_set2 hn, pl_get_set3 hn, pl_get_set4 hn, pl_get_set5 hn, pl_get_set6 hn, pl_get_set7 hn, List.set_set, Option.bind_assoc]
      exact gen)
    (fun ys k => by unfold m_laws_markInt64SS_L0; rw [dec_self]; rfl)
    (fun n ys x k hk hx => by
      unfold m_laws_heldInt64SS_L0 phe_Int64SS
      rw [dec_lt (get_lt hx), cond_true, getI_some hx]
      simp only [Option.bind_some, pl_condB, pl_cond2, Option.bind_assoc, pl_neg1, cond_true, cond_false, dec_neg])
    (fun ys k => by unfold m_laws_heldInt64SS_L0; rw [dec_self]; rfl)
    (by have := pc_Int64SS_len (xs := xs); omega) (fun x hx => pmE_Int64SS x (by have := pc_Int64SS_mem hx; omega)) (k := k) hk
  exact ⟨xs', by unfold m_laws_markInt64SS; rw [h1]; rfl, by unfold m_laws_heldInt64SS; rw [h3]; rfl⟩
def pc_Policy (x : Policy) : Nat := pc_Int64SS x.Next
theorem pi_Policy (x y : Policy) : (x.Next = y.Next) ↔ x = y := by cases x; cases y; simp
theorem pz_Policy {x : Policy} (k : k_Policy x) : SzP m_laws_szPolicy pc_Policy x := fun b hb => by
  unfold m_laws_szPolicy pc_Policy
  rw [show pc_Int64SS x.Next = pc_Int64SS x.Next by omega]
  exact pl_szL (pz_Int64SS k (b) (by omega))
theorem pt_Policy {x : Policy} (hl : pc_Policy x ≤ 1048576) : m_laws_toPolicy x = some x := by
  unfold pc_Policy at hl
  unfold m_laws_toPolicy
  simp only [pt_Int64SS (xs := x.Next) (by omega), Option.bind_some]
theorem pe_Policy {x y : Policy} (hl : pc_Policy x ≤ 1048576) : m_laws_eqPolicy x y = some (decide (x = y)) := by
  unfold pc_Policy at hl
  unfold m_laws_eqPolicy
  rw [← decide_eq_decide.2 (pi_Policy x y)]
  exact pl_eqML (pe_Int64SS (by omega))
def pq_Policy (x : Policy) : Nat := pq_Int64SS x.Next
theorem pq_Policy_le (x : Policy) : pq_Policy x ≤ 8 * pc_Policy x := by
  unfold pq_Policy pc_Policy
  have h0 := pq_Int64SS_le x.Next
  omega
theorem pm_Policy {x : Policy} (hl : pc_Policy x ≤ 1048576) {k : Nat} (hk : k + pq_Policy x ≤ 4611686018427387904) : ∃ (a0 : (List (List Int))), m_laws_markPolicy x k = some (((k + pq_Policy x : Nat) : Int), a0) ∧ m_laws_heldPolicy (Policy.mk a0) k = some ((k + pq_Policy x : Nat) : Int) := by
  unfold pq_Policy at hk ⊢
  unfold pc_Policy at hl
  have l0 : x.Next.length ≤ pc_Int64SS x.Next := pc_Int64SS_len
  obtain ⟨a0, m0, g0⟩ := pm_Int64SS (xs := x.Next) (by omega) (k := k) (by omega)
  have n0 : decide ((((k) + pq_Int64SS x.Next : Nat) : Int) < 0) = false := decide_eq_false (by omega)
  have tot : ((k + pq_Int64SS x.Next : Nat) : Int) = ((k + (pq_Int64SS x.Next) : Nat) : Int) := by omega
  refine ⟨a0, ?_, ?_⟩
  · unfold m_laws_markPolicy; simp only [m0, Option.bind_some] <;> rw [← tot]
  · unfold m_laws_heldPolicy; simp only [g0, n0, Option.bind_some, cond_false] <;> rw [← tot]
end Go.Mod

namespace Go.Mod
open Go.AM
set_option linter.unusedVariables false
set_option linter.unusedSimpArgs false
def cLL (xs : List (List Int)) : Nat := xs.length + (xs.map List.length).sum
def cPol (p : Policy) : Nat := cLL p.Next
def rowOK (n : Nat) (x : List Int) : Bool := decide (x.length = 4) && x.all fun v => decide (-1 ≤ v) && decide (v ≤ (n : Int) - 1)
def vP (p : Policy) : Bool := (decide (1 ≤ p.Next.length) && decide (p.Next.length ≤ 12)) && p.Next.all (rowOK p.Next.length)
theorem vP_len {p : Policy} (h : vP p = true) : 1 ≤ p.Next.length ∧ p.Next.length ≤ 12 := by simp [vP] at h; omega
theorem vP_row {p : Policy} (h : vP p = true) {x : List Int} (hx : x ∈ p.Next) : x.length = 4 ∧ ∀ v ∈ x, -1 ≤ v ∧ v ≤ (p.Next.length : Int) - 1 := by
  simp only [vP, Bool.and_eq_true, List.all_eq_true] at h
  have := h.2 x hx
  simp only [rowOK, Bool.and_eq_true, decide_eq_true_eq, List.all_eq_true] at this
  exact this
theorem dec_leI {a : Nat} : decide ((1 : Int) ≤ (a : Int)) = decide (1 ≤ a) := by by_cases h : 1 ≤ a <;> simp [h] <;> omega
theorem dec_le12 {a : Nat} : decide ((a : Int) ≤ 12) = decide (a ≤ 12) := by by_cases h : a ≤ 12 <;> simp [h] <;> omega
theorem spec_row {p : Policy} {x : List Int} (hx : x.length = 4) (hn : p.Next.length ≤ 12) (h1 : 1 ≤ p.Next.length) : iter (m_spec_l10Is_L1 p x) 0 = some (bif x.all fun v => decide (-1 ≤ v) && decide (v ≤ (p.Next.length : Int) - 1) then .inl () else .inr false) := by
  have h := iter_for (step := m_spec_l10Is_L1 p x) x (fun n (_ : Unit) => (n : Int)) (fun _ v _ => bif (decide (-1 ≤ v) && decide (v ≤ (p.Next.length : Int) - 1)) then some (.next ()) else some (.out (.inr false))) (fun _ => .inl ())
    (fun n v r hv => by
      have hlt := get_lt hv
      unfold m_spec_l10Is_L1
      rw [decide_eq_true (by omega), cond_true, getI_some hv, Option.bind_some, w64_eq (n := (p.Next.length : Int) - 1) (by omega)]
      unfold m_spec_l00In
      rw [Option.bind_some, w64_succ (by omega)]
      cases (decide (-1 ≤ v) && decide (v ≤ (p.Next.length : Int) - 1)) <;> rfl)
    (fun r => by unfold m_spec_l10Is_L1; rw [hx]; rfl) ()
  rw [forL_all (fun v => decide (-1 ≤ v) && decide (v ≤ (p.Next.length : Int) - 1)) _ _ (fun n x _ => rfl)] at h
  exact h
theorem spec_vP {p : Policy} (hl : cPol p ≤ 1048576) : m_spec_l10Is p = some (vP p) := by
  unfold m_spec_l10Is m_spec_l00In vP
  rw [Option.bind_some, dec_leI, dec_le12]
  cases h0 : decide (1 ≤ p.Next.length) && decide (p.Next.length ≤ 12) with
  | false => rfl
  | true =>
    simp only [Bool.and_eq_true, decide_eq_true_eq] at h0
    have h := iter_for (step := m_spec_l10Is_L0 p) p.Next (fun n (_ : Unit) => (n : Int)) (fun _ x _ => bif rowOK p.Next.length x then some (.next ()) else some (.out (.inr false))) (fun _ => .inl ())
      (fun n x r hx => by
        have hlt := get_lt hx
        unfold m_spec_l10Is_L0 rowOK
        rw [dec_lt hlt, cond_true, getI_some hx, Option.bind_some]
        by_cases h4 : x.length = 4
        · rw [decide_eq_true h4, decide_eq_true (show (x.length : Int) = 4 by omega), Bool.not_true, cond_false, spec_row h4 h0.2 h0.1, Bool.true_and, Option.bind_some]
          cases x.all fun v => decide (-1 ≤ v) && decide (v ≤ (p.Next.length : Int) - 1)
          · rfl
          · unfold m_spec_l10Is_A1
            simp only [cond_true]
            rw [w64_succ (by omega)]; rfl
        · rw [decide_eq_false h4, decide_eq_false (show ¬ (x.length : Int) = 4 by omega)]; rfl)
      (fun r => by unfold m_spec_l10Is_L0; rw [dec_self]; rfl) ()
    rw [forL_all (rowOK p.Next.length) _ _ (fun n x _ => rfl)] at h
    rw [Bool.not_true, cond_false, show (0 : Int) = ((0 : Nat) : Int) from rfl, h, Option.bind_some, Bool.true_and]
    cases p.Next.all (rowOK p.Next.length) <;> rfl
theorem impl_all {xs : List Int} {a b : Int} : m_impl_allWithin xs a b = some (xs.all fun x => decide (a ≤ x) && decide (x ≤ b)) := by
  unfold m_impl_allWithin
  rw [forL_all (fun x => decide (a ≤ x) && decide (x ≤ b)) (f := .inr false) xs 0 (fun n x _ => by
    unfold m_impl_allWithin_L0 m_impl_within
    rw [Option.bind_some]
    cases (decide (a ≤ x) && decide (x ≤ b)) <;> rfl), Option.bind_some]
  cases xs.all fun x => decide (a ≤ x) && decide (x ≤ b) <;> rfl
theorem impl_vP {p : Policy} : m_impl_ValidPolicy p = some (vP p) := by
  unfold m_impl_ValidPolicy m_impl_size m_impl_within vP
  rw [Option.bind_some, Option.bind_some, dec_leI, dec_le12]
  cases h0 : decide (1 ≤ p.Next.length) && decide (p.Next.length ≤ 12) with
  | false => rfl
  | true =>
    simp only [Bool.and_eq_true, decide_eq_true_eq] at h0
    rw [Bool.not_true, cond_false, forL_all (rowOK p.Next.length) (f := .inr false) p.Next 0 (fun n x _ => by
      unfold m_impl_ValidPolicy_L0 rowOK
      by_cases h4 : x.length = 4
      · rw [decide_eq_true h4, decide_eq_true (show (x.length : Int) = 4 by omega), Bool.not_true, cond_false, impl_all, Option.bind_some, w64_eq (n := (p.Next.length : Int) - 1) (by omega), Bool.true_and]
        cases x.all fun v => decide (-1 ≤ v) && decide (v ≤ (p.Next.length : Int) - 1) <;> rfl
      · rw [decide_eq_false h4, decide_eq_false (show ¬ (x.length : Int) = 4 by omega)]; rfl), Option.bind_some, Bool.true_and]
    cases p.Next.all (rowOK p.Next.length) <;> rfl
def Edge (p : Policy) (a b : Int) : Prop := ∃ row, 0 ≤ a ∧ p.Next[a.toNat]? = some row ∧ b ∈ row ∧ 0 ≤ b
inductive Reach (p : Policy) : Int → Prop where
  | zero : Reach p 0
  | step {a b : Int} : Reach p a → Edge p a b → Reach p b
theorem Edge.rng {p : Policy} (hv : vP p = true) {a b : Int} (h : Edge p a b) : 0 ≤ b ∧ b < p.Next.length := by
  obtain ⟨row, _, h1, h2, h3⟩ := h
  have := (vP_row hv (List.mem_of_getElem? h1)).2 b h2
  omega
theorem Reach.rng {p : Policy} (hv : vP p = true) {a : Int} (h : Reach p a) : 0 ≤ a ∧ a < p.Next.length := by
  cases h with
  | zero => have := vP_len hv; omega
  | step _ e => exact e.rng hv
theorem nodup_len : ∀ (n : Nat) (xs : List Int), xs.Nodup → (∀ x ∈ xs, 0 ≤ x ∧ x < n) → xs.length ≤ n := by
  intro n
  induction n with
  | zero =>
    intro xs _ h
    cases xs with
    | nil => exact Nat.le_refl 0
    | cons x r => have := h x (by simp); omega
  | succ n ih =>
    intro xs hn h
    have h1 := ih (xs.erase (n : Int)) (hn.erase _) (fun x hx => by
      rw [hn.mem_erase_iff] at hx
      have := h x hx.2
      have h2 := hx.1
      omega)
    rw [List.length_erase] at h1
    split at h1 <;> omega
structure Ord (p : Policy) (L : List Int) (i : Nat) : Prop where
  nd : L.Nodup
  rc : ∀ v ∈ L, Reach p v
  z : 0 ∈ L
  cl : ∀ (j : Nat) a b, j < i → L[j]? = some a → Edge p a b → b ∈ L
theorem Ord.len {p : Policy} (hv : vP p = true) {L : List Int} {i : Nat} (h : Ord p L i) : L.length ≤ p.Next.length := nodup_len _ _ h.nd (fun x hx => (h.rc x hx).rng hv)
def On (s : List Bool) (a : Int) : Prop := 0 ≤ a ∧ s[a.toNat]? = some true
structure Seen (p : Policy) (s : List Bool) : Prop where
  len : s.length = p.Next.length
  rc : ∀ a, On s a → Reach p a
theorem On.set {s : List Bool} {b : Int} (h0 : 0 ≤ b) (hb : b < s.length) {a : Int} : On (s.set b.toNat true) a ↔ On s a ∨ a = b := by
  unfold On
  rw [List.getElem?_set]
  by_cases e : b.toNat = a.toNat
  · rw [if_pos e, if_pos (by omega)]
    constructor
    · rintro ⟨h1, _⟩; exact .inr (by omega)
    · rintro (⟨h1, _⟩ | rfl)
      · exact ⟨h1, rfl⟩
      · exact ⟨h0, rfl⟩
  · rw [if_neg e]
    constructor
    · exact fun h => .inl h
    · rintro (h | rfl)
      · exact h
      · exact absurd rfl e
end Go.Mod

namespace Go.Mod
open Go.AM
set_option linter.unusedVariables false
def Mt (R : Nat → Nat → Prop) : Option Nat → Option Nat → Prop
  | none, none => True
  | some x, some y => R x y
  | _, _ => False
theorem Mt.mono {R R' : Nat → Nat → Prop} (h : ∀ x y, R x y → R' x y) {a b : Option Nat} (m : Mt R a b) : Mt R' a b := by
  cases a <;> cases b <;> simp only [Mt] at * <;> first | exact h _ _ m | exact m
def Rr (δ : Nat → Nat → Option Nat) : Nat → Nat → Nat → Prop
  | 0, _, _ => True
  | r + 1, a, b => Rr δ r a b ∧ ∀ e, e < 4 → Mt (Rr δ r) (δ a e) (δ b e)
section
variable {δ : Nat → Nat → Option Nat}
theorem Rr.refl : ∀ (r a : Nat), Rr δ r a a
  | 0, _ => trivial
  | r + 1, a => ⟨Rr.refl r a, fun e _ => by cases δ a e with | none => trivial | some x => exact Rr.refl r x⟩
theorem Rr.symm : ∀ {r a b : Nat}, Rr δ r a b → Rr δ r b a
  | 0, _, _, _ => trivial
  | r + 1, a, b, h => ⟨Rr.symm h.1, fun e he => by
    have := h.2 e he
    cases h1 : δ a e <;> cases h2 : δ b e <;> rw [h1, h2] at this <;> simp only [Mt] at * <;> exact Rr.symm this⟩
theorem Rr.trans : ∀ {r a b c : Nat}, Rr δ r a b → Rr δ r b c → Rr δ r a c
  | 0, _, _, _, _, _ => trivial
  | r + 1, a, b, c, h, g => ⟨Rr.trans h.1 g.1, fun e he => by
    have h1 := h.2 e he
    have g1 := g.2 e he
    cases x : δ a e <;> cases y : δ b e <;> cases z : δ c e <;> rw [x, y] at h1 <;> rw [y, z] at g1 <;> simp only [Mt] at * <;> first | exact Rr.trans h1 g1 | trivial⟩
theorem Rr.le {r m a b : Nat} (hm : r ≤ m) (h : Rr δ m a b) : Rr δ r a b := by
  induction hm with
  | refl => exact h
  | step _ ih => exact ih h.1
def Stab4 (δ : Nat → Nat → Option Nat) (n r : Nat) : Prop := ∀ a b, a < n → b < n → Rr δ r a b → Rr δ (r + 1) a b
def Clo (δ : Nat → Nat → Option Nat) (n : Nat) : Prop := ∀ a e x, a < n → e < 4 → δ a e = some x → x < n
theorem Stab4.all {n r : Nat} (hc : Clo δ n) (h : Stab4 δ n r) : ∀ (m : Nat) a b, a < n → b < n → Rr δ r a b → Rr δ (r + m) a b
  | 0, _, _, _, _, h1 => h1
  | m + 1, a, b, ha, hb, h1 => ⟨h.all hc m a b ha hb h1, fun e he => by
    have := (h a b ha hb h1).2 e he
    cases x : δ a e <;> cases y : δ b e <;> rw [x, y] at this <;> simp only [Mt] at *
    exact h.all hc m _ _ (hc _ _ _ ha he x) (hc _ _ _ hb he y) this⟩
def Ra (δ : Nat → Nat → Option Nat) (a b : Nat) : Prop := ∀ r, Rr δ r a b
theorem Stab4.ra {n r : Nat} (hc : Clo δ n) (h : Stab4 δ n r) {a b : Nat} (ha : a < n) (hb : b < n) : Rr δ r a b ↔ Ra δ a b :=
  ⟨fun h1 m => (h.all hc m a b ha hb h1).le (by omega), fun h1 => h1 r⟩
theorem Ra.step {a b : Nat} (h : Ra δ a b) {e : Nat} (he : e < 4) : Mt (Ra δ) (δ a e) (δ b e) := by
  have h1 := fun r => (h (r + 1)).2 e he
  cases x : δ a e <;> cases y : δ b e
  · trivial
  · have := h1 0; rw [x, y] at this; exact this
  · have := h1 0; rw [x, y] at this; exact this
  · exact fun r => by have := h1 r; rw [x, y] at this; exact this
end
structure Num (R : Nat → Nat → Prop) (n : Nat) (f : List Int) (c : Nat) : Prop where
  len : f.length = n
  rng : ∀ (a : Nat) v, f[a]? = some v → 0 ≤ v ∧ v < c
  eqv : ∀ (a b : Nat) v w, f[a]? = some v → f[b]? = some w → (v = w ↔ R a b)
  sur : ∀ i : Nat, i < c → ∃ a : Nat, f[a]? = some (i : Int)
theorem Num.at {R : Nat → Nat → Prop} {n c : Nat} {f : List Int} (h : Num R n f c) {a : Nat} (ha : a < n) : ∃ v, f[a]? = some v ∧ 0 ≤ v ∧ v < c := by
  have ha' : a < f.length := by rw [h.len]; exact ha
  exact ⟨f[a], List.getElem?_eq_getElem ha', h.rng a _ (List.getElem?_eq_getElem ha')⟩
theorem nodup_int : ∀ (n : Nat) (xs : List Int), xs.Nodup → (∀ x ∈ xs, 0 ≤ x ∧ x < n) → xs.length ≤ n := by
  intro n
  induction n with
  | zero =>
    intro xs _ h
    cases xs with
    | nil => exact Nat.le_refl _
    | cons x r => have := h x (by simp); omega
  | succ n ih =>
    intro xs hn h
    by_cases hm : (n : Int) ∈ xs
    · have := ih (xs.erase (n : Int)) (hn.erase _) (fun x hx => by
        obtain ⟨h1, h2⟩ := hn.mem_erase_iff.1 hx
        have := h x h2
        omega)
      rw [List.length_erase_of_mem hm] at this
      omega
    · have := ih xs hn (fun x hx => by
        have := h x hx
        have : x ≠ n := fun e => hm (e ▸ hx)
        omega)
      omega
theorem Num.pick {R : Nat → Nat → Prop} {n c : Nat} {f : List Int} (h : Num R n f c) : ∀ k : Nat, k ≤ c → ∃ s : List Nat, s.length = k ∧ ∀ (i : Nat) a, s[i]? = some a → f[a]? = some (i : Int)
  | 0, _ => ⟨[], rfl, fun i a hi => by simp at hi⟩
  | k + 1, hk => by
    obtain ⟨s, h1, h2⟩ := h.pick k (by omega)
    obtain ⟨a, ha⟩ := h.sur k (by omega)
    refine ⟨s ++ [a], by simp [h1], fun i b hi => ?_⟩
    rcases Nat.lt_or_ge i s.length with hlt | hge
    · rw [List.getElem?_append_left hlt] at hi; exact h2 i b hi
    · rw [List.getElem?_append_right hge] at hi
      have : i - s.length = 0 := by
        rcases Nat.eq_zero_or_pos (i - s.length) with h | h
        · exact h
        · rw [List.getElem?_eq_none (by simp; omega)] at hi; cases hi
      rw [this] at hi
      simp at hi
      subst hi
      rw [show i = k by omega]; exact ha
theorem Num.val {R : Nat → Nat → Prop} {n c : Nat} {f : List Int} (h : Num R n f c) {a : Nat} {v : Int} (ha : f[a]? = some v) : a < n := by
  rw [← h.len]; exact (List.getElem?_eq_some_iff.1 ha).1
theorem Num.le {R R' : Nat → Nat → Prop} {n c c' : Nat} {f f' : List Int} (h : Num R n f c) (h' : Num R' n f' c') (hs : ∀ a b, a < n → b < n → R' a b → R a b) : c ≤ c' := by
  obtain ⟨s, h1, h2⟩ := h.pick c (Nat.le_refl _)
  have key := nodup_int c' (s.map fun a => (f'[a]?).getD (-1)) ?_ ?_
  · simpa [h1] using key
  · refine List.pairwise_map.2 (List.pairwise_iff_getElem.2 fun i j hi hj hij e => ?_)
    have a1 := h2 i _ (List.getElem?_eq_getElem hi)
    have a2 := h2 j _ (List.getElem?_eq_getElem hj)
    obtain ⟨v, hv, _⟩ := h'.at (h.val a1)
    obtain ⟨w, hw, _⟩ := h'.at (h.val a2)
    rw [hv, hw] at e
    have := (h.eqv _ _ _ _ a1 a2).2 (hs _ _ (h.val a1) (h.val a2) ((h'.eqv _ _ _ _ hv hw).1 e))
    omega
  · intro x hx
    obtain ⟨a, ha, rfl⟩ := List.mem_map.1 hx
    obtain ⟨i, hi, rfl⟩ := List.getElem_of_mem ha
    have a1 := h2 i _ (List.getElem?_eq_getElem hi)
    obtain ⟨v, hv, h3⟩ := h'.at (h.val a1)
    rw [hv]; exact h3
theorem Num.same {R R' : Nat → Nat → Prop} {n c : Nat} {f f' : List Int} (h : Num R n f c) (h' : Num R' n f' c) (hs : ∀ a b, a < n → b < n → R' a b → R a b) : ∀ a b, a < n → b < n → R a b → R' a b := by
  intro a b ha hb hab
  obtain ⟨va, fa, ra⟩ := h.at ha
  obtain ⟨vb, fb, rb⟩ := h.at hb
  obtain ⟨wa, ga, sa⟩ := h'.at ha
  obtain ⟨wb, gb, sb⟩ := h'.at hb
  refine (h'.eqv _ _ _ _ ga gb).1 (Classical.byContradiction fun hne => ?_)
  have hv : va = vb := (h.eqv _ _ _ _ fa fb).2 hab
  subst hv
  obtain ⟨s, h1, h2⟩ := h.pick c (Nat.le_refl _)
  -- in the class of both, the first of them
  have hk : va.toNat < s.length := by omega
  have key := nodup_int c (wb :: (s.set va.toNat a).map fun x => (f'[x]?).getD (-1)) ?_ ?_
  · simp [h1] at key
    omega
  · have hset : ∀ (i : Nat) x, (s.set va.toNat a)[i]? = some x → f[x]? = some (i : Int) := by
      intro i x hx
      rw [List.getElem?_set] at hx
      split at hx
      · rename_i hi
        obtain rfl : a = x := by simpa [hk] using hx
        rw [fa]; congr 1; omega
      · exact h2 i x hx
    refine List.nodup_cons.2 ⟨fun hm => ?_, List.pairwise_map.2 (List.pairwise_iff_getElem.2 fun i j hi hj hij e => ?_)⟩
    · obtain ⟨x, hx, e⟩ := List.mem_map.1 hm
      obtain ⟨i, hi, rfl⟩ := List.getElem_of_mem hx
      have a1 := hset i _ (List.getElem?_eq_getElem hi)
      obtain ⟨v, hv, _⟩ := h'.at (h.val a1)
      rw [hv] at e
      have e : v = wb := e
      subst e
      have := (h.eqv _ _ _ _ a1 fb).2 (hs _ _ (h.val a1) hb ((h'.eqv _ _ _ _ hv gb).1 rfl))
      have hi2 : i = va.toNat := by omega
      have hx : (s.set va.toNat a)[i]? = some a := by rw [hi2, List.getElem?_set_self hk]
      rw [List.getElem?_eq_getElem hi] at hx
      have hx := Option.some.inj hx
      rw [hx, ga] at hv
      exact hne (Option.some.inj hv)
    · have a1 := hset i _ (List.getElem?_eq_getElem hi)
      have a2 := hset j _ (List.getElem?_eq_getElem hj)
      obtain ⟨v, hv, _⟩ := h'.at (h.val a1)
      obtain ⟨w, hw, _⟩ := h'.at (h.val a2)
      rw [hv, hw] at e
      have := (h.eqv _ _ _ _ a1 a2).2 (hs _ _ (h.val a1) (h.val a2) ((h'.eqv _ _ _ _ hv hw).1 e))
      omega
  · intro x hx
    rcases List.mem_cons.1 hx with rfl | hx
    · exact sb
    · obtain ⟨y, hy, rfl⟩ := List.mem_map.1 hx
      have hyn : y < n := by
        rcases List.mem_or_eq_of_mem_set hy with hy | rfl
        · obtain ⟨i, hi, rfl⟩ := List.getElem_of_mem hy
          exact h.val (h2 i _ (List.getElem?_eq_getElem hi))
        · exact ha
      obtain ⟨v, hv, h3⟩ := h'.at hyn
      rw [hv]; exact h3
theorem Num.pos {R : Nat → Nat → Prop} {n c : Nat} {f : List Int} (h : Num R n f c) (hn : 1 ≤ n) : 1 ≤ c := by
  obtain ⟨v, _, h1, h2⟩ := h.at hn
  omega
theorem Num.ex {R : Nat → Nat → Prop} (hr : ∀ a, R a a) (hs : ∀ a b, R a b → R b a) (ht : ∀ a b c, R a b → R b c → R a c) : ∀ n, ∃ f c, Num R n f c
  | 0 => ⟨[], 0, rfl, fun a v h => by simp at h, fun a b v w h => by simp at h, fun i hi => by omega⟩
  | n + 1 => by
    obtain ⟨f, c, h⟩ := Num.ex hr hs ht n
    by_cases hx : ∃ a, a < n ∧ R a n
    · obtain ⟨a, ha, hr1⟩ := hx
      obtain ⟨v, hv, h0, h1⟩ := h.at ha
      have hget : ∀ (i : Nat) w, (f ++ [v])[i]? = some w → (i < n ∧ f[i]? = some w) ∨ (i = n ∧ w = v) := by
        intro i w hi
        rcases Nat.lt_or_ge i f.length with hlt | hge
        · rw [List.getElem?_append_left hlt] at hi; exact .inl ⟨by rw [← h.len]; exact hlt, hi⟩
        · rw [List.getElem?_append_right hge] at hi
          have h0 : i - f.length = 0 := by
            rcases Nat.eq_zero_or_pos (i - f.length) with h | h
            · exact h
            · rw [List.getElem?_eq_none (by simp; omega)] at hi; cases hi
          rw [h0] at hi
          simp at hi
          exact .inr ⟨by have := h.len; omega, hi.symm⟩
      refine ⟨f ++ [v], c, by simp [h.len], fun i w hi => ?_, fun i j u w hi hj => ?_, fun i hi => ?_⟩
      · rcases hget i w hi with ⟨_, hi⟩ | ⟨_, rfl⟩
        · exact h.rng _ _ hi
        · exact ⟨h0, h1⟩
      · rcases hget i u hi with ⟨_, hi2⟩ | ⟨rfl, rfl⟩ <;> rcases hget j w hj with ⟨_, hj2⟩ | ⟨rfl, rfl⟩
        · exact h.eqv _ _ _ _ hi2 hj2
        · rw [h.eqv _ _ _ _ hi2 hv]
          exact ⟨fun g => ht _ _ _ g hr1, fun g => ht _ _ _ g (hs _ _ hr1)⟩
        · rw [h.eqv _ _ _ _ hv hj2]
          exact ⟨fun g => ht _ _ _ (hs _ _ hr1) g, fun g => ht _ _ _ hr1 g⟩
        · exact ⟨fun _ => hr _, fun _ => rfl⟩
      · obtain ⟨b, hb⟩ := h.sur i hi
        exact ⟨b, by rw [List.getElem?_append_left (by rw [h.len]; exact h.val hb)]; exact hb⟩
    · have hget : ∀ (i : Nat) w, (f ++ [(c : Int)])[i]? = some w → (i < n ∧ f[i]? = some w) ∨ (i = n ∧ w = c) := by
        intro i w hi
        rcases Nat.lt_or_ge i f.length with hlt | hge
        · rw [List.getElem?_append_left hlt] at hi; exact .inl ⟨by rw [← h.len]; exact hlt, hi⟩
        · rw [List.getElem?_append_right hge] at hi
          have h0 : i - f.length = 0 := by
            rcases Nat.eq_zero_or_pos (i - f.length) with h | h
            · exact h
            · rw [List.getElem?_eq_none (by simp; omega)] at hi; cases hi
          rw [h0] at hi
          simp at hi
          exact .inr ⟨by have := h.len; omega, hi.symm⟩
      refine ⟨f ++ [(c : Int)], c + 1, by simp [h.len], fun i w hi => ?_, fun i j u w hi hj => ?_, fun i hi => ?_⟩
      · rcases hget i w hi with ⟨_, hi⟩ | ⟨_, rfl⟩
        · have := h.rng _ _ hi; omega
        · omega
      · rcases hget i u hi with ⟨hi', hi2⟩ | ⟨rfl, rfl⟩ <;> rcases hget j w hj with ⟨hj', hj2⟩ | ⟨rfl, rfl⟩
        · exact h.eqv _ _ _ _ hi2 hj2
        · have := h.rng _ _ hi2
          exact ⟨fun g => by omega, fun g => absurd ⟨i, hi', g⟩ hx⟩
        · have := h.rng _ _ hj2
          exact ⟨fun g => by omega, fun g => absurd ⟨j, hj', hs _ _ g⟩ hx⟩
        · exact ⟨fun _ => hr _, fun _ => rfl⟩
      · rcases Nat.lt_or_ge i c with hlt | hge
        · obtain ⟨b, hb⟩ := h.sur i hlt
          exact ⟨b, by rw [List.getElem?_append_left (by rw [h.len]; exact h.val hb)]; exact hb⟩
        · refine ⟨n, ?_⟩
          rw [List.getElem?_append_right (by rw [h.len]; omega), h.len, Nat.sub_self]
          simp; omega
section
variable {δ : Nat → Nat → Option Nat} {n : Nat}
theorem Rr.num (r : Nat) : ∃ f c, Num (Rr δ r) n f c := Num.ex (Rr.refl r) (fun _ _ h => h.symm) (fun _ _ _ h g => h.trans g) n
end
def hop {K : Type} [DecidableEq K] (cl : Nat → K) (L : List Nat) (row : List Int) : Option Nat → List Nat × List Int
  | none => (L, row ++ [-1])
  | some x => match kfind (cl x) (L.map cl) with
    | some j => (L, row ++ [(j : Int)])
    | none => (L ++ [x], row ++ [(L.length : Int)])
def hops {K : Type} [DecidableEq K] (δ : Nat → Nat → Option Nat) (cl : Nat → K) (s : Nat) : Nat → Nat → List Nat → List Int → List Nat × List Int
  | 0, _, L, row => (L, row)
  | k + 1, e, L, row => let p := hop cl L row (δ s e); hops δ cl s k (e + 1) p.1 p.2
inductive Bfs {K : Type} [DecidableEq K] (δ : Nat → Nat → Option Nat) (cl : Nat → K) : Nat → List Nat → List (List Int) → List Nat → List (List Int) → Prop
  | done {i : Nat} {L : List Nat} {out : List (List Int)} : L.length ≤ i → Bfs δ cl i L out L out
  | step {i s : Nat} {L Lf : List Nat} {out res : List (List Int)} : L[i]? = some s → Bfs δ cl (i + 1) (hops δ cl s 4 0 L []).1 (out ++ [(hops δ cl s 4 0 L []).2]) Lf res → Bfs δ cl i L out Lf res
section
variable {K K' : Type} [DecidableEq K] [DecidableEq K'] {δ δ' : Nat → Nat → Option Nat} {cl : Nat → K} {cl' : Nat → K'} {ι : Nat → Nat} {n : Nat}
end
end Go.Mod

namespace Go.Mod
open Go.AM
set_option linter.unusedVariables false
set_option linter.unusedSimpArgs false
abbrev nm (v : Int) : List UInt8 := Go.Lib.itoa v
theorem nm_nat (n : Nat) : nm (n : Int) = Go.Lib.decDigits n := by unfold nm Go.Lib.itoa; rw [if_neg (by omega)]; simp
theorem digit_val {d : Nat} (h : d < 10) : (UInt8.ofNat (48 + d)).toNat = 48 + d := by simp [UInt8.toNat_ofNat]; omega
theorem dd_digits : ∀ (u : Nat), ∀ b ∈ Go.Lib.decDigits u, 48 ≤ b.toNat ∧ b.toNat ≤ 57 := by
  intro u
  induction u using Nat.strongRecOn with
  | _ u ih =>
    intro b hb
    rw [Go.Lib.decDigits] at hb
    by_cases h : u < 10
    · rw [dif_pos h] at hb
      simp only [List.mem_singleton] at hb
      subst hb; rw [digit_val h]; omega
    · rw [dif_neg h] at hb
      rcases List.mem_append.1 hb with hb | hb
      · exact ih (u / 10) (by omega) b hb
      · simp only [List.mem_singleton] at hb
        subst hb; rw [digit_val (by omega)]; omega
theorem dd_len : ∀ (k u : Nat), u < 10 ^ (k + 1) → (Go.Lib.decDigits u).length ≤ k + 1
  | 0, u, h => by rw [Go.Lib.decDigits, dif_pos (by omega)]; simp
  | k + 1, u, h => by
    rw [Go.Lib.decDigits]
    by_cases g : u < 10
    · rw [dif_pos g]; simp
    · rw [dif_neg g]
      have := dd_len k (u / 10) (by rw [Nat.pow_succ] at h; omega)
      simp; omega
theorem impl_dec {v : Int} (h0 : -9223372036854775808 ≤ v) (h1 : v ≤ 9223372036854775807) : m_impl_Decimal v = some (nm v) := by
  unfold m_impl_Decimal m_strconv_FormatInt
  rw [decide_eq_true rfl, decide_eq_true h0, decide_eq_true h1]
  rfl
def cel (f : List Int) (v : Int) : List UInt8 := 44 :: (if v < 0 then [120] else nm ((f[v.toNat]?).getD 0))
def keyOf (f : List Int) (x : Int) (row : List Int) : List UInt8 := nm x ++ (row.map (cel f)).flatten
theorem nm_len {v : Int} (h0 : 0 ≤ v) (h1 : v < 1000) : (nm v).length ≤ 3 := by
  obtain ⟨n, rfl⟩ : ∃ n : Nat, v = n := ⟨v.toNat, by omega⟩
  rw [nm_nat]; exact dd_len 2 n (by omega)
end Go.Mod

namespace Go.Mod
open Go.AM
set_option linter.unusedVariables false
set_option linter.unusedSimpArgs false
structure GOK (g : List (List Int)) : Prop where
  pos : 1 ≤ g.length
  le : g.length ≤ 200
  row : ∀ x ∈ g, x.length = 4 ∧ ∀ v ∈ x, -1 ≤ v ∧ v < g.length
def dl (g : List (List Int)) (a e : Nat) : Option Nat := (g[a]?).bind fun x => (x[e]?).bind fun v => if v < 0 then none else some v.toNat
theorem kfind_app {K : Type} [DecidableEq K] {x q : K} : ∀ (ks : List K), kfind q (ks ++ [x]) = match kfind q ks with | some i => some i | none => if x = q then some ks.length else none
  | [] => by simp [kfind]
  | a :: r => by
    simp only [List.cons_append, kfind]
    by_cases h : a = q
    · simp [h]
    · rw [if_neg h, if_neg h, kfind_app r]
      cases kfind q r with
      | some i => rfl
      | none => by_cases h2 : x = q <;> simp [h2]
theorem mget_put {K V : Type} [DecidableEq K] {v : V} {k q : K} : ∀ (m : List (K × V)), mget (mput m k v) q = if k = q then some v else mget m q := by
  intro m
  induction m with
  | nil => unfold mput; simp only [mget]
  | cons x r ih =>
    obtain ⟨a, b⟩ := x
    unfold mput
    by_cases ha : a = k
    · subst ha
      rw [if_pos rfl]
      simp only [mget]
      by_cases hq : a = q
      · rw [if_pos hq, if_pos hq]
      · rw [if_neg hq, if_neg hq, if_neg hq]
    · rw [if_neg ha]
      simp only [mget]
      by_cases hq : a = q
      · rw [if_pos hq, if_pos hq, if_neg (fun h => ha (hq.trans h.symm))]
      · rw [if_neg hq, if_neg hq]; exact ih
structure Enum {K : Type} [DecidableEq K] (M : List (K × Int)) (ks : List K) : Prop where
  keys : M.map (·.1) = ks
  get : ∀ q, mget M q = (kfind q ks).map fun i : Nat => (i : Int)
theorem Enum.len {K : Type} [DecidableEq K] {M : List (K × Int)} {ks : List K} (h : Enum M ks) : M.length = ks.length := by rw [← h.keys, List.length_map]
theorem Enum.nil {K : Type} [DecidableEq K] : Enum ([] : List (K × Int)) [] := ⟨rfl, fun q => rfl⟩
theorem Enum.add {K : Type} [DecidableEq K] {M : List (K × Int)} {ks : List K} (h : Enum M ks) {x : K} (hx : kfind x ks = none) : Enum (mput M x (ks.length : Int)) (ks ++ [x]) := by
  refine ⟨?_, fun q => ?_⟩
  · rw [mput_none (by rw [h.keys]; exact hx), List.map_append, h.keys]; rfl
  · rw [mget_put, kfind_app, h.get]
    by_cases e : x = q
    · subst e; simp [hx]
    · rw [if_neg e]
      cases kfind q ks with
      | some i => rfl
      | none => simp only [if_neg e]
section
variable {g : List (List Int)} (hg : GOK g)
def ky (g : List (List Int)) (f : List Int) (a : Nat) : List UInt8 := keyOf f ((f[a]?).getD 0) ((g[a]?).getD [])
include hg in
structure Mid (g : List (List Int)) (f : List Int) (k : Nat) (s : (List ((List UInt8) × Int)) × (List Int)) (ks : List (List UInt8)) : Prop where
  len : s.2.length = g.length
  en : Enum s.1 ks
  le : ks.length ≤ k
  num : ∀ a, a < k → ∃ j, kfind (ky g f a) ks = some j ∧ s.2[a]? = some (j : Int)
  sur : ∀ j, j < ks.length → ∃ a, a < k ∧ s.2[a]? = some (j : Int)
include hg in
include hg in
include hg in
end
end Go.Mod

namespace Go.Mod
open Go.AM
set_option linter.unusedVariables false
set_option linter.unusedSimpArgs false
section
variable {K : Type} [DecidableEq K]
end
theorem nodup_nat {n : Nat} {l : List Nat} (h : l.Nodup) (hl : ∀ x ∈ l, x < n) : l.length ≤ n := by
  have := nodup_int n (l.map fun i : Nat => (i : Int)) (List.pairwise_map.2 (List.Pairwise.imp (fun {a b} h e => h (by omega)) h)) (fun x hx => by
    obtain ⟨y, hy, rfl⟩ := List.mem_map.1 hx
    have := hl y hy; omega)
  simpa using this
theorem kfind_none {K : Type} [DecidableEq K] {q : K} : ∀ {ks : List K}, kfind q ks = none → q ∉ ks
  | [], _ => by simp
  | a :: r, h => by
    unfold kfind at h
    by_cases e : a = q
    · rw [if_pos e] at h; cases h
    · rw [if_neg e] at h
      have := kfind_none (ks := r) (by cases hr : kfind q r with | none => rfl | some j => rw [hr] at h; cases h)
      simp only [List.mem_cons, not_or]
      exact ⟨fun h => e h.symm, this⟩
structure Met {K : Type} (cl : Nat → K) (n : Nat) (L : List Nat) : Prop where
  nd : (L.map cl).Nodup
  lt : ∀ x ∈ L, x < n
theorem Met.len {K : Type} {cl : Nat → K} {n : Nat} {L : List Nat} (h : Met cl n L) : L.length ≤ n := nodup_nat (List.Pairwise.imp (fun {a b} h e => h (by rw [e])) (List.pairwise_map.1 h.nd)) h.lt
section
variable {K : Type} [DecidableEq K] {bz : Nat} {nx : K → Int → Option (K × Bool)} {δ : Nat → Nat → Option Nat} {cl : Nat → K} {n : Nat}
theorem Met.hop {L : List Nat} {row : List Int} {o : Option Nat} (h : Met cl n L) (ho : ∀ x, o = some x → x < n) : Met cl n (hop cl L row o).1 := by
  unfold Mod.hop
  cases o with
  | none => exact h
  | some x =>
    cases hk : kfind (cl x) (L.map cl) with
    | some j => simp only [hk]; exact h
    | none =>
      simp only [hk]
      refine ⟨?_, fun y hy => ?_⟩
      · rw [List.map_append]
        refine List.nodup_append.2 ⟨h.nd, by simp, fun a ha b hb e => ?_⟩
        simp at hb
        subst hb; subst e
        exact kfind_none hk ha
      · rcases List.mem_append.1 hy with hy | hy
        · exact h.lt y hy
        · simp at hy; subst hy; exact ho _ rfl
theorem hop_pre {L : List Nat} {row : List Int} {o : Option Nat} : ∃ M, (hop cl L row o).1 = L ++ M := by
  unfold hop
  cases o with
  | none => exact ⟨[], by simp⟩
  | some x =>
    cases hk : kfind (cl x) (L.map cl) with
    | some j => exact ⟨[], by simp [hk]⟩
    | none => exact ⟨[x], by simp [hk]⟩
theorem hop_row {L : List Nat} {row : List Int} {o : Option Nat} : (hop cl L row o).2.length = row.length + 1 := by
  unfold hop
  cases o with
  | none => simp
  | some x => cases hk : kfind (cl x) (L.map cl) <;> simp [hk]
theorem hops_pre (s : Nat) : ∀ (k e : Nat) (L : List Nat) (row : List Int), ∃ M, (hops δ cl s k e L row).1 = L ++ M
  | 0, _, _, _ => ⟨[], by simp [hops]⟩
  | k + 1, e, L, row => by
    obtain ⟨M, h⟩ := hop_pre (cl := cl) (L := L) (row := row) (o := δ s e)
    obtain ⟨M', h'⟩ := hops_pre s k (e + 1) (hop cl L row (δ s e)).1 (hop cl L row (δ s e)).2
    exact ⟨M ++ M', by simp only [hops]; rw [h', h, List.append_assoc]⟩
theorem hops_row (s : Nat) : ∀ (k e : Nat) (L : List Nat) (row : List Int), (hops δ cl s k e L row).2.length = row.length + k
  | 0, _, _, _ => by simp [hops]
  | k + 1, e, L, row => by simp only [hops]; rw [hops_row s k, hop_row]; omega
def Nx (δ : Nat → Nat → Option Nat) (cl : Nat → K) (n : Nat) (nx : K → Int → Option (K × Bool)) : Prop :=
  ∀ s e, s < n → e < 4 → match δ s e with | none => ∃ k, nx (cl s) (e : Int) = some (k, false) | some x => nx (cl s) (e : Int) = some (cl x, true)
variable (hc : Clo δ n) (hn : n ≤ 200) (hb : bz ≤ 1000) (hx : Nx δ cl n nx)
include hc hn hb hx
end
section
variable {g : List (List Int)} (hg : GOK g)
include hg in
end
end Go.Mod

namespace Go.Mod
open Go.AM
set_option linter.unusedVariables false
set_option linter.unusedSimpArgs false
structure Mk2 (R : Nat → Nat → Prop) (n : Nat) (f : List Int) : Prop where
  len : f.length = n
  rng : ∀ (a : Nat) v, f[a]? = some v → 0 ≤ v ∧ v < 200
  eqv : ∀ (a b : Nat) v w, f[a]? = some v → f[b]? = some w → (v = w ↔ R a b)
theorem Mk2.at {R : Nat → Nat → Prop} {n : Nat} {f : List Int} (h : Mk2 R n f) {a : Nat} (ha : a < n) : ∃ v, f[a]? = some v ∧ 0 ≤ v ∧ v < 200 := by
  have ha' : a < f.length := by rw [h.len]; exact ha
  exact ⟨f[a], List.getElem?_eq_getElem ha', h.rng a _ (List.getElem?_eq_getElem ha')⟩
section
variable {p : Policy} (hg : GOK p.Next)
include hg in
theorem cell_at {a e : Nat} (ha : a < p.Next.length) (he : e < 4) : ∃ x v, p.Next[a]? = some x ∧ x[e]? = some v ∧ -1 ≤ v ∧ v < p.Next.length ∧ dl p.Next a e = if v < 0 then none else some v.toNat := by
  obtain ⟨h4, hv⟩ := hg.row _ (List.getElem_mem ha)
  have hx : e < p.Next[a].length := by omega
  have hb := hv _ (List.getElem_mem hx)
  refine ⟨p.Next[a], p.Next[a][e], List.getElem?_eq_getElem ha, List.getElem?_eq_getElem hx, hb.1, hb.2, ?_⟩
  unfold dl
  rw [List.getElem?_eq_getElem ha, Option.bind_some, List.getElem?_eq_getElem hx, Option.bind_some]
include hg in
structure Mid2 (R : Nat → Nat → Prop) (i : Nat) (nx : List Int) : Prop where
  len : nx.length = i
  rng : ∀ (a : Nat) v, nx[a]? = some v → 0 ≤ v ∧ v ≤ a
  eqv : ∀ (a b : Nat) v w, nx[a]? = some v → nx[b]? = some w → (v = w ↔ R a b)
theorem Mid2.add {δ : Nat → Nat → Option Nat} {r i : Nat} {nx : List Int} {v : Int} (h : Mid2 (Rr δ r) i nx) (hv : (v = i ∧ ∀ k, k < i → ¬ Rr δ r k i) ∨ ∃ k, k < i ∧ Rr δ r k i ∧ nx[k]? = some v) : Mid2 (Rr δ r) (i + 1) (nx ++ [v]) := by
  have hget : ∀ (a : Nat) w, (nx ++ [v])[a]? = some w → (a < i ∧ nx[a]? = some w) ∨ (a = i ∧ w = v) := by
    intro a w ha
    rcases Nat.lt_or_ge a nx.length with hlt | hge
    · rw [List.getElem?_append_left hlt] at ha; exact .inl ⟨by rw [← h.len]; exact hlt, ha⟩
    · rw [List.getElem?_append_right hge] at ha
      have h0 : a - nx.length = 0 := by
        rcases Nat.eq_zero_or_pos (a - nx.length) with h | h
        · exact h
        · rw [List.getElem?_eq_none (by simp; omega)] at ha; cases ha
      rw [h0] at ha
      simp at ha
      exact .inr ⟨by have := h.len; omega, ha.symm⟩
  refine ⟨by simp [h.len], fun a w ha => ?_, fun a b x w ha hb => ?_⟩
  · rcases hget a w ha with ⟨_, h2⟩ | ⟨rfl, rfl⟩
    · exact h.rng a w h2
    · rcases hv with ⟨e, _⟩ | ⟨k, hk, _, h3⟩
      · omega
      · have := h.rng k _ h3; omega
  · rcases hget a x ha with ⟨la, ha2⟩ | ⟨rfl, rfl⟩ <;> rcases hget b w hb with ⟨lb, hb2⟩ | ⟨rfl, rfl⟩
    · exact h.eqv _ _ _ _ ha2 hb2
    · rcases hv with ⟨e, hno⟩ | ⟨k, hk, hr, h3⟩
      · have := h.rng a _ ha2
        exact ⟨fun g => by omega, fun g => absurd g (hno a la)⟩
      · rw [h.eqv _ _ _ _ ha2 h3]
        exact ⟨fun g => g.trans hr, fun g => g.trans hr.symm⟩
    · rcases hv with ⟨e, hno⟩ | ⟨k, hk, hr, h3⟩
      · have := h.rng b _ hb2
        exact ⟨fun g => by omega, fun g => absurd g.symm (hno b lb)⟩
      · rw [h.eqv _ _ _ _ h3 hb2]
        exact ⟨fun g => hr.symm.trans g, fun g => hr.trans g⟩
    · exact ⟨fun _ => Rr.refl _ _, fun _ => rfl⟩
include hg in
include hg in
include hg in
end
section
variable {p : Policy} (hg : GOK p.Next) {f : List Int} (hfl : f.length = p.Next.length)
include hg hfl in
def ns (L : List Nat) : List Int := L.map fun i : Nat => (i : Int)
include hg hfl in
include hg hfl in
include hg in
end
theorem Bfs.size {K : Type} [DecidableEq K] {δ : Nat → Nat → Option Nat} {cl : Nat → K} {i : Nat} {L Lf : List Nat} {out res : List (List Int)} (h : Bfs δ cl i L out Lf res) : i ≤ L.length → out.length = i → (∀ x ∈ out, x.length = 4) → res.length = Lf.length ∧ ∀ x ∈ res, x.length = 4 := by
  induction h with
  | done hl => exact fun h1 h2 h3 => ⟨by omega, h3⟩
  | @step i s L Lf out res hs hb ih =>
    intro h1 h2 h3
    obtain ⟨T, hT⟩ := hops_pre (δ := δ) (cl := cl) s 4 0 L []
    refine ih (by rw [hT]; have := get_lt hs; simp; omega) (by simp [h2]) (fun x hx => ?_)
    rcases List.mem_append.1 hx with hx | hx
    · exact h3 x hx
    · simp at hx; subst hx; rw [hops_row]; rfl
end Go.Mod

namespace Go.Mod
open Go.AM
set_option linter.unusedVariables false
set_option linter.unusedSimpArgs false
theorem dec_step {u : Nat} {s : List UInt8} (h1 : 1 ≤ u) (h2 : u < 1000000000000000000) (hs : s.length ≤ 1000000) :
    m_spec_l01Dec_L0 (-(u : Int), s) = some (.next (-((u / 10 : Nat) : Int), UInt8.ofNat (48 + u % 10) :: s)) := by
  unfold m_spec_l01Dec_L0
  simp only
  have e1 : Int.tmod (-(u : Int)) 10 = -((u % 10 : Nat) : Int) := by rw [Int.neg_tmod]; rfl
  have e2 : Int.tdiv (-(u : Int)) 10 = -((u / 10 : Nat) : Int) := by rw [Int.neg_tdiv]; rfl
  have hm : u % 10 < 10 := Nat.mod_lt _ (by omega)
  have hd : u / 10 ≤ u := Nat.div_le_self _ _
  rw [decide_eq_true (by omega), cond_true, e1, e2, strI_some (by simp; omega), Option.bind_some]
  generalize u % 10 = d at hm
  generalize u / 10 = q at hd
  rw [w64_eq (n := 48 - -(d : Int)) (by omega), w64_eq (n := -(q : Int)) (by omega)]
  have e3 : wu 8 (48 - -(d : Int)) = ((48 + d : Nat) : Int) := by unfold wu; omega
  rw [e3]
  rfl
theorem spec_dec {v : Int} (h0 : -1000000000000000 ≤ v) (h1 : v ≤ 1000000000000000) : m_spec_l01Dec v = some (nm v) := by
  have key : ∀ u : Nat, 1 ≤ u → u ≤ 1000000000000000 → iter m_spec_l01Dec_L0 (-(u : Int), []) = some (Go.Lib.decDigits u) := by
    intro u h1 h2
    have main : ∀ (n u : Nat) (s : List UInt8), u < 10 ^ n → s.length + n ≤ 100 → 1 ≤ u → u < 1000000000000000000 → iter m_spec_l01Dec_L0 (-(u : Int), s) = some (Go.Lib.decDigits u ++ s) := by
      intro n
      induction n with
      | zero => intro u s h _ h2; simp at h; omega
      | succ n ih =>
        intro u s hn hs h1 h2
        rw [iter_next (dec_step h1 h2 (by omega)), Go.Lib.decDigits]
        by_cases h : u < 10
        · have e0 : u / 10 = 0 := by omega
          rw [dif_pos h, e0, show u % 10 = u by omega]
          exact iter_out rfl
        · rw [dif_neg h, List.append_assoc]
          exact ih (u / 10) _ (by rw [Nat.pow_succ] at hn; omega) (by simp; omega) (by omega) (by omega)
    have := main 16 u [] (by omega) (by simp) h1 (by omega)
    simpa using this
  unfold m_spec_l01Dec
  by_cases e : v = 0
  · subst e; rw [decide_eq_true rfl, cond_true]; rw [show nm 0 = Go.Lib.decDigits 0 from nm_nat 0, Go.Lib.decDigits]; rfl
  · rw [decide_eq_false e, cond_false]
    by_cases hp : 0 < v
    · obtain ⟨n, rfl⟩ : ∃ n : Nat, v = n := ⟨v.toNat, by omega⟩
      rw [decide_eq_true hp, cond_true, nm_nat, w64_eq (n := 0 - (n : Int)) (by omega), show (0 : Int) - (n : Int) = -(n : Int) by omega]
      unfold m_spec_l01Dec_J0
      rw [key n (by omega) (by omega), Option.bind_some]
      unfold m_spec_l01Dec_A0
      rw [decide_eq_false (by omega)]; rfl
    · obtain ⟨n, rfl⟩ : ∃ n : Nat, v = -(n : Int) := ⟨(-v).toNat, by omega⟩
      rw [decide_eq_false hp, cond_false]
      unfold m_spec_l01Dec_J0
      rw [key n (by omega) (by omega), Option.bind_some]
      unfold m_spec_l01Dec_A0
      have hl := dd_len 16 n (by omega)
      rw [decide_eq_true (by omega), cond_true, strI_some (by simp; omega), Option.bind_some]
      unfold nm Go.Lib.itoa
      rw [if_pos (by omega), Int.natAbs_neg, Int.natAbs_natCast]; rfl
def jn (c : UInt8) : List (List UInt8) → List UInt8
  | [] => []
  | [x] => x
  | x :: y :: r => x ++ c :: jn c (y :: r)
theorem jn_lib (c : UInt8) : ∀ (xs : List (List UInt8)), Go.Lib.join xs [c] = jn c xs
  | [] => rfl
  | [x] => Go.Lib.join_one _ _
  | x :: y :: r => by
    rw [Go.Lib.join_cons]
    have ih := jn_lib c (y :: r)
    rw [Go.Lib.join_cons] at ih
    unfold jn
    rw [← ih]
    simp [Go.Lib.joinTail]
theorem jn_snoc (c : UInt8) (y : List UInt8) : ∀ (xs : List (List UInt8)), xs ≠ [] → jn c (xs ++ [y]) = jn c xs ++ c :: y
  | [], h => absurd rfl h
  | [x], _ => rfl
  | x :: z :: r, _ => by
    have ih := jn_snoc c y (z :: r) (by simp)
    simp only [List.cons_append] at ih ⊢
    unfold jn
    rw [ih]
    simp
theorem jn_len (c : UInt8) (n : Nat) : ∀ (xs : List (List UInt8)), (∀ x ∈ xs, x.length ≤ n) → (jn c xs).length ≤ (n + 1) * xs.length
  | [], _ => by simp [jn]
  | [x], h => by have := h x (by simp); simp [jn]; omega
  | x :: y :: r, h => by
    have ih := jn_len c n (y :: r) (fun z hz => h z (by simp [hz]))
    have := h x (by simp)
    unfold jn
    simp only [List.length_append, List.length_cons] at ih ⊢
    rw [Nat.mul_add (n + 1) (r.length + 1) 1]
    omega
theorem rep_hit {old new s : List UInt8} (ho : old ≠ []) (h : old.isPrefixOf s = true) (hs : s ≠ []) :
    Go.Lib.replaceK old new (Go.Lib.count s old) s = new ++ Go.Lib.replaceK old new (Go.Lib.count (s.drop old.length) old) (s.drop old.length) := by
  have hi : Go.Lib.index s old = ((0 : Nat) : Int) := by
    cases s with
    | nil => exact absurd rfl hs
    | cons b l => unfold Go.Lib.index; rw [if_pos h]; rfl
  rw [Go.Lib.count_hit ho hi, Nat.add_comm 1, Go.Lib.replaceK_hit _ _ _ _ _ hi]
  simp
theorem rep_miss {old new : List UInt8} {b : UInt8} {l : List UInt8} (ho : old ≠ []) (h : old.isPrefixOf (b :: l) = false) :
    Go.Lib.replaceK old new (Go.Lib.count (b :: l) old) (b :: l) = b :: Go.Lib.replaceK old new (Go.Lib.count l old) l := by
  have hi : Go.Lib.index (b :: l) old = if Go.Lib.index l old == -1 then -1 else Go.Lib.index l old + 1 := by
    rw [Go.Lib.index, if_neg (by rw [h]; simp)]
  by_cases hm : Go.Lib.index l old = -1
  · rw [hm] at hi
    have hi : Go.Lib.index (b :: l) old = -1 := hi
    rw [Go.Lib.count_miss hi, Go.Lib.count_miss hm]
    rfl
  · have hge := Go.Lib.index_ge l old
    obtain ⟨i, hil⟩ : ∃ i : Nat, Go.Lib.index l old = i := ⟨(Go.Lib.index l old).toNat, by omega⟩
    rw [if_neg (by rw [beq_iff_eq]; exact hm), hil] at hi
    have hi : Go.Lib.index (b :: l) old = ((i + 1 : Nat) : Int) := by rw [hi]; omega
    rw [Go.Lib.count_hit ho hi, Go.Lib.count_hit ho hil, Nat.add_comm 1, Nat.add_comm 1, Go.Lib.replaceK_hit _ _ _ _ _ hi, Go.Lib.replaceK_hit _ _ _ _ _ hil]
    rw [show i + 1 + old.length = (i + old.length) + 1 by omega, List.drop_succ_cons, List.take_succ_cons]
    simp
def rx (s : List UInt8) : List UInt8 := Go.Lib.replaceK [45, 49] [120] (Go.Lib.count s [45, 49]) s
theorem rx_nil : rx [] = [] := by decide
theorem rx_one (r : List UInt8) : rx (45 :: 49 :: r) = 120 :: rx r := by
  have := rep_hit (old := [45, 49]) (new := [120]) (s := 45 :: 49 :: r) (by simp) (by simp [List.isPrefixOf]) (by simp)
  simpa [rx] using this
theorem rx_other {b : UInt8} (hb : b ≠ 45) (r : List UInt8) : rx (b :: r) = b :: rx r :=
  rep_miss (by simp) (by simp [List.isPrefixOf, Ne.symm hb])
theorem rx_app : ∀ (d r : List UInt8), (∀ b ∈ d, b ≠ 45) → rx (d ++ r) = d ++ rx r
  | [], _, _ => rfl
  | b :: d, r, h => by
    rw [List.cons_append, rx_other (h b (by simp)), rx_app d r (fun c hc => h c (by simp [hc]))]; rfl
theorem replaceAll_eq (s : List UInt8) : Go.Lib.replaceAll s [45, 49] [120] = rx s := by
  unfold Go.Lib.replaceAll Go.Lib.replace Go.Lib.replaceNum rx
  rw [if_neg (by decide), if_pos (.inl (by omega))]
def ct (v : Int) : List UInt8 := if v < 0 then [120] else nm v
theorem nm_no_minus {v : Int} (h : 0 ≤ v) : ∀ b ∈ nm v, b ≠ 45 := by
  obtain ⟨n, rfl⟩ : ∃ n : Nat, v = n := ⟨v.toNat, by omega⟩
  rw [nm_nat]
  intro c hc e
  have := dd_digits n c hc
  subst e; revert this; decide
theorem nm_neg1 : nm (-1) = [45, 49] := by decide +kernel
theorem rx_cell {v : Int} (h : -1 ≤ v) (r : List UInt8) : rx (nm v ++ r) = ct v ++ rx r := by
  unfold ct
  by_cases hv : v < 0
  · rw [if_pos hv, show v = -1 by omega, nm_neg1]; exact rx_one r
  · rw [if_neg hv]; exact rx_app _ _ (nm_no_minus (by omega))
theorem rx_jn : ∀ (xs : List Int), (∀ v ∈ xs, -1 ≤ v) → rx (jn 44 (xs.map nm)) = jn 44 (xs.map ct)
  | [], _ => rx_nil
  | [v], h => by
    have := rx_cell (h v (by simp)) []
    rw [List.append_nil, rx_nil, List.append_nil] at this
    exact this
  | v :: w :: r, h => by
    have ih := rx_jn (w :: r) (fun u hu => h u (by simp [hu]))
    simp only [List.map_cons] at ih ⊢
    unfold jn
    rw [rx_cell (h v (by simp)), rx_other (by decide), ih]
def rowT (r : List Int) : List UInt8 := jn 44 (r.map ct)
def polT (g : List (List Int)) : List UInt8 := jn 47 (g.map rowT)
theorem ct_len {v : Int} (h : v < 1000) : (ct v).length ≤ 3 := by
  unfold ct
  by_cases hv : v < 0
  · rw [if_pos hv]; simp
  · rw [if_neg hv]; exact nm_len (by omega) h
theorem rowT_len {r : List Int} (h4 : r.length = 4) (hv : ∀ v ∈ r, v < 1000) : (rowT r).length ≤ 16 := by
  have := jn_len 44 3 (r.map ct) (fun x hx => by obtain ⟨v, hv2, rfl⟩ := List.mem_map.1 hx; exact ct_len (hv v hv2))
  rw [List.length_map, h4] at this
  exact this
theorem polT_len {g : List (List Int)} (hg : ∀ r ∈ g, r.length = 4 ∧ ∀ v ∈ r, v < 1000) : (polT g).length ≤ 17 * g.length := by
  have := jn_len 47 16 (g.map rowT) (fun x hx => by obtain ⟨r, hr, rfl⟩ := List.mem_map.1 hx; exact rowT_len (hg r hr).1 (hg r hr).2)
  rw [List.length_map] at this
  exact this
section
variable {p : Policy} (hv : vP p = true)
include hv in
theorem text_ok : m_spec_l10Text p = some (polT p.Next) := by
  have hl := vP_len hv
  have small : ∀ r ∈ p.Next, r.length = 4 ∧ ∀ v ∈ r, -1 ≤ v ∧ v < 1000 := fun r hr => ⟨(vP_row hv hr).1, fun v hx => by have := (vP_row hv hr).2 v hx; omega⟩
  have row_ok : ∀ (i : Nat) r, p.Next[i]? = some r → ∀ (s0 : (List UInt8) × Int) (o : List UInt8), s0.2 = (i : Int) → o.length ≤ 1000 → iter (m_spec_l10Text_L1 p s0) (o, (0 : Int)) = some (o ++ rowT r) := by
    intro i r hr s0 o h0 ho
    obtain ⟨r4, rv⟩ := small r (List.mem_of_getElem? hr)
    obtain ⟨t, e1, e2⟩ := iter_inv (step := m_spec_l10Text_L1 p s0) (fun s => ∃ k : Nat, s.2 = (k : Int) ∧ k ≤ 4 ∧ s.1 = o ++ jn 44 ((r.map ct).take k)) (fun s => 4 - s.2.toNat) (fun t => t = o ++ rowT r)
      (fun s ⟨k, hk, hk4, hs⟩ => by
        unfold m_spec_l10Text_L1
        rw [hk]
        by_cases hlt : k < 4
        · have hkr : k < r.length := by omega
          have hx : r[k]? = some r[k] := List.getElem?_eq_getElem hkr
          have hb := rv _ (List.getElem_mem hkr)
          have hcl := ct_len (v := r[k]) (by omega)
          have htk : (jn 44 ((r.map ct).take k)).length ≤ 16 := by
            have := jn_len 44 3 ((r.map ct).take k) (fun x hx => by obtain ⟨v, hv2, rfl⟩ := List.mem_map.1 (List.mem_of_mem_take hx); exact ct_len (by have := rv v hv2; omega))
            rw [List.length_take, List.length_map] at this
            omega
          have hsl : s.1.length ≤ 1016 := by rw [hs]; simp; omega
          have hnx : (r.map ct).take (k + 1) = (r.map ct).take k ++ [ct r[k]] := by rw [List.take_add_one, List.getElem?_map, hx]; rfl
          have cellok : ∀ j1 : List UInt8, j1.length ≤ 1017 → m_spec_l10Text_J1 p s0 s j1 = some (.next (j1 ++ ct r[k], ((k + 1 : Nat) : Int))) := by
            intro j1 hj
            unfold m_spec_l10Text_J1
            rw [h0, getI_some hr, Option.bind_some, hk, getI_some hx, Option.bind_some]
            unfold ct at hcl ⊢
            by_cases hn : r[k] < 0
            · rw [if_pos hn] at *
              rw [decide_eq_true hn, cond_true, strI_some (by simp; omega), Option.bind_some, w64_succ (by omega)]
            · rw [if_neg hn] at *
              rw [decide_eq_false hn, cond_false, spec_dec (by omega) (by omega), Option.bind_some, strI_some (by omega), Option.bind_some, w64_succ (by omega)]
          rw [decide_eq_true (show ((k : Nat) : Int) < 4 by omega), cond_true]
          by_cases hk0 : 0 < k
          · rw [decide_eq_true (show (0 : Int) < ((k : Nat) : Int) by omega), cond_true, strI_some (by simp; omega), Option.bind_some, cellok _ (by simp; omega)]
            refine .inl ⟨_, rfl, ⟨k + 1, rfl, by omega, ?_⟩, by show 4 - ((k + 1 : Nat) : Int).toNat < 4 - ((k : Nat) : Int).toNat; omega⟩
            show s.1 ++ [44] ++ ct r[k] = _
            rw [hnx, jn_snoc _ _ _ (by intro e; have := congrArg List.length e; simp [r4] at this; omega), hs]
            simp
          · have : k = 0 := by omega
            subst this
            rw [decide_eq_false (show ¬ (0 : Int) < ((0 : Nat) : Int) by omega), cond_false, cellok _ (by omega)]
            refine .inl ⟨_, rfl, ⟨1, rfl, by omega, ?_⟩, by show 4 - ((0 + 1 : Nat) : Int).toNat < 4 - ((0 : Nat) : Int).toNat; omega⟩
            show s.1 ++ ct r[0] = _
            rw [hnx, hs]
            simp [jn]
        · have : k = 4 := by omega
          subst this
          exact .inr ⟨_, rfl, by rw [hs, List.take_of_length_le (by rw [List.length_map]; omega)]; rfl⟩)
      (s := (o, (0 : Int))) ⟨0, rfl, by omega, by simp [jn]⟩
    rw [e1, e2]
  have hall : ∀ k, (jn 47 ((p.Next.map rowT).take k)).length ≤ 500 := by
    intro k
    have := jn_len 47 16 ((p.Next.map rowT).take k) (fun x hx => by obtain ⟨r, hr, rfl⟩ := List.mem_map.1 (List.mem_of_mem_take hx); exact rowT_len (small r hr).1 (fun v hv2 => ((small r hr).2 v hv2).2))
    rw [List.length_take, List.length_map] at this
    omega
  obtain ⟨t, e1, e2⟩ := iter_inv (step := m_spec_l10Text_L0 p) (fun s => ∃ k : Nat, s.2 = (k : Int) ∧ k ≤ p.Next.length ∧ s.1 = jn 47 ((p.Next.map rowT).take k)) (fun s => p.Next.length - s.2.toNat) (fun t => t = polT p.Next)
    (fun s ⟨k, hk, hkl, hs⟩ => by
      unfold m_spec_l10Text_L0
      rw [hk]
      by_cases hlt : k < p.Next.length
      · have hr : p.Next[k]? = some p.Next[k] := List.getElem?_eq_getElem hlt
        have hsl : s.1.length ≤ 500 := by rw [hs]; exact hall k
        have hnx : (p.Next.map rowT).take (k + 1) = (p.Next.map rowT).take k ++ [rowT p.Next[k]] := by rw [List.take_add_one, List.getElem?_map, hr]; rfl
        rw [dec_lt hlt, cond_true]
        by_cases hk0 : 0 < k
        · rw [decide_eq_true (show (0 : Int) < ((k : Nat) : Int) by omega), cond_true, strI_some (by simp; omega), Option.bind_some]
          unfold m_spec_l10Text_J0
          rw [row_ok k _ hr s _ hk (by simp; omega), Option.bind_some]
          unfold m_spec_l10Text_A1
          rw [hk, w64_succ (by omega)]
          refine .inl ⟨_, rfl, ⟨k + 1, rfl, by omega, ?_⟩, by show p.Next.length - ((k + 1 : Nat) : Int).toNat < p.Next.length - ((k : Nat) : Int).toNat; omega⟩
          show s.1 ++ [47] ++ rowT p.Next[k] = _
          rw [hnx, jn_snoc _ _ _ (by intro e; have := congrArg List.length e; rw [List.length_take, List.length_map, List.length_nil] at this; omega), hs]
          simp
        · have : k = 0 := by omega
          subst this
          rw [decide_eq_false (show ¬ (0 : Int) < ((0 : Nat) : Int) by omega), cond_false]
          unfold m_spec_l10Text_J0
          rw [row_ok 0 _ hr s _ hk (by omega), Option.bind_some]
          unfold m_spec_l10Text_A1
          rw [hk, w64_succ (by omega)]
          refine .inl ⟨_, rfl, ⟨1, rfl, by omega, ?_⟩, by show p.Next.length - ((0 + 1 : Nat) : Int).toNat < p.Next.length - ((0 : Nat) : Int).toNat; omega⟩
          show s.1 ++ rowT p.Next[0] = _
          rw [hnx, hs]
          simp [jn]
      · have : k = p.Next.length := by omega
        subst this
        rw [dec_self, cond_false]
        exact .inr ⟨_, rfl, by rw [hs, List.take_of_length_le (by simp)]; rfl⟩)
    (s := (([] : List UInt8), (0 : Int))) ⟨0, rfl, by omega, by simp [jn]⟩
  unfold m_spec_l10Text
  rw [e1, e2]; rfl
theorem listed_ok {r : List Int} (h4 : r.length = 4) (hr : ∀ v ∈ r, -1 ≤ v ∧ v < 1000) : m_impl_listed r = some (jn 44 (r.map nm)) ∧ (jn 44 (r.map nm)).length ≤ 16 := by
  have hnl : ∀ v ∈ r, (nm v).length ≤ 3 := fun v hv => by
    have := hr v hv
    by_cases h : v < 0
    · rw [show v = -1 by omega, nm_neg1]; simp
    · exact nm_len (by omega) (by omega)
  have hlen : (jn 44 (r.map nm)).length ≤ 16 := by
    have := jn_len 44 3 (r.map nm) (fun x hx => by obtain ⟨v, hv2, rfl⟩ := List.mem_map.1 hx; exact hnl v hv2)
    rw [List.length_map, h4] at this
    exact this
  refine ⟨?_, hlen⟩
  unfold m_impl_listed
  rw [forL_fold (g := fun (s : List (List UInt8)) v => s ++ [nm v]) (fun k s => s.length = k) r 0 [] rfl (fun n x s hx hs => by
    have := hr x (List.mem_of_getElem? hx)
    have hn := get_lt hx
    refine ⟨?_, by simp [hs]⟩
    unfold m_impl_listed_L0
    rw [impl_dec (by omega) (by omega), Option.bind_some, capI_some (by simp; omega), Option.bind_some]), Option.bind_some]
  have hf : ∀ (xs : List Int) (s : List (List UInt8)), xs.foldl (fun s v => s ++ [nm v]) s = s ++ xs.map nm := by
    intro xs
    induction xs with
    | nil => intro s; simp
    | cons x r ih => intro s; simp only [List.foldl_cons, ih]; simp
  rw [hf, List.nil_append]
  unfold m_impl_listed_A0 m_strings_Join
  rw [jn_lib, decide_eq_true (by rw [List.length_map]; omega), decide_eq_true (by omega)]
  rfl
include hv in
theorem impl_text_ok : m_impl_PolicyText p = some (polT p.Next, true) := by
  have hl := vP_len hv
  have small : ∀ r ∈ p.Next, r.length = 4 ∧ ∀ v ∈ r, -1 ≤ v ∧ v < 1000 := fun r hr => ⟨(vP_row hv hr).1, fun v hx => by have := (vP_row hv hr).2 v hx; omega⟩
  unfold m_impl_PolicyText
  rw [impl_vP, hv, Option.bind_some, Bool.not_true, cond_false]
  rw [forL_fold (g := fun (s : List (List UInt8)) r => s ++ [rowT r]) (fun k s => s.length = k) p.Next 0 [] rfl (fun n x s hx hs => by
    obtain ⟨x4, xv⟩ := small x (List.mem_of_getElem? hx)
    obtain ⟨e1, e2⟩ := listed_ok x4 xv
    have hn := get_lt hx
    refine ⟨?_, by simp [hs]⟩
    unfold m_impl_PolicyText_L0 m_strings_ReplaceAll
    have hc := Go.Lib.count_le (jn 44 (x.map nm)) [45, 49]
    rw [e1, Option.bind_some, decide_eq_true (show (jn 44 (x.map nm)).length < 4294967281 by omega), decide_eq_true (show 1 ≤ ([45, 49] : List UInt8).length by simp),
      decide_eq_true (show (jn 44 (x.map nm)).length + Go.Lib.count (jn 44 (x.map nm)) [45, 49] * ([120] : List UInt8).length ≤ 140737488355328 by simp only [List.length_cons, List.length_nil]; omega)]
    simp only [Bool.and_self, cond_true, Option.bind_some]
    rw [capI_some (by simp; omega), Option.bind_some, replaceAll_eq, rx_jn x (fun v hv2 => (xv v hv2).1)]
    rfl), Option.bind_some]
  have hf : ∀ (xs : List (List Int)) (s : List (List UInt8)), xs.foldl (fun s v => s ++ [rowT v]) s = s ++ xs.map rowT := by
    intro xs
    induction xs with
    | nil => intro s; simp
    | cons x r ih => intro s; simp only [List.foldl_cons, ih]; simp
  rw [hf, List.nil_append]
  have hpl := polT_len (g := p.Next) (fun r hr => ⟨(small r hr).1, fun v hv2 => ((small r hr).2 v hv2).2⟩)
  unfold polT at hpl
  unfold m_impl_PolicyText_A0 m_strings_Join
  rw [jn_lib, decide_eq_true (by rw [List.length_map]; omega), decide_eq_true (by omega)]
  rfl
end
theorem same_PolicyText (p0 : Policy) (k0 : k_Policy p0) (h0 : pc_Policy p0 ≤ 1048576) : ∃ r, m_spec_PolicyText p0 = some r ∧ m_impl_PolicyText p0 = some r := by
  cases hv : vP p0 with
  | false =>
    unfold m_spec_PolicyText m_impl_PolicyText
    rw [spec_vP h0, impl_vP, Option.bind_some, Option.bind_some, hv]
    exact ⟨_, rfl, rfl⟩
  | true =>
    refine ⟨(polT p0.Next, true), ?_, impl_text_ok hv⟩
    unfold m_spec_PolicyText
    rw [spec_vP h0, Option.bind_some, hv, Bool.not_true, cond_false, text_ok hv, Option.bind_some]
end Go.Mod

namespace Go.Mod
open Go.AM
set_option linter.unusedVariables false
set_option linter.unusedSimpArgs false
theorem law_PolicyText {p0 : Policy} (k0 : k_Policy p0) : m_laws_FnExactPolicyText p0 = some true := by
  unfold m_laws_FnExactPolicyText
  rw [show (1048576 : Int) = ((1048576 : Nat) : Int) from rfl]
  rw [pz_Policy k0 _ (by omega), Option.bind_some]
  by_cases h0 : pc_Policy p0 ≤ 1048576
  · rw [szOut_ok h0, dec_neg, cond_false]
    obtain ⟨⟨r0_, r1_⟩, e1, e2⟩ := same_PolicyText p0 k0 (show pc_Policy p0 ≤ 1048576 by omega)
    have q0 := pq_Policy_le p0
    obtain ⟨am0_0, m0, -⟩ := pm_Policy (show pc_Policy p0 ≤ 1048576 by omega) (k := 1) (by omega)
    replace m0 : m_laws_markPolicy p0 1 = _ := m0
    simp only [Option.bind_some, cond_false, cond_true, dec_neg, e1, e2, decide_true, bool_beq, Bool.not_true, Bool.or_false, Bool.false_eq_true, pt_Policy (show pc_Policy p0 ≤ 1048576 by omega), pe_Policy (show pc_Policy p0 ≤ 1048576 by omega), m0]
  · rw [szOut_no h0]; rfl
end Go.Mod
