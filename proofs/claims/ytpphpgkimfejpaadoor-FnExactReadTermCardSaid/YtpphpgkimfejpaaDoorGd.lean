import Derived.Test.YtpphpgkimfejpaaDoorGc
import Derived.Lib.ItoaNum
import Derived.Lib.Join
import Derived.Lib.Replace
import Derived.Lib.ParseIntB
namespace Go.Mod
open Go.AM
def m_strconv_FormatInt (p0 p1 : Int) : Option (List UInt8) :=
  bif decide (p1 = 10) && decide (-9223372036854775808 ≤ p0) && decide (p0 ≤ 9223372036854775807) then some (Lib.itoa p0) else none
end Go.Mod

namespace Go.Mod
open Go.AM
set_option linter.unusedVariables false
structure Term where
  Const : Int
  Coeffs : List Int
  deriving DecidableEq, Inhabited
def k_str (x : List UInt8) : Prop := x.length ≤ 9223372036854775807
noncomputable def m_spec_l00Max (p0 : Int) (p1 : Int) : Option Int :=
  bif (decide (p1 < p0)) then
    some p0
  else
    some p1
noncomputable def m_spec_l00Own (p0 : List Int) : Option (List Int) :=
  (capI (([] : List Int).length + p0.length) 8).bind fun (q5 : Unit) =>
  some (([] : List Int) ++ p0)
noncomputable def m_spec_l00In (p0 : Int) (p1 : Int) (p2 : Int) : Option Bool :=
  some ((decide (p1 ≤ p0)) && (decide (p0 ≤ p2)))
noncomputable def m_spec_l02Number (p0 : Int) : Option Bool :=
  (m_spec_l00In p0 (-1000000 : Int) (1000000 : Int)).bind fun (r4 : Bool) =>
  some r4
noncomputable def m_spec_l02Is_L0 (p0 : Term) (s0 : Int) : Option (Ctl Int (Unit ⊕ Bool)) :=
  bif (decide (s0 < (p0.Coeffs.length : Int))) then
    (getI p0.Coeffs s0).bind fun (x45 : Int) =>
    (m_spec_l02Number x45).bind fun (r47 : Bool) =>
    bif (!r47) then
      some (.out (.inr false))
    else
      some (.next (w64 (s0 + (1 : Int))))
  else
    some (.out (.inl ()))
noncomputable def m_spec_l02Is_A0 (u0 : Unit ⊕ Bool) : Option Bool :=
  match u0 with
  | .inl u0 =>
    some true
  | .inr u0 =>
    some u0
noncomputable def m_spec_l02Is_J0 (p0 : Term) (j0 : Unit) : Option Bool :=
  (iter (m_spec_l02Is_L0 p0) (0 : Int)).bind fun (u0 : Unit ⊕ Bool) =>
  m_spec_l02Is_A0 u0
noncomputable def m_spec_l02Is (p0 : Term) : Option Bool :=
  (m_spec_l02Number p0.Const).bind fun (r14 : Bool) =>
  bif ((!r14) || (decide ((10 : Int) < (p0.Coeffs.length : Int)))) then
    some false
  else
    bif (decide ((0 : Int) < (p0.Coeffs.length : Int))) then
      (getI p0.Coeffs (w64 ((p0.Coeffs.length : Int) - (1 : Int)))).bind fun (x30 : Int) =>
      bif (decide (x30 = (0 : Int))) then
        some false
      else
        m_spec_l02Is_J0 p0 ()
    else
      m_spec_l02Is_J0 p0 ()
noncomputable def m_spec_l02Make_L0 (p1 : List Int) (s0 : Int) : Option (Ctl Int Int) :=
  bif (decide ((0 : Int) < s0)) then
    (getI p1 (w64 (s0 - (1 : Int)))).bind fun (x16 : Int) =>
    bif (decide (x16 = (0 : Int))) then
      some (.next (w64 (s0 - (1 : Int))))
    else
      some (.out s0)
  else
    some (.out s0)
noncomputable def m_spec_l02Make_A0 (p0 : Int) (p1 : List Int) (u0 : Int) : Option (Term × Bool) :=
  (sliceI p1 (0 : Int) u0).bind fun (y25 : List Int) =>
  (m_spec_l00Own y25).bind fun (r26 : List Int) =>
  (m_spec_l02Is (Term.mk p0 r26)).bind fun (r28 : Bool) =>
  bif (!r28) then
    some ((Term.mk (0 : Int) ([] : List Int)), false)
  else
    some ((Term.mk p0 r26), true)
noncomputable def m_spec_l02Make (p0 : Int) (p1 : List Int) : Option (Term × Bool) :=
  (iter (m_spec_l02Make_L0 p1) (p1.length : Int)).bind fun (u0 : Int) =>
  m_spec_l02Make_A0 p0 p1 u0
noncomputable def m_spec_l01Dec_L0 (s0 : Int × (List UInt8)) : Option (Ctl (Int × (List UInt8)) ((List UInt8))) :=
  bif (decide (s0.1 < (0 : Int))) then
    (strI ((List.map (fun n => UInt8.ofNat (Int.toNat n)) [(wu 8 (w64 ((48 : Int) - (Int.tmod s0.1 (10 : Int)))))]).length + s0.2.length)).bind fun (q21 : Unit) =>
    some (.next ((w64 (Int.tdiv s0.1 (10 : Int))), ((List.map (fun n => UInt8.ofNat (Int.toNat n)) [(wu 8 (w64 ((48 : Int) - (Int.tmod s0.1 (10 : Int)))))]) ++ s0.2)))
  else
    some (.out s0.2)
noncomputable def m_spec_l01Dec_A0 (p0 : Int) (u0 : (List UInt8)) : Option (List UInt8) :=
  bif (decide (p0 < (0 : Int))) then
    (strI (([45] : List UInt8).length + u0.length)).bind fun (q27 : Unit) =>
    some (([45] : List UInt8) ++ u0)
  else
    some u0
noncomputable def m_spec_l01Dec_J0 (p0 : Int) (j0 : Int) : Option (List UInt8) :=
  (iter (m_spec_l01Dec_L0) (j0, ([] : List UInt8))).bind fun (u0 : (List UInt8)) =>
  m_spec_l01Dec_A0 p0 u0
noncomputable def m_spec_l01Dec (p0 : Int) : Option (List UInt8) :=
  bif (decide (p0 = (0 : Int))) then
    some ([48] : List UInt8)
  else
    bif (decide ((0 : Int) < p0)) then
      m_spec_l01Dec_J0 p0 (w64 (0 - p0))
    else
      m_spec_l01Dec_J0 p0 p0
noncomputable def m_spec_l02Text_J1 (s0 : (List UInt8) × Int) (j0 : Int × (List UInt8)) (j1 : (List UInt8) × Int) : Option (Ctl ((List UInt8) × Int) ((List UInt8))) :=
  bif ((!decide (j1.2 = (1 : Int))) || (decide (j0.2 = ([] : List UInt8)))) then
    (m_spec_l01Dec j1.2).bind fun (r59 : List UInt8) =>
    (strI (j1.1.length + r59.length)).bind fun (q60 : Unit) =>
    (strI ((j1.1 ++ r59).length + j0.2.length)).bind fun (q63 : Unit) =>
    some (.next (((j1.1 ++ r59) ++ j0.2), (w64 (s0.2 + (1 : Int)))))
  else
    (strI (j1.1.length + j0.2.length)).bind fun (q63 : Unit) =>
    some (.next ((j1.1 ++ j0.2), (w64 (s0.2 + (1 : Int)))))
noncomputable def m_spec_l02Text_J0 (s0 : (List UInt8) × Int) (j0 : Int × (List UInt8)) : Option (Ctl ((List UInt8) × Int) ((List UInt8))) :=
  bif (decide (j0.1 = (0 : Int))) then
    some (.next (s0.1, (w64 (s0.2 + (1 : Int)))))
  else
    bif (decide (j0.1 < (0 : Int))) then
      (strI (s0.1.length + ([45] : List UInt8).length)).bind fun (q44 : Unit) =>
      m_spec_l02Text_J1 s0 j0 ((s0.1 ++ ([45] : List UInt8)), (w64 (0 - j0.1)))
    else
      bif (!decide (s0.1 = ([] : List UInt8))) then
        (strI (s0.1.length + ([43] : List UInt8).length)).bind fun (q50 : Unit) =>
        m_spec_l02Text_J1 s0 j0 ((s0.1 ++ ([43] : List UInt8)), j0.1)
      else
        m_spec_l02Text_J1 s0 j0 (s0.1, j0.1)
noncomputable def m_spec_l02Text_L0 (p0 : Term) (s0 : (List UInt8) × Int) : Option (Ctl ((List UInt8) × Int) ((List UInt8))) :=
  bif (decide (s0.2 ≤ (p0.Coeffs.length : Int))) then
    bif (decide (s0.2 < (p0.Coeffs.length : Int))) then
      (getI p0.Coeffs s0.2).bind fun (x32 : Int) =>
      m_spec_l02Text_J0 s0 (x32, (List.map (fun n => UInt8.ofNat (Int.toNat n)) [(wu 8 (w64 ((97 : Int) + s0.2)))]))
    else
      m_spec_l02Text_J0 s0 (p0.Const, ([] : List UInt8))
  else
    some (.out s0.1)
noncomputable def m_spec_l02Text_A0 (u0 : (List UInt8)) : Option (List UInt8) :=
  bif (decide (u0 = ([] : List UInt8))) then
    some ([48] : List UInt8)
  else
    some u0
noncomputable def m_spec_l02Text (p0 : Term) : Option (List UInt8) :=
  (iter (m_spec_l02Text_L0 p0) (([] : List UInt8), (0 : Int))).bind fun (u0 : (List UInt8)) =>
  m_spec_l02Text_A0 u0
noncomputable def m_spec_l02Read_J2 (p0 : List UInt8) (s0 : (List Int) × Int × Int × Int × Int) (j2 : Int) : Option (Ctl ((List Int) × Int × Int × Int × Int) (((List Int) × Int) ⊕ (Int × (List Int) × Bool))) :=
  (getI p0 s0.2.2.2.2).bind fun (x70 : UInt8) =>
  (getI s0.1 (wu 8 ((x70.toNat : Int) - (97 : Int)))).bind fun (x75 : Int) =>
  some (.next ((s0.1.set (((wu 8 ((x70.toNat : Int) - (97 : Int)))).toNat) (w64 (s0.2.2.2.1 * j2))), s0.2.1, (-1 : Int), s0.2.2.2.1, (w64 (s0.2.2.2.2 + (1 : Int)))))
noncomputable def m_spec_l02Read_J4 (p0 : List UInt8) (s0 : (List Int) × Int × Int × Int × Int) (j4 : Int) : Option (Ctl ((List Int) × Int × Int × Int × Int) (((List Int) × Int) ⊕ (Int × (List Int) × Bool))) :=
  bif (decide (s0.2.2.2.2 < (p0.length : Int))) then
    (getI p0 s0.2.2.2.2).bind fun (x105 : UInt8) =>
    bif (decide ((x105.toNat : Int) = (45 : Int))) then
      some (.next (s0.1, j4, (-1 : Int), (-1 : Int), (w64 (s0.2.2.2.2 + (1 : Int)))))
    else
      some (.next (s0.1, j4, (-1 : Int), (1 : Int), (w64 (s0.2.2.2.2 + (1 : Int)))))
  else
    some (.next (s0.1, j4, (-1 : Int), (1 : Int), (w64 (s0.2.2.2.2 + (1 : Int)))))
noncomputable def m_spec_l02Read_J3 (p0 : List UInt8) (s0 : (List Int) × Int × Int × Int × Int) (j3 : Bool) : Option (Ctl ((List Int) × Int × Int × Int × Int) (((List Int) × Int) ⊕ (Int × (List Int) × Bool))) :=
  bif j3 then
    bif (decide ((0 : Int) ≤ s0.2.2.1)) then
      m_spec_l02Read_J4 p0 s0 (w64 (s0.2.2.2.1 * s0.2.2.1))
    else
      m_spec_l02Read_J4 p0 s0 s0.2.1
  else
    some (.out (.inr ((0 : Int), ([] : List Int), false)))
noncomputable def m_spec_l02Read_J1 (p0 : List UInt8) (s0 : (List Int) × Int × Int × Int × Int) (j1 : Bool) : Option (Ctl ((List Int) × Int × Int × Int × Int) (((List Int) × Int) ⊕ (Int × (List Int) × Bool))) :=
  bif j1 then
    bif (decide (s0.2.2.1 < (0 : Int))) then
      m_spec_l02Read_J2 p0 s0 (1 : Int)
    else
      m_spec_l02Read_J2 p0 s0 s0.2.2.1
  else
    bif (decide (s0.2.2.2.2 = (p0.length : Int))) then
      m_spec_l02Read_J3 p0 s0 true
    else
      (getI p0 s0.2.2.2.2).bind fun (x84 : UInt8) =>
      bif (decide ((x84.toNat : Int) = (43 : Int))) then
        m_spec_l02Read_J3 p0 s0 true
      else
        m_spec_l02Read_J3 p0 s0 (decide ((x84.toNat : Int) = (45 : Int)))
noncomputable def m_spec_l02Read_J0 (p0 : List UInt8) (s0 : (List Int) × Int × Int × Int × Int) (j0 : Bool) : Option (Ctl ((List Int) × Int × Int × Int × Int) (((List Int) × Int) ⊕ (Int × (List Int) × Bool))) :=
  bif j0 then
    bif (decide ((2000000 : Int) < s0.2.2.1)) then
      some (.out (.inr ((0 : Int), ([] : List Int), false)))
    else
      (m_spec_l00Max s0.2.2.1 (0 : Int)).bind fun (r40 : Int) =>
      (getI p0 s0.2.2.2.2).bind fun (x44 : UInt8) =>
      some (.next (s0.1, s0.2.1, (w64 ((w64 ((10 : Int) * r40)) + (w64 (wu 8 ((x44.toNat : Int) - (48 : Int)))))), s0.2.2.2.1, (w64 (s0.2.2.2.2 + (1 : Int)))))
  else
    bif (decide (s0.2.2.2.2 < (p0.length : Int))) then
      (getI p0 s0.2.2.2.2).bind fun (x56 : UInt8) =>
      bif (decide ((97 : Int) ≤ (x56.toNat : Int))) then
        m_spec_l02Read_J1 p0 s0 (decide ((x56.toNat : Int) ≤ (106 : Int)))
      else
        m_spec_l02Read_J1 p0 s0 false
    else
      m_spec_l02Read_J1 p0 s0 false
noncomputable def m_spec_l02Read_L0 (p0 : List UInt8) (s0 : (List Int) × Int × Int × Int × Int) : Option (Ctl ((List Int) × Int × Int × Int × Int) (((List Int) × Int) ⊕ (Int × (List Int) × Bool))) :=
  bif (decide (s0.2.2.2.2 ≤ (p0.length : Int))) then
    bif (decide (s0.2.2.2.2 < (p0.length : Int))) then
      (getI p0 s0.2.2.2.2).bind fun (x27 : UInt8) =>
      bif (decide ((48 : Int) ≤ (x27.toNat : Int))) then
        m_spec_l02Read_J0 p0 s0 (decide ((x27.toNat : Int) ≤ (57 : Int)))
      else
        m_spec_l02Read_J0 p0 s0 false
    else
      m_spec_l02Read_J0 p0 s0 false
  else
    some (.out (.inl (s0.1, s0.2.1)))
noncomputable def m_spec_l02Read_A0 (p0 : List UInt8) (u0 : ((List Int) × Int) ⊕ (Int × (List Int) × Bool)) : Option (Term × Bool) :=
  match u0 with
  | .inl u0 =>
    (m_spec_l02Make u0.2 u0.1).bind fun (r111 : Term × Bool) =>
    bif (!r111.2) then
      some ((Term.mk (0 : Int) ([] : List Int)), false)
    else
      (m_spec_l02Text r111.1).bind fun (r117 : List UInt8) =>
      bif (!decide (r117 = p0)) then
        some ((Term.mk (0 : Int) ([] : List Int)), false)
      else
        some (r111.1, true)
  | .inr u0 =>
    some ((Term.mk u0.1 u0.2.1), u0.2.2)
noncomputable def m_spec_l02Read (p0 : List UInt8) : Option (Term × Bool) :=
  (makeI (10 : Int) 8).bind fun (k11 : Nat) =>
  (iter (m_spec_l02Read_L0 p0) ((List.replicate k11 (0 : Int)), (0 : Int), (-1 : Int), (1 : Int), (0 : Int))).bind fun (u0 : ((List Int) × Int) ⊕ (Int × (List Int) × Bool)) =>
  m_spec_l02Read_A0 p0 u0
noncomputable def m_spec_ReadTerm (p0 : List UInt8) : Option (Term × Bool) :=
  (m_spec_l02Read p0).bind fun (r5 : Term × Bool) =>
  some (r5.1, r5.2)
noncomputable def m_impl_Term_trimmed_L0 (p0 : Term) (s0 : Int) : Option (Ctl Int Int) :=
  bif (decide ((0 : Int) < s0)) then
    (getI p0.Coeffs (w64 (s0 - (1 : Int)))).bind fun (x14 : Int) =>
    bif (decide (x14 = (0 : Int))) then
      some (.next (w64 (s0 - (1 : Int))))
    else
      some (.out s0)
  else
    some (.out s0)
noncomputable def m_impl_Term_trimmed_A0 (p0 : Term) (u0 : Int) : Option Term :=
  (sliceI p0.Coeffs (0 : Int) u0).bind fun (y23 : List Int) =>
  some (Term.mk p0.Const y23)
noncomputable def m_impl_Term_trimmed (p0 : Term) : Option Term :=
  (iter (m_impl_Term_trimmed_L0 p0) (p0.Coeffs.length : Int)).bind fun (u0 : Int) =>
  m_impl_Term_trimmed_A0 p0 u0
noncomputable def m_impl_within (p0 : Int) (p1 : Int) (p2 : Int) : Option Bool :=
  some ((decide (p1 ≤ p0)) && (decide (p0 ≤ p2)))
noncomputable def m_impl_isCoeff (p0 : Int) : Option Bool :=
  (m_impl_within p0 (-1000000 : Int) (1000000 : Int)).bind fun (r4 : Bool) =>
  some r4
noncomputable def m_impl_allWithin_L0 (p1 : Int) (p2 : Int) (n0 : Nat) (x0 : Int) (s0 : Unit) : Option (Ctl Unit (Unit ⊕ Bool)) :=
  (m_impl_within x0 p1 p2).bind fun (r18 : Bool) =>
  bif (!r18) then
    some (.out (.inr false))
  else
    some (.next ())
noncomputable def m_impl_allWithin_A0 (u0 : Unit ⊕ Bool) : Option Bool :=
  match u0 with
  | .inl u0 =>
    some true
  | .inr u0 =>
    some u0
noncomputable def m_impl_allWithin (p0 : List Int) (p1 : Int) (p2 : Int) : Option Bool :=
  (forL (m_impl_allWithin_L0 p1 p2) (fun s0 => (.inl ())) 0 p0 ()).bind fun (u0 : Unit ⊕ Bool) =>
  m_impl_allWithin_A0 u0
noncomputable def m_impl_ValidTerm (p0 : Term) : Option Bool :=
  bif (decide ((p0.Coeffs.length : Int) ≤ (10 : Int))) then
    (m_impl_isCoeff p0.Const).bind fun (r12 : Bool) =>
    bif r12 then
      (m_impl_allWithin p0.Coeffs (-1000000 : Int) (1000000 : Int)).bind fun (r17 : Bool) =>
      bif r17 then
        bif (decide ((p0.Coeffs.length : Int) = (0 : Int))) then
          some true
        else
          (getI p0.Coeffs (w64 ((p0.Coeffs.length : Int) - (1 : Int)))).bind fun (x27 : Int) =>
          some (!decide (x27 = (0 : Int)))
      else
        some false
    else
      some false
  else
    some false
noncomputable def m_impl_termText_1 (p0 : Int) (p1 : List UInt8) : Option (List UInt8) :=
  bif (decide (p0 < (0 : Int))) then
    (strI (p1.length + ([45] : List UInt8).length)).bind fun (q6 : Unit) =>
    some (p1 ++ ([45] : List UInt8))
  else
    bif (!decide (p1 = ([] : List UInt8))) then
      (strI (p1.length + ([43] : List UInt8).length)).bind fun (q10 : Unit) =>
      some (p1 ++ ([43] : List UInt8))
    else
      some p1
noncomputable def m_impl_absolute (p0 : Int) : Option Int :=
  some (max p0 (w64 (0 - p0)))
noncomputable def m_impl_Decimal (p0 : Int) : Option (List UInt8) :=
  (m_strconv_FormatInt p0 (10 : Int)).bind fun (r4 : List UInt8) =>
  some r4
noncomputable def m_impl_termText_J0 (n0 : Nat) (j0 : List UInt8) : Option (Ctl (List UInt8) ((List UInt8))) :=
  (runeI (w32 (w64 ((97 : Int) + (n0 : Int))))).bind fun (z33 : List UInt8) =>
  (strI (j0.length + z33.length)).bind fun (q34 : Unit) =>
  some (.next (j0 ++ z33))
noncomputable def m_impl_termText_L0 (n0 : Nat) (x0 : Int) (s0 : List UInt8) : Option (Ctl (List UInt8) ((List UInt8))) :=
  bif (decide (x0 = (0 : Int))) then
    some (.next s0)
  else
    (m_impl_termText_1 x0 s0).bind fun (r20 : List UInt8) =>
    (m_impl_absolute x0).bind fun (r22 : Int) =>
    bif (!decide (r22 = (1 : Int))) then
      (m_impl_absolute x0).bind fun (r26 : Int) =>
      (m_impl_Decimal r26).bind fun (r27 : List UInt8) =>
      (strI (r20.length + r27.length)).bind fun (q28 : Unit) =>
      m_impl_termText_J0 n0 (r20 ++ r27)
    else
      m_impl_termText_J0 n0 r20
noncomputable def m_impl_termText_J1 (j1 : List UInt8) : Option (List UInt8) :=
  bif (decide (j1 = ([] : List UInt8))) then
    some ([48] : List UInt8)
  else
    some j1
noncomputable def m_impl_termText_A0 (p0 : Term) (u0 : (List UInt8)) : Option (List UInt8) :=
  bif (!decide (p0.Const = (0 : Int))) then
    (m_impl_termText_1 p0.Const u0).bind fun (r42 : List UInt8) =>
    (m_impl_absolute p0.Const).bind fun (r46 : Int) =>
    (m_impl_Decimal r46).bind fun (r47 : List UInt8) =>
    (strI (r42.length + r47.length)).bind fun (q48 : Unit) =>
    m_impl_termText_J1 (r42 ++ r47)
  else
    m_impl_termText_J1 u0
noncomputable def m_impl_termText (p0 : Term) : Option (List UInt8) :=
  (forL (m_impl_termText_L0) (fun s0 => s0) 0 p0.Coeffs ([] : List UInt8)).bind fun (u0 : (List UInt8)) =>
  m_impl_termText_A0 p0 u0
noncomputable def m_impl_copyInts (p0 : List Int) : Option (List Int) :=
  (capI (([] : List Int).length + p0.length) 8).bind fun (q5 : Unit) =>
  some (([] : List Int) ++ p0)
noncomputable def m_impl_Term_own (p0 : Term) : Option Term :=
  (m_impl_copyInts p0.Coeffs).bind fun (r7 : List Int) =>
  some (Term.mk p0.Const r7)
noncomputable def m_impl_ReadTerm_L1 (p0 : List UInt8) (j0 : Int × Int) (s1 : Int × Int) : Option (Ctl (Int × Int) ((Int × Int))) :=
  bif (decide (s1.1 < (p0.length : Int))) then
    (getI p0 s1.1).bind fun (x34 : UInt8) =>
    bif (decide ((48 : Int) ≤ (x34.toNat : Int))) then
      bif ((decide ((x34.toNat : Int) ≤ (57 : Int))) && (decide (s1.1 < (w64 (j0.1 + (8 : Int)))))) then
        some (.next ((w64 (s1.1 + (1 : Int))), (w64 ((w64 ((10 : Int) * s1.2)) + (w64 (wu 8 ((x34.toNat : Int) - (48 : Int))))))))
      else
        some (.out (s1.1, s1.2))
    else
      some (.out (s1.1, s1.2))
  else
    some (.out (s1.1, s1.2))
noncomputable def m_impl_ReadTerm_J2 (p0 : List UInt8) (s0 : Int × (List Int) × Int) (j0 : Int × Int) (u1 : Int × Int) (j2 : Int) : Option (Ctl (Int × (List Int) × Int) ((Int × (List Int)) ⊕ (Int × (List Int) × Bool))) :=
  (getI p0 u1.1).bind fun (x90 : UInt8) =>
  (getI s0.2.1 (wu 8 ((x90.toNat : Int) - (97 : Int)))).bind fun (x92 : Int) =>
  some (.next (s0.1, (s0.2.1.set (((wu 8 ((x90.toNat : Int) - (97 : Int)))).toNat) (w64 (x92 + (w64 (j0.2 * j2))))), (w64 (u1.1 + (1 : Int)))))
noncomputable def m_impl_ReadTerm_J1 (p0 : List UInt8) (s0 : Int × (List Int) × Int) (j0 : Int × Int) (u1 : Int × Int) (j1 : Bool) : Option (Ctl (Int × (List Int) × Int) ((Int × (List Int)) ⊕ (Int × (List Int) × Bool))) :=
  bif j1 then
    bif (decide (u1.1 = j0.1)) then
      m_impl_ReadTerm_J2 p0 s0 j0 u1 (1 : Int)
    else
      m_impl_ReadTerm_J2 p0 s0 j0 u1 u1.2
  else
    bif (decide (u1.1 = j0.1)) then
      some (.out (.inr ((0 : Int), ([] : List Int), false)))
    else
      some (.next ((w64 (s0.1 + (w64 (j0.2 * u1.2)))), s0.2.1, u1.1))
noncomputable def m_impl_ReadTerm_A1 (p0 : List UInt8) (s0 : Int × (List Int) × Int) (j0 : Int × Int) (u1 : (Int × Int)) : Option (Ctl (Int × (List Int) × Int) ((Int × (List Int)) ⊕ (Int × (List Int) × Bool))) :=
  bif (decide (u1.1 < (p0.length : Int))) then
    (getI p0 u1.1).bind fun (x74 : UInt8) =>
    bif (decide ((97 : Int) ≤ (x74.toNat : Int))) then
      m_impl_ReadTerm_J1 p0 s0 j0 u1 (decide ((x74.toNat : Int) < (107 : Int)))
    else
      m_impl_ReadTerm_J1 p0 s0 j0 u1 false
  else
    m_impl_ReadTerm_J1 p0 s0 j0 u1 false
noncomputable def m_impl_ReadTerm_J0 (p0 : List UInt8) (s0 : Int × (List Int) × Int) (j0 : Int × Int) : Option (Ctl (Int × (List Int) × Int) ((Int × (List Int)) ⊕ (Int × (List Int) × Bool))) :=
  (iter (m_impl_ReadTerm_L1 p0 j0) (j0.1, (0 : Int))).bind fun (u1 : (Int × Int)) =>
  m_impl_ReadTerm_A1 p0 s0 j0 u1
noncomputable def m_impl_ReadTerm_L0 (p0 : List UInt8) (s0 : Int × (List Int) × Int) : Option (Ctl (Int × (List Int) × Int) ((Int × (List Int)) ⊕ (Int × (List Int) × Bool))) :=
  bif (decide (s0.2.2 < (p0.length : Int))) then
    (getI p0 s0.2.2).bind fun (x17 : UInt8) =>
    bif (decide ((x17.toNat : Int) = (45 : Int))) then
      m_impl_ReadTerm_J0 p0 s0 ((w64 (s0.2.2 + (1 : Int))), (-1 : Int))
    else
      bif (decide ((x17.toNat : Int) = (43 : Int))) then
        m_impl_ReadTerm_J0 p0 s0 ((w64 (s0.2.2 + (1 : Int))), (1 : Int))
      else
        m_impl_ReadTerm_J0 p0 s0 (s0.2.2, (1 : Int))
  else
    some (.out (.inl (s0.1, s0.2.1)))
noncomputable def m_impl_ReadTerm_A0 (p0 : List UInt8) (u0 : (Int × (List Int)) ⊕ (Int × (List Int) × Bool)) : Option (Term × Bool) :=
  match u0 with
  | .inl u0 =>
    (m_impl_Term_trimmed (Term.mk u0.1 u0.2)).bind fun (r107 : Term) =>
    (m_impl_ValidTerm r107).bind fun (r109 : Bool) =>
    bif (!r109) then
      some ((Term.mk (0 : Int) ([] : List Int)), false)
    else
      (m_impl_termText r107).bind fun (r113 : List UInt8) =>
      bif (!decide (r113 = p0)) then
        some ((Term.mk (0 : Int) ([] : List Int)), false)
      else
        (m_impl_Term_own r107).bind fun (r119 : Term) =>
        some (r119, true)
  | .inr u0 =>
    some ((Term.mk u0.1 u0.2.1), u0.2.2)
noncomputable def m_impl_ReadTerm (p0 : List UInt8) : Option (Term × Bool) :=
  (makeI (10 : Int) 8).bind fun (k9 : Nat) =>
  (iter (m_impl_ReadTerm_L0 p0) ((0 : Int), (List.replicate k9 (0 : Int)), (0 : Int))).bind fun (u0 : (Int × (List Int)) ⊕ (Int × (List Int) × Bool)) =>
  m_impl_ReadTerm_A0 p0 u0
noncomputable def m_laws_eqInt64S_L0 (p0 : List Int) (p1 : List Int) (s0 : Int) : Option (Ctl Int (Unit ⊕ Bool)) :=
  bif (decide (s0 < (p0.length : Int))) then
    (getI p0 s0).bind fun (x19 : Int) =>
    (getI p1 s0).bind fun (x23 : Int) =>
    bif (!decide (x19 = x23)) then
      some (.out (.inr false))
    else
      some (.next (w64 (s0 + (1 : Int))))
  else
    some (.out (.inl ()))
noncomputable def m_laws_eqInt64S_A0 (u0 : Unit ⊕ Bool) : Option Bool :=
  match u0 with
  | .inl u0 =>
    some true
  | .inr u0 =>
    some u0
noncomputable def m_laws_eqInt64S (p0 : List Int) (p1 : List Int) : Option Bool :=
  bif (!decide ((p0.length : Int) = (p1.length : Int))) then
    some false
  else
    (iter (m_laws_eqInt64S_L0 p0 p1) (0 : Int)).bind fun (u0 : Unit ⊕ Bool) =>
    m_laws_eqInt64S_A0 u0
noncomputable def m_laws_eqTerm (p0 : Term) (p1 : Term) : Option Bool :=
  bif (!decide (p0.Const = p1.Const)) then
    some false
  else
    (m_laws_eqInt64S p0.Coeffs p1.Coeffs).bind fun (r14 : Bool) =>
    bif (!r14) then
      some false
    else
      some true
noncomputable def m_laws_markInt64S_L0 (s0 : (List Int) × Int × Int) : Option (Ctl ((List Int) × Int × Int) ((Int × (List Int)))) :=
  bif (decide (s0.2.2 < (s0.1.length : Int))) then
    (getI s0.1 s0.2.2).bind fun (x15 : Int) =>
    some (.next ((s0.1.set ((s0.2.2).toNat) s0.2.1), (w64 (s0.2.1 + (1 : Int))), (w64 (s0.2.2 + (1 : Int)))))
  else
    some (.out (s0.2.1, s0.1))
noncomputable def m_laws_markInt64S_A0 (u0 : (Int × (List Int))) : Option (Int × (List Int)) :=
  some (u0.1, u0.2)
noncomputable def m_laws_markInt64S (p0 : List Int) (p1 : Int) : Option (Int × (List Int)) :=
  (iter (m_laws_markInt64S_L0) (p0, p1, (0 : Int))).bind fun (u0 : (Int × (List Int))) =>
  m_laws_markInt64S_A0 u0
noncomputable def m_laws_markTerm (p0 : Term) (p1 : Int) : Option (Int × (List Int)) :=
  (m_laws_markInt64S p0.Coeffs p1).bind fun (r8 : Int × (List Int)) =>
  some (r8.1, r8.2)
noncomputable def m_laws_heldInt64S_L0 (p0 : List Int) (s0 : Int × Int) : Option (Ctl (Int × Int) (Int ⊕ Int)) :=
  bif (decide (s0.2 < (p0.length : Int))) then
    (getI p0 s0.2).bind fun (x14 : Int) =>
    bif (!decide (x14 = s0.1)) then
      some (.out (.inr (-1 : Int)))
    else
      some (.next ((w64 (s0.1 + (1 : Int))), (w64 (s0.2 + (1 : Int)))))
  else
    some (.out (.inl s0.1))
noncomputable def m_laws_heldInt64S_A0 (u0 : Int ⊕ Int) : Option Int :=
  match u0 with
  | .inl u0 =>
    some u0
  | .inr u0 =>
    some u0
noncomputable def m_laws_heldInt64S (p0 : List Int) (p1 : Int) : Option Int :=
  (iter (m_laws_heldInt64S_L0 p0) (p1, (0 : Int))).bind fun (u0 : Int ⊕ Int) =>
  m_laws_heldInt64S_A0 u0
noncomputable def m_laws_heldTerm (p0 : Term) (p1 : Int) : Option Int :=
  (m_laws_heldInt64S p0.Coeffs p1).bind fun (r8 : Int) =>
  bif (decide (r8 < (0 : Int))) then
    some (-1 : Int)
  else
    some r8
noncomputable def m_laws_FnExactReadTerm (p0 : List UInt8) : Option Bool :=
  bif (decide ((1048576 : Int) < (p0.length : Int))) then
    some true
  else
    (m_spec_ReadTerm p0).bind fun (r16 : Term × Bool) =>
    (m_impl_ReadTerm p0).bind fun (r21 : Term × Bool) =>
    (m_laws_eqTerm r21.1 r16.1).bind fun (r26 : Bool) =>
    bif ((!r26) || (!(r21.2 == r16.2))) then
      some false
    else
      (m_laws_markTerm r21.1 (1 : Int)).bind fun (r35 : Int × (List Int)) =>
      (m_laws_heldTerm (Term.mk r21.1.Const r35.2) (1 : Int)).bind fun (r38 : Int) =>
      bif (decide (r38 < (0 : Int))) then
        some false
      else
        bif (!decide (r38 = r35.1)) then
          some false
        else
          (m_impl_ReadTerm p0).bind fun (r46 : Term × Bool) =>
          (m_laws_eqTerm r46.1 r16.1).bind fun (r51 : Bool) =>
          bif ((!r51) || (!(r46.2 == r16.2))) then
            some false
          else
            (m_laws_heldTerm (Term.mk r21.1.Const r35.2) (1 : Int)).bind fun (r60 : Int) =>
            bif (decide (r60 < (0 : Int))) then
              some false
            else
              bif (!decide (r60 = r35.1)) then
                some false
              else
                some true
end Go.Mod

namespace Go.Mod
open Go.AM
set_option linter.unusedVariables false
set_option linter.unusedSimpArgs false
theorem pl_sum_len {α : Type} {q : α → Nat} {xs : List α} (h : ∀ x, q x ≤ 8 + 8 * 0) : (xs.map q).sum ≤ 8 * xs.length := by
  induction xs with
  | nil => simp
  | cons y r ih => have := h y; simp only [List.map_cons, List.sum_cons, List.length_cons]; omega
theorem pl_eqB {p q : Prop} [Decidable p] [Decidable q] {F : Option Bool} (h : F = some (decide q)) : (bif !decide p then some false else F) = some (decide (p ∧ q)) := by
  by_cases hp : p <;> by_cases hq : q <;> simp [h, hp, hq]
theorem pl_eqL {p : Prop} [Decidable p] : (bif !decide p then some false else some true) = some (decide p) := by
  by_cases hp : p <;> simp [hp]
theorem pl_eqML {m : Option Bool} {p : Prop} [Decidable p] (hm : m = some (decide p)) : (m.bind fun r => bif !r then some false else some true) = some (decide p) := by
  rw [hm, Option.bind_some]; exact pl_eqL
theorem pl_neg1 : decide ((-1 : Int) < 0) = true := rfl
theorem pl_condB {α β : Type} {b : Bool} {x y : Option α} {f : α → Option β} : (cond b x y).bind f = cond b (x.bind f) (y.bind f) := by cases b <;> rfl
theorem pl_cond2 {α : Type} {b : Bool} {x y z : α} : cond b x (cond b y z) = cond b x z := by cases b <;> rfl
section
variable {α : Type} {ys : List α} {n : Nat} {a b c d e f g : α} (h : n < ys.length)
include h
theorem pl_get_set : getI (ys.set n a) (n : Int) = some a := getI_some (by rw [List.getElem?_set_self h])
theorem pl_get_set2 : getI ((ys.set n a).set n b) (n : Int) = some b := getI_some (by rw [List.set_set, List.getElem?_set_self h])
theorem pl_get_set3 : getI (((ys.set n a).set n b).set n c) (n : Int) = some c := getI_some (by rw [List.set_set, List.set_set, List.getElem?_set_self h])
theorem pl_get_set4 : getI ((((ys.set n a).set n b).set n c).set n d) (n : Int) = some d := getI_some (by simp only [List.set_set]; rw [List.getElem?_set_self h])
theorem pl_get_set5 : getI (((((ys.set n a).set n b).set n c).set n d).set n e) (n : Int) = some e := getI_some (by simp only [List.set_set]; rw [List.getElem?_set_self h])
theorem pl_get_set6 : getI ((((((ys.set n a).set n b).set n c).set n d).set n e).set n f) (n : Int) = some f := getI_some (by simp only [List.set_set]; rw [List.getElem?_set_self h])
theorem pl_get_set7 : getI (((((((ys.set n a).set n b).set n c).set n d).set n e).set n f).set n g) (n : Int) = some g := getI_some (by simp only [List.set_set]; rw [List.getElem?_set_self h])
end
def pc_Int64S (xs : List Int) : Nat := xs.length
theorem pc_Int64S_len {xs : List Int} : xs.length ≤ pc_Int64S xs := by unfold pc_Int64S; omega
theorem pe_Int64S {xs ys : List Int} (hl : pc_Int64S xs ≤ 1048576) : m_laws_eqInt64S xs ys = some (decide (xs = ys)) := by
  have hlen : xs.length ≤ 1048576 := Nat.le_trans pc_Int64S_len hl
  unfold m_laws_eqInt64S
  by_cases h : xs.length = ys.length
  · rw [decide_eq_true (by omega), Bool.not_true, cond_false, iter_eq (xs := xs) (ys := ys) (eq := fun x y => some (decide (x = y)))
      (fun n x y hx hy => by unfold m_laws_eqInt64S_L0; rw [dec_lt (get_lt hx), cond_true, getI_some hx, getI_some hy]; rfl)
      (by unfold m_laws_eqInt64S_L0; rw [dec_self]; rfl) (by omega) h (fun x hx y => rfl)]
    by_cases e : xs = ys
    · rw [if_pos e, decide_eq_true e]; rfl
    · rw [if_neg e, decide_eq_false e]; rfl
  · rw [decide_eq_false (by omega), decide_eq_false (fun e => h (by rw [e]))]; rfl
def pqE_Int64S (x : Int) : Nat := 1
def pq_Int64S (xs : List Int) : Nat := (xs.map pqE_Int64S).sum
theorem pqE_Int64S_le (x : Int) : pqE_Int64S x ≤ 8 + 8 * 0 := by
  unfold pqE_Int64S
  omega
theorem pq_Int64S_le (xs : List Int) : pq_Int64S xs ≤ 8 * pc_Int64S xs := by
  unfold pq_Int64S pc_Int64S
  exact pl_sum_len (fun x => pqE_Int64S_le x)
noncomputable def pmk_Int64S (x : Int) (k : Int) : Option (Int × Int) := some ((w64 (k + 1)), k)
noncomputable def phe_Int64S (x : Int) (k : Int) : Option Int := bif !decide (x = k) then some (-1) else some (w64 (k + 1))
theorem pmE_Int64S (x : Int) : ∀ k : Nat, k + pqE_Int64S x ≤ 4611686018427387904 → ∃ x', pmk_Int64S x k = some (((k + pqE_Int64S x : Nat) : Int), x') ∧ phe_Int64S x' k = some ((k + pqE_Int64S x : Nat) : Int) := fun k hk => by
  unfold pqE_Int64S at hk ⊢
  have tot : ((k + 1 : Nat) : Int) = ((k + (1) : Nat) : Int) := by omega
  have w0 : w64 (((k : Nat) : Int) + 1) = ((k + 1 : Nat) : Int) := w64_succ (by omega)
  refine ⟨((k : Nat) : Int), ?_, ?_⟩
  · unfold pmk_Int64S; simp only [w0, Option.bind_some] <;> rw [← tot]
  · unfold phe_Int64S; simp only [w0, Option.bind_some, decide_true, Bool.not_true, cond_false] <;> rw [← tot]
theorem pm_Int64S {xs : List Int} (hl : pc_Int64S xs ≤ 1048576) {k : Nat} (hk : k + pq_Int64S xs ≤ 4611686018427387904) : ∃ xs', m_laws_markInt64S xs k = some (((k + pq_Int64S xs : Nat) : Int), xs') ∧ m_laws_heldInt64S xs' k = some ((k + pq_Int64S xs : Nat) : Int) := by
  obtain ⟨xs', h1, h2, h3⟩ := iter_mark (xs := xs) (m := pqE_Int64S) (mk := pmk_Int64S) (held := phe_Int64S) (step := m_laws_markInt64S_L0) (hstep := m_laws_heldInt64S_L0)
    (fun n ys x k hk hx => by
      have hn := get_lt hx
      have gen : ∀ k1 : Int, w64 ((k : Int) + 1) = k1 → m_laws_markInt64S_L0 (ys, (k : Int), (n : Int)) = (pmk_Int64S x k).bind fun r => some (.next (ys.set n r.2, r.1, w64 ((n : Int) + 1))) := by
        intro k1 h1
        unfold m_laws_markInt64S_L0 pmk_Int64S
        simp only [h1, dec_lt hn, cond_true, getI_some hx, Option.bind_some, Int.toNat_natCast, pl_get_set hn, pl_get_set2 hn, pl_get_set3 hn, pl_get_set4 hn, pl_get_set5 hn, pl_get_set6 hn, pl_get_set7 hn, List.set_set, Option.bind_assoc]
      exact gen _ rfl)
    (fun ys k => by unfold m_laws_markInt64S_L0; rw [dec_self]; rfl)
    (fun n ys x k hk hx => by
      unfold m_laws_heldInt64S_L0 phe_Int64S
      rw [dec_lt (get_lt hx), cond_true, getI_some hx]
      have w0 : w64 (((k : Nat) : Int) + 1) = ((k + 1 : Nat) : Int) := w64_succ (by omega)
      simp only [Option.bind_some, pl_condB, pl_cond2, Option.bind_assoc, pl_neg1, cond_true, cond_false, dec_neg, w0])
    (fun ys k => by unfold m_laws_heldInt64S_L0; rw [dec_self]; rfl)
    (by have := pc_Int64S_len (xs := xs); omega) (fun x hx => pmE_Int64S x) (k := k) hk
  exact ⟨xs', by unfold m_laws_markInt64S; rw [h1]; rfl, by unfold m_laws_heldInt64S; rw [h3]; rfl⟩
def pc_Term (x : Term) : Nat := pc_Int64S x.Coeffs
theorem pi_Term (x y : Term) : (x.Const = y.Const ∧ x.Coeffs = y.Coeffs) ↔ x = y := by cases x; cases y; simp
theorem pe_Term {x y : Term} (hl : pc_Term x ≤ 1048576) : m_laws_eqTerm x y = some (decide (x = y)) := by
  unfold pc_Term at hl
  unfold m_laws_eqTerm
  rw [← decide_eq_decide.2 (pi_Term x y)]
  exact pl_eqB (pl_eqML (pe_Int64S (by omega)))
def pq_Term (x : Term) : Nat := pq_Int64S x.Coeffs
theorem pq_Term_le (x : Term) : pq_Term x ≤ 8 * pc_Term x := by
  unfold pq_Term pc_Term
  have h0 := pq_Int64S_le x.Coeffs
  omega
theorem pm_Term {x : Term} (hl : pc_Term x ≤ 1048576) {k : Nat} (hk : k + pq_Term x ≤ 4611686018427387904) : ∃ (a0 : (List Int)), m_laws_markTerm x k = some (((k + pq_Term x : Nat) : Int), a0) ∧ m_laws_heldTerm (Term.mk x.Const a0) k = some ((k + pq_Term x : Nat) : Int) := by
  unfold pq_Term at hk ⊢
  unfold pc_Term at hl
  have l0 : x.Coeffs.length ≤ pc_Int64S x.Coeffs := pc_Int64S_len
  obtain ⟨a0, m0, g0⟩ := pm_Int64S (xs := x.Coeffs) (by omega) (k := k) (by omega)
  have n0 : decide ((((k) + pq_Int64S x.Coeffs : Nat) : Int) < 0) = false := decide_eq_false (by omega)
  have tot : ((k + pq_Int64S x.Coeffs : Nat) : Int) = ((k + (pq_Int64S x.Coeffs) : Nat) : Int) := by omega
  refine ⟨a0, ?_, ?_⟩
  · unfold m_laws_markTerm; simp only [m0, Option.bind_some] <;> rw [← tot]
  · unfold m_laws_heldTerm; simp only [g0, n0, Option.bind_some, cond_false] <;> rw [← tot]
end Go.Mod

namespace Go.Mod
open Go.AM
set_option linter.unusedVariables false
set_option linter.unusedSimpArgs false
def cTerm (t : Term) : Nat := t.Coeffs.length
def inR (c : Int) : Bool := decide (-1000000 ≤ c) && decide (c ≤ 1000000)
theorem inR_iff {c : Int} : inR c = true ↔ -1000000 ≤ c ∧ c ≤ 1000000 := by simp [inR]
def lastOK (xs : List Int) : Bool := match xs.getLast? with | none => true | some x => !decide (x = 0)
def vT (t : Term) : Bool := inR t.Const && decide (t.Coeffs.length ≤ 10) && lastOK t.Coeffs && t.Coeffs.all inR
theorem vT_len {t : Term} (h : vT t = true) : t.Coeffs.length ≤ 10 := by simp [vT] at h; omega
theorem vT_const {t : Term} (h : vT t = true) : inR t.Const = true := by simp [vT] at h; exact h.1.1.1
theorem vT_coef {t : Term} (h : vT t = true) : ∀ x ∈ t.Coeffs, inR x = true := by simp [vT] at h; exact h.2
theorem getI_last {xs : List Int} (h0 : 0 < xs.length) (hl : xs.length ≤ 9223372036854775807) : getI xs (w64 ((xs.length : Int) - 1)) = xs.getLast? := by
  rw [w64_pred h0 hl, getI_nat, List.getLast?_eq_getElem?]
theorem spec_number (c : Int) : m_spec_l02Number c = some (inR c) := rfl
theorem spec_is_loop {t : Term} (hl : t.Coeffs.length ≤ 1048576) : iter (m_spec_l02Is_L0 t) 0 = some (bif t.Coeffs.all inR then .inl () else .inr false) := by
  have h := iter_for (step := m_spec_l02Is_L0 t) t.Coeffs (fun n (_ : Unit) => (n : Int)) (fun _ x _ => bif inR x then some (.next ()) else some (.out (.inr false))) (fun _ => .inl ())
    (fun n x r hx => by
      unfold m_spec_l02Is_L0
      rw [dec_lt (get_lt hx), cond_true, getI_some hx, Option.bind_some, spec_number, Option.bind_some]
      have hw : w64 ((n : Int) + 1) = ((n + 1 : Nat) : Int) := w64_succ (by have := get_lt hx; omega)
      cases inR x
      · rfl
      · rw [hw]; rfl)
    (fun r => by unfold m_spec_l02Is_L0; rw [dec_self]; rfl) ()
  rw [forL_all inR _ _ (fun n x _ => rfl)] at h
  exact h
theorem spec_is {t : Term} (hl : cTerm t ≤ 1048576) : m_spec_l02Is t = some (vT t) := by
  unfold cTerm at hl
  have hJ : m_spec_l02Is_J0 t () = some (t.Coeffs.all inR) := by
    unfold m_spec_l02Is_J0
    rw [spec_is_loop hl, Option.bind_some]
    cases t.Coeffs.all inR <;> rfl
  unfold m_spec_l02Is
  rw [spec_number, Option.bind_some]
  unfold vT
  cases h1 : inR t.Const with
  | false => rfl
  | true =>
    by_cases h2 : t.Coeffs.length ≤ 10
    · rw [decide_eq_true h2, decide_eq_false (show ¬ (10 : Int) < (t.Coeffs.length : Int) by omega)]
      simp only [Bool.not_true, Bool.false_or, cond_false, Bool.true_and]
      by_cases h3 : 0 < t.Coeffs.length
      · rw [decide_eq_true (show (0 : Int) < (t.Coeffs.length : Int) by omega), cond_true, getI_last h3 (by omega)]
        unfold lastOK
        cases h4 : t.Coeffs.getLast? with
        | none => rw [List.getLast?_eq_none_iff] at h4; rw [h4] at h3; exact absurd h3 (by simp)
        | some x =>
          simp only [Option.bind_some]
          by_cases h5 : x = 0
          · rw [decide_eq_true h5]; rfl
          · rw [decide_eq_false h5, cond_false, hJ]; rfl
      · rw [decide_eq_false (show ¬ (0 : Int) < (t.Coeffs.length : Int) by omega), cond_false, hJ]
        have : t.Coeffs = [] := List.length_eq_zero_iff.1 (by omega)
        rw [this]; rfl
    · rw [decide_eq_false h2, decide_eq_true (show (10 : Int) < (t.Coeffs.length : Int) by omega)]; rfl
theorem impl_all {xs : List Int} {a b : Int} : m_impl_allWithin xs a b = some (xs.all fun x => decide (a ≤ x) && decide (x ≤ b)) := by
  unfold m_impl_allWithin
  rw [forL_all (fun x => decide (a ≤ x) && decide (x ≤ b)) (f := .inr false) xs 0 (fun n x _ => by
    unfold m_impl_allWithin_L0 m_impl_within
    rw [Option.bind_some]
    cases (decide (a ≤ x) && decide (x ≤ b)) <;> rfl), Option.bind_some]
  cases xs.all fun x => decide (a ≤ x) && decide (x ≤ b) <;> rfl
theorem impl_valid (t : Term) : m_impl_ValidTerm t = some (vT t) := by
  unfold m_impl_ValidTerm vT
  by_cases h2 : t.Coeffs.length ≤ 10
  · rw [decide_eq_true h2, decide_eq_true (show (t.Coeffs.length : Int) ≤ (10 : Int) by omega), cond_true]
    rw [show m_impl_isCoeff t.Const = some (inR t.Const) from rfl, Option.bind_some]
    cases h1 : inR t.Const with
    | false => rfl
    | true =>
      rw [cond_true, impl_all, Option.bind_some]
      change (bif t.Coeffs.all inR then _ else _) = _
      cases h3 : t.Coeffs.all inR with
      | false => simp
      | true =>
        rw [cond_true]
        by_cases h4 : t.Coeffs.length = 0
        · rw [decide_eq_true (by omega), cond_true]
          rw [List.length_eq_zero_iff.1 h4]; rfl
        · rw [decide_eq_false (by omega), cond_false, getI_last (by omega) (by omega)]
          unfold lastOK
          cases h5 : t.Coeffs.getLast? with
          | none => rw [List.getLast?_eq_none_iff] at h5; rw [h5] at h4; exact absurd rfl h4
          | some x => simp
  · rw [decide_eq_false h2, decide_eq_false (show ¬ (t.Coeffs.length : Int) ≤ (10 : Int) by omega)]; simp
def tl (xs : List Int) : Nat → Nat
  | 0 => 0
  | n + 1 => if xs[n]? = some 0 then tl xs n else n + 1
theorem tl_le (xs : List Int) : ∀ n, tl xs n ≤ n := by
  intro n
  induction n with
  | zero => exact Nat.le_refl _
  | succ n ih => unfold tl; split <;> omega
def trim (xs : List Int) : List Int := xs.take (tl xs xs.length)
theorem trim_len (xs : List Int) : (trim xs).length ≤ xs.length := by unfold trim; simp; omega
theorem tl_iter {xs : List Int} {step : Int → Option (Ctl Int Int)}
    (hs : ∀ n : Int, step n = bif decide ((0 : Int) < n) then (getI xs (w64 (n - 1))).bind fun x => bif decide (x = 0) then some (.next (w64 (n - 1))) else some (.out n) else some (.out n))
    (hl : xs.length ≤ 1048576) : ∀ n : Nat, n ≤ xs.length → iter step (n : Int) = some ((tl xs n : Nat) : Int) := by
  intro n
  induction n with
  | zero => intro _; exact iter_out (by rw [hs]; rfl)
  | succ n ih =>
    intro hn
    have h := hs ((n + 1 : Nat) : Int)
    have hx : xs[n]? = some xs[n] := by simp
    rw [decide_eq_true (by omega), cond_true, w64_pred (by omega) (by omega), show n + 1 - 1 = n from rfl, getI_some hx, Option.bind_some] at h
    unfold tl
    by_cases h0 : xs[n] = 0
    · rw [decide_eq_true h0, cond_true] at h
      rw [iter_next h, ih (by omega), if_pos (by rw [hx, h0])]
    · rw [decide_eq_false h0, cond_false] at h
      rw [iter_out h, if_neg (by rw [hx]; simpa using h0)]
theorem slice_trim (xs : List Int) : sliceI xs 0 ((tl xs xs.length : Nat) : Int) = some (trim xs) := by
  rw [show (0 : Int) = ((0 : Nat) : Int) from rfl, sliceI_some (by omega) (tl_le _ _)]; rfl
def chk (t : Term) : Term × Bool := bif vT t then (t, true) else (Term.mk 0 [], false)
theorem spec_own {xs : List Int} (h : xs.length ≤ 1048576) : m_spec_l00Own xs = some xs := by
  unfold m_spec_l00Own; rw [capI_some (by simp; omega)]; simp
theorem spec_make {c : Int} {xs : List Int} (hl : xs.length ≤ 1048576) : m_spec_l02Make c xs = some (chk (Term.mk c (trim xs))) := by
  unfold m_spec_l02Make m_spec_l02Make_A0
  have h2 := trim_len xs
  rw [tl_iter (step := m_spec_l02Make_L0 xs) (fun n => rfl) hl _ (Nat.le_refl _), Option.bind_some, slice_trim, Option.bind_some, spec_own (by omega), Option.bind_some, spec_is (by unfold cTerm; simp only; omega), Option.bind_some]
  unfold chk
  cases vT (Term.mk c (trim xs)) <;> rfl
theorem impl_copy {xs : List Int} (h : xs.length ≤ 1048576) : m_impl_copyInts xs = some xs := by
  unfold m_impl_copyInts; rw [capI_some (by simp; omega)]; simp
theorem impl_own {t : Term} (h : t.Coeffs.length ≤ 1048576) : m_impl_Term_own t = some t := by
  unfold m_impl_Term_own; rw [impl_copy h]; rfl
theorem impl_trimmed {t : Term} (hl : t.Coeffs.length ≤ 1048576) : m_impl_Term_trimmed t = some (Term.mk t.Const (trim t.Coeffs)) := by
  unfold m_impl_Term_trimmed m_impl_Term_trimmed_A0
  rw [tl_iter (step := m_impl_Term_trimmed_L0 t) (fun n => rfl) hl _ (Nat.le_refl _), Option.bind_some, slice_trim, Option.bind_some]
def coef (xs : List Int) (i : Nat) : Int := xs[i]?.getD 0
theorem coef_get {xs : List Int} {i : Nat} {x : Int} (h : xs[i]? = some x) : coef xs i = x := by simp [coef, h]
theorem coef_no {xs : List Int} {i : Nat} (h : xs.length ≤ i) : coef xs i = 0 := by simp [coef, h]
theorem coef_rng {t : Term} (h : vT t = true) (i : Nat) : -1000000 ≤ coef t.Coeffs i ∧ coef t.Coeffs i ≤ 1000000 := by
  unfold coef
  cases hx : t.Coeffs[i]? with
  | none => simp
  | some x => exact inR_iff.1 (vT_coef h x (List.mem_of_getElem? hx))
theorem const_rng {t : Term} (h : vT t = true) : -1000000 ≤ t.Const ∧ t.Const ≤ 1000000 := inR_iff.1 (vT_const h)
def sumN (f : Nat → Int) : Nat → Int
  | 0 => 0
  | n + 1 => sumN f n + f n
def tAt (ts : List Term) (k : Nat) : Term := ts[k]?.getD ⟨0, []⟩
def lin (ts : List Term) (ms : List Int) (g : Term → Int) (n : Nat) : Int := sumN (fun k => coef ms k * g (tAt ts k)) n
theorem vT_last {t : Term} (h : vT t = true) : lastOK t.Coeffs = true := by simp [vT] at h; exact h.1.2
theorem tl_last {xs : List Int} : ∀ n, n ≤ xs.length → lastOK (xs.take (tl xs n)) = true := by
  intro n
  induction n with
  | zero => intro _; rfl
  | succ n ih =>
    intro hn
    unfold tl
    split
    · exact ih (by omega)
    · rename_i h
      have hx : xs[n]? = some xs[n] := by simp
      unfold lastOK
      rw [List.getLast?_eq_getElem?]
      have hl : (xs.take (n + 1)).length = n + 1 := by simp; omega
      rw [hl, show n + 1 - 1 = n from rfl, List.getElem?_take, if_pos (by omega), hx]
      rw [hx] at h
      simpa using h
theorem trim_last (xs : List Int) : lastOK (trim xs) = true := tl_last _ (Nat.le_refl _)
theorem tl_zero {xs : List Int} : ∀ n, n ≤ xs.length → ∀ i, tl xs n ≤ i → i < n → coef xs i = 0 := by
  intro n
  induction n with
  | zero => intro _ i _ h; omega
  | succ n ih =>
    intro hn i h1 h2
    unfold tl at h1
    split at h1
    · rename_i h
      by_cases hi : i = n
      · subst hi; exact coef_get h
      · exact ih (by omega) i h1 (by omega)
    · omega
theorem trim_coef (xs : List Int) (i : Nat) : coef (trim xs) i = coef xs i := by
  unfold trim
  by_cases h : i < tl xs xs.length
  · unfold coef; rw [List.getElem?_take, if_pos h]
  · rw [coef_no (by simp; omega)]
    by_cases h2 : i < xs.length
    · rw [tl_zero xs.length (Nat.le_refl _) i (by omega) h2]
    · rw [coef_no (by omega)]
theorem last_coef {xs : List Int} (h : lastOK xs = true) (h0 : 0 < xs.length) : coef xs (xs.length - 1) ≠ 0 := by
  unfold lastOK at h
  rw [List.getLast?_eq_getElem?] at h
  have hx : xs[xs.length - 1]? = some (xs[xs.length - 1]'(by omega)) := by simp
  rw [hx] at h
  rw [coef_get hx]
  simpa using h
theorem coef_ext {xs ys : List Int} (hx : lastOK xs = true) (hy : lastOK ys = true) (h : ∀ i, coef xs i = coef ys i) : xs = ys := by
  have key : ∀ (xs ys : List Int), lastOK xs = true → (∀ i, coef xs i = coef ys i) → xs.length ≤ ys.length := by
    intro xs ys hx h
    apply Nat.le_of_not_lt
    intro hlt
    have := last_coef hx (by omega)
    rw [h, coef_no (by omega)] at this
    exact this rfl
  have hl : xs.length = ys.length := Nat.le_antisymm (key xs ys hx h) (key ys xs hy (fun i => (h i).symm))
  apply List.ext_getElem hl
  intro i h1 h2
  have := h i
  rw [coef_get (show xs[i]? = some xs[i] by simp), coef_get (show ys[i]? = some ys[i] by simp)] at this
  exact this
theorem coef_ten {t : Term} (h : vT t = true) {i : Nat} (hi : 10 ≤ i) : coef t.Coeffs i = 0 := coef_no (by have := vT_len h; omega)
def val (t : Term) (v : List Int) : Int := t.Const + sumN (fun i => coef t.Coeffs i * coef v i) 10
def Vals (v : List Int) : Prop := v.length = 10 ∧ ∀ x ∈ v, -6 ≤ x ∧ x ≤ 6
theorem Vals.coef {v : List Int} (h : Vals v) (i : Nat) : -6 ≤ coef v i ∧ coef v i ≤ 6 := by
  unfold Mod.coef
  cases hx : v[i]? with
  | none => simp
  | some x => exact h.2 x (List.mem_of_getElem? hx)
structure Small (t : Term) : Prop where
  v : vT t = true
  c : -7 ≤ t.Const ∧ t.Const ≤ 7
  f : ∀ i, -4 ≤ coef t.Coeffs i ∧ coef t.Coeffs i ≤ 4
structure Fact (t : Term) (c : Nat) : Prop where
  v : vT t = true
  c : -(c : Int) ≤ t.Const ∧ t.Const ≤ c
  f : ∀ i, -3 ≤ coef t.Coeffs i ∧ coef t.Coeffs i ≤ 3
theorem Fact.mono {t : Term} {c c' : Nat} (h : Fact t c) (hc : c ≤ c') : Fact t c' := ⟨h.v, by have := h.c; omega, h.f⟩
end Go.Mod

namespace Go.Mod
open Go.AM
set_option linter.unusedVariables false
set_option linter.unusedSimpArgs false
abbrev nm (v : Int) : List UInt8 := Go.Lib.itoa v
theorem nm_nat (n : Nat) : nm (n : Int) = Go.Lib.decDigits n := by unfold nm Go.Lib.itoa; rw [if_neg (by omega)]; simp
theorem digit_val {d : Nat} (h : d < 10) : (UInt8.ofNat (48 + d)).toNat = 48 + d := by simp [UInt8.toNat_ofNat]; omega
theorem dd_digits : ∀ (u : Nat), ∀ b ∈ Go.Lib.decDigits u, 48 ≤ b.toNat ∧ b.toNat ≤ 57 := by
  intro u
  induction u using Nat.strongRecOn with
  | _ u ih =>
    intro b hb
    rw [Go.Lib.decDigits] at hb
    by_cases h : u < 10
    · rw [dif_pos h] at hb
      simp only [List.mem_singleton] at hb
      subst hb; rw [digit_val h]; omega
    · rw [dif_neg h] at hb
      rcases List.mem_append.1 hb with hb | hb
      · exact ih (u / 10) (by omega) b hb
      · simp only [List.mem_singleton] at hb
        subst hb; rw [digit_val (by omega)]; omega
theorem dd_ne (u : Nat) : Go.Lib.decDigits u ≠ [] := by
  rw [Go.Lib.decDigits]
  by_cases h : u < 10
  · rw [dif_pos h]; simp
  · rw [dif_neg h]; simp
theorem dd_len : ∀ (k u : Nat), u < 10 ^ (k + 1) → (Go.Lib.decDigits u).length ≤ k + 1
  | 0, u, h => by rw [Go.Lib.decDigits, dif_pos (by omega)]; simp
  | k + 1, u, h => by
    rw [Go.Lib.decDigits]
    by_cases g : u < 10
    · rw [dif_pos g]; simp
    · rw [dif_neg g]
      have := dd_len k (u / 10) (by rw [Nat.pow_succ] at h; omega)
      simp; omega
theorem impl_dec {v : Int} (h0 : -9223372036854775808 ≤ v) (h1 : v ≤ 9223372036854775807) : m_impl_Decimal v = some (nm v) := by
  unfold m_impl_Decimal m_strconv_FormatInt
  rw [decide_eq_true rfl, decide_eq_true h0, decide_eq_true h1]
  rfl
theorem dec_step {u : Nat} {s : List UInt8} (h1 : 1 ≤ u) (h2 : u < 1000000000000000000) (hs : s.length ≤ 1000000) :
    m_spec_l01Dec_L0 (-(u : Int), s) = some (.next (-((u / 10 : Nat) : Int), UInt8.ofNat (48 + u % 10) :: s)) := by
  unfold m_spec_l01Dec_L0
  simp only
  have e1 : Int.tmod (-(u : Int)) 10 = -((u % 10 : Nat) : Int) := by rw [Int.neg_tmod]; rfl
  have e2 : Int.tdiv (-(u : Int)) 10 = -((u / 10 : Nat) : Int) := by rw [Int.neg_tdiv]; rfl
  have hm : u % 10 < 10 := Nat.mod_lt _ (by omega)
  have hd : u / 10 ≤ u := Nat.div_le_self _ _
  rw [decide_eq_true (by omega), cond_true, e1, e2, strI_some (by simp; omega), Option.bind_some]
  generalize u % 10 = d at hm
  generalize u / 10 = q at hd
  rw [w64_eq (n := 48 - -(d : Int)) (by omega), w64_eq (n := -(q : Int)) (by omega)]
  have e3 : wu 8 (48 - -(d : Int)) = ((48 + d : Nat) : Int) := by unfold wu; omega
  rw [e3]
  rfl
theorem spec_dec {v : Int} (h0 : -1000000000000000 ≤ v) (h1 : v ≤ 1000000000000000) : m_spec_l01Dec v = some (nm v) := by
  have key : ∀ u : Nat, 1 ≤ u → u ≤ 1000000000000000 → iter m_spec_l01Dec_L0 (-(u : Int), []) = some (Go.Lib.decDigits u) := by
    intro u h1 h2
    have main : ∀ (n u : Nat) (s : List UInt8), u < 10 ^ n → s.length + n ≤ 100 → 1 ≤ u → u < 1000000000000000000 → iter m_spec_l01Dec_L0 (-(u : Int), s) = some (Go.Lib.decDigits u ++ s) := by
      intro n
      induction n with
      | zero => intro u s h _ h2; simp at h; omega
      | succ n ih =>
        intro u s hn hs h1 h2
        rw [iter_next (dec_step h1 h2 (by omega)), Go.Lib.decDigits]
        by_cases h : u < 10
        · have e0 : u / 10 = 0 := by omega
          rw [dif_pos h, e0, show u % 10 = u by omega]
          exact iter_out rfl
        · rw [dif_neg h, List.append_assoc]
          exact ih (u / 10) _ (by rw [Nat.pow_succ] at hn; omega) (by simp; omega) (by omega) (by omega)
    have := main 16 u [] (by omega) (by simp) h1 (by omega)
    simpa using this
  unfold m_spec_l01Dec
  by_cases e : v = 0
  · subst e; rw [decide_eq_true rfl, cond_true]; rw [show nm 0 = Go.Lib.decDigits 0 from nm_nat 0, Go.Lib.decDigits]; rfl
  · rw [decide_eq_false e, cond_false]
    by_cases hp : 0 < v
    · obtain ⟨n, rfl⟩ : ∃ n : Nat, v = n := ⟨v.toNat, by omega⟩
      rw [decide_eq_true hp, cond_true, nm_nat, w64_eq (n := 0 - (n : Int)) (by omega), show (0 : Int) - (n : Int) = -(n : Int) by omega]
      unfold m_spec_l01Dec_J0
      rw [key n (by omega) (by omega), Option.bind_some]
      unfold m_spec_l01Dec_A0
      rw [decide_eq_false (by omega)]; rfl
    · obtain ⟨n, rfl⟩ : ∃ n : Nat, v = -(n : Int) := ⟨(-v).toNat, by omega⟩
      rw [decide_eq_false hp, cond_false]
      unfold m_spec_l01Dec_J0
      rw [key n (by omega) (by omega), Option.bind_some]
      unfold m_spec_l01Dec_A0
      have hl := dd_len 16 n (by omega)
      rw [decide_eq_true (by omega), cond_true, strI_some (by simp; omega), Option.bind_some]
      unfold nm Go.Lib.itoa
      rw [if_pos (by omega), Int.natAbs_neg, Int.natAbs_natCast]; rfl
def dstep (u : Int) (b : UInt8) : Int := if 48 ≤ b.toNat ∧ b.toNat ≤ 57 then 10 * u + ((b.toNat : Int) - 48) else u
theorem fold_dd : ∀ (n : Nat) (r : List UInt8), (Go.Lib.decDigits n ++ r).foldl dstep 0 = r.foldl dstep (n : Int) := by
  intro n
  induction n using Nat.strongRecOn with
  | _ n ih =>
    intro r
    rw [Go.Lib.decDigits]
    by_cases h : n < 10
    · rw [dif_pos h, List.cons_append, List.foldl_cons, List.nil_append]
      unfold dstep
      rw [digit_val h, if_pos (by omega)]
      congr 1; omega
    · rw [dif_neg h, List.append_assoc, ih (n / 10) (by omega), List.cons_append, List.foldl_cons, List.nil_append]
      congr 1
      unfold dstep
      rw [digit_val (by omega), if_pos (by omega)]
      omega
end Go.Mod

namespace Go.Mod
open Go.AM
set_option linter.unusedVariables false
set_option linter.unusedSimpArgs false
def sgn (out : List UInt8) (n : Int) : List UInt8 := if n < 0 then [45] else if out = [] then [] else [43]
def num (name : List UInt8) (n : Int) : List UInt8 := if n.natAbs = 1 ∧ name ≠ [] then [] else Go.Lib.decDigits n.natAbs
def addP (name out : List UInt8) (n : Int) : List UInt8 := if n = 0 then out else ((out ++ sgn out n) ++ num name n) ++ name
def nameOf (k : Nat) : List UInt8 := [UInt8.ofNat (97 + k)]
def rawK (t : Term) : Nat → List UInt8
  | 0 => []
  | k + 1 => addP (nameOf k) (rawK t k) (coef t.Coeffs k)
def rawT (t : Term) : List UInt8 := addP [] (rawK t 10) t.Const
def textT (t : Term) : List UInt8 := if rawT t = [] then [48] else rawT t
theorem num_len {name : List UInt8} {n : Int} (h : -1000000 ≤ n ∧ n ≤ 1000000) : (num name n).length ≤ 7 := by
  unfold num
  split
  · simp
  · exact dd_len 6 _ (by omega)
theorem addP_len {name out : List UInt8} {n : Int} (hn : name.length ≤ 1) (h : -1000000 ≤ n ∧ n ≤ 1000000) : (addP name out n).length ≤ out.length + 9 := by
  unfold addP
  by_cases h0 : n = 0
  · rw [if_pos h0]; omega
  · rw [if_neg h0]
    have := num_len (name := name) h
    have hs : (sgn out n).length ≤ 1 := by unfold sgn; split <;> (try split) <;> simp
    simp only [List.length_append]
    omega
theorem rawK_len {t : Term} (h : vT t = true) : ∀ k, (rawK t k).length ≤ 9 * k
  | 0 => by simp [rawK]
  | k + 1 => by
    have := rawK_len h k
    have h2 := addP_len (name := nameOf k) (out := rawK t k) (n := coef t.Coeffs k) (by simp [nameOf]) (coef_rng h k)
    show (addP (nameOf k) (rawK t k) (coef t.Coeffs k)).length ≤ _
    omega
theorem rawK_end {t : Term} (h : vT t = true) : ∀ k, t.Coeffs.length ≤ k → rawK t k = rawK t t.Coeffs.length := by
  intro k hk
  induction hk with
  | refl => rfl
  | step hk ih =>
    rename_i m
    show addP (nameOf m) (rawK t m) (coef t.Coeffs m) = _
    rw [coef_no hk]
    exact ih
theorem abs_ok {x : Int} (h : -1000000 ≤ x ∧ x ≤ 1000000) : m_impl_absolute x = some ((x.natAbs : Nat) : Int) := by
  unfold m_impl_absolute
  rw [w64_eq (by omega)]
  congr 1
  omega
theorem sign_ok {x : Int} {s : List UInt8} (hs : s.length ≤ 10000) : m_impl_termText_1 x s = some (s ++ sgn s x) := by
  unfold m_impl_termText_1 sgn
  by_cases h : x < 0
  · rw [decide_eq_true h, if_pos h, cond_true, strI_some (by simp; omega), Option.bind_some]
  · rw [decide_eq_false h, if_neg h, cond_false]
    by_cases h2 : s = []
    · rw [decide_eq_true h2, if_pos h2]; simp
    · rw [decide_eq_false h2, if_neg h2, Bool.not_false, cond_true, strI_some (by simp; omega), Option.bind_some]
theorem sgn_len (out : List UInt8) (n : Int) : (sgn out n).length ≤ 1 := by unfold sgn; split <;> (try split) <;> simp
theorem impl_cell {n : Nat} {x : Int} {s : List UInt8} (hn : n < 10) (hx : -1000000 ≤ x ∧ x ≤ 1000000) (hs : s.length ≤ 1000) : m_impl_termText_L0 n x s = some (.next (addP (nameOf n) s x)) := by
  unfold m_impl_termText_L0 addP
  by_cases h0 : x = 0
  · rw [decide_eq_true h0, if_pos h0]; rfl
  · have hsl := sgn_len s x
    have hnl := num_len (name := nameOf n) hx
    have last : ∀ y : List UInt8, y.length ≤ 2000 → m_impl_termText_J0 n y = some (.next (y ++ nameOf n)) := by
      intro y hy
      unfold m_impl_termText_J0
      have hr : runeI (w32 (w64 ((97 : Int) + (n : Int)))) = some (nameOf n) := by
        rw [w64_eq (by omega), w32_eq (by omega)]
        unfold runeI nameOf
        rw [if_pos (by omega), show ((97 : Int) + (n : Int)).toNat = 97 + n by omega]
      rw [hr, Option.bind_some, strI_some (by simp [nameOf]; omega), Option.bind_some]
    rw [decide_eq_false h0, if_neg h0, cond_false, sign_ok (by omega), Option.bind_some, abs_ok hx, Option.bind_some]
    by_cases h1 : x.natAbs = 1
    · rw [decide_eq_true (by omega), Bool.not_true, cond_false, last _ (by simp; omega)]
      unfold num
      rw [if_pos ⟨h1, by simp [nameOf]⟩, List.append_nil]
    · have hnum : num (nameOf n) x = Go.Lib.decDigits x.natAbs := by unfold num; rw [if_neg (fun h => h1 h.1)]
      rw [hnum] at hnl ⊢
      rw [decide_eq_false (by omega), Bool.not_false, cond_true, Option.bind_some, impl_dec (by omega) (by omega), Option.bind_some, nm_nat, strI_some (by simp; omega), Option.bind_some, last _ (by simp; omega)]
theorem impl_text {t : Term} (h : vT t = true) : m_impl_termText t = some (textT t) := by
  have hl := vT_len h
  have hc := const_rng h
  unfold m_impl_termText
  obtain ⟨u, e1, e2⟩ := forL_inv (step := m_impl_termText_L0) (fin := fun s0 => s0) (xs := t.Coeffs) (fun n s => s = rawK t n) (fun s => s = rawK t 10)
    (fun n x s hx hs => by
      subst hs
      have hlt := get_lt hx
      have hr := rawK_len h n
      refine .inl ⟨_, impl_cell (by omega) (by have := coef_rng h n; rw [coef_get hx] at this; exact this) (by omega), ?_⟩
      show _ = addP (nameOf n) (rawK t n) (coef t.Coeffs n)
      rw [coef_get hx])
    (fun s hs => by rw [hs]; exact (rawK_end h 10 hl).symm) (s := []) rfl
  rw [e1, Option.bind_some, e2]
  have hr := rawK_len h 10
  have hsl := sgn_len (rawK t 10) t.Const
  have hnl := num_len (name := []) hc
  have last : ∀ y : List UInt8, y = rawT t → m_impl_termText_J1 y = some (textT t) := by
    rintro y rfl
    unfold m_impl_termText_J1 textT
    by_cases h : rawT t = []
    · rw [decide_eq_true h, if_pos h]; rfl
    · rw [decide_eq_false h, if_neg h]; rfl
  unfold m_impl_termText_A0
  by_cases h0 : t.Const = 0
  · rw [decide_eq_true h0]
    exact last _ (by unfold rawT addP; rw [if_pos h0])
  · have hnum : num [] t.Const = Go.Lib.decDigits t.Const.natAbs := by unfold num; rw [if_neg (fun h => h.2 rfl)]
    rw [hnum] at hnl
    rw [decide_eq_false h0, Bool.not_false, cond_true, sign_ok (by omega), Option.bind_some, abs_ok hc, Option.bind_some, impl_dec (by omega) (by omega), Option.bind_some, nm_nat, strI_some (by simp; omega), Option.bind_some]
    exact last _ (by unfold rawT addP; rw [if_neg h0, hnum, List.append_nil])
theorem spec_cell {x : Int} {name s : List UInt8} {i : Nat} (hi : i ≤ 100) (hx : -1000000 ≤ x ∧ x ≤ 1000000) (hs : s.length ≤ 1000) (hn : name.length ≤ 1) : m_spec_l02Text_J0 (s, (i : Int)) (x, name) = some (.next (addP name s x, ((i + 1 : Nat) : Int))) := by
  unfold m_spec_l02Text_J0 addP
  simp only
  rw [w64_succ (by omega)]
  by_cases h0 : x = 0
  · rw [decide_eq_true h0, if_pos h0]; rfl
  · have hsl := sgn_len s x
    have hnl := num_len (name := name) hx
    have last : ∀ y : List UInt8, y = s ++ sgn s x → m_spec_l02Text_J1 (s, (i : Int)) (x, name) (y, ((x.natAbs : Nat) : Int)) = some (.next (((s ++ sgn s x) ++ num name x) ++ name, ((i + 1 : Nat) : Int))) := by
      rintro y rfl
      unfold m_spec_l02Text_J1
      simp only
      rw [w64_succ (by omega)]
      unfold num at hnl ⊢
      by_cases h1 : x.natAbs = 1 ∧ name ≠ []
      · rw [if_pos h1] at hnl ⊢
        rw [decide_eq_true (show ((x.natAbs : Nat) : Int) = 1 by omega), decide_eq_false h1.2]
        simp only [Bool.not_true, Bool.or_self, cond_false]
        rw [strI_some (by simp; omega), Option.bind_some, List.append_nil]
      · rw [if_neg h1] at hnl ⊢
        have hb : (!decide (((x.natAbs : Nat) : Int) = 1) || decide (name = [])) = true := by
          by_cases h2 : x.natAbs = 1
          · have : name = [] := Classical.byContradiction fun h3 => h1 ⟨h2, h3⟩
            rw [decide_eq_true this, Bool.or_true]
          · rw [decide_eq_false (by omega)]; rfl
        rw [hb, cond_true, spec_dec (by omega) (by omega), Option.bind_some, nm_nat, strI_some (by simp; omega), Option.bind_some, strI_some (by simp; omega), Option.bind_some]
    rw [decide_eq_false h0, if_neg h0, cond_false]
    by_cases hneg : x < 0
    · rw [decide_eq_true hneg, cond_true, strI_some (by simp; omega), Option.bind_some, w64_eq (by omega), show 0 - x = ((x.natAbs : Nat) : Int) by omega]
      exact last _ (by unfold sgn; rw [if_pos hneg])
    · rw [decide_eq_false hneg, cond_false]
      have hx' : x = ((x.natAbs : Nat) : Int) := by omega
      by_cases he : s = []
      · rw [decide_eq_true he, Bool.not_true, cond_false]
        have := last s (by unfold sgn; rw [if_neg hneg, if_pos he, List.append_nil])
        rw [← hx'] at this
        exact this
      · rw [decide_eq_false he, Bool.not_false, cond_true, strI_some (by simp; omega), Option.bind_some]
        have := last (s ++ [43]) (by unfold sgn; rw [if_neg hneg, if_neg he])
        rw [← hx'] at this
        exact this
theorem spec_text {t : Term} (h : vT t = true) : m_spec_l02Text t = some (textT t) := by
  have hl := vT_len h
  have hc := const_rng h
  obtain ⟨u, e1, e2⟩ := iter_inv (step := m_spec_l02Text_L0 t) (fun s => ∃ k : Nat, s.2 = (k : Int) ∧ ((k ≤ t.Coeffs.length ∧ s.1 = rawK t k) ∨ (k = t.Coeffs.length + 1 ∧ s.1 = rawT t))) (fun s => t.Coeffs.length + 1 - s.2.toNat) (fun u => u = rawT t)
    (fun s ⟨k, hk, hs⟩ => by
      obtain ⟨s1, s2⟩ := s
      simp only at hk hs
      subst hk
      unfold m_spec_l02Text_L0
      simp only
      rcases hs with ⟨hkl, hs⟩ | ⟨hkl, hs⟩
      · have hr := rawK_len h k
        rw [decide_eq_true (show (k : Int) ≤ (t.Coeffs.length : Int) by omega), cond_true]
        by_cases hlt : k < t.Coeffs.length
        · have hx : t.Coeffs[k]? = some t.Coeffs[k] := List.getElem?_eq_getElem hlt
          have hcr := coef_rng h k
          rw [coef_get hx] at hcr
          have hname : List.map (fun n : Int => UInt8.ofNat (Int.toNat n)) [wu 8 (w64 ((97 : Int) + (k : Int)))] = nameOf k := by
            rw [w64_eq (by omega), show wu 8 ((97 : Int) + (k : Int)) = ((97 + k : Nat) : Int) by unfold wu; omega]; rfl
          rw [dec_lt hlt, cond_true, getI_some hx, Option.bind_some, hname, spec_cell (by omega) hcr (by rw [hs]; omega) (by simp [nameOf])]
          refine .inl ⟨_, rfl, ⟨k + 1, rfl, .inl ⟨hlt, ?_⟩⟩, by simp only; omega⟩
          show addP (nameOf k) s1 t.Coeffs[k] = addP (nameOf k) (rawK t k) (coef t.Coeffs k)
          rw [hs, coef_get hx]
        · have hkk : k = t.Coeffs.length := by omega
          rw [decide_eq_false (by omega), cond_false, spec_cell (by omega) hc (by rw [hs]; omega) (by simp)]
          refine .inl ⟨_, rfl, ⟨k + 1, rfl, .inr ⟨by omega, ?_⟩⟩, by simp only; omega⟩
          show addP [] s1 t.Const = addP [] (rawK t 10) t.Const
          rw [hs, hkk, rawK_end h 10 hl]
      · rw [decide_eq_false (by omega), cond_false]
        exact .inr ⟨_, rfl, hs⟩)
    (s := (([] : List UInt8), (0 : Int))) ⟨0, rfl, .inl ⟨by omega, rfl⟩⟩
  unfold m_spec_l02Text
  rw [e1, Option.bind_some, e2]
  unfold m_spec_l02Text_A0 textT
  by_cases h : rawT t = []
  · rw [decide_eq_true h, if_pos h]; rfl
  · rw [decide_eq_false h, if_neg h]; rfl
end Go.Mod

namespace Go.Mod
open Go.AM
set_option linter.unusedVariables false
set_option linter.unusedSimpArgs false
theorem fold_bnd : ∀ (x : List UInt8) (u : Int) (k : Nat), 0 ≤ u → u < (10 : Int) ^ k → 0 ≤ x.foldl dstep u ∧ x.foldl dstep u < (10 : Int) ^ (k + x.length)
  | [], u, k, h0, h1 => ⟨h0, h1⟩
  | b :: l, u, k, h0, h1 => by
    have e : (10 : Int) ^ (k + 1) = 10 ^ k * 10 := Int.pow_succ _ _
    have := fold_bnd l (dstep u b) (k + 1) (by unfold dstep; split <;> omega) (by unfold dstep; split <;> omega)
    rw [List.foldl_cons, List.length_cons, show k + (l.length + 1) = k + 1 + l.length by omega]
    exact this
def isD (b : UInt8) : Prop := 48 ≤ b.toNat ∧ b.toNat ≤ 57
theorem coef_set {v : List Int} {j k : Nat} {x : Int} (hj : j < v.length) : coef (v.set j x) k = if j = k then x else coef v k := by
  unfold coef
  by_cases h : j = k
  · subst h; rw [if_pos rfl, List.getElem?_set_self hj]; rfl
  · rw [if_neg h, List.getElem?_set_ne h]
section
variable {s : List UInt8} (hs : s.length ≤ 1048576)
include hs in
theorem dig_tot {j0 : Int × Int} {j : Nat} (hj : j ≤ s.length) : ∃ (e : Nat) (n : Int), iter (m_impl_ReadTerm_L1 s j0) ((j : Int), (0 : Int)) = some ((e : Int), n) ∧ j ≤ e ∧ e ≤ s.length := by
  obtain ⟨u, e1, e2⟩ := iter_inv (step := m_impl_ReadTerm_L1 s j0) (fun w => ∃ e : Nat, w.1 = (e : Int) ∧ j ≤ e ∧ e ≤ s.length) (fun w => s.length - w.1.toNat) (fun u => ∃ e : Nat, u.1 = (e : Int) ∧ j ≤ e ∧ e ≤ s.length)
    (fun w ⟨e, w1, w2, w3⟩ => by
      unfold m_impl_ReadTerm_L1
      rw [w1]
      by_cases hlt : e < s.length
      · rw [dec_lt hlt, cond_true, getI_some (List.getElem?_eq_getElem hlt), Option.bind_some]
        cases decide ((48 : Int) ≤ (s[e].toNat : Int)) with
        | false => exact .inr ⟨_, rfl, e, rfl, w2, w3⟩
        | true =>
          rw [cond_true]
          cases decide ((s[e].toNat : Int) ≤ 57) && decide ((e : Int) < w64 (j0.1 + 8)) with
          | false => exact .inr ⟨_, rfl, e, rfl, w2, w3⟩
          | true =>
            rw [cond_true, w64_succ (by omega)]
            exact .inl ⟨_, rfl, ⟨e + 1, rfl, by omega, by omega⟩, by simp only; omega⟩
      · rw [dec_not_lt hlt, cond_false]
        exact .inr ⟨_, rfl, e, rfl, w2, w3⟩)
    (s := ((j : Int), (0 : Int))) ⟨j, rfl, by omega, hj⟩
  obtain ⟨e, h1, h2, h3⟩ := e2
  exact ⟨e, u.2, by rw [e1, ← h1], h2, h3⟩
include hs in
theorem impl_tot : ∃ u, iter (m_impl_ReadTerm_L0 s) ((0 : Int), (List.replicate 10 (0 : Int)), (0 : Int)) = some u ∧ ((∃ c l, u = .inl (c, l) ∧ l.length = 10) ∨ u = .inr (0, [], false)) := by
  refine iter_inv (step := m_impl_ReadTerm_L0 s) (fun w => ∃ i : Nat, w.2.2 = (i : Int) ∧ i ≤ s.length ∧ w.2.1.length = 10) (fun w => s.length - w.2.2.toNat) _ (fun w ⟨i, w1, w2, w3⟩ => ?_) (s := ((0 : Int), (List.replicate 10 (0 : Int)), (0 : Int))) ⟨0, rfl, by omega, by simp⟩
  have key : ∀ (j : Nat) (sg : Int), i ≤ j → j ≤ s.length → (∃ w', m_impl_ReadTerm_J0 s w ((j : Int), sg) = some (.next w') ∧ (∃ i' : Nat, w'.2.2 = (i' : Int) ∧ i' ≤ s.length ∧ w'.2.1.length = 10) ∧ s.length - w'.2.2.toNat < s.length - w.2.2.toNat) ∨
      ∃ u, m_impl_ReadTerm_J0 s w ((j : Int), sg) = some (.out u) ∧ ((∃ c l, u = .inl (c, l) ∧ l.length = 10) ∨ u = .inr (0, [], false)) := by
    intro j sg hij hj
    obtain ⟨e, n, e1, e2, e3⟩ := dig_tot hs (j0 := ((j : Int), sg)) hj
    unfold m_impl_ReadTerm_J0
    rw [e1, Option.bind_some]
    have no : (∃ w', m_impl_ReadTerm_J1 s w ((j : Int), sg) ((e : Int), n) false = some (.next w') ∧ (∃ i' : Nat, w'.2.2 = (i' : Int) ∧ i' ≤ s.length ∧ w'.2.1.length = 10) ∧ s.length - w'.2.2.toNat < s.length - w.2.2.toNat) ∨
        ∃ u, m_impl_ReadTerm_J1 s w ((j : Int), sg) ((e : Int), n) false = some (.out u) ∧ ((∃ c l, u = .inl (c, l) ∧ l.length = 10) ∨ u = .inr (0, [], false)) := by
      unfold m_impl_ReadTerm_J1
      simp only [cond_false]
      by_cases h : (e : Int) = (j : Int)
      · rw [decide_eq_true h]; exact .inr ⟨_, rfl, .inr rfl⟩
      · rw [decide_eq_false h, cond_false]
        exact .inl ⟨_, rfl, ⟨e, rfl, e3, w3⟩, by rw [w1]; simp only; omega⟩
    unfold m_impl_ReadTerm_A1
    simp only
    by_cases hlt : e < s.length
    · have hb : s[e].toNat < 256 := s[e].toNat_lt
      rw [dec_lt hlt, cond_true, getI_some (List.getElem?_eq_getElem hlt), Option.bind_some]
      by_cases h97 : 97 ≤ s[e].toNat
      · rw [decide_eq_true (by omega), cond_true]
        by_cases h107 : s[e].toNat < 107
        · rw [decide_eq_true (by omega)]
          have two : ∀ v : Int, (∃ w', m_impl_ReadTerm_J2 s w ((j : Int), sg) ((e : Int), n) v = some (.next w') ∧ (∃ i' : Nat, w'.2.2 = (i' : Int) ∧ i' ≤ s.length ∧ w'.2.1.length = 10) ∧ s.length - w'.2.2.toNat < s.length - w.2.2.toNat) := by
            intro v
            unfold m_impl_ReadTerm_J2
            simp only
            have hw : wu 8 ((s[e].toNat : Int) - 97) = ((s[e].toNat - 97 : Nat) : Int) := by unfold wu; omega
            rw [getI_some (List.getElem?_eq_getElem hlt), Option.bind_some, hw, getI_some (List.getElem?_eq_getElem (show s[e].toNat - 97 < w.2.1.length by omega)), Option.bind_some, w64_succ (by omega)]
            exact ⟨_, rfl, ⟨e + 1, rfl, by omega, by simp only [List.length_set]; exact w3⟩, by rw [w1]; simp only; omega⟩
          unfold m_impl_ReadTerm_J1
          simp only [cond_true]
          cases decide ((e : Int) = (j : Int)) with
          | true => exact .inl (two 1)
          | false => exact .inl (two _)
        · rw [decide_eq_false (by omega)]; exact no
      · rw [decide_eq_false (by omega), cond_false]; exact no
    · rw [dec_not_lt hlt, cond_false]; exact no
  unfold m_impl_ReadTerm_L0
  rw [w1]
  by_cases hlt : i < s.length
  · rw [dec_lt hlt, cond_true, getI_some (List.getElem?_eq_getElem hlt), Option.bind_some, w64_succ (by omega)]
    have h1 := key (i + 1) (-1) (by omega) (by omega)
    have h2 := key (i + 1) 1 (by omega) (by omega)
    have h3 := key i 1 (by omega) (by omega)
    rw [w1] at h1 h2 h3
    cases decide ((s[i].toNat : Int) = 45) with
    | true => exact h1
    | false =>
      rw [cond_false]
      cases decide ((s[i].toNat : Int) = 43) with
      | true => exact h2
      | false => exact h3
  · rw [dec_not_lt hlt, cond_false]
    exact .inr ⟨_, rfl, .inl ⟨_, _, rfl, w3⟩⟩
include hs in
theorem impl_form : ∃ r, m_impl_ReadTerm s = some r ∧ (r = (Term.mk 0 [], false) ∨ (r.2 = true ∧ vT r.1 = true ∧ textT r.1 = s)) := by
  obtain ⟨u, e1, e2⟩ := impl_tot hs
  unfold m_impl_ReadTerm
  rw [show makeI (10 : Int) 8 = some 10 from makeI_some (n := 10) (by omega), Option.bind_some, e1, Option.bind_some]
  unfold m_impl_ReadTerm_A0
  rcases e2 with ⟨c, l, rfl, hl⟩ | rfl
  · simp only
    rw [impl_trimmed (by simp only; omega), Option.bind_some, impl_valid, Option.bind_some]
    simp only
    cases hv : vT (Term.mk c (trim l)) with
    | false => exact ⟨_, rfl, .inl rfl⟩
    | true =>
      rw [Bool.not_true, cond_false, impl_text hv, Option.bind_some]
      by_cases ht : textT (Term.mk c (trim l)) = s
      · have := vT_len hv
        rw [decide_eq_true ht, Bool.not_true, cond_false, impl_own (by omega), Option.bind_some]
        exact ⟨_, rfl, .inr ⟨rfl, hv, ht⟩⟩
      · rw [decide_eq_false ht]; exact ⟨_, rfl, .inl rfl⟩
  · exact ⟨_, rfl, .inl rfl⟩
include hs in
theorem dig_run {j0 : Int × Int} {q rest : List UInt8} (hrest : ∀ b r, rest = b :: r → ¬ isD b) : ∀ (ds dn : List UInt8), s = (q ++ dn) ++ ds ++ rest → (∀ b ∈ ds, isD b) → dn.length + ds.length ≤ 7 → j0.1 = (q.length : Int) →
    iter (m_impl_ReadTerm_L1 s j0) ((((q ++ dn).length : Nat) : Int), dn.foldl dstep 0) = some ((((q ++ dn ++ ds).length : Nat) : Int), (dn ++ ds).foldl dstep 0)
  | [], dn, e, _, _, _ => by
    refine iter_out ?_
    unfold m_impl_ReadTerm_L1
    simp only
    rw [List.append_nil, List.append_nil] at *
    cases rest with
    | nil => rw [List.append_nil] at e; rw [← e, dec_self]; rfl
    | cons b r =>
      have hb := hrest b r rfl
      have hx : s[(q ++ dn).length]? = some b := by rw [e]; simp
      rw [dec_lt (get_lt hx), cond_true, getI_some hx, Option.bind_some]
      unfold isD at hb
      by_cases h48 : 48 ≤ b.toNat
      · rw [decide_eq_true (show (48 : Int) ≤ (b.toNat : Int) by omega), cond_true, decide_eq_false (show ¬ (b.toNat : Int) ≤ 57 by omega)]; rfl
      · rw [decide_eq_false (show ¬ (48 : Int) ≤ (b.toNat : Int) by omega)]; rfl
  | b :: ds, dn, e, hd, hl, hj => by
    have hb := hd b (by simp)
    unfold isD at hb
    have hx : s[(q ++ dn).length]? = some b := by rw [e]; simp
    have hlt := get_lt hx
    simp only [List.length_cons] at hl
    obtain ⟨b0, b1⟩ := fold_bnd dn 0 0 (by omega) (by decide)
    have hp : (10 : Int) ^ (0 + dn.length) ≤ 10 ^ 7 := by
      have : (10 : Nat) ^ (0 + dn.length) ≤ 10 ^ 7 := Nat.pow_le_pow_right (by omega) (by omega)
      exact_mod_cast this
    have hst : m_impl_ReadTerm_L1 s j0 ((((q ++ dn).length : Nat) : Int), dn.foldl dstep 0) = some (.next ((((q ++ (dn ++ [b])).length : Nat) : Int), (dn ++ [b]).foldl dstep 0)) := by
      have hlq : (q ++ dn).length = q.length + dn.length := by simp
      unfold m_impl_ReadTerm_L1
      simp only
      rw [dec_lt hlt, cond_true, getI_some hx, Option.bind_some, decide_eq_true (show (48 : Int) ≤ (b.toNat : Int) by omega), cond_true, decide_eq_true (show (b.toNat : Int) ≤ 57 by omega), hj, w64_eq (n := (q.length : Int) + 8) (by omega), decide_eq_true (by omega), Bool.and_self, cond_true]
      rw [List.foldl_append, List.foldl_cons, List.foldl_nil]
      rw [show wu 8 ((b.toNat : Int) - 48) = (b.toNat : Int) - 48 by unfold wu; omega, w64_eq (n := 10 * dn.foldl dstep 0) (by omega), w64_eq (n := (b.toNat : Int) - 48) (by omega), w64_eq (n := 10 * dn.foldl dstep 0 + ((b.toNat : Int) - 48)) (by omega), w64_succ (by omega)]
      have hds : dstep (dn.foldl dstep 0) b = 10 * dn.foldl dstep 0 + ((b.toNat : Int) - 48) := by unfold dstep; rw [if_pos hb]
      rw [hds]
      simp [Nat.add_assoc]
    rw [iter_next hst]
    have := dig_run hrest ds (dn ++ [b]) (by rw [e]; simp) (fun y hy => hd y (by simp [hy])) (by simp; omega) hj
    rw [this]
    simp
def sgV (sg : List UInt8) : Int := if sg = [45] then -1 else 1
include hs in
theorem sign_run {c : Int} {l : List Int} {pre sg r : List UInt8} (e : s = pre ++ (sg ++ r)) (hsg : sg = [45] ∨ sg = [43] ∨ (sg = [] ∧ ∃ b r', r = b :: r' ∧ b.toNat ≠ 45 ∧ b.toNat ≠ 43)) :
    m_impl_ReadTerm_L0 s (c, l, (pre.length : Int)) = m_impl_ReadTerm_J0 s (c, l, (pre.length : Int)) ((((pre ++ sg).length : Nat) : Int), sgV sg) := by
  have hl : s.length = pre.length + (sg.length + r.length) := by rw [e]; simp
  unfold m_impl_ReadTerm_L0
  simp only
  rcases hsg with rfl | rfl | ⟨rfl, b, r', rfl, h1, h2⟩
  · have hx : s[pre.length]? = some 45 := by rw [e]; simp
    rw [dec_lt (get_lt hx), cond_true, getI_some hx, Option.bind_some, decide_eq_true (by decide), cond_true, w64_succ (by have := get_lt hx; omega)]
    simp [sgV]
  · have hx : s[pre.length]? = some 43 := by rw [e]; simp
    rw [dec_lt (get_lt hx), cond_true, getI_some hx, Option.bind_some, decide_eq_false (by decide), cond_false, decide_eq_true (by decide), cond_true, w64_succ (by have := get_lt hx; omega)]
    simp [sgV]
  · have hx : s[pre.length]? = some b := by rw [e]; simp
    rw [dec_lt (get_lt hx), cond_true, getI_some hx, Option.bind_some, decide_eq_false (by omega), cond_false, decide_eq_false (by omega), cond_false]
    simp [sgV]
include hs in
theorem piece_run {c : Int} {l : List Int} (hl10 : l.length = 10) {k : Nat} (hk : k < 10) {pre sg ds R : List UInt8} (e : s = pre ++ (sg ++ (ds ++ (UInt8.ofNat (97 + k) :: R)))) (hsg : sg = [45] ∨ sg = [43] ∨ sg = []) (hd : ∀ b ∈ ds, isD b) (hdl : ds.length ≤ 7) :
    m_impl_ReadTerm_L0 s (c, l, (pre.length : Int)) = some (.next (c, l.set k (w64 (coef l k + w64 (sgV sg * (if ds = [] then 1 else ds.foldl dstep 0)))), (((pre ++ (sg ++ (ds ++ [UInt8.ofNat (97 + k)]))).length : Nat) : Int))) := by
  have hk97 : (UInt8.ofNat (97 + k)).toNat = 97 + k := by simp [UInt8.toNat_ofNat']; omega
  have hhead : ∃ b r', ds ++ (UInt8.ofNat (97 + k) :: R) = b :: r' ∧ b.toNat ≠ 45 ∧ b.toNat ≠ 43 := by
    cases ds with
    | nil => exact ⟨_, _, rfl, by rw [hk97]; omega, by rw [hk97]; omega⟩
    | cons b r => have := hd b (by simp); unfold isD at this; exact ⟨_, _, rfl, by omega, by omega⟩
  rw [sign_run hs e (hsg.elim .inl (fun h => .inr (h.elim .inl (fun h => .inr ⟨h, hhead⟩))))]
  have e2 : s = ((pre ++ sg) ++ []) ++ ds ++ (UInt8.ofNat (97 + k) :: R) := by rw [e]; simp
  have hrun := dig_run hs (j0 := ((((pre ++ sg).length : Nat) : Int), sgV sg)) (q := pre ++ sg) (rest := UInt8.ofNat (97 + k) :: R) (fun b r h => by cases h; unfold isD; rw [hk97]; omega) ds [] e2 hd (by simpa using hdl) rfl
  rw [List.append_nil, List.nil_append] at hrun
  have hx : s[(pre ++ sg ++ ds).length]? = some (UInt8.ofNat (97 + k)) := by rw [e]; simp
  have hlt := get_lt hx
  unfold m_impl_ReadTerm_J0
  simp only
  rw [show iter (m_impl_ReadTerm_L1 s ((((pre ++ sg).length : Nat) : Int), sgV sg)) ((((pre ++ sg).length : Nat) : Int), (0 : Int)) = _ from hrun, Option.bind_some]
  unfold m_impl_ReadTerm_A1
  simp only
  rw [dec_lt hlt, cond_true, getI_some hx, Option.bind_some, hk97, decide_eq_true (show (97 : Int) ≤ ((97 + k : Nat) : Int) by omega), cond_true, decide_eq_true (show ((97 + k : Nat) : Int) < 107 by omega)]
  unfold m_impl_ReadTerm_J1
  simp only [cond_true]
  have hlk : l[k]? = some l[k] := List.getElem?_eq_getElem (by omega)
  have two : ∀ v : Int, m_impl_ReadTerm_J2 s (c, l, (pre.length : Int)) ((((pre ++ sg).length : Nat) : Int), sgV sg) ((((pre ++ sg ++ ds).length : Nat) : Int), ds.foldl dstep 0) v = some (.next (c, l.set k (w64 (coef l k + w64 (sgV sg * v))), (((pre ++ (sg ++ (ds ++ [UInt8.ofNat (97 + k)]))).length : Nat) : Int))) := by
    intro v
    unfold m_impl_ReadTerm_J2
    simp only
    rw [getI_some hx, Option.bind_some, hk97, show wu 8 (((97 + k : Nat) : Int) - 97) = (k : Int) by unfold wu; omega, getI_some hlk, Option.bind_some, Int.toNat_natCast, w64_succ (by omega), coef_get hlk]
    simp [Nat.add_assoc]
  by_cases hds : ds = []
  · subst hds
    rw [decide_eq_true (by simp), cond_true, two, if_pos rfl]
  · have hpos := List.length_pos_iff.2 hds
    rw [decide_eq_false (by simp; omega), cond_false, two, if_neg hds]
include hs in
theorem last_run {c : Int} {l : List Int} {pre sg ds : List UInt8} (e : s = pre ++ (sg ++ ds)) (hsg : sg = [45] ∨ sg = [43] ∨ sg = []) (hd : ∀ b ∈ ds, isD b) (hdl : ds.length ≤ 7) (hne : ds ≠ []) :
    iter (m_impl_ReadTerm_L0 s) (c, l, (pre.length : Int)) = some (.inl (w64 (c + w64 (sgV sg * ds.foldl dstep 0)), l)) := by
  have hhead : ∃ b r', ds = b :: r' ∧ b.toNat ≠ 45 ∧ b.toNat ≠ 43 := by
    cases ds with
    | nil => exact absurd rfl hne
    | cons b r => have := hd b (by simp); unfold isD at this; exact ⟨_, _, rfl, by omega, by omega⟩
  have e2 : s = ((pre ++ sg) ++ []) ++ ds ++ [] := by rw [e]; simp
  have hrun := dig_run hs (j0 := ((((pre ++ sg).length : Nat) : Int), sgV sg)) (q := pre ++ sg) (rest := []) (fun b r h => by cases h) ds [] e2 hd (by simpa using hdl) rfl
  rw [List.append_nil, List.nil_append] at hrun
  have hpos := List.length_pos_iff.2 hne
  have hend : (pre ++ sg ++ ds).length = s.length := by rw [e]; simp [Nat.add_assoc]
  have hst : m_impl_ReadTerm_L0 s (c, l, (pre.length : Int)) = some (.next (w64 (c + w64 (sgV sg * ds.foldl dstep 0)), l, (s.length : Int))) := by
    rw [sign_run hs e (hsg.elim .inl (fun h => .inr (h.elim .inl (fun h => .inr ⟨h, hhead⟩))))]
    unfold m_impl_ReadTerm_J0
    simp only
    rw [show iter (m_impl_ReadTerm_L1 s ((((pre ++ sg).length : Nat) : Int), sgV sg)) ((((pre ++ sg).length : Nat) : Int), (0 : Int)) = _ from hrun, Option.bind_some, hend]
    unfold m_impl_ReadTerm_A1
    simp only
    rw [dec_self, cond_false]
    unfold m_impl_ReadTerm_J1
    simp only [cond_false]
    rw [decide_eq_false (by rw [← hend]; simp; omega)]; rfl
  rw [iter_next hst]
  refine iter_out ?_
  unfold m_impl_ReadTerm_L0
  simp only
  rw [dec_self]; rfl
end
theorem sgn_cases (out : List UInt8) (n : Int) : sgn out n = [45] ∨ sgn out n = [43] ∨ sgn out n = [] := by
  unfold sgn
  split
  · exact .inl rfl
  · split
    · exact .inr (.inr rfl)
    · exact .inr (.inl rfl)
theorem sgn_val {out : List UInt8} {n : Int} (h : n ≠ 0) : sgV (sgn out n) * ((n.natAbs : Nat) : Int) = n := by
  unfold sgV sgn
  by_cases h0 : n < 0
  · rw [if_pos h0, if_pos rfl]; omega
  · rw [if_neg h0]
    by_cases h1 : out = []
    · rw [if_pos h1, if_neg (by simp)]; omega
    · rw [if_neg h1, if_neg (by simp)]; omega
theorem num_dig (name : List UInt8) (n : Int) : ∀ b ∈ num name n, isD b := by
  unfold num
  split
  · intro b hb; simp at hb
  · exact fun b hb => dd_digits _ b hb
theorem num_fold {name : List UInt8} {n : Int} (hn : name ≠ []) : (if num name n = [] then 1 else (num name n).foldl dstep 0) = ((n.natAbs : Nat) : Int) := by
  unfold num
  by_cases h1 : n.natAbs = 1 ∧ name ≠ []
  · rw [if_pos h1, if_pos rfl, h1.1]; rfl
  · rw [if_neg h1, if_neg (dd_ne _)]
    have := fold_dd n.natAbs []
    rw [List.append_nil] at this
    exact this
def Lk (t : Term) (k : Nat) (l : List Int) : Prop := l.length = 10 ∧ ∀ j, coef l j = if j < k then coef t.Coeffs j else 0
theorem Lk.zero (t : Term) : Lk t 0 (List.replicate 10 0) := ⟨by simp, fun j => by
  rw [if_neg (by omega)]
  unfold coef
  by_cases h : j < 10
  · rw [List.getElem?_replicate, if_pos h]; rfl
  · rw [List.getElem?_replicate, if_neg h]; rfl⟩
theorem Lk.step {t : Term} {k : Nat} {l : List Int} (h : Lk t k l) (hk : k < 10) : Lk t (k + 1) (l.set k (coef t.Coeffs k)) := ⟨by rw [List.length_set]; exact h.1, fun j => by
  rw [coef_set (by rw [h.1]; exact hk)]
  by_cases e : k = j
  · subst e; rw [if_pos rfl, if_pos (by omega)]
  · rw [if_neg e, h.2 j]
    by_cases hj : j < k
    · rw [if_pos hj, if_pos (by omega)]
    · rw [if_neg hj, if_neg (by omega)]⟩
theorem Lk.same {t : Term} {k : Nat} {l : List Int} (h : Lk t k l) (h0 : coef t.Coeffs k = 0) : Lk t (k + 1) l := ⟨h.1, fun j => by
  rw [h.2 j]
  by_cases hj : j < k
  · rw [if_pos hj, if_pos (by omega)]
  · rw [if_neg hj]
    by_cases e : j = k
    · subst e; rw [if_pos (by omega), h0]
    · rw [if_neg (by omega)]⟩
theorem Lk.trim {t : Term} (hv : vT t = true) {l : List Int} (h : Lk t 10 l) : Go.Mod.trim l = t.Coeffs :=
  coef_ext (trim_last _) (vT_last hv) (fun i => by
    rw [trim_coef, h.2 i]
    by_cases hi : i < 10
    · rw [if_pos hi]
    · rw [if_neg hi, coef_ten hv (by omega)])
section
variable {s : List UInt8} (hs : s.length ≤ 1048576) {t : Term} (ht : vT t = true)
include hs ht in
theorem impl_steps : ∀ (k : Nat), k ≤ 10 → ∀ R, s = rawK t k ++ R → ∃ l, Lk t k l ∧ iter (m_impl_ReadTerm_L0 s) ((0 : Int), (List.replicate 10 (0 : Int)), (0 : Int)) = iter (m_impl_ReadTerm_L0 s) ((0 : Int), l, ((rawK t k).length : Int))
  | 0, _, R, e => ⟨_, Lk.zero t, rfl⟩
  | k + 1, hk, R, e => by
    have hc := coef_rng ht k
    by_cases h0 : coef t.Coeffs k = 0
    · have er : rawK t (k + 1) = rawK t k := by show addP _ _ _ = _; unfold addP; rw [if_pos h0]
      rw [er] at e ⊢
      obtain ⟨l, h1, h2⟩ := impl_steps k (by omega) R e
      exact ⟨l, h1.same h0, h2⟩
    · have er : rawK t (k + 1) = rawK t k ++ (sgn (rawK t k) (coef t.Coeffs k) ++ (num (nameOf k) (coef t.Coeffs k) ++ [UInt8.ofNat (97 + k)])) := by
        show addP _ _ _ = _
        unfold addP
        rw [if_neg h0]
        simp [nameOf]
      have e' : s = rawK t k ++ (sgn (rawK t k) (coef t.Coeffs k) ++ (num (nameOf k) (coef t.Coeffs k) ++ (UInt8.ofNat (97 + k) :: R))) := by rw [e, er]; simp
      obtain ⟨l, h1, h2⟩ := impl_steps k (by omega) _ e'
      refine ⟨_, h1.step (by omega), ?_⟩
      have hp := piece_run hs (c := 0) h1.1 (k := k) (by omega) e' (sgn_cases _ _) (num_dig _ _) (num_len hc)
      have hcl : coef l k = 0 := by rw [h1.2 k, if_neg (by omega)]
      rw [num_fold (by simp [nameOf]), sgn_val h0, hcl, w64_eq (n := coef t.Coeffs k) (by omega), w64_eq (by omega), Int.zero_add] at hp
      rw [h2, iter_next hp, er]
include hs ht in
theorem impl_read (e : textT t = s) : m_impl_ReadTerm s = some (t, true) := by
  have hc := const_rng ht
  have hl := vT_len ht
  have fin : ∀ l, Lk t 10 l → iter (m_impl_ReadTerm_L0 s) ((0 : Int), (List.replicate 10 (0 : Int)), (0 : Int)) = some (.inl (t.Const, l)) → m_impl_ReadTerm s = some (t, true) := by
    intro l h1 h2
    unfold m_impl_ReadTerm
    rw [show makeI (10 : Int) 8 = some 10 from makeI_some (n := 10) (by omega), Option.bind_some, h2, Option.bind_some]
    unfold m_impl_ReadTerm_A0
    simp only
    have h3 : Term.mk t.Const (trim l) = t := by rw [h1.trim ht]
    rw [impl_trimmed (by simp only; rw [h1.1]; omega), Option.bind_some]
    simp only
    rw [h3, impl_valid, ht, Option.bind_some, Bool.not_true, cond_false, impl_text ht, Option.bind_some, e, decide_eq_true rfl, Bool.not_true, cond_false, impl_own (by omega)]; rfl
  unfold textT at e
  by_cases hr : rawT t = []
  · -- nothing but a zero
    rw [if_pos hr] at e
    have hk : rawK t 10 = [] ∧ t.Const = 0 := by
      unfold rawT addP at hr
      by_cases h0 : t.Const = 0
      · rw [if_pos h0] at hr; exact ⟨hr, h0⟩
      · rw [if_neg h0] at hr
        exfalso
        have h5 := congrArg List.length hr
        have hn : num [] t.Const = Go.Lib.decDigits t.Const.natAbs := by unfold num; rw [if_neg (fun h => h.2 rfl)]
        have h6 := List.length_pos_iff.2 (dd_ne t.Const.natAbs)
        rw [hn] at h5
        simp only [List.length_append, List.length_nil] at h5
        omega
    obtain ⟨l, h1, h2⟩ := impl_steps hs ht 10 (by omega) s (by rw [hk.1]; rfl)
    refine fin l h1 ?_
    rw [h2, hk.1]
    have := last_run hs (c := 0) (l := l) (pre := []) (sg := []) (ds := [48]) (by rw [← e]; rfl) (.inr (.inr rfl)) (by intro b hb; simp at hb; subst hb; unfold isD; decide) (by simp) (by simp)
    have hz : w64 (0 + w64 (sgV [] * ([48] : List UInt8).foldl dstep 0)) = 0 := by decide
    rw [hz] at this
    rw [hk.2]
    exact this
  · rw [if_neg hr] at e
    by_cases h0 : t.Const = 0
    · have er : rawT t = rawK t 10 := by unfold rawT addP; rw [if_pos h0]
      obtain ⟨l, h1, h2⟩ := impl_steps hs ht 10 (by omega) [] (by rw [← e, er]; simp)
      refine fin l h1 ?_
      rw [h2, h0]
      refine iter_out ?_
      unfold m_impl_ReadTerm_L0
      simp only
      rw [← er, e, dec_self]; rfl
    · have er : rawT t = rawK t 10 ++ (sgn (rawK t 10) t.Const ++ num [] t.Const) := by unfold rawT addP; rw [if_neg h0]; simp
      have hn : num [] t.Const = Go.Lib.decDigits t.Const.natAbs := by unfold num; rw [if_neg (fun h => h.2 rfl)]
      have e' : s = rawK t 10 ++ (sgn (rawK t 10) t.Const ++ num [] t.Const) := by rw [← e, er]
      obtain ⟨l, h1, h2⟩ := impl_steps hs ht 10 (by omega) _ e'
      refine fin l h1 ?_
      rw [h2]
      have := last_run hs (c := 0) (l := l) e' (sgn_cases _ _) (num_dig _ _) (num_len hc) (by rw [hn]; exact dd_ne _)
      have hf : (num [] t.Const).foldl dstep 0 = ((t.Const.natAbs : Nat) : Int) := by
        rw [hn]
        have := fold_dd t.Const.natAbs []
        rw [List.append_nil] at this
        exact this
      rw [hf, sgn_val h0, w64_eq (n := t.Const) (by omega), w64_eq (by omega), Int.zero_add] at this
      exact this
end
end Go.Mod

namespace Go.Mod
open Go.AM
set_option linter.unusedVariables false
set_option linter.unusedSimpArgs false
def mx0 (n : Int) : Int := if 0 < n then n else 0
theorem mx0_of {n : Int} (h : 0 ≤ n) : mx0 n = n := by unfold mx0; split <;> omega
abbrev bad : Option (Ctl ((List Int) × Int × Int × Int × Int) (((List Int) × Int) ⊕ (Int × (List Int) × Bool))) := some (.out (.inr (0, [], false)))
section
variable {s : List UInt8} (hs : s.length ≤ 1048576)
include hs in
theorem spec_at {l : List Int} {c n g : Int} {i : Nat} {b : UInt8} (hl : l.length = 10) (hb : s[i]? = some b) : m_spec_l02Read_L0 s (l, c, n, g, (i : Int)) =
    if 48 ≤ b.toNat ∧ b.toNat ≤ 57 then (if 2000000 < n then bad else some (.next (l, c, w64 (w64 (10 * mx0 n) + w64 (wu 8 ((b.toNat : Int) - 48))), g, ((i + 1 : Nat) : Int))))
    else if 97 ≤ b.toNat ∧ b.toNat ≤ 106 then some (.next (l.set (b.toNat - 97) (w64 (g * (if n < 0 then 1 else n))), c, -1, g, ((i + 1 : Nat) : Int)))
    else if b.toNat = 43 ∨ b.toNat = 45 then some (.next (l, (if 0 ≤ n then w64 (g * n) else c), -1, (if b.toNat = 45 then -1 else 1), ((i + 1 : Nat) : Int)))
    else bad := by
  have hlt := get_lt hb
  have hb8 : b.toNat < 256 := b.toNat_lt
  have hw1 : w64 ((i : Int) + 1) = ((i + 1 : Nat) : Int) := w64_succ (by omega)
  have j3t : b.toNat = 43 ∨ b.toNat = 45 → m_spec_l02Read_J3 s (l, c, n, g, (i : Int)) true = some (.next (l, (if 0 ≤ n then w64 (g * n) else c), -1, (if b.toNat = 45 then -1 else 1), ((i + 1 : Nat) : Int))) := by
    intro h
    have j4 : ∀ v, m_spec_l02Read_J4 s (l, c, n, g, (i : Int)) v = some (.next (l, v, -1, (if b.toNat = 45 then -1 else 1), ((i + 1 : Nat) : Int))) := by
      intro v
      unfold m_spec_l02Read_J4
      simp only
      rw [decide_eq_true (show (i : Int) < (s.length : Int) by clear hw1; omega), cond_true, getI_some hb, Option.bind_some, hw1]
      by_cases h45 : b.toNat = 45
      · rw [decide_eq_true (show (b.toNat : Int) = 45 by clear hw1; omega), if_pos h45]; rfl
      · rw [decide_eq_false (show ¬ (b.toNat : Int) = 45 by clear hw1; omega), if_neg h45]; rfl
    unfold m_spec_l02Read_J3
    simp only [cond_true]
    by_cases hn : 0 ≤ n
    · rw [decide_eq_true hn, if_pos hn, cond_true, j4]
    · rw [decide_eq_false hn, if_neg hn, cond_false, j4]
  have j1f : (if b.toNat = 43 ∨ b.toNat = 45 then some (.next (l, (if 0 ≤ n then w64 (g * n) else c), -1, (if b.toNat = 45 then -1 else 1), ((i + 1 : Nat) : Int))) else bad) = m_spec_l02Read_J1 s (l, c, n, g, (i : Int)) false := by
    unfold m_spec_l02Read_J1
    simp only [cond_false]
    rw [decide_eq_false (show ¬ (i : Int) = (s.length : Int) by clear hw1; omega), cond_false, getI_some hb, Option.bind_some]
    by_cases h43 : b.toNat = 43
    · rw [decide_eq_true (show (b.toNat : Int) = 43 by clear hw1; omega), cond_true, j3t (.inl h43), if_pos (.inl h43)]
    · rw [decide_eq_false (show ¬ (b.toNat : Int) = 43 by clear hw1; omega), cond_false]
      by_cases h45 : b.toNat = 45
      · rw [decide_eq_true (show (b.toNat : Int) = 45 by clear hw1; omega), j3t (.inr h45), if_pos (.inr h45)]
      · rw [decide_eq_false (show ¬ (b.toNat : Int) = 45 by clear hw1; omega), if_neg (by clear hw1; omega)]; rfl
  have j0f : ¬ (48 ≤ b.toNat ∧ b.toNat ≤ 57) → m_spec_l02Read_J0 s (l, c, n, g, (i : Int)) false = if 97 ≤ b.toNat ∧ b.toNat ≤ 106 then some (.next (l.set (b.toNat - 97) (w64 (g * (if n < 0 then 1 else n))), c, -1, g, ((i + 1 : Nat) : Int)))
    else if b.toNat = 43 ∨ b.toNat = 45 then some (.next (l, (if 0 ≤ n then w64 (g * n) else c), -1, (if b.toNat = 45 then -1 else 1), ((i + 1 : Nat) : Int))) else bad := by
    intro _
    rw [j1f]
    unfold m_spec_l02Read_J0
    simp only [cond_false]
    rw [decide_eq_true (show (i : Int) < (s.length : Int) by clear hw1; omega), cond_true, getI_some hb, Option.bind_some]
    by_cases h97 : 97 ≤ b.toNat
    · rw [decide_eq_true (show (97 : Int) ≤ (b.toNat : Int) by clear hw1; omega), cond_true]
      by_cases h106 : b.toNat ≤ 106
      · rw [decide_eq_true (show (b.toNat : Int) ≤ 106 by clear hw1; omega), if_pos ⟨h97, h106⟩]
        have j2 : ∀ v, m_spec_l02Read_J2 s (l, c, n, g, (i : Int)) v = some (.next (l.set (b.toNat - 97) (w64 (g * v)), c, -1, g, ((i + 1 : Nat) : Int))) := by
          intro v
          unfold m_spec_l02Read_J2
          simp only
          have hw : wu 8 ((b.toNat : Int) - 97) = ((b.toNat - 97 : Nat) : Int) := by clear hw1; unfold wu; omega
          rw [getI_some hb, Option.bind_some, hw, getI_some (List.getElem?_eq_getElem (show b.toNat - 97 < l.length by clear hw1 hw; omega)), Option.bind_some, hw1, Int.toNat_natCast]
        unfold m_spec_l02Read_J1
        simp only [cond_true]
        by_cases hn : n < 0
        · rw [decide_eq_true hn, if_pos hn, cond_true, j2]
        · rw [decide_eq_false hn, if_neg hn, cond_false, j2]
      · rw [decide_eq_false (show ¬ (b.toNat : Int) ≤ 106 by clear hw1; omega), if_neg (fun h => h106 h.2)]
    · rw [decide_eq_false (show ¬ (97 : Int) ≤ (b.toNat : Int) by clear hw1; omega), cond_false, if_neg (fun h => h97 h.1)]
  unfold m_spec_l02Read_L0
  simp only
  rw [decide_eq_true (show (i : Int) ≤ (s.length : Int) by clear hw1; omega), cond_true, decide_eq_true (show (i : Int) < (s.length : Int) by clear hw1; omega), cond_true, getI_some hb, Option.bind_some]
  by_cases hd : 48 ≤ b.toNat ∧ b.toNat ≤ 57
  · rw [decide_eq_true (show (48 : Int) ≤ (b.toNat : Int) by clear hw1; omega), cond_true, decide_eq_true (show (b.toNat : Int) ≤ 57 by clear hw1; omega), if_pos hd]
    unfold m_spec_l02Read_J0
    simp only [cond_true]
    by_cases hn : 2000000 < n
    · rw [decide_eq_true hn, if_pos hn]; rfl
    · rw [decide_eq_false hn, if_neg hn, cond_false]
      have hm : m_spec_l00Max n 0 = some (mx0 n) := by
        unfold m_spec_l00Max mx0
        by_cases h : 0 < n
        · rw [decide_eq_true h, if_pos h]; rfl
        · rw [decide_eq_false h, if_neg h]; rfl
      rw [hm, Option.bind_some, getI_some hb, Option.bind_some, hw1]
  · rw [if_neg hd, ← j0f hd]
    by_cases h48 : 48 ≤ b.toNat
    · rw [decide_eq_true (show (48 : Int) ≤ (b.toNat : Int) by clear hw1; omega), cond_true, decide_eq_false (show ¬ (b.toNat : Int) ≤ 57 by clear hw1; omega)]
    · rw [decide_eq_false (show ¬ (48 : Int) ≤ (b.toNat : Int) by clear hw1; omega), cond_false]
include hs in
theorem spec_end {l : List Int} {c n g : Int} : m_spec_l02Read_L0 s (l, c, n, g, (s.length : Int)) = some (.next (l, (if 0 ≤ n then w64 (g * n) else c), -1, 1, ((s.length + 1 : Nat) : Int))) := by
  have j4 : ∀ v, m_spec_l02Read_J4 s (l, c, n, g, (s.length : Int)) v = some (.next (l, v, -1, 1, ((s.length + 1 : Nat) : Int))) := by
    intro v
    unfold m_spec_l02Read_J4
    simp only
    rw [dec_self, cond_false, w64_succ (by omega)]
  unfold m_spec_l02Read_L0
  simp only
  rw [decide_eq_true (Int.le_refl _), cond_true, dec_self, cond_false]
  unfold m_spec_l02Read_J0
  simp only [cond_false]
  rw [dec_self, cond_false]
  unfold m_spec_l02Read_J1
  simp only [cond_false, decide_true, cond_true]
  unfold m_spec_l02Read_J3
  simp only [cond_true]
  by_cases hn : 0 ≤ n
  · rw [decide_eq_true hn, if_pos hn, cond_true, j4]
  · rw [decide_eq_false hn, if_neg hn, cond_false, j4]
theorem spec_over {l : List Int} {c n g : Int} : m_spec_l02Read_L0 s (l, c, n, g, ((s.length + 1 : Nat) : Int)) = some (.out (.inl (l, c))) := by
  unfold m_spec_l02Read_L0
  simp only
  rw [decide_eq_false (by omega)]; rfl
include hs in
theorem spec_tot : ∃ u, iter (m_spec_l02Read_L0 s) ((List.replicate 10 (0 : Int)), (0 : Int), (-1 : Int), (1 : Int), (0 : Int)) = some u ∧ ((∃ c l, u = .inl (l, c) ∧ l.length = 10) ∨ u = .inr (0, [], false)) := by
  refine iter_inv (step := m_spec_l02Read_L0 s) (fun w => ∃ i : Nat, w.2.2.2.2 = (i : Int) ∧ i ≤ s.length + 1 ∧ w.1.length = 10) (fun w => s.length + 2 - w.2.2.2.2.toNat) _ (fun w ⟨i, w1, w2, w3⟩ => ?_) (s := ((List.replicate 10 (0 : Int)), (0 : Int), (-1 : Int), (1 : Int), (0 : Int))) ⟨0, rfl, by omega, by simp⟩
  obtain ⟨l, c, n, g, j⟩ := w
  simp only at w1 w3
  subst w1
  by_cases h1 : i = s.length + 1
  · subst h1
    rw [spec_over]; exact .inr ⟨_, rfl, .inl ⟨_, _, rfl, w3⟩⟩
  · by_cases h2 : i = s.length
    · subst h2
      rw [spec_end hs]
      exact .inl ⟨_, rfl, ⟨s.length + 1, rfl, by omega, w3⟩, by simp only; omega⟩
    · have hlt : i < s.length := by omega
      rw [spec_at hs w3 (List.getElem?_eq_getElem hlt)]
      by_cases d1 : 48 ≤ s[i].toNat ∧ s[i].toNat ≤ 57
      · rw [if_pos d1]
        by_cases d2 : 2000000 < n
        · rw [if_pos d2]; exact .inr ⟨_, rfl, .inr rfl⟩
        · rw [if_neg d2]; exact .inl ⟨_, rfl, ⟨i + 1, rfl, by omega, w3⟩, by simp only; omega⟩
      · rw [if_neg d1]
        by_cases d3 : 97 ≤ s[i].toNat ∧ s[i].toNat ≤ 106
        · rw [if_pos d3]; exact .inl ⟨_, rfl, ⟨i + 1, rfl, by omega, by simp only [List.length_set]; exact w3⟩, by simp only; omega⟩
        · rw [if_neg d3]
          by_cases d4 : s[i].toNat = 43 ∨ s[i].toNat = 45
          · rw [if_pos d4]; exact .inl ⟨_, rfl, ⟨i + 1, rfl, by omega, w3⟩, by simp only; omega⟩
          · rw [if_neg d4]; exact .inr ⟨_, rfl, .inr rfl⟩
include hs in
theorem spec_form : ∃ r, m_spec_ReadTerm s = some r ∧ (r = (Term.mk 0 [], false) ∨ (r.2 = true ∧ vT r.1 = true ∧ textT r.1 = s)) := by
  obtain ⟨u, e1, e2⟩ := spec_tot hs
  unfold m_spec_ReadTerm m_spec_l02Read
  rw [show makeI (10 : Int) 8 = some 10 from makeI_some (n := 10) (by omega), Option.bind_some, e1, Option.bind_some]
  unfold m_spec_l02Read_A0
  rcases e2 with ⟨c, l, rfl, hl⟩ | rfl
  · simp only
    rw [spec_make (by omega), Option.bind_some]
    unfold chk
    cases hv : vT (Term.mk c (trim l)) with
    | false => exact ⟨_, rfl, .inl rfl⟩
    | true =>
      simp only [cond_true, Bool.not_true, cond_false]
      rw [spec_text hv, Option.bind_some]
      by_cases ht : textT (Term.mk c (trim l)) = s
      · rw [decide_eq_true ht]; exact ⟨_, rfl, .inr ⟨rfl, hv, ht⟩⟩
      · rw [decide_eq_false ht]; exact ⟨_, rfl, .inl rfl⟩
  · exact ⟨_, rfl, .inl rfl⟩
theorem fold_ge : ∀ (ds : List UInt8) (u : Int), 0 ≤ u → (∀ b ∈ ds, isD b) → u ≤ ds.foldl dstep u
  | [], u, _, _ => Int.le_refl _
  | b :: ds, u, h0, hd => by
    have hb := hd b (by simp)
    unfold isD at hb
    have h1 : dstep u b = 10 * u + ((b.toNat : Int) - 48) := by unfold dstep; rw [if_pos hb]
    have := fold_ge ds (dstep u b) (by omega) (fun y hy => hd y (by simp [hy]))
    rw [List.foldl_cons]
    omega
include hs in
theorem dig_runS {l : List Int} (hl : l.length = 10) {c g : Int} {rest : List UInt8} : ∀ (ds q : List UInt8) (n : Int), s = q ++ ds ++ rest → (∀ b ∈ ds, isD b) → ds.foldl dstep (mx0 n) ≤ 1000000 →
    iter (m_spec_l02Read_L0 s) (l, c, n, g, (q.length : Int)) = iter (m_spec_l02Read_L0 s) (l, c, (if ds = [] then n else ds.foldl dstep (mx0 n)), g, (((q ++ ds).length : Nat) : Int))
  | [], q, n, _, _, _ => by simp
  | b :: ds, q, n, e, hd, hf => by
    have hb := hd b (by simp)
    unfold isD at hb
    have hd' : ∀ y ∈ ds, isD y := fun y hy => hd y (by simp [hy])
    have hx : s[q.length]? = some b := by rw [e]; simp
    have hm0 : 0 ≤ mx0 n := by unfold mx0; split <;> omega
    have hmn : n ≤ mx0 n := by unfold mx0; split <;> omega
    have h1 : dstep (mx0 n) b = 10 * mx0 n + ((b.toNat : Int) - 48) := by unfold dstep; rw [if_pos hb]
    rw [List.foldl_cons] at hf
    have h2 := fold_ge ds (dstep (mx0 n) b) (by omega) hd'
    have hst : m_spec_l02Read_L0 s (l, c, n, g, (q.length : Int)) = some (.next (l, c, dstep (mx0 n) b, g, (((q ++ [b]).length : Nat) : Int))) := by
      rw [spec_at hs hl hx, if_pos hb, if_neg (by omega)]
      rw [show wu 8 ((b.toNat : Int) - 48) = (b.toNat : Int) - 48 by unfold wu; omega, w64_eq (n := 10 * mx0 n) (by omega), w64_eq (n := (b.toNat : Int) - 48) (by omega), w64_eq (n := 10 * mx0 n + ((b.toNat : Int) - 48)) (by omega), h1]
      simp
    have hm1 : mx0 (dstep (mx0 n) b) = dstep (mx0 n) b := mx0_of (by omega)
    have hh : (if ds = [] then dstep (mx0 n) b else ds.foldl dstep (dstep (mx0 n) b)) = ds.foldl dstep (dstep (mx0 n) b) := by
      by_cases h : ds = []
      · subst h; rfl
      · rw [if_neg h]
    rw [iter_next hst, dig_runS hl (rest := rest) ds (q ++ [b]) _ (by rw [e]; simp) hd' (by rw [hm1]; exact hf), hm1, hh, List.foldl_cons, if_neg (show ¬ (b :: ds = []) by simp)]
    simp
include hs in
theorem sign_runS {l : List Int} (hl : l.length = 10) {c g : Int} {pre sg r : List UInt8} (e : s = pre ++ (sg ++ r)) (hsg : sg = [45] ∨ sg = [43] ∨ sg = []) (hg : sg = [] → g = 1) :
    iter (m_spec_l02Read_L0 s) (l, c, -1, g, (pre.length : Int)) = iter (m_spec_l02Read_L0 s) (l, c, -1, sgV sg, (((pre ++ sg).length : Nat) : Int)) := by
  rcases hsg with rfl | rfl | rfl
  · have hx : s[pre.length]? = some 45 := by rw [e]; simp
    have := spec_at hs (c := c) (n := -1) (g := g) hl hx
    rw [if_neg (by decide), if_neg (by decide), if_pos (by decide), if_neg (by omega), if_pos (by decide)] at this
    rw [iter_next this]
    simp [sgV]
  · have hx : s[pre.length]? = some 43 := by rw [e]; simp
    have := spec_at hs (c := c) (n := -1) (g := g) hl hx
    rw [if_neg (by decide), if_neg (by decide), if_pos (by decide), if_neg (by omega), if_neg (by decide)] at this
    rw [iter_next this]
    simp [sgV]
  · rw [hg rfl]; simp [sgV]
include hs in
theorem piece_runS {l : List Int} (hl : l.length = 10) {c g : Int} {k : Nat} (hk : k < 10) {pre sg ds R : List UInt8} (e : s = pre ++ (sg ++ (ds ++ (UInt8.ofNat (97 + k) :: R)))) (hsg : sg = [45] ∨ sg = [43] ∨ sg = []) (hg : sg = [] → g = 1) (hd : ∀ b ∈ ds, isD b) (hf : ds.foldl dstep 0 ≤ 1000000) :
    iter (m_spec_l02Read_L0 s) (l, c, -1, g, (pre.length : Int)) = iter (m_spec_l02Read_L0 s) (l.set k (w64 (sgV sg * (if ds = [] then 1 else ds.foldl dstep 0))), c, -1, sgV sg, (((pre ++ (sg ++ (ds ++ [UInt8.ofNat (97 + k)]))).length : Nat) : Int)) := by
  have hk97 : (UInt8.ofNat (97 + k)).toNat = 97 + k := by simp [UInt8.toNat_ofNat']; omega
  have hm : mx0 (-1) = 0 := rfl
  have hf0 := fold_ge ds 0 (Int.le_refl _) hd
  rw [sign_runS hs hl e hsg hg, dig_runS hs hl ds (pre ++ sg) (-1) (rest := UInt8.ofNat (97 + k) :: R) (by rw [e]; simp) hd (by rw [hm]; exact hf), hm]
  have hx : s[(pre ++ sg ++ ds).length]? = some (UInt8.ofNat (97 + k)) := by rw [e]; simp
  have hst := spec_at hs (c := c) (n := if ds = [] then -1 else ds.foldl dstep 0) (g := sgV sg) hl hx
  rw [hk97, if_neg (show ¬ (48 ≤ 97 + k ∧ 97 + k ≤ 57) by omega), if_pos (show 97 ≤ 97 + k ∧ 97 + k ≤ 106 by omega), show 97 + k - 97 = k by omega] at hst
  have hv : (if (if ds = [] then (-1 : Int) else ds.foldl dstep 0) < 0 then (1 : Int) else (if ds = [] then -1 else ds.foldl dstep 0)) = if ds = [] then 1 else ds.foldl dstep 0 := by
    by_cases h : ds = []
    · rw [if_pos h, if_pos h, if_pos (by omega)]
    · rw [if_neg h, if_neg h, if_neg (by omega)]
  rw [hv] at hst
  rw [iter_next hst]
  simp [Nat.add_assoc]
include hs in
theorem last_runS {l : List Int} (hl : l.length = 10) {c g : Int} {pre sg ds : List UInt8} (e : s = pre ++ (sg ++ ds)) (hsg : sg = [45] ∨ sg = [43] ∨ sg = []) (hg : sg = [] → g = 1) (hd : ∀ b ∈ ds, isD b) (hne : ds ≠ []) (hf : ds.foldl dstep 0 ≤ 1000000) :
    iter (m_spec_l02Read_L0 s) (l, c, -1, g, (pre.length : Int)) = some (.inl (l, w64 (sgV sg * ds.foldl dstep 0))) := by
  have hm : mx0 (-1) = 0 := rfl
  have hf0 := fold_ge ds 0 (Int.le_refl _) hd
  have hend : (pre ++ sg ++ ds).length = s.length := by rw [e]; simp [Nat.add_assoc]
  rw [sign_runS hs hl e hsg hg, dig_runS hs hl ds (pre ++ sg) (-1) (rest := []) (by rw [e]; simp) hd (by rw [hm]; exact hf), hm, if_neg hne, hend, iter_next (spec_end hs), if_pos hf0]
  exact iter_out spec_over
variable {t : Term} (ht : vT t = true)
theorem num_le {name : List UInt8} {n : Int} (h : -1000000 ≤ n ∧ n ≤ 1000000) : (num name n).foldl dstep 0 ≤ 1000000 := by
  unfold num
  split
  · simp
  · have := fold_dd n.natAbs []
    rw [List.append_nil] at this
    rw [this]
    simp only [List.foldl_nil]
    omega
theorem sgn_nil {out : List UInt8} {n : Int} (h : sgn out n = []) : out = [] := by
  unfold sgn at h
  split at h
  · cases h
  · split at h
    · assumption
    · cases h
include hs ht in
theorem spec_steps : ∀ (k : Nat), k ≤ 10 → ∀ R, s = rawK t k ++ R → ∃ l g, Lk t k l ∧ (rawK t k = [] → g = 1) ∧ iter (m_spec_l02Read_L0 s) ((List.replicate 10 (0 : Int)), (0 : Int), (-1 : Int), (1 : Int), (0 : Int)) = iter (m_spec_l02Read_L0 s) (l, (0 : Int), (-1 : Int), g, ((rawK t k).length : Int))
  | 0, _, R, e => ⟨_, 1, Lk.zero t, fun _ => rfl, rfl⟩
  | k + 1, hk, R, e => by
    have hc := coef_rng ht k
    by_cases h0 : coef t.Coeffs k = 0
    · have er : rawK t (k + 1) = rawK t k := by show addP _ _ _ = _; unfold addP; rw [if_pos h0]
      rw [er] at e ⊢
      obtain ⟨l, g, h1, h3, h2⟩ := spec_steps k (by omega) R e
      exact ⟨l, g, h1.same h0, h3, h2⟩
    · have er : rawK t (k + 1) = rawK t k ++ (sgn (rawK t k) (coef t.Coeffs k) ++ (num (nameOf k) (coef t.Coeffs k) ++ [UInt8.ofNat (97 + k)])) := by
        show addP _ _ _ = _
        unfold addP
        rw [if_neg h0]
        simp [nameOf]
      have e' : s = rawK t k ++ (sgn (rawK t k) (coef t.Coeffs k) ++ (num (nameOf k) (coef t.Coeffs k) ++ (UInt8.ofNat (97 + k) :: R))) := by rw [e, er]; simp
      obtain ⟨l, g, h1, h3, h2⟩ := spec_steps k (by omega) _ e'
      refine ⟨_, sgV (sgn (rawK t k) (coef t.Coeffs k)), h1.step (by omega), fun h => ?_, ?_⟩
      · rw [er] at h; simp at h
      · have hp := piece_runS hs h1.1 (c := 0) (g := g) (k := k) (by omega) e' (sgn_cases _ _) (fun h => h3 (sgn_nil h)) (num_dig _ _) (num_le hc)
        rw [num_fold (by simp [nameOf]), sgn_val h0, w64_eq (n := coef t.Coeffs k) (by omega)] at hp
        rw [h2, hp, er]
include hs ht in
theorem spec_read (e : textT t = s) : m_spec_ReadTerm s = some (t, true) := by
  have hc := const_rng ht
  have hl := vT_len ht
  have fin : ∀ l, Lk t 10 l → iter (m_spec_l02Read_L0 s) ((List.replicate 10 (0 : Int)), (0 : Int), (-1 : Int), (1 : Int), (0 : Int)) = some (.inl (l, t.Const)) → m_spec_ReadTerm s = some (t, true) := by
    intro l h1 h2
    unfold m_spec_ReadTerm m_spec_l02Read
    rw [show makeI (10 : Int) 8 = some 10 from makeI_some (n := 10) (by omega), Option.bind_some, h2, Option.bind_some]
    unfold m_spec_l02Read_A0
    simp only
    have h3 : Term.mk t.Const (trim l) = t := by rw [h1.trim ht]
    rw [spec_make (by rw [h1.1]; omega), h3]
    unfold chk
    rw [ht, Option.bind_some]
    simp only [cond_true, Bool.not_true, cond_false]
    rw [spec_text ht, Option.bind_some, e, decide_eq_true rfl]; rfl
  unfold textT at e
  by_cases hr : rawT t = []
  · rw [if_pos hr] at e
    have hk : rawK t 10 = [] ∧ t.Const = 0 := by
      unfold rawT addP at hr
      by_cases h0 : t.Const = 0
      · rw [if_pos h0] at hr; exact ⟨hr, h0⟩
      · rw [if_neg h0] at hr
        exfalso
        have h5 := congrArg List.length hr
        have hn : num [] t.Const = Go.Lib.decDigits t.Const.natAbs := by unfold num; rw [if_neg (fun h => h.2 rfl)]
        have h6 := List.length_pos_iff.2 (dd_ne t.Const.natAbs)
        rw [hn] at h5
        simp only [List.length_append, List.length_nil] at h5
        omega
    obtain ⟨l, g, h1, h3, h2⟩ := spec_steps hs ht 10 (by omega) s (by rw [hk.1]; rfl)
    refine fin l h1 ?_
    rw [h2, hk.1]
    have := last_runS hs h1.1 (c := 0) (g := g) (pre := []) (sg := []) (ds := [48]) (by rw [← e]; rfl) (.inr (.inr rfl)) (fun _ => h3 hk.1) (by intro b hb; simp at hb; subst hb; unfold isD; decide) (by simp) (by decide)
    have hz : w64 (sgV [] * ([48] : List UInt8).foldl dstep 0) = 0 := by decide
    rw [hz] at this
    rw [hk.2]
    exact this
  · rw [if_neg hr] at e
    by_cases h0 : t.Const = 0
    · have er : rawT t = rawK t 10 := by unfold rawT addP; rw [if_pos h0]
      obtain ⟨l, g, h1, h3, h2⟩ := spec_steps hs ht 10 (by omega) [] (by rw [← e, er]; simp)
      refine fin l h1 ?_
      rw [h2, h0, ← er, e, iter_next (spec_end hs), if_neg (by omega)]
      exact iter_out spec_over
    · have er : rawT t = rawK t 10 ++ (sgn (rawK t 10) t.Const ++ num [] t.Const) := by unfold rawT addP; rw [if_neg h0]; simp
      have hn : num [] t.Const = Go.Lib.decDigits t.Const.natAbs := by unfold num; rw [if_neg (fun h => h.2 rfl)]
      have e' : s = rawK t 10 ++ (sgn (rawK t 10) t.Const ++ num [] t.Const) := by rw [← e, er]
      obtain ⟨l, g, h1, h3, h2⟩ := spec_steps hs ht 10 (by omega) _ e'
      refine fin l h1 ?_
      rw [h2]
      have := last_runS hs h1.1 (c := 0) (g := g) e' (sgn_cases _ _) (fun h => h3 (sgn_nil h)) (num_dig _ _) (by rw [hn]; exact dd_ne _) (num_le hc)
      have hf : (num [] t.Const).foldl dstep 0 = ((t.Const.natAbs : Nat) : Int) := by
        rw [hn]
        have := fold_dd t.Const.natAbs []
        rw [List.append_nil] at this
        exact this
      rw [hf, sgn_val h0, w64_eq (n := t.Const) (by omega)] at this
      exact this
end
theorem same_ReadTerm (p0 : List UInt8) (k0 : k_str p0) (h0 : p0.length ≤ 1048576) : ∃ r : Term × Bool, m_spec_ReadTerm p0 = some r ∧ m_impl_ReadTerm p0 = some r ∧ r.1.Coeffs.length ≤ 10 := by
  obtain ⟨r, e1, e2⟩ := impl_form h0
  obtain ⟨q, f1, f2⟩ := spec_form h0
  rcases e2 with rfl | ⟨h1, h2, h3⟩
  · rcases f2 with rfl | ⟨g1, g2, g3⟩
    · exact ⟨_, f1, e1, by simp⟩
    · have := impl_read h0 g2 g3
      rw [e1] at this
      have h := congrArg Prod.snd (Option.some.inj this)
      cases h
  · obtain ⟨t, b⟩ := r
    simp only at h1 h2 h3
    subst h1
    exact ⟨_, spec_read h0 h2 h3, e1, vT_len h2⟩
end Go.Mod

namespace Go.Mod
open Go.AM
set_option linter.unusedVariables false
set_option linter.unusedSimpArgs false
theorem law_ReadTerm {p0 : List UInt8} (k0 : k_str p0) : m_laws_FnExactReadTerm p0 = some true := by
  unfold m_laws_FnExactReadTerm
  rw [show (1048576 : Int) = ((1048576 : Nat) : Int) from rfl]
  by_cases h0 : p0.length ≤ 1048576
  case neg => rw [decide_eq_true (by omega)]; rfl
  rw [decide_eq_false (by omega), cond_false]
  obtain ⟨⟨⟨r0_0, r0_1⟩, r1_⟩, e1, e2, b0'⟩ := same_ReadTerm p0 k0 h0
  have b0 : pc_Term (Term.mk r0_0 r0_1) ≤ 1048576 := by
    simp only at b0'
    unfold pc_Term
    simp only [pc_Int64S]
    omega
  have qr0 := pq_Term_le (Term.mk r0_0 r0_1)
  try simp only at b0 qr0
  obtain ⟨rm0_0, mr0, gr0⟩ := pm_Term (show pc_Term (Term.mk r0_0 r0_1) ≤ 1048576 by omega) (k := 1) (by omega)
  replace mr0 : m_laws_markTerm (Term.mk r0_0 r0_1) 1 = _ := mr0
  replace gr0 : m_laws_heldTerm _ 1 = _ := gr0
  simp only [Option.bind_some, cond_false, cond_true, dec_neg, e1, e2, decide_true, bool_beq, Bool.not_true, Bool.or_false, Bool.false_eq_true, pe_Term (show pc_Term (Term.mk r0_0 r0_1) ≤ 1048576 by omega), mr0, gr0]
end Go.Mod
