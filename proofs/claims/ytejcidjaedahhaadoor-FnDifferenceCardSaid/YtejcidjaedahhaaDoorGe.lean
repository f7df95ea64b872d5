import Derived.Test.YtejcidjaedahhaaDoorGc
import Derived.Lib.ItoaNum
import Derived.Lib.Join
import Derived.Lib.Replace
import Derived.Lib.ParseIntB
import Derived.Test.YtejcidjaedahhaaDoorGd
namespace Go.Mod
open Go.AM
def m_strconv_FormatInt (p0 p1 : Int) : Option (List UInt8) :=
  bif decide (p1 = 10) && decide (-9223372036854775808 ≤ p0) && decide (p0 ≤ 9223372036854775807) then some (Lib.itoa p0) else none
end Go.Mod

namespace Go.Mod
open Go.AM
set_option linter.unusedVariables false
structure l00Src where
  code : List Int
  at_ : Int
  seed : Int
  deriving DecidableEq, Inhabited
structure Policy where
  Next : List (List Int)
  deriving DecidableEq, Inhabited
structure spot where
  pair : Int × Int
  word : List Int
  deriving DecidableEq, Inhabited
def k_u8 (x : Int) : Prop := 0 ≤ x ∧ x ≤ 255
def kLa_u8 (x : List Int) : Prop := x.length ≤ 9223372036854775807 ∧ ∀ y ∈ x, k_u8 y
noncomputable def m_laws_b10Long (p0 : List Int) (p1 : List Int) : Option Bool :=
  some ((decide ((1048576 : Int) < (p0.length : Int))) || (decide ((1048576 : Int) < (p1.length : Int))))
noncomputable def m_spec_l00From (p0 : List Int) : Option l00Src :=
  some (l00Src.mk p0 (0 : Int) (0 : Int))
noncomputable def m_spec_l00Src_next_J0 (p0 : l00Src) (j0 : Int) : Option (Int × l00Src) :=
  bif (decide ((w64 (p0.at_ + (1 : Int))) ≤ (p0.code.length : Int))) then
    some (j0, (l00Src.mk p0.code (w64 (p0.at_ + (1 : Int))) (wu 64 ((wu 64 ((wu 64 (p0.seed * (6364136223846793005 : Int))) + (wu 64 j0))) + (1442695040888963407 : Int)))))
  else
    some ((w64 (andU 64 (Int.fdiv (wu 64 ((wu 64 ((wu 64 (p0.seed * (6364136223846793005 : Int))) + (wu 64 j0))) + (1442695040888963407 : Int))) (2 ^ 40)) (255 : Int))), (l00Src.mk p0.code (w64 (p0.at_ + (1 : Int))) (wu 64 ((wu 64 ((wu 64 (p0.seed * (6364136223846793005 : Int))) + (wu 64 j0))) + (1442695040888963407 : Int)))))
noncomputable def m_spec_l00Src_next (p0 : l00Src) : Option (Int × l00Src) :=
  bif (decide (p0.at_ < (p0.code.length : Int))) then
    (getI p0.code p0.at_).bind fun (x22 : Int) =>
    m_spec_l00Src_next_J0 p0 (w64 x22)
  else
    m_spec_l00Src_next_J0 p0 (0 : Int)
noncomputable def m_spec_l00Src_pick (p0 : l00Src) (p1 : Int) : Option (Int × l00Src) :=
  bif (decide (p1 ≤ (1 : Int))) then
    some ((0 : Int), p0)
  else
    (m_spec_l00Src_next p0).bind fun (r9 : Int × l00Src) =>
    bif (decide ((200 : Int) < p1)) then
      (m_spec_l00Src_next r9.2).bind fun (r15 : Int × l00Src) =>
      (remI (w64 ((w64 (r9.1 * (256 : Int))) + r15.1)) p1).bind fun (q19 : Int) =>
      some (q19, r15.2)
    else
      (remI r9.1 p1).bind fun (q19 : Int) =>
      some (q19, r9.2)
noncomputable def m_spec_l00Src_one (p0 : l00Src) (p1 : Int) : Option (Bool × l00Src) :=
  (m_spec_l00Src_pick p0 p1).bind fun (r7 : Int × l00Src) =>
  some ((decide (r7.1 = (0 : Int))), r7.2)
noncomputable def m_spec_l10DrawOk_L1 (j0 : (List Int) × Int × Int × Int) (r17 : Int × l00Src) (s1 : (List Int) × Int × Int × (List Int) × Int) : Option (Ctl ((List Int) × Int × Int × (List Int) × Int) (((List Int) × Int × Int × (List Int)))) :=
  bif (decide (s1.2.2.2.2 < (4 : Int))) then
    (m_spec_l00Src_pick (l00Src.mk s1.1 s1.2.1 s1.2.2.1) j0.2.2.2).bind fun (r31 : Int × l00Src) =>
    (m_spec_l00Src_one r31.2 (w64 ((2 : Int) + r17.1))).bind fun (r34 : Bool × l00Src) =>
    bif r34.1 then
      (capI (s1.2.2.2.1.length + [(-1 : Int)].length) 8).bind fun (q38 : Unit) =>
      some (.next (r34.2.code, r34.2.at_, r34.2.seed, (s1.2.2.2.1 ++ [(-1 : Int)]), (w64 (s1.2.2.2.2 + (1 : Int)))))
    else
      (capI (s1.2.2.2.1.length + [r31.1].length) 8).bind fun (q38 : Unit) =>
      some (.next (r34.2.code, r34.2.at_, r34.2.seed, (s1.2.2.2.1 ++ [r31.1]), (w64 (s1.2.2.2.2 + (1 : Int)))))
  else
    some (.out (s1.1, s1.2.1, s1.2.2.1, s1.2.2.2.1))
noncomputable def m_spec_l10DrawOk_A1 (s0 : (List Int) × Int × Int × (List (List Int)) × Int) (u1 : ((List Int) × Int × Int × (List Int))) : Option (Ctl ((List Int) × Int × Int × (List (List Int)) × Int) (((List (List Int)) × (List Int) × Int × Int))) :=
  (capI (s0.2.2.2.1.length + [u1.2.2.2].length) 24).bind fun (q43 : Unit) =>
  some (.next (u1.1, u1.2.1, u1.2.2.1, (s0.2.2.2.1 ++ [u1.2.2.2]), (w64 (s0.2.2.2.2 + (1 : Int)))))
noncomputable def m_spec_l10DrawOk_L0 (j0 : (List Int) × Int × Int × Int) (r17 : Int × l00Src) (s0 : (List Int) × Int × Int × (List (List Int)) × Int) : Option (Ctl ((List Int) × Int × Int × (List (List Int)) × Int) (((List (List Int)) × (List Int) × Int × Int))) :=
  bif (decide (s0.2.2.2.2 < j0.2.2.2)) then
    (iter (m_spec_l10DrawOk_L1 j0 r17) (s0.1, s0.2.1, s0.2.2.1, ([] : List Int), (0 : Int))).bind fun (u1 : ((List Int) × Int × Int × (List Int))) =>
    m_spec_l10DrawOk_A1 s0 u1
  else
    some (.out (s0.2.2.2.1, s0.1, s0.2.1, s0.2.2.1))
noncomputable def m_spec_l10DrawOk_A0 (u0 : ((List (List Int)) × (List Int) × Int × Int)) : Option (Policy × l00Src) :=
  some ((Policy.mk u0.1), (l00Src.mk u0.2.1 u0.2.2.1 u0.2.2.2))
noncomputable def m_spec_l10DrawOk_J0 (j0 : (List Int) × Int × Int × Int) : Option (Policy × l00Src) :=
  (m_spec_l00Src_pick (l00Src.mk j0.1 j0.2.1 j0.2.2.1) (5 : Int)).bind fun (r17 : Int × l00Src) =>
  (iter (m_spec_l10DrawOk_L0 j0 r17) (r17.2.code, r17.2.at_, r17.2.seed, ([] : List (List Int)), (0 : Int))).bind fun (u0 : ((List (List Int)) × (List Int) × Int × Int)) =>
  m_spec_l10DrawOk_A0 u0
noncomputable def m_spec_l10DrawOk (p0 : l00Src) : Option (Policy × l00Src) :=
  (m_spec_l00Src_pick p0 (4 : Int)).bind fun (r11 : Int × l00Src) =>
  (m_spec_l00Src_one r11.2 (16 : Int)).bind fun (r14 : Bool × l00Src) =>
  bif r14.1 then
    m_spec_l10DrawOk_J0 (r14.2.code, r14.2.at_, r14.2.seed, (12 : Int))
  else
    m_spec_l10DrawOk_J0 (r14.2.code, r14.2.at_, r14.2.seed, (w64 ((1 : Int) + r11.1)))
noncomputable def m_spec_l00Src_among (p0 : l00Src) (p1 : List Int) : Option (Int × l00Src) :=
  (m_spec_l00Src_pick p0 (p1.length : Int)).bind fun (r9 : Int × l00Src) =>
  (getI p1 r9.1).bind fun (x10 : Int) =>
  some (x10, r9.2)
noncomputable def m_spec_l10Draw_L0 (s0 : List (List Int)) : Option (Ctl (List (List Int)) ((List (List Int)))) :=
  bif (decide ((s0.length : Int) ≤ (12 : Int))) then
    (capI (s0.length + ([[(0 : Int), (0 : Int), (0 : Int), (0 : Int)]]).length) 24).bind fun (q49 : Unit) =>
    some (.next (s0 ++ [[(0 : Int), (0 : Int), (0 : Int), (0 : Int)]]))
  else
    some (.out s0)
noncomputable def m_spec_l10Draw_A0 (r11 : Int × l00Src) (u0 : (List (List Int))) : Option (Policy × l00Src) :=
  some ((Policy.mk u0), r11.2)
noncomputable def m_spec_l10Draw (p0 : l00Src) : Option (Policy × l00Src) :=
  (m_spec_l10DrawOk p0).bind fun (r5 : Policy × l00Src) =>
  (m_spec_l00Src_one r5.2 (16 : Int)).bind fun (r7 : Bool × l00Src) =>
  bif (!r7.1) then
    some (r5.1, r7.2)
  else
    (m_spec_l00Src_pick r7.2 (4 : Int)).bind fun (r11 : Int × l00Src) =>
    bif (decide (r11.1 = (0 : Int))) then
      some ((Policy.mk ([] : List (List Int))), r11.2)
    else
      bif (decide (r11.1 = (1 : Int))) then
        (getI r5.1.Next (0 : Int)).bind fun (x22 : List Int) =>
        (sliceI x22 (1 : Int) (x22.length : Int)).bind fun (y24 : List Int) =>
        some ((Policy.mk (r5.1.Next.set (((0 : Int)).toNat) y24)), r11.2)
      else
        bif (decide (r11.1 = (2 : Int))) then
          (getI r5.1.Next (0 : Int)).bind fun (x30 : List Int) =>
          (m_spec_l00Src_among r11.2 [(-2 : Int), (r5.1.Next.length : Int), (9223372036854775807 : Int)]).bind fun (r37 : Int × l00Src) =>
          (getI x30 (0 : Int)).bind fun (x38 : Int) =>
          some ((Policy.mk (r5.1.Next.set (((0 : Int)).toNat) (x30.set ((0 : Int)).toNat r37.1))), r37.2)
        else
          bif (decide (r11.1 = (3 : Int))) then
            (iter (m_spec_l10Draw_L0) r5.1.Next).bind fun (u0 : (List (List Int))) =>
            m_spec_l10Draw_A0 r11 u0
          else
            some (r5.1, r11.2)
noncomputable def m_spec_l00In (p0 : Int) (p1 : Int) (p2 : Int) : Option Bool :=
  some ((decide (p1 ≤ p0)) && (decide (p0 ≤ p2)))
noncomputable def m_spec_l10Is_L1 (p0 : Policy) (x24 : List Int) (s1 : Int) : Option (Ctl Int (Unit ⊕ Bool)) :=
  bif (decide (s1 < (4 : Int))) then
    (getI x24 s1).bind fun (x40 : Int) =>
    (m_spec_l00In x40 (-1 : Int) (w64 ((p0.Next.length : Int) - (1 : Int)))).bind fun (r44 : Bool) =>
    bif (!r44) then
      some (.out (.inr false))
    else
      some (.next (w64 (s1 + (1 : Int))))
  else
    some (.out (.inl ()))
noncomputable def m_spec_l10Is_A1 (s0 : Int) (u1 : Unit ⊕ Bool) : Option (Ctl Int (Unit ⊕ Bool)) :=
  match u1 with
  | .inl u1 =>
    some (.next (w64 (s0 + (1 : Int))))
  | .inr u1 =>
    some (.out (.inr u1))
noncomputable def m_spec_l10Is_L0 (p0 : Policy) (s0 : Int) : Option (Ctl Int (Unit ⊕ Bool)) :=
  bif (decide (s0 < (p0.Next.length : Int))) then
    (getI p0.Next s0).bind fun (x24 : List Int) =>
    bif (!decide ((x24.length : Int) = (4 : Int))) then
      some (.out (.inr false))
    else
      (iter (m_spec_l10Is_L1 p0 x24) (0 : Int)).bind fun (u1 : Unit ⊕ Bool) =>
      m_spec_l10Is_A1 s0 u1
  else
    some (.out (.inl ()))
noncomputable def m_spec_l10Is_A0 (u0 : Unit ⊕ Bool) : Option Bool :=
  match u0 with
  | .inl u0 =>
    some true
  | .inr u0 =>
    some u0
noncomputable def m_spec_l10Is (p0 : Policy) : Option Bool :=
  (m_spec_l00In (p0.Next.length : Int) (1 : Int) (12 : Int)).bind fun (r12 : Bool) =>
  bif (!r12) then
    some false
  else
    (iter (m_spec_l10Is_L0 p0) (0 : Int)).bind fun (u0 : Unit ⊕ Bool) =>
    m_spec_l10Is_A0 u0
noncomputable def m_spec_l00Own (p0 : List Int) : Option (List Int) :=
  (capI (([] : List Int).length + p0.length) 8).bind fun (q5 : Unit) =>
  some (([] : List Int) ++ p0)
noncomputable def m_spec_l10Alike_L0 (p0 : Policy) (p1 : List Int) (p2 : Int) (p3 : Int) (s0 : Int) : Option (Ctl Int (Unit ⊕ Bool)) :=
  bif (decide (s0 < (4 : Int))) then
    (getI p0.Next p2).bind fun (x30 : List Int) =>
    (getI x30 s0).bind fun (x33 : Int) =>
    (getI p0.Next p3).bind fun (x40 : List Int) =>
    (getI x40 s0).bind fun (x43 : Int) =>
    bif (!((decide (x33 < (0 : Int))) == (decide (x43 < (0 : Int))))) then
      some (.out (.inr false))
    else
      bif (decide ((0 : Int) ≤ x33)) then
        (getI p1 x33).bind fun (x56 : Int) =>
        (getI p1 x43).bind fun (x60 : Int) =>
        bif (!decide (x56 = x60)) then
          some (.out (.inr false))
        else
          some (.next (w64 (s0 + (1 : Int))))
      else
        some (.next (w64 (s0 + (1 : Int))))
  else
    some (.out (.inl ()))
noncomputable def m_spec_l10Alike_A0 (u0 : Unit ⊕ Bool) : Option Bool :=
  match u0 with
  | .inl u0 =>
    some true
  | .inr u0 =>
    some u0
noncomputable def m_spec_l10Alike (p0 : Policy) (p1 : List Int) (p2 : Int) (p3 : Int) : Option Bool :=
  (getI p1 p2).bind fun (x14 : Int) =>
  (getI p1 p3).bind fun (x18 : Int) =>
  bif (!decide (x14 = x18)) then
    some false
  else
    (iter (m_spec_l10Alike_L0 p0 p1 p2 p3) (0 : Int)).bind fun (u0 : Unit ⊕ Bool) =>
    m_spec_l10Alike_A0 u0
noncomputable def m_spec_l10Classes_L2 (p0 : Policy) (s0 : (List Int) × Int) (s1 : (List Int) × Int) (s2 : Int × Int) : Option (Ctl (Int × Int) Int) :=
  bif ((decide (s2.2 < s1.2)) && (decide (s2.1 < (0 : Int)))) then
    (m_spec_l10Alike p0 s0.1 s2.2 s1.2).bind fun (r41 : Bool) =>
    bif r41 then
      (getI s1.1 s2.2).bind fun (x44 : Int) =>
      some (.next (x44, (w64 (s2.2 + (1 : Int)))))
    else
      some (.next (s2.1, (w64 (s2.2 + (1 : Int)))))
  else
    some (.out s2.1)
noncomputable def m_spec_l10Classes_A2 (s1 : (List Int) × Int) (u2 : Int) : Option (Ctl ((List Int) × Int) ((List Int))) :=
  bif (decide (u2 < (0 : Int))) then
    (capI (s1.1.length + [s1.2].length) 8).bind fun (q52 : Unit) =>
    some (.next ((s1.1 ++ [s1.2]), (w64 (s1.2 + (1 : Int)))))
  else
    (capI (s1.1.length + [u2].length) 8).bind fun (q52 : Unit) =>
    some (.next ((s1.1 ++ [u2]), (w64 (s1.2 + (1 : Int)))))
noncomputable def m_spec_l10Classes_L1 (p0 : Policy) (s0 : (List Int) × Int) (s1 : (List Int) × Int) : Option (Ctl ((List Int) × Int) ((List Int))) :=
  bif (decide (s1.2 < (p0.Next.length : Int))) then
    (iter (m_spec_l10Classes_L2 p0 s0 s1) ((-1 : Int), (0 : Int))).bind fun (u2 : Int) =>
    m_spec_l10Classes_A2 s1 u2
  else
    some (.out s1.1)
noncomputable def m_spec_l10Classes_A1 (s0 : (List Int) × Int) (u1 : (List Int)) : Option (Ctl ((List Int) × Int) ((List Int))) :=
  some (.next (u1, (w64 (s0.2 + (1 : Int)))))
noncomputable def m_spec_l10Classes_L0 (p0 : Policy) (s0 : (List Int) × Int) : Option (Ctl ((List Int) × Int) ((List Int))) :=
  bif (decide (s0.2 < (p0.Next.length : Int))) then
    (iter (m_spec_l10Classes_L1 p0 s0) (([] : List Int), (0 : Int))).bind fun (u1 : (List Int)) =>
    m_spec_l10Classes_A1 s0 u1
  else
    some (.out s0.1)
noncomputable def m_spec_l10Classes_A0 (u0 : (List Int)) : Option (List Int) :=
  some u0
noncomputable def m_spec_l10Classes (p0 : Policy) : Option (List Int) :=
  (makeI (p0.Next.length : Int) 8).bind fun (k16 : Nat) =>
  (iter (m_spec_l10Classes_L0 p0) ((List.replicate k16 (0 : Int)), (0 : Int))).bind fun (u0 : (List Int)) =>
  m_spec_l10Classes_A0 u0
noncomputable def m_spec_l10Minimal_L2 (r14 : List Int) (s1 : (List Int) × (List Int) × (List Int) × Int) (x43 : Int) (s2 : Int × Int) : Option (Ctl (Int × Int) Int) :=
  bif (decide (s2.2 < (s1.2.1.length : Int))) then
    (getI s1.2.1 s2.2).bind fun (x58 : Int) =>
    (getI r14 x43).bind fun (x62 : Int) =>
    bif (decide (x58 = x62)) then
      some (.next (s2.2, (w64 (s2.2 + (1 : Int)))))
    else
      some (.next (s2.1, (w64 (s2.2 + (1 : Int)))))
  else
    some (.out s2.1)
noncomputable def m_spec_l10Minimal_A2 (r14 : List Int) (s1 : (List Int) × (List Int) × (List Int) × Int) (x43 : Int) (u2 : Int) : Option (Ctl ((List Int) × (List Int) × (List Int) × Int) (((List Int) × (List Int) × (List Int)))) :=
  bif (decide (u2 < (0 : Int))) then
    (getI r14 x43).bind fun (x73 : Int) =>
    (capI (s1.2.1.length + [x73].length) 8).bind fun (q76 : Unit) =>
    (capI (s1.1.length + [x43].length) 8).bind fun (q80 : Unit) =>
    (capI (s1.2.2.1.length + [(s1.2.1.length : Int)].length) 8).bind fun (q84 : Unit) =>
    some (.next ((s1.1 ++ [x43]), (s1.2.1 ++ [x73]), (s1.2.2.1 ++ [(s1.2.1.length : Int)]), (w64 (s1.2.2.2 + (1 : Int)))))
  else
    (capI (s1.2.2.1.length + [u2].length) 8).bind fun (q84 : Unit) =>
    some (.next (s1.1, s1.2.1, (s1.2.2.1 ++ [u2]), (w64 (s1.2.2.2 + (1 : Int)))))
noncomputable def m_spec_l10Minimal_L1 (p0 : Policy) (r14 : List Int) (s0 : (List Int) × (List Int) × (List (List Int)) × Int) (s1 : (List Int) × (List Int) × (List Int) × Int) : Option (Ctl ((List Int) × (List Int) × (List Int) × Int) (((List Int) × (List Int) × (List Int)))) :=
  bif (decide (s1.2.2.2 < (4 : Int))) then
    (getI s1.1 s0.2.2.2).bind fun (x38 : Int) =>
    (getI p0.Next x38).bind fun (x40 : List Int) =>
    (getI x40 s1.2.2.2).bind fun (x43 : Int) =>
    bif (decide (x43 < (0 : Int))) then
      (capI (s1.2.2.1.length + [(-1 : Int)].length) 8).bind fun (q49 : Unit) =>
      some (.next (s1.1, s1.2.1, (s1.2.2.1 ++ [(-1 : Int)]), (w64 (s1.2.2.2 + (1 : Int)))))
    else
      (iter (m_spec_l10Minimal_L2 r14 s1 x43) ((-1 : Int), (0 : Int))).bind fun (u2 : Int) =>
      m_spec_l10Minimal_A2 r14 s1 x43 u2
  else
    some (.out (s1.1, s1.2.1, s1.2.2.1))
noncomputable def m_spec_l10Minimal_A1 (s0 : (List Int) × (List Int) × (List (List Int)) × Int) (u1 : ((List Int) × (List Int) × (List Int))) : Option (Ctl ((List Int) × (List Int) × (List (List Int)) × Int) ((List (List Int)))) :=
  (capI (s0.2.2.1.length + [u1.2.2].length) 24).bind fun (q89 : Unit) =>
  some (.next (u1.1, u1.2.1, (s0.2.2.1 ++ [u1.2.2]), (w64 (s0.2.2.2 + (1 : Int)))))
noncomputable def m_spec_l10Minimal_L0 (p0 : Policy) (r14 : List Int) (s0 : (List Int) × (List Int) × (List (List Int)) × Int) : Option (Ctl ((List Int) × (List Int) × (List (List Int)) × Int) ((List (List Int)))) :=
  bif (decide (s0.2.2.2 < (s0.1.length : Int))) then
    (iter (m_spec_l10Minimal_L1 p0 r14 s0) (s0.1, s0.2.1, ([] : List Int), (0 : Int))).bind fun (u1 : ((List Int) × (List Int) × (List Int))) =>
    m_spec_l10Minimal_A1 s0 u1
  else
    some (.out s0.2.2.1)
noncomputable def m_spec_l10Minimal_A0 (u0 : (List (List Int))) : Option Policy :=
  some (Policy.mk u0)
noncomputable def m_spec_l10Minimal (p0 : Policy) : Option Policy :=
  (m_spec_l10Classes p0).bind fun (r14 : List Int) =>
  (getI r14 (0 : Int)).bind fun (x17 : Int) =>
  (iter (m_spec_l10Minimal_L0 p0 r14) ([(0 : Int)], [x17], ([] : List (List Int)), (0 : Int))).bind fun (u0 : (List (List Int))) =>
  m_spec_l10Minimal_A0 u0
noncomputable def m_spec_l10DrawTwo_L0 (r10 : Policy × l00Src) (s0 : (List (List Int)) × Int) : Option (Ctl ((List (List Int)) × Int) ((List (List Int)))) :=
  bif (decide (s0.2 < (r10.1.Next.length : Int))) then
    (getI r10.1.Next s0.2).bind fun (x33 : List Int) =>
    (m_spec_l00Own x33).bind fun (r35 : List Int) =>
    (capI (s0.1.length + [r35].length) 24).bind fun (q37 : Unit) =>
    some (.next ((s0.1 ++ [r35]), (w64 (s0.2 + (1 : Int)))))
  else
    some (.out s0.1)
noncomputable def m_spec_l10DrawTwo_J1 (r10 : Policy × l00Src) (j1 : (List Int) × Int × Int × (List (List Int))) : Option (Policy × Policy × l00Src) :=
  (m_spec_l00Src_one (l00Src.mk j1.1 j1.2.1 j1.2.2.1) (3 : Int)).bind fun (r63 : Bool × l00Src) =>
  bif r63.1 then
    (m_spec_l10Minimal (Policy.mk j1.2.2.2)).bind fun (r64 : Policy) =>
    some (r10.1, r64, r63.2)
  else
    some (r10.1, (Policy.mk j1.2.2.2), r63.2)
noncomputable def m_spec_l10DrawTwo_A0 (r10 : Policy × l00Src) (j0 : (List Int) × Int × Int × Bool) (u0 : (List (List Int))) : Option (Policy × Policy × l00Src) :=
  (m_spec_l00Src_one (l00Src.mk j0.1 j0.2.1 j0.2.2.1) (2 : Int)).bind fun (r40 : Bool × l00Src) =>
  bif r40.1 then
    (m_spec_l00Src_pick r40.2 (u0.length : Int)).bind fun (r45 : Int × l00Src) =>
    (m_spec_l00Src_pick r45.2 (4 : Int)).bind fun (r47 : Int × l00Src) =>
    (getI u0 r45.1).bind fun (x51 : List Int) =>
    (m_spec_l00Src_pick r47.2 (w64 ((u0.length : Int) + (1 : Int)))).bind fun (r59 : Int × l00Src) =>
    (getI x51 r47.1).bind fun (x61 : Int) =>
    m_spec_l10DrawTwo_J1 r10 (r59.2.code, r59.2.at_, r59.2.seed, (u0.set ((r45.1).toNat) (x51.set (r47.1).toNat (w64 (r59.1 - (1 : Int))))))
  else
    m_spec_l10DrawTwo_J1 r10 (r40.2.code, r40.2.at_, r40.2.seed, u0)
noncomputable def m_spec_l10DrawTwo_J0 (r10 : Policy × l00Src) (j0 : (List Int) × Int × Int × Bool) : Option (Policy × Policy × l00Src) :=
  bif j0.2.2.2 then
    (m_spec_l10Draw (l00Src.mk j0.1 j0.2.1 j0.2.2.1)).bind fun (r19 : Policy × l00Src) =>
    some (r10.1, r19.1, r19.2)
  else
    (iter (m_spec_l10DrawTwo_L0 r10) (([] : List (List Int)), (0 : Int))).bind fun (u0 : (List (List Int))) =>
    m_spec_l10DrawTwo_A0 r10 j0 u0
noncomputable def m_spec_l10DrawTwo (p0 : l00Src) : Option (Policy × Policy × l00Src) :=
  (m_spec_l10Draw p0).bind fun (r10 : Policy × l00Src) =>
  (m_spec_l00Src_one r10.2 (2 : Int)).bind fun (r12 : Bool × l00Src) =>
  bif r12.1 then
    m_spec_l10DrawTwo_J0 r10 (r12.2.code, r12.2.at_, r12.2.seed, true)
  else
    (m_spec_l10Is r10.1).bind fun (r14 : Bool) =>
    m_spec_l10DrawTwo_J0 r10 (r12.2.code, r12.2.at_, r12.2.seed, (!r14))
noncomputable def m_spec_B10Policies_J0 (r11 : Policy × Policy × l00Src) (j0 : List (List Int)) : Option (Policy × Policy) :=
  (m_spec_l10Is r11.2.1).bind fun (r19 : Bool) =>
  bif (!r19) then
    some ((Policy.mk j0), (Policy.mk ([[(0 : Int), (0 : Int), (0 : Int), (0 : Int)]])))
  else
    some ((Policy.mk j0), r11.2.1)
noncomputable def m_spec_B10Policies (p0 : List Int) : Option (Policy × Policy) :=
  (m_spec_l00From p0).bind fun (r8 : l00Src) =>
  (m_spec_l10DrawTwo r8).bind fun (r11 : Policy × Policy × l00Src) =>
  (m_spec_l10Is r11.1).bind fun (r14 : Bool) =>
  bif (!r14) then
    m_spec_B10Policies_J0 r11 [[(0 : Int), (0 : Int), (-1 : Int), (0 : Int)]]
  else
    m_spec_B10Policies_J0 r11 r11.1.Next
noncomputable def m_spec_B10Word_L0 (s0 : (List Int) × Int × Int × (List Int) × Int) : Option (Ctl ((List Int) × Int × Int × (List Int) × Int) ((List Int))) :=
  bif (decide ((0 : Int) < s0.2.2.2.2)) then
    (m_spec_l00Src_pick (l00Src.mk s0.1 s0.2.1 s0.2.2.1) (4 : Int)).bind fun (r17 : Int × l00Src) =>
    (capI (s0.2.2.2.1.length + [r17.1].length) 8).bind fun (q19 : Unit) =>
    some (.next (r17.2.code, r17.2.at_, r17.2.seed, (s0.2.2.2.1 ++ [r17.1]), (w64 (s0.2.2.2.2 - (1 : Int)))))
  else
    some (.out s0.2.2.2.1)
noncomputable def m_spec_B10Word_A0 (u0 : (List Int)) : Option (List Int) :=
  some u0
noncomputable def m_spec_B10Word (p0 : List Int) : Option (List Int) :=
  (m_spec_l00From p0).bind fun (r7 : l00Src) =>
  (m_spec_l00Src_pick r7 (9 : Int)).bind fun (r10 : Int × l00Src) =>
  (iter (m_spec_B10Word_L0) (r10.2.code, r10.2.at_, r10.2.seed, ([] : List Int), r10.1)).bind fun (u0 : (List Int)) =>
  m_spec_B10Word_A0 u0
noncomputable def m_impl_size (p0 : Int) : Option Int :=
  some p0
noncomputable def m_impl_within (p0 : Int) (p1 : Int) (p2 : Int) : Option Bool :=
  some ((decide (p1 ≤ p0)) && (decide (p0 ≤ p2)))
noncomputable def m_impl_allWithin_L0 (p1 : Int) (p2 : Int) (n0 : Nat) (x0 : Int) (s0 : Unit) : Option (Ctl Unit (Unit ⊕ Bool)) :=
  (m_impl_within x0 p1 p2).bind fun (r18 : Bool) =>
  bif (!r18) then
    some (.out (.inr false))
  else
    some (.next ())
noncomputable def m_impl_allWithin_A0 (u0 : Unit ⊕ Bool) : Option Bool :=
  match u0 with
  | .inl u0 =>
    some true
  | .inr u0 =>
    some u0
noncomputable def m_impl_allWithin (p0 : List Int) (p1 : Int) (p2 : Int) : Option Bool :=
  (forL (m_impl_allWithin_L0 p1 p2) (fun s0 => (.inl ())) 0 p0 ()).bind fun (u0 : Unit ⊕ Bool) =>
  m_impl_allWithin_A0 u0
noncomputable def m_impl_ValidPolicy_L0 (r9 : Int) (n0 : Nat) (x0 : List Int) (s0 : Unit) : Option (Ctl Unit (Unit ⊕ Bool)) :=
  bif (!decide ((x0.length : Int) = (4 : Int))) then
    some (.out (.inr false))
  else
    (m_impl_allWithin x0 (-1 : Int) (w64 (r9 - (1 : Int)))).bind fun (r27 : Bool) =>
    bif (!r27) then
      some (.out (.inr false))
    else
      some (.next ())
noncomputable def m_impl_ValidPolicy_A0 (u0 : Unit ⊕ Bool) : Option Bool :=
  match u0 with
  | .inl u0 =>
    some true
  | .inr u0 =>
    some u0
noncomputable def m_impl_ValidPolicy (p0 : Policy) : Option Bool :=
  (m_impl_size (p0.Next.length : Int)).bind fun (r9 : Int) =>
  (m_impl_within r9 (1 : Int) (12 : Int)).bind fun (r11 : Bool) =>
  bif (!r11) then
    some false
  else
    (forL (m_impl_ValidPolicy_L0 r9) (fun s0 => (.inl ())) 0 p0.Next ()).bind fun (u0 : Unit ⊕ Bool) =>
    m_impl_ValidPolicy_A0 u0
noncomputable def m_impl_copyInts (p0 : List Int) : Option (List Int) :=
  (capI (([] : List Int).length + p0.length) 8).bind fun (q5 : Unit) =>
  some (([] : List Int) ++ p0)
noncomputable def m_impl_DifferenceOf_1 (p0 : Bool) (p1 : Bool) : Option Bool :=
  some (!(p0 == p1))
noncomputable def m_impl_apart_fDifferenceOf_1_J0 (s1 : (List ((Int × Int) × Bool)) × (List spot)) (n1 : Nat) (x41 : Int) (x54 : Int) (r61 : List Int) (j0 : Bool) : Option (Ctl ((List ((Int × Int) × Bool)) × (List spot)) (((List ((Int × Int) × Bool)) × (List spot)) ⊕ ((List Int) × Bool))) :=
  bif j0 then
    (capI (s1.2.length + ([(spot.mk (x41, x54) (r61 ++ [(n1 : Int)]))]).length) 40).bind fun (q94 : Unit) =>
    some (.next ((mput s1.1 (x41, x54) true), (s1.2 ++ [(spot.mk (x41, x54) (r61 ++ [(n1 : Int)]))])))
  else
    some (.next (s1.1, s1.2))
noncomputable def m_impl_apart_fDifferenceOf_1_L1 (p0 : Policy) (p1 : Policy) (s0 : (List ((Int × Int) × Bool)) × (List spot) × Int) (n1 : Nat) (x1 : Nat) (s1 : (List ((Int × Int) × Bool)) × (List spot)) : Option (Ctl ((List ((Int × Int) × Bool)) × (List spot)) (((List ((Int × Int) × Bool)) × (List spot)) ⊕ ((List Int) × Bool))) :=
  (getI s1.2 s0.2.2).bind fun (x34 : spot) =>
  (getI p0.Next x34.pair.1).bind fun (x38 : List Int) =>
  (getI x38 (n1 : Int)).bind fun (x41 : Int) =>
  (getI p1.Next x34.pair.2).bind fun (x51 : List Int) =>
  (getI x51 (n1 : Int)).bind fun (x54 : Int) =>
  (m_impl_copyInts x34.word).bind fun (r61 : List Int) =>
  (capI (r61.length + [(n1 : Int)].length) 8).bind fun (q64 : Unit) =>
  (m_impl_DifferenceOf_1 (decide ((0 : Int) ≤ x41)) (decide ((0 : Int) ≤ x54))).bind fun (r70 : Bool) =>
  bif r70 then
    some (.out (.inr ((r61 ++ [(n1 : Int)]), true)))
  else
    bif ((decide ((0 : Int) ≤ x41)) && (decide ((0 : Int) ≤ x54))) then
      m_impl_apart_fDifferenceOf_1_J0 s1 n1 x41 x54 r61 (!((mget s1.1 (x41, x54)).getD false))
    else
      m_impl_apart_fDifferenceOf_1_J0 s1 n1 x41 x54 r61 false
noncomputable def m_impl_apart_fDifferenceOf_1_A1 (s0 : (List ((Int × Int) × Bool)) × (List spot) × Int) (u1 : ((List ((Int × Int) × Bool)) × (List spot)) ⊕ ((List Int) × Bool)) : Option (Ctl ((List ((Int × Int) × Bool)) × (List spot) × Int) (Unit ⊕ ((List Int) × Bool))) :=
  match u1 with
  | .inl u1 =>
    some (.next (u1.1, u1.2, (w64 (s0.2.2 + (1 : Int)))))
  | .inr u1 =>
    some (.out (.inr (u1.1, u1.2)))
noncomputable def m_impl_apart_fDifferenceOf_1_L0 (p0 : Policy) (p1 : Policy) (s0 : (List ((Int × Int) × Bool)) × (List spot) × Int) : Option (Ctl ((List ((Int × Int) × Bool)) × (List spot) × Int) (Unit ⊕ ((List Int) × Bool))) :=
  bif (decide (s0.2.2 < (s0.2.1.length : Int))) then
    (forL (m_impl_apart_fDifferenceOf_1_L1 p0 p1 s0) (fun s1 => (.inl (s1.1, s1.2))) 0 (List.range 4) (s0.1, s0.2.1)).bind fun (u1 : ((List ((Int × Int) × Bool)) × (List spot)) ⊕ ((List Int) × Bool)) =>
    m_impl_apart_fDifferenceOf_1_A1 s0 u1
  else
    some (.out (.inl ()))
noncomputable def m_impl_apart_fDifferenceOf_1_A0 (u0 : Unit ⊕ ((List Int) × Bool)) : Option ((List Int) × Bool) :=
  match u0 with
  | .inl u0 =>
    some (([] : List Int), false)
  | .inr u0 =>
    some (u0.1, u0.2)
noncomputable def m_impl_apart_fDifferenceOf_1 (p0 : Policy) (p1 : Policy) : Option ((List Int) × Bool) :=
  (iter (m_impl_apart_fDifferenceOf_1_L0 p0 p1) ((mput ([] : List ((Int × Int) × Bool)) ((0 : Int), (0 : Int)) true), [(spot.mk ((0 : Int), (0 : Int)) ([] : List Int))], (0 : Int))).bind fun (u0 : Unit ⊕ ((List Int) × Bool)) =>
  m_impl_apart_fDifferenceOf_1_A0 u0
noncomputable def m_impl_DifferenceOf (p0 : Policy) (p1 : Policy) : Option ((List Int) × Bool) :=
  (m_impl_ValidPolicy p0).bind fun (r9 : Bool) =>
  bif (!r9) then
    some (([] : List Int), false)
  else
    (m_impl_ValidPolicy p1).bind fun (r13 : Bool) =>
    bif (!r13) then
      some (([] : List Int), false)
    else
      (m_impl_apart_fDifferenceOf_1 p0 p1).bind fun (r19 : (List Int) × Bool) =>
      bif ((!r19.2) || (decide ((40 : Int) < (r19.1.length : Int)))) then
        some (([] : List Int), false)
      else
        some (r19.1, true)
noncomputable def m_impl_Policy_run_L0 (p0 : Policy) (n0 : Nat) (x0 : Int) (s0 : Int) : Option (Ctl Int (Int ⊕ (Int × Int))) :=
  (getI p0.Next s0).bind fun (x21 : List Int) =>
  (getI x21 x0).bind fun (x24 : Int) =>
  bif (decide (x24 < (0 : Int))) then
    some (.out (.inr ((n0 : Int), s0)))
  else
    some (.next x24)
noncomputable def m_impl_Policy_run_A0 (p2 : List Int) (u0 : Int ⊕ (Int × Int)) : Option (Int × Int) :=
  match u0 with
  | .inl u0 =>
    (m_impl_size (p2.length : Int)).bind fun (r34 : Int) =>
    some (r34, u0)
  | .inr u0 =>
    some (u0.1, u0.2)
noncomputable def m_impl_Policy_run (p0 : Policy) (p1 : Int) (p2 : List Int) : Option (Int × Int) :=
  (forL (m_impl_Policy_run_L0 p0) (fun s0 => (.inl s0)) 0 p2 p1).bind fun (u0 : Int ⊕ (Int × Int)) =>
  m_impl_Policy_run_A0 p2 u0
noncomputable def m_impl_RunPolicy (p0 : Policy) (p1 : List Int) : Option (Int × Int × Bool) :=
  (m_impl_ValidPolicy p0).bind fun (r10 : Bool) =>
  bif ((!r10) || (decide ((40 : Int) < (p1.length : Int)))) then
    some ((0 : Int), (0 : Int), false)
  else
    (m_impl_allWithin p1 (0 : Int) (3 : Int)).bind fun (r19 : Bool) =>
    bif (!r19) then
      some ((0 : Int), (0 : Int), false)
    else
      (m_impl_Policy_run p0 (0 : Int) p1).bind fun (r25 : Int × Int) =>
      some (r25.1, r25.2, true)
noncomputable def m_impl_BothPolicies_1 (p0 : Int × Int) (p1 : Int) (p2_0 : List (List Int)) (p3_0 : List (List Int)) : Option ((Int × Int) × Bool) :=
  (getI p2_0 p0.1).bind fun (x14 : List Int) =>
  (getI x14 p1).bind fun (x17 : Int) =>
  (getI p3_0 p0.2).bind fun (x23 : List Int) =>
  (getI x23 p1).bind fun (x26 : Int) =>
  some ((x17, x26), ((decide ((0 : Int) ≤ x17)) && (decide ((0 : Int) ≤ x26))))
noncomputable def m_impl_grown_2_int64_fBothPolicies_1_L1 (v1_0_0 : List (List Int)) (v1_1_0 : List (List Int)) (s0 : (List ((Int × Int) × Int)) × (List (Int × Int)) × (List (List Int)) × Int) (n1 : Nat) (x1 : Nat) (s1 : (List ((Int × Int) × Int)) × (List (Int × Int)) × (List Int)) : Option (Ctl ((List ((Int × Int) × Int)) × (List (Int × Int)) × (List Int)) (((List ((Int × Int) × Int)) × (List (Int × Int)) × (List Int)))) :=
  (getI s1.2.1 s0.2.2.2).bind fun (x33 : Int × Int) =>
  (m_impl_BothPolicies_1 x33 (n1 : Int) v1_0_0 v1_1_0).bind fun (r36 : (Int × Int) × Bool) =>
  bif (!r36.2) then
    (capI (s1.2.2.length + [(-1 : Int)].length) 8).bind fun (q43 : Unit) =>
    some (.next (s1.1, s1.2.1, (s1.2.2 ++ [(-1 : Int)])))
  else
    bif (!(mget s1.1 r36.1).isSome) then
      (m_impl_size (s1.2.1.length : Int)).bind fun (r54 : Int) =>
      (capI (s1.2.1.length + [r36.1].length) 16).bind fun (q61 : Unit) =>
      (capI (s1.2.2.length + [r54].length) 8).bind fun (q65 : Unit) =>
      some (.next ((mput s1.1 r36.1 r54), (s1.2.1 ++ [r36.1]), (s1.2.2 ++ [r54])))
    else
      (capI (s1.2.2.length + [((mget s1.1 r36.1).getD (0 : Int))].length) 8).bind fun (q65 : Unit) =>
      some (.next (s1.1, s1.2.1, (s1.2.2 ++ [((mget s1.1 r36.1).getD (0 : Int))])))
noncomputable def m_impl_grown_2_int64_fBothPolicies_1_A1 (s0 : (List ((Int × Int) × Int)) × (List (Int × Int)) × (List (List Int)) × Int) (u1 : ((List ((Int × Int) × Int)) × (List (Int × Int)) × (List Int))) : Option (Ctl ((List ((Int × Int) × Int)) × (List (Int × Int)) × (List (List Int)) × Int) ((List (List Int)))) :=
  (capI (s0.2.2.1.length + [u1.2.2].length) 24).bind fun (q70 : Unit) =>
  some (.next (u1.1, u1.2.1, (s0.2.2.1 ++ [u1.2.2]), (w64 (s0.2.2.2 + (1 : Int)))))
noncomputable def m_impl_grown_2_int64_fBothPolicies_1_L0 (v1_0_0 : List (List Int)) (v1_1_0 : List (List Int)) (s0 : (List ((Int × Int) × Int)) × (List (Int × Int)) × (List (List Int)) × Int) : Option (Ctl ((List ((Int × Int) × Int)) × (List (Int × Int)) × (List (List Int)) × Int) ((List (List Int)))) :=
  bif (decide (s0.2.2.2 < (s0.2.1.length : Int))) then
    (forL (m_impl_grown_2_int64_fBothPolicies_1_L1 v1_0_0 v1_1_0 s0) (fun s1 => (s1.1, s1.2.1, s1.2.2)) 0 (List.range 4) (s0.1, s0.2.1, ([] : List Int))).bind fun (u1 : ((List ((Int × Int) × Int)) × (List (Int × Int)) × (List Int))) =>
    m_impl_grown_2_int64_fBothPolicies_1_A1 s0 u1
  else
    some (.out s0.2.2.1)
noncomputable def m_impl_grown_2_int64_fBothPolicies_1_A0 (u0 : (List (List Int))) : Option (List (List Int)) :=
  some u0
noncomputable def m_impl_grown_2_int64_fBothPolicies_1 (p0 : Int × Int) (v1_0_0 : List (List Int)) (v1_1_0 : List (List Int)) : Option (List (List Int)) :=
  (iter (m_impl_grown_2_int64_fBothPolicies_1_L0 v1_0_0 v1_1_0) ((mput ([] : List ((Int × Int) × Int)) p0 (0 : Int)), [p0], ([] : List (List Int)), (0 : Int))).bind fun (u0 : (List (List Int))) =>
  m_impl_grown_2_int64_fBothPolicies_1_A0 u0
noncomputable def m_impl_Decimal (p0 : Int) : Option (List UInt8) :=
  (m_strconv_FormatInt p0 (10 : Int)).bind fun (r4 : List UInt8) =>
  some r4
noncomputable def m_impl_graph_minimal_1 (p0 : Int) (p1 : Int) (p2_0 : List (List Int)) (p3_0 : List Int) (p4_0 : List Int) : Option (Int × Bool) :=
  (getI p3_0 p0).bind fun (x13 : Int) =>
  (getI p2_0 x13).bind fun (x15 : List Int) =>
  (getI x15 p1).bind fun (x18 : Int) =>
  bif (decide (x18 < (0 : Int))) then
    some ((0 : Int), false)
  else
    (getI p4_0 x18).bind fun (x24 : Int) =>
    some (x24, true)
noncomputable def m_impl_grown_int64_fminimal_1_L1 (v1_0_0 : List (List Int)) (v1_1_0 : List Int) (v1_2_0 : List Int) (s0 : (List (Int × Int)) × (List Int) × (List (List Int)) × Int) (n1 : Nat) (x1 : Nat) (s1 : (List (Int × Int)) × (List Int) × (List Int)) : Option (Ctl ((List (Int × Int)) × (List Int) × (List Int)) (((List (Int × Int)) × (List Int) × (List Int)))) :=
  (getI s1.2.1 s0.2.2.2).bind fun (x33 : Int) =>
  (m_impl_graph_minimal_1 x33 (n1 : Int) v1_0_0 v1_1_0 v1_2_0).bind fun (r36 : Int × Bool) =>
  bif (!r36.2) then
    (capI (s1.2.2.length + [(-1 : Int)].length) 8).bind fun (q43 : Unit) =>
    some (.next (s1.1, s1.2.1, (s1.2.2 ++ [(-1 : Int)])))
  else
    bif (!(mget s1.1 r36.1).isSome) then
      (m_impl_size (s1.2.1.length : Int)).bind fun (r54 : Int) =>
      (capI (s1.2.1.length + [r36.1].length) 8).bind fun (q61 : Unit) =>
      (capI (s1.2.2.length + [r54].length) 8).bind fun (q65 : Unit) =>
      some (.next ((mput s1.1 r36.1 r54), (s1.2.1 ++ [r36.1]), (s1.2.2 ++ [r54])))
    else
      (capI (s1.2.2.length + [((mget s1.1 r36.1).getD (0 : Int))].length) 8).bind fun (q65 : Unit) =>
      some (.next (s1.1, s1.2.1, (s1.2.2 ++ [((mget s1.1 r36.1).getD (0 : Int))])))
noncomputable def m_impl_grown_int64_fminimal_1_A1 (s0 : (List (Int × Int)) × (List Int) × (List (List Int)) × Int) (u1 : ((List (Int × Int)) × (List Int) × (List Int))) : Option (Ctl ((List (Int × Int)) × (List Int) × (List (List Int)) × Int) ((List (List Int)))) :=
  (capI (s0.2.2.1.length + [u1.2.2].length) 24).bind fun (q70 : Unit) =>
  some (.next (u1.1, u1.2.1, (s0.2.2.1 ++ [u1.2.2]), (w64 (s0.2.2.2 + (1 : Int)))))
noncomputable def m_impl_grown_int64_fminimal_1_L0 (v1_0_0 : List (List Int)) (v1_1_0 : List Int) (v1_2_0 : List Int) (s0 : (List (Int × Int)) × (List Int) × (List (List Int)) × Int) : Option (Ctl ((List (Int × Int)) × (List Int) × (List (List Int)) × Int) ((List (List Int)))) :=
  bif (decide (s0.2.2.2 < (s0.2.1.length : Int))) then
    (forL (m_impl_grown_int64_fminimal_1_L1 v1_0_0 v1_1_0 v1_2_0 s0) (fun s1 => (s1.1, s1.2.1, s1.2.2)) 0 (List.range 4) (s0.1, s0.2.1, ([] : List Int))).bind fun (u1 : ((List (Int × Int)) × (List Int) × (List Int))) =>
    m_impl_grown_int64_fminimal_1_A1 s0 u1
  else
    some (.out s0.2.2.1)
noncomputable def m_impl_grown_int64_fminimal_1_A0 (u0 : (List (List Int))) : Option (List (List Int)) :=
  some u0
noncomputable def m_impl_grown_int64_fminimal_1 (p0 : Int) (v1_0_0 : List (List Int)) (v1_1_0 : List Int) (v1_2_0 : List Int) : Option (List (List Int)) :=
  (iter (m_impl_grown_int64_fminimal_1_L0 v1_0_0 v1_1_0 v1_2_0) ((mput ([] : List (Int × Int)) p0 (0 : Int)), [p0], ([] : List (List Int)), (0 : Int))).bind fun (u0 : (List (List Int))) =>
  m_impl_grown_int64_fminimal_1_A0 u0
noncomputable def m_impl_graph_minimal_L2 (s0 : (List Int) × Int) (n2 : Nat) (x2 : Int) (s2 : List UInt8) : Option (Ctl (List UInt8) ((List UInt8))) :=
  bif (decide (x2 < (0 : Int))) then
    (strI (s2.length + ([44, 120] : List UInt8).length)).bind fun (q45 : Unit) =>
    some (.next (s2 ++ ([44, 120] : List UInt8)))
  else
    (getI s0.1 x2).bind fun (x49 : Int) =>
    (m_impl_Decimal x49).bind fun (r51 : List UInt8) =>
    (strI (([44] : List UInt8).length + r51.length)).bind fun (q52 : Unit) =>
    (strI (s2.length + (([44] : List UInt8) ++ r51).length)).bind fun (q53 : Unit) =>
    some (.next (s2 ++ (([44] : List UInt8) ++ r51)))
noncomputable def m_impl_graph_minimal_A2 (s1 : (List ((List UInt8) × Int)) × (List Int)) (n1 : Nat) (u2 : (List UInt8)) : Option (Ctl ((List ((List UInt8) × Int)) × (List Int)) (((List ((List UInt8) × Int)) × (List Int)))) :=
  bif (!(mget s1.1 u2).isSome) then
    (m_impl_size (s1.1.length : Int)).bind fun (r65 : Int) =>
    (getI s1.2 (n1 : Int)).bind fun (x72 : Int) =>
    some (.next ((mput s1.1 u2 r65), (s1.2.set (((n1 : Int)).toNat) r65)))
  else
    (getI s1.2 (n1 : Int)).bind fun (x72 : Int) =>
    some (.next (s1.1, (s1.2.set (((n1 : Int)).toNat) ((mget s1.1 u2).getD (0 : Int)))))
noncomputable def m_impl_graph_minimal_L1 (s0 : (List Int) × Int) (n1 : Nat) (x1 : List Int) (s1 : (List ((List UInt8) × Int)) × (List Int)) : Option (Ctl ((List ((List UInt8) × Int)) × (List Int)) (((List ((List UInt8) × Int)) × (List Int)))) :=
  (getI s0.1 (n1 : Int)).bind fun (x33 : Int) =>
  (m_impl_Decimal x33).bind fun (r35 : List UInt8) =>
  (forL (m_impl_graph_minimal_L2 s0) (fun s2 => s2) 0 x1 r35).bind fun (u2 : (List UInt8)) =>
  m_impl_graph_minimal_A2 s1 n1 u2
noncomputable def m_impl_graph_minimal_A1 (s0 : (List Int) × Int) (u1 : ((List ((List UInt8) × Int)) × (List Int))) : Option (Ctl ((List Int) × Int) ((List Int))) :=
  bif (decide ((u1.1.length : Int) = s0.2)) then
    some (.out u1.2)
  else
    some (.next (u1.2, (u1.1.length : Int)))
noncomputable def m_impl_graph_minimal_L0 (p0 : List (List Int)) (s0 : (List Int) × Int) : Option (Ctl ((List Int) × Int) ((List Int))) :=
  (makeI (p0.length : Int) 8).bind fun (k23 : Nat) =>
  (forL (m_impl_graph_minimal_L1 s0) (fun s1 => (s1.1, s1.2)) 0 p0 (([] : List ((List UInt8) × Int)), (List.replicate k23 (0 : Int)))).bind fun (u1 : ((List ((List UInt8) × Int)) × (List Int))) =>
  m_impl_graph_minimal_A1 s0 u1
noncomputable def m_impl_graph_minimal_L3 (n3 : Nat) (x3 : Int) (s3 : List Int) : Option (Ctl (List Int) ((List Int))) :=
  (getI s3 x3).bind fun (x94 : Int) =>
  some (.next (s3.set ((x3).toNat) (n3 : Int)))
noncomputable def m_impl_graph_minimal_A3 (p0 : List (List Int)) (u0 : List Int) (u3 : (List Int)) : Option (List (List Int)) :=
  (getI u0 (0 : Int)).bind fun (x97 : Int) =>
  (m_impl_grown_int64_fminimal_1 x97 p0 u3 u0).bind fun (r100 : List (List Int)) =>
  some r100
noncomputable def m_impl_graph_minimal_A0 (p0 : List (List Int)) (u0 : (List Int)) : Option (List (List Int)) :=
  (makeI (p0.length : Int) 8).bind fun (k83 : Nat) =>
  (forL (m_impl_graph_minimal_L3) (fun s3 => s3) 0 u0 (List.replicate k83 (0 : Int))).bind fun (u3 : (List Int)) =>
  m_impl_graph_minimal_A3 p0 u0 u3
noncomputable def m_impl_graph_minimal (p0 : List (List Int)) : Option (List (List Int)) :=
  (makeI (p0.length : Int) 8).bind fun (k19 : Nat) =>
  (iter (m_impl_graph_minimal_L0 p0) ((List.replicate k19 (0 : Int)), (0 : Int))).bind fun (u0 : (List Int)) =>
  m_impl_graph_minimal_A0 p0 u0
noncomputable def m_impl_BothPolicies (p0 : Policy) (p1 : Policy) : Option (Policy × Bool) :=
  (m_impl_ValidPolicy p0).bind fun (r8 : Bool) =>
  bif (!r8) then
    some ((Policy.mk ([] : List (List Int))), false)
  else
    (m_impl_ValidPolicy p1).bind fun (r12 : Bool) =>
    bif (!r12) then
      some ((Policy.mk ([] : List (List Int))), false)
    else
      (m_impl_grown_2_int64_fBothPolicies_1 ((0 : Int), (0 : Int)) p0.Next p1.Next).bind fun (r18 : List (List Int)) =>
      (m_impl_graph_minimal r18).bind fun (r19 : List (List Int)) =>
      bif (decide ((12 : Int) < (r19.length : Int))) then
        some ((Policy.mk ([] : List (List Int))), false)
      else
        some ((Policy.mk r19), true)
noncomputable def m_impl_IsStricter_1 (p0 : Bool) (p1 : Bool) : Option Bool :=
  some (p0 && (!p1))
noncomputable def m_impl_apart_fIsStricter_1_J0 (s1 : (List ((Int × Int) × Bool)) × (List spot)) (n1 : Nat) (x41 : Int) (x54 : Int) (r61 : List Int) (j0 : Bool) : Option (Ctl ((List ((Int × Int) × Bool)) × (List spot)) (((List ((Int × Int) × Bool)) × (List spot)) ⊕ ((List Int) × Bool))) :=
  bif j0 then
    (capI (s1.2.length + ([(spot.mk (x41, x54) (r61 ++ [(n1 : Int)]))]).length) 40).bind fun (q94 : Unit) =>
    some (.next ((mput s1.1 (x41, x54) true), (s1.2 ++ [(spot.mk (x41, x54) (r61 ++ [(n1 : Int)]))])))
  else
    some (.next (s1.1, s1.2))
noncomputable def m_impl_apart_fIsStricter_1_L1 (p0 : Policy) (p1 : Policy) (s0 : (List ((Int × Int) × Bool)) × (List spot) × Int) (n1 : Nat) (x1 : Nat) (s1 : (List ((Int × Int) × Bool)) × (List spot)) : Option (Ctl ((List ((Int × Int) × Bool)) × (List spot)) (((List ((Int × Int) × Bool)) × (List spot)) ⊕ ((List Int) × Bool))) :=
  (getI s1.2 s0.2.2).bind fun (x34 : spot) =>
  (getI p0.Next x34.pair.1).bind fun (x38 : List Int) =>
  (getI x38 (n1 : Int)).bind fun (x41 : Int) =>
  (getI p1.Next x34.pair.2).bind fun (x51 : List Int) =>
  (getI x51 (n1 : Int)).bind fun (x54 : Int) =>
  (m_impl_copyInts x34.word).bind fun (r61 : List Int) =>
  (capI (r61.length + [(n1 : Int)].length) 8).bind fun (q64 : Unit) =>
  (m_impl_IsStricter_1 (decide ((0 : Int) ≤ x41)) (decide ((0 : Int) ≤ x54))).bind fun (r70 : Bool) =>
  bif r70 then
    some (.out (.inr ((r61 ++ [(n1 : Int)]), true)))
  else
    bif ((decide ((0 : Int) ≤ x41)) && (decide ((0 : Int) ≤ x54))) then
      m_impl_apart_fIsStricter_1_J0 s1 n1 x41 x54 r61 (!((mget s1.1 (x41, x54)).getD false))
    else
      m_impl_apart_fIsStricter_1_J0 s1 n1 x41 x54 r61 false
noncomputable def m_impl_apart_fIsStricter_1_A1 (s0 : (List ((Int × Int) × Bool)) × (List spot) × Int) (u1 : ((List ((Int × Int) × Bool)) × (List spot)) ⊕ ((List Int) × Bool)) : Option (Ctl ((List ((Int × Int) × Bool)) × (List spot) × Int) (Unit ⊕ ((List Int) × Bool))) :=
  match u1 with
  | .inl u1 =>
    some (.next (u1.1, u1.2, (w64 (s0.2.2 + (1 : Int)))))
  | .inr u1 =>
    some (.out (.inr (u1.1, u1.2)))
noncomputable def m_impl_apart_fIsStricter_1_L0 (p0 : Policy) (p1 : Policy) (s0 : (List ((Int × Int) × Bool)) × (List spot) × Int) : Option (Ctl ((List ((Int × Int) × Bool)) × (List spot) × Int) (Unit ⊕ ((List Int) × Bool))) :=
  bif (decide (s0.2.2 < (s0.2.1.length : Int))) then
    (forL (m_impl_apart_fIsStricter_1_L1 p0 p1 s0) (fun s1 => (.inl (s1.1, s1.2))) 0 (List.range 4) (s0.1, s0.2.1)).bind fun (u1 : ((List ((Int × Int) × Bool)) × (List spot)) ⊕ ((List Int) × Bool)) =>
    m_impl_apart_fIsStricter_1_A1 s0 u1
  else
    some (.out (.inl ()))
noncomputable def m_impl_apart_fIsStricter_1_A0 (u0 : Unit ⊕ ((List Int) × Bool)) : Option ((List Int) × Bool) :=
  match u0 with
  | .inl u0 =>
    some (([] : List Int), false)
  | .inr u0 =>
    some (u0.1, u0.2)
noncomputable def m_impl_apart_fIsStricter_1 (p0 : Policy) (p1 : Policy) : Option ((List Int) × Bool) :=
  (iter (m_impl_apart_fIsStricter_1_L0 p0 p1) ((mput ([] : List ((Int × Int) × Bool)) ((0 : Int), (0 : Int)) true), [(spot.mk ((0 : Int), (0 : Int)) ([] : List Int))], (0 : Int))).bind fun (u0 : Unit ⊕ ((List Int) × Bool)) =>
  m_impl_apart_fIsStricter_1_A0 u0
noncomputable def m_impl_IsStricter (p0 : Policy) (p1 : Policy) : Option Bool :=
  (m_impl_ValidPolicy p0).bind fun (r8 : Bool) =>
  bif (!r8) then
    some false
  else
    (m_impl_ValidPolicy p1).bind fun (r12 : Bool) =>
    bif (!r12) then
      some false
    else
      (m_impl_apart_fIsStricter_1 p0 p1).bind fun (r18 : (List Int) × Bool) =>
      some (!r18.2)
noncomputable def m_spec_l10Both_L1 (p0 : Policy) (p1 : Policy) (s0 : (List (List Int)) × Int) (s1 : (List Int) × Int) : Option (Ctl ((List Int) × Int) ((List Int))) :=
  bif (decide (s1.2 < (4 : Int))) then
    (quoI s0.2 (p1.Next.length : Int)).bind fun (q40 : Int) =>
    (getI p0.Next q40).bind fun (x41 : List Int) =>
    (getI x41 s1.2).bind fun (x44 : Int) =>
    (remI s0.2 (p1.Next.length : Int)).bind fun (q52 : Int) =>
    (getI p1.Next q52).bind fun (x53 : List Int) =>
    (getI x53 s1.2).bind fun (x56 : Int) =>
    bif ((decide (x44 < (0 : Int))) || (decide (x56 < (0 : Int)))) then
      (capI (s1.1.length + [(-1 : Int)].length) 8).bind fun (q66 : Unit) =>
      some (.next ((s1.1 ++ [(-1 : Int)]), (w64 (s1.2 + (1 : Int)))))
    else
      (capI (s1.1.length + [(w64 ((w64 (x44 * (p1.Next.length : Int))) + x56))].length) 8).bind fun (q74 : Unit) =>
      some (.next ((s1.1 ++ [(w64 ((w64 (x44 * (p1.Next.length : Int))) + x56))]), (w64 (s1.2 + (1 : Int)))))
  else
    some (.out s1.1)
noncomputable def m_spec_l10Both_A1 (s0 : (List (List Int)) × Int) (u1 : (List Int)) : Option (Ctl ((List (List Int)) × Int) ((List (List Int)))) :=
  (capI (s0.1.length + [u1].length) 24).bind fun (q79 : Unit) =>
  some (.next ((s0.1 ++ [u1]), (w64 (s0.2 + (1 : Int)))))
noncomputable def m_spec_l10Both_L0 (p0 : Policy) (p1 : Policy) (s0 : (List (List Int)) × Int) : Option (Ctl ((List (List Int)) × Int) ((List (List Int)))) :=
  bif (decide (s0.2 < (w64 ((p0.Next.length : Int) * (p1.Next.length : Int))))) then
    (iter (m_spec_l10Both_L1 p0 p1 s0) (([] : List Int), (0 : Int))).bind fun (u1 : (List Int)) =>
    m_spec_l10Both_A1 s0 u1
  else
    some (.out s0.1)
noncomputable def m_spec_l10Both_A0 (u0 : (List (List Int))) : Option Policy :=
  some (Policy.mk u0)
noncomputable def m_spec_l10Both (p0 : Policy) (p1 : Policy) : Option Policy :=
  (iter (m_spec_l10Both_L0 p0 p1) (([] : List (List Int)), (0 : Int))).bind fun (u0 : (List (List Int))) =>
  m_spec_l10Both_A0 u0
noncomputable def m_spec_BothPolicies (p0 : Policy) (p1 : Policy) : Option (Policy × Bool) :=
  (m_spec_l10Is p0).bind fun (r8 : Bool) =>
  bif (!r8) then
    some ((Policy.mk ([] : List (List Int))), false)
  else
    (m_spec_l10Is p1).bind fun (r11 : Bool) =>
    bif (!r11) then
      some ((Policy.mk ([] : List (List Int))), false)
    else
      (m_spec_l10Both p0 p1).bind fun (r15 : Policy) =>
      (m_spec_l10Minimal r15).bind fun (r16 : Policy) =>
      bif (decide ((12 : Int) < (r16.Next.length : Int))) then
        some ((Policy.mk ([] : List (List Int))), false)
      else
        some (r16, true)
noncomputable def m_laws_FnDifference_J1 (r35 : Policy × Policy) (r63 : Policy × Bool) (r121 : Int × Int × Bool) (j1 : Int) : Option Bool :=
  bif (r121.2.2 && (decide (r121.1 = j1))) then
    (m_impl_IsStricter r63.1 r35.1).bind fun (r139 : Bool) =>
    bif r139 then
      (m_impl_IsStricter r63.1 r35.2).bind fun (r144 : Bool) =>
      some r144
    else
      some false
  else
    some false
noncomputable def m_laws_FnDifference_J0 (r35 : Policy × Policy) (r39 : List Int) (r49 : Int × Int × Bool) (r56 : Int × Int × Bool) (r63 : Policy × Bool) (j0 : Unit) : Option Bool :=
  bif r63.2 then
    (m_impl_RunPolicy r63.1 r39).bind fun (r121 : Int × Int × Bool) =>
    bif (decide (r56.1 < r49.1)) then
      m_laws_FnDifference_J1 r35 r63 r121 r56.1
    else
      m_laws_FnDifference_J1 r35 r63 r121 r49.1
  else
    (m_spec_BothPolicies r35.1 r35.2).bind fun (r149 : Policy × Bool) =>
    some (!r149.2)
noncomputable def m_laws_FnDifference (p0 : List Int) (p1 : List Int) : Option Bool :=
  (m_laws_b10Long p0 p1).bind fun (r32 : Bool) =>
  bif r32 then
    some true
  else
    (m_spec_B10Policies p0).bind fun (r35 : Policy × Policy) =>
    (m_spec_B10Word p1).bind fun (r39 : List Int) =>
    (m_impl_DifferenceOf r35.1 r35.2).bind fun (r43 : (List Int) × Bool) =>
    (m_impl_RunPolicy r35.1 r39).bind fun (r49 : Int × Int × Bool) =>
    (m_impl_RunPolicy r35.2 r39).bind fun (r56 : Int × Int × Bool) =>
    (m_impl_BothPolicies r35.1 r35.2).bind fun (r63 : Policy × Bool) =>
    bif ((!r49.2.2) || (!r56.2.2)) then
      some false
    else
      bif r43.2 then
        (m_impl_RunPolicy r35.1 r43.1).bind fun (r76 : Int × Int × Bool) =>
        (m_impl_RunPolicy r35.2 r43.1).bind fun (r83 : Int × Int × Bool) =>
        bif (((!r76.2.2) || (!r83.2.2)) || ((decide (r76.1 = (r43.1.length : Int))) == (decide (r83.1 = (r43.1.length : Int))))) then
          some false
        else
          (m_impl_IsStricter r35.1 r35.2).bind fun (r107 : Bool) =>
          bif r107 then
            (m_impl_IsStricter r35.2 r35.1).bind fun (r111 : Bool) =>
            bif r111 then
              some false
            else
              m_laws_FnDifference_J0 r35 r39 r49 r56 r63 ()
          else
            m_laws_FnDifference_J0 r35 r39 r49 r56 r63 ()
      else
        bif (!decide (r49.1 = r56.1)) then
          some false
        else
          m_laws_FnDifference_J0 r35 r39 r49 r56 r63 ()
end Go.Mod

namespace Go.Mod
open Go.AM
set_option linter.unusedVariables false
set_option linter.unusedSimpArgs false
def rowOK (n : Nat) (x : List Int) : Bool := decide (x.length = 4) && x.all fun v => decide (-1 ≤ v) && decide (v ≤ (n : Int) - 1)
def vP (p : Policy) : Bool := (decide (1 ≤ p.Next.length) && decide (p.Next.length ≤ 12)) && p.Next.all (rowOK p.Next.length)
theorem vP_len {p : Policy} (h : vP p = true) : 1 ≤ p.Next.length ∧ p.Next.length ≤ 12 := by simp [vP] at h; omega
theorem vP_row {p : Policy} (h : vP p = true) {x : List Int} (hx : x ∈ p.Next) : x.length = 4 ∧ ∀ v ∈ x, -1 ≤ v ∧ v ≤ (p.Next.length : Int) - 1 := by
  simp only [vP, Bool.and_eq_true, List.all_eq_true] at h
  have := h.2 x hx
  simp only [rowOK, Bool.and_eq_true, decide_eq_true_eq, List.all_eq_true] at this
  exact this
theorem dec_leI {a : Nat} : decide ((1 : Int) ≤ (a : Int)) = decide (1 ≤ a) := by by_cases h : 1 ≤ a <;> simp [h] <;> omega
theorem dec_le12 {a : Nat} : decide ((a : Int) ≤ 12) = decide (a ≤ 12) := by by_cases h : a ≤ 12 <;> simp [h] <;> omega
theorem spec_row {p : Policy} {x : List Int} (hx : x.length = 4) (hn : p.Next.length ≤ 12) (h1 : 1 ≤ p.Next.length) : iter (m_spec_l10Is_L1 p x) 0 = some (bif x.all fun v => decide (-1 ≤ v) && decide (v ≤ (p.Next.length : Int) - 1) then .inl () else .inr false) := by
  have h := iter_for (step := m_spec_l10Is_L1 p x) x (fun n (_ : Unit) => (n : Int)) (fun _ v _ => bif (decide (-1 ≤ v) && decide (v ≤ (p.Next.length : Int) - 1)) then some (.next ()) else some (.out (.inr false))) (fun _ => .inl ())
    (fun n v r hv => by
      have hlt := get_lt hv
      unfold m_spec_l10Is_L1
      rw [decide_eq_true (by omega), cond_true, getI_some hv, Option.bind_some, w64_eq (n := (p.Next.length : Int) - 1) (by omega)]
      unfold m_spec_l00In
      rw [Option.bind_some, w64_succ (by omega)]
      cases (decide (-1 ≤ v) && decide (v ≤ (p.Next.length : Int) - 1)) <;> rfl)
    (fun r => by unfold m_spec_l10Is_L1; rw [hx]; rfl) ()
  rw [forL_all (fun v => decide (-1 ≤ v) && decide (v ≤ (p.Next.length : Int) - 1)) _ _ (fun n x _ => rfl)] at h
  exact h
theorem impl_all {xs : List Int} {a b : Int} : m_impl_allWithin xs a b = some (xs.all fun x => decide (a ≤ x) && decide (x ≤ b)) := by
  unfold m_impl_allWithin
  rw [forL_all (fun x => decide (a ≤ x) && decide (x ≤ b)) (f := .inr false) xs 0 (fun n x _ => by
    unfold m_impl_allWithin_L0 m_impl_within
    rw [Option.bind_some]
    cases (decide (a ≤ x) && decide (x ≤ b)) <;> rfl), Option.bind_some]
  cases xs.all fun x => decide (a ≤ x) && decide (x ≤ b) <;> rfl
theorem impl_vP {p : Policy} : m_impl_ValidPolicy p = some (vP p) := by
  unfold m_impl_ValidPolicy m_impl_size m_impl_within vP
  rw [Option.bind_some, Option.bind_some, dec_leI, dec_le12]
  cases h0 : decide (1 ≤ p.Next.length) && decide (p.Next.length ≤ 12) with
  | false => rfl
  | true =>
    simp only [Bool.and_eq_true, decide_eq_true_eq] at h0
    rw [Bool.not_true, cond_false, forL_all (rowOK p.Next.length) (f := .inr false) p.Next 0 (fun n x _ => by
      unfold m_impl_ValidPolicy_L0 rowOK
      by_cases h4 : x.length = 4
      · rw [decide_eq_true h4, decide_eq_true (show (x.length : Int) = 4 by omega), Bool.not_true, cond_false, impl_all, Option.bind_some, w64_eq (n := (p.Next.length : Int) - 1) (by omega), Bool.true_and]
        cases x.all fun v => decide (-1 ≤ v) && decide (v ≤ (p.Next.length : Int) - 1) <;> rfl
      · rw [decide_eq_false h4, decide_eq_false (show ¬ (x.length : Int) = 4 by omega)]; rfl), Option.bind_some, Bool.true_and]
    cases p.Next.all (rowOK p.Next.length) <;> rfl
def Edge (p : Policy) (a b : Int) : Prop := ∃ row, 0 ≤ a ∧ p.Next[a.toNat]? = some row ∧ b ∈ row ∧ 0 ≤ b
inductive Reach (p : Policy) : Int → Prop where
  | zero : Reach p 0
  | step {a b : Int} : Reach p a → Edge p a b → Reach p b
theorem Edge.rng {p : Policy} (hv : vP p = true) {a b : Int} (h : Edge p a b) : 0 ≤ b ∧ b < p.Next.length := by
  obtain ⟨row, _, h1, h2, h3⟩ := h
  have := (vP_row hv (List.mem_of_getElem? h1)).2 b h2
  omega
theorem Reach.rng {p : Policy} (hv : vP p = true) {a : Int} (h : Reach p a) : 0 ≤ a ∧ a < p.Next.length := by
  cases h with
  | zero => have := vP_len hv; omega
  | step _ e => exact e.rng hv
theorem nodup_len : ∀ (n : Nat) (xs : List Int), xs.Nodup → (∀ x ∈ xs, 0 ≤ x ∧ x < n) → xs.length ≤ n := by
  intro n
  induction n with
  | zero =>
    intro xs _ h
    cases xs with
    | nil => exact Nat.le_refl 0
    | cons x r => have := h x (by simp); omega
  | succ n ih =>
    intro xs hn h
    have h1 := ih (xs.erase (n : Int)) (hn.erase _) (fun x hx => by
      rw [hn.mem_erase_iff] at hx
      have := h x hx.2
      have h2 := hx.1
      omega)
    rw [List.length_erase] at h1
    split at h1 <;> omega
structure Ord (p : Policy) (L : List Int) (i : Nat) : Prop where
  nd : L.Nodup
  rc : ∀ v ∈ L, Reach p v
  z : 0 ∈ L
  cl : ∀ (j : Nat) a b, j < i → L[j]? = some a → Edge p a b → b ∈ L
theorem Ord.len {p : Policy} (hv : vP p = true) {L : List Int} {i : Nat} (h : Ord p L i) : L.length ≤ p.Next.length := nodup_len _ _ h.nd (fun x hx => (h.rc x hx).rng hv)
theorem getI_of {α : Type} {xs : List α} {x : Int} {v : α} (h0 : 0 ≤ x) (h : xs[x.toNat]? = some v) : getI xs x = some v := by
  unfold getI; rw [decide_eq_true h0]; exact h
def On (s : List Bool) (a : Int) : Prop := 0 ≤ a ∧ s[a.toNat]? = some true
structure Seen (p : Policy) (s : List Bool) : Prop where
  len : s.length = p.Next.length
  rc : ∀ a, On s a → Reach p a
theorem On.set {s : List Bool} {b : Int} (h0 : 0 ≤ b) (hb : b < s.length) {a : Int} : On (s.set b.toNat true) a ↔ On s a ∨ a = b := by
  unfold On
  rw [List.getElem?_set]
  by_cases e : b.toNat = a.toNat
  · rw [if_pos e, if_pos (by omega)]
    constructor
    · rintro ⟨h1, _⟩; exact .inr (by omega)
    · rintro (⟨h1, _⟩ | rfl)
      · exact ⟨h1, rfl⟩
      · exact ⟨h0, rfl⟩
  · rw [if_neg e]
    constructor
    · exact fun h => .inl h
    · rintro (h | rfl)
      · exact h
      · exact absurd rfl e
def cnt (s : List Bool) : Nat := (s.filter id).length
end Go.Mod

namespace Go.Mod
open Go.AM
set_option linter.unusedVariables false
set_option linter.unusedSimpArgs false
section
variable {α : Type} {ys : List α} {n : Nat} {a b c d e f g : α} (h : n < ys.length)
include h
end
end Go.Mod

namespace Go.Mod
open Go.AM
set_option linter.unusedVariables false
def Mt (R : Nat → Nat → Prop) : Option Nat → Option Nat → Prop
  | none, none => True
  | some x, some y => R x y
  | _, _ => False
theorem Mt.mono {R R' : Nat → Nat → Prop} (h : ∀ x y, R x y → R' x y) {a b : Option Nat} (m : Mt R a b) : Mt R' a b := by
  cases a <;> cases b <;> simp only [Mt] at * <;> first | exact h _ _ m | exact m
def Rr (δ : Nat → Nat → Option Nat) : Nat → Nat → Nat → Prop
  | 0, _, _ => True
  | r + 1, a, b => Rr δ r a b ∧ ∀ e, e < 4 → Mt (Rr δ r) (δ a e) (δ b e)
section
variable {δ : Nat → Nat → Option Nat}
theorem Rr.refl : ∀ (r a : Nat), Rr δ r a a
  | 0, _ => trivial
  | r + 1, a => ⟨Rr.refl r a, fun e _ => by cases δ a e with | none => trivial | some x => exact Rr.refl r x⟩
theorem Rr.symm : ∀ {r a b : Nat}, Rr δ r a b → Rr δ r b a
  | 0, _, _, _ => trivial
  | r + 1, a, b, h => ⟨Rr.symm h.1, fun e he => by
    have := h.2 e he
    cases h1 : δ a e <;> cases h2 : δ b e <;> rw [h1, h2] at this <;> simp only [Mt] at * <;> exact Rr.symm this⟩
theorem Rr.trans : ∀ {r a b c : Nat}, Rr δ r a b → Rr δ r b c → Rr δ r a c
  | 0, _, _, _, _, _ => trivial
  | r + 1, a, b, c, h, g => ⟨Rr.trans h.1 g.1, fun e he => by
    have h1 := h.2 e he
    have g1 := g.2 e he
    cases x : δ a e <;> cases y : δ b e <;> cases z : δ c e <;> rw [x, y] at h1 <;> rw [y, z] at g1 <;> simp only [Mt] at * <;> first | exact Rr.trans h1 g1 | trivial⟩
theorem Rr.le {r m a b : Nat} (hm : r ≤ m) (h : Rr δ m a b) : Rr δ r a b := by
  induction hm with
  | refl => exact h
  | step _ ih => exact ih h.1
def Stab4 (δ : Nat → Nat → Option Nat) (n r : Nat) : Prop := ∀ a b, a < n → b < n → Rr δ r a b → Rr δ (r + 1) a b
def Clo (δ : Nat → Nat → Option Nat) (n : Nat) : Prop := ∀ a e x, a < n → e < 4 → δ a e = some x → x < n
theorem Stab4.all {n r : Nat} (hc : Clo δ n) (h : Stab4 δ n r) : ∀ (m : Nat) a b, a < n → b < n → Rr δ r a b → Rr δ (r + m) a b
  | 0, _, _, _, _, h1 => h1
  | m + 1, a, b, ha, hb, h1 => ⟨h.all hc m a b ha hb h1, fun e he => by
    have := (h a b ha hb h1).2 e he
    cases x : δ a e <;> cases y : δ b e <;> rw [x, y] at this <;> simp only [Mt] at *
    exact h.all hc m _ _ (hc _ _ _ ha he x) (hc _ _ _ hb he y) this⟩
def Ra (δ : Nat → Nat → Option Nat) (a b : Nat) : Prop := ∀ r, Rr δ r a b
theorem Stab4.ra {n r : Nat} (hc : Clo δ n) (h : Stab4 δ n r) {a b : Nat} (ha : a < n) (hb : b < n) : Rr δ r a b ↔ Ra δ a b :=
  ⟨fun h1 m => (h.all hc m a b ha hb h1).le (by omega), fun h1 => h1 r⟩
theorem Ra.step {a b : Nat} (h : Ra δ a b) {e : Nat} (he : e < 4) : Mt (Ra δ) (δ a e) (δ b e) := by
  have h1 := fun r => (h (r + 1)).2 e he
  cases x : δ a e <;> cases y : δ b e
  · trivial
  · have := h1 0; rw [x, y] at this; exact this
  · have := h1 0; rw [x, y] at this; exact this
  · exact fun r => by have := h1 r; rw [x, y] at this; exact this
theorem Rr.emb {δ' : Nat → Nat → Option Nat} {ι : Nat → Nat} {n : Nat} (hc : Clo δ n) (hi : ∀ a e, a < n → e < 4 → δ' (ι a) e = (δ a e).map ι) :
    ∀ (r : Nat) {a b : Nat}, a < n → b < n → (Rr δ r a b ↔ Rr δ' r (ι a) (ι b))
  | 0, _, _, _, _ => Iff.rfl
  | r + 1, a, b, ha, hb => by
    have ih := Rr.emb hc hi r (a := a) (b := b) ha hb
    constructor
    · rintro ⟨h1, h2⟩
      refine ⟨ih.1 h1, fun e he => ?_⟩
      have := h2 e he
      rw [hi a e ha he, hi b e hb he]
      cases x : δ a e <;> cases y : δ b e <;> rw [x, y] at this <;> simp only [Mt, Option.map_some, Option.map_none] at *
      exact (Rr.emb hc hi r (hc _ _ _ ha he x) (hc _ _ _ hb he y)).1 this
    · rintro ⟨h1, h2⟩
      refine ⟨ih.2 h1, fun e he => ?_⟩
      have := h2 e he
      rw [hi a e ha he, hi b e hb he] at this
      cases x : δ a e <;> cases y : δ b e <;> rw [x, y] at this <;> simp only [Mt, Option.map_some, Option.map_none] at *
      exact (Rr.emb hc hi r (hc _ _ _ ha he x) (hc _ _ _ hb he y)).2 this
theorem Ra.emb {δ' : Nat → Nat → Option Nat} {ι : Nat → Nat} {n : Nat} (hc : Clo δ n) (hi : ∀ a e, a < n → e < 4 → δ' (ι a) e = (δ a e).map ι) {a b : Nat} (ha : a < n) (hb : b < n) :
    Ra δ a b ↔ Ra δ' (ι a) (ι b) := ⟨fun h r => (Rr.emb hc hi r ha hb).1 (h r), fun h r => (Rr.emb hc hi r ha hb).2 (h r)⟩
end
structure Num (R : Nat → Nat → Prop) (n : Nat) (f : List Int) (c : Nat) : Prop where
  len : f.length = n
  rng : ∀ (a : Nat) v, f[a]? = some v → 0 ≤ v ∧ v < c
  eqv : ∀ (a b : Nat) v w, f[a]? = some v → f[b]? = some w → (v = w ↔ R a b)
  sur : ∀ i : Nat, i < c → ∃ a : Nat, f[a]? = some (i : Int)
theorem Num.at {R : Nat → Nat → Prop} {n c : Nat} {f : List Int} (h : Num R n f c) {a : Nat} (ha : a < n) : ∃ v, f[a]? = some v ∧ 0 ≤ v ∧ v < c := by
  have ha' : a < f.length := by rw [h.len]; exact ha
  exact ⟨f[a], List.getElem?_eq_getElem ha', h.rng a _ (List.getElem?_eq_getElem ha')⟩
theorem nodup_int : ∀ (n : Nat) (xs : List Int), xs.Nodup → (∀ x ∈ xs, 0 ≤ x ∧ x < n) → xs.length ≤ n := by
  intro n
  induction n with
  | zero =>
    intro xs _ h
    cases xs with
    | nil => exact Nat.le_refl _
    | cons x r => have := h x (by simp); omega
  | succ n ih =>
    intro xs hn h
    by_cases hm : (n : Int) ∈ xs
    · have := ih (xs.erase (n : Int)) (hn.erase _) (fun x hx => by
        obtain ⟨h1, h2⟩ := hn.mem_erase_iff.1 hx
        have := h x h2
        omega)
      rw [List.length_erase_of_mem hm] at this
      omega
    · have := ih xs hn (fun x hx => by
        have := h x hx
        have : x ≠ n := fun e => hm (e ▸ hx)
        omega)
      omega
theorem Num.pick {R : Nat → Nat → Prop} {n c : Nat} {f : List Int} (h : Num R n f c) : ∀ k : Nat, k ≤ c → ∃ s : List Nat, s.length = k ∧ ∀ (i : Nat) a, s[i]? = some a → f[a]? = some (i : Int)
  | 0, _ => ⟨[], rfl, fun i a hi => by simp at hi⟩
  | k + 1, hk => by
    obtain ⟨s, h1, h2⟩ := h.pick k (by omega)
    obtain ⟨a, ha⟩ := h.sur k (by omega)
    refine ⟨s ++ [a], by simp [h1], fun i b hi => ?_⟩
    rcases Nat.lt_or_ge i s.length with hlt | hge
    · rw [List.getElem?_append_left hlt] at hi; exact h2 i b hi
    · rw [List.getElem?_append_right hge] at hi
      have : i - s.length = 0 := by
        rcases Nat.eq_zero_or_pos (i - s.length) with h | h
        · exact h
        · rw [List.getElem?_eq_none (by simp; omega)] at hi; cases hi
      rw [this] at hi
      simp at hi
      subst hi
      rw [show i = k by omega]; exact ha
theorem Num.val {R : Nat → Nat → Prop} {n c : Nat} {f : List Int} (h : Num R n f c) {a : Nat} {v : Int} (ha : f[a]? = some v) : a < n := by
  rw [← h.len]; exact (List.getElem?_eq_some_iff.1 ha).1
theorem Num.le {R R' : Nat → Nat → Prop} {n c c' : Nat} {f f' : List Int} (h : Num R n f c) (h' : Num R' n f' c') (hs : ∀ a b, a < n → b < n → R' a b → R a b) : c ≤ c' := by
  obtain ⟨s, h1, h2⟩ := h.pick c (Nat.le_refl _)
  have key := nodup_int c' (s.map fun a => (f'[a]?).getD (-1)) ?_ ?_
  · simpa [h1] using key
  · refine List.pairwise_map.2 (List.pairwise_iff_getElem.2 fun i j hi hj hij e => ?_)
    have a1 := h2 i _ (List.getElem?_eq_getElem hi)
    have a2 := h2 j _ (List.getElem?_eq_getElem hj)
    obtain ⟨v, hv, _⟩ := h'.at (h.val a1)
    obtain ⟨w, hw, _⟩ := h'.at (h.val a2)
    rw [hv, hw] at e
    have := (h.eqv _ _ _ _ a1 a2).2 (hs _ _ (h.val a1) (h.val a2) ((h'.eqv _ _ _ _ hv hw).1 e))
    omega
  · intro x hx
    obtain ⟨a, ha, rfl⟩ := List.mem_map.1 hx
    obtain ⟨i, hi, rfl⟩ := List.getElem_of_mem ha
    have a1 := h2 i _ (List.getElem?_eq_getElem hi)
    obtain ⟨v, hv, h3⟩ := h'.at (h.val a1)
    rw [hv]; exact h3
theorem Num.same {R R' : Nat → Nat → Prop} {n c : Nat} {f f' : List Int} (h : Num R n f c) (h' : Num R' n f' c) (hs : ∀ a b, a < n → b < n → R' a b → R a b) : ∀ a b, a < n → b < n → R a b → R' a b := by
  intro a b ha hb hab
  obtain ⟨va, fa, ra⟩ := h.at ha
  obtain ⟨vb, fb, rb⟩ := h.at hb
  obtain ⟨wa, ga, sa⟩ := h'.at ha
  obtain ⟨wb, gb, sb⟩ := h'.at hb
  refine (h'.eqv _ _ _ _ ga gb).1 (Classical.byContradiction fun hne => ?_)
  have hv : va = vb := (h.eqv _ _ _ _ fa fb).2 hab
  subst hv
  obtain ⟨s, h1, h2⟩ := h.pick c (Nat.le_refl _)
  -- in the class of both, the first of them
  have hk : va.toNat < s.length := by omega
  have key := nodup_int c (wb :: (s.set va.toNat a).map fun x => (f'[x]?).getD (-1)) ?_ ?_
  · simp [h1] at key
    omega
  · have hset : ∀ (i : Nat) x, (s.set va.toNat a)[i]? = some x → f[x]? = some (i : Int) := by
      intro i x hx
      rw [List.getElem?_set] at hx
      split at hx
      · rename_i hi
        obtain rfl : a = x := by simpa [hk] using hx
        rw [fa]; congr 1; omega
      · exact h2 i x hx
    refine List.nodup_cons.2 ⟨fun hm => ?_, List.pairwise_map.2 (List.pairwise_iff_getElem.2 fun i j hi hj hij e => ?_)⟩
    · obtain ⟨x, hx, e⟩ := List.mem_map.1 hm
      obtain ⟨i, hi, rfl⟩ := List.getElem_of_mem hx
      have a1 := hset i _ (List.getElem?_eq_getElem hi)
      obtain ⟨v, hv, _⟩ := h'.at (h.val a1)
      rw [hv] at e
      have e : v = wb := e
      subst e
      have := (h.eqv _ _ _ _ a1 fb).2 (hs _ _ (h.val a1) hb ((h'.eqv _ _ _ _ hv gb).1 rfl))
      have hi2 : i = va.toNat := by omega
      have hx : (s.set va.toNat a)[i]? = some a := by rw [hi2, List.getElem?_set_self hk]
      rw [List.getElem?_eq_getElem hi] at hx
      have hx := Option.some.inj hx
      rw [hx, ga] at hv
      exact hne (Option.some.inj hv)
    · have a1 := hset i _ (List.getElem?_eq_getElem hi)
      have a2 := hset j _ (List.getElem?_eq_getElem hj)
      obtain ⟨v, hv, _⟩ := h'.at (h.val a1)
      obtain ⟨w, hw, _⟩ := h'.at (h.val a2)
      rw [hv, hw] at e
      have := (h.eqv _ _ _ _ a1 a2).2 (hs _ _ (h.val a1) (h.val a2) ((h'.eqv _ _ _ _ hv hw).1 e))
      omega
  · intro x hx
    rcases List.mem_cons.1 hx with rfl | hx
    · exact sb
    · obtain ⟨y, hy, rfl⟩ := List.mem_map.1 hx
      have hyn : y < n := by
        rcases List.mem_or_eq_of_mem_set hy with hy | rfl
        · obtain ⟨i, hi, rfl⟩ := List.getElem_of_mem hy
          exact h.val (h2 i _ (List.getElem?_eq_getElem hi))
        · exact ha
      obtain ⟨v, hv, h3⟩ := h'.at hyn
      rw [hv]; exact h3
theorem num_id (n : Nat) : Num (fun a b => a = b) n ((List.range n).map fun i : Nat => (i : Int)) n := by
  have key : ∀ (a : Nat) v, ((List.range n).map fun i : Nat => (i : Int))[a]? = some v → a < n ∧ v = a := by
    intro a v hv
    rw [List.getElem?_map] at hv
    by_cases h : a < n
    · rw [List.getElem?_range h] at hv; exact ⟨h, (Option.some.inj hv).symm⟩
    · rw [List.getElem?_eq_none (by simp; omega)] at hv; cases hv
  refine ⟨by simp, fun a v hv => ?_, fun a b v w hv hw => ?_, fun i hi => ⟨i, by rw [List.getElem?_map, List.getElem?_range hi]; rfl⟩⟩
  · have := key a v hv; omega
  · have h1 := key a v hv
    have h2 := key b w hw
    omega
theorem Num.cle {R : Nat → Nat → Prop} {n c : Nat} {f : List Int} (h : Num R n f c) : c ≤ n :=
  h.le (num_id n) (fun a b ha _ e => by
    subst e
    obtain ⟨v, hv, _⟩ := h.at ha
    exact (h.eqv _ _ _ _ hv hv).1 rfl)
theorem Num.pos {R : Nat → Nat → Prop} {n c : Nat} {f : List Int} (h : Num R n f c) (hn : 1 ≤ n) : 1 ≤ c := by
  obtain ⟨v, _, h1, h2⟩ := h.at hn
  omega
theorem Num.ex {R : Nat → Nat → Prop} (hr : ∀ a, R a a) (hs : ∀ a b, R a b → R b a) (ht : ∀ a b c, R a b → R b c → R a c) : ∀ n, ∃ f c, Num R n f c
  | 0 => ⟨[], 0, rfl, fun a v h => by simp at h, fun a b v w h => by simp at h, fun i hi => by omega⟩
  | n + 1 => by
    obtain ⟨f, c, h⟩ := Num.ex hr hs ht n
    by_cases hx : ∃ a, a < n ∧ R a n
    · obtain ⟨a, ha, hr1⟩ := hx
      obtain ⟨v, hv, h0, h1⟩ := h.at ha
      have hget : ∀ (i : Nat) w, (f ++ [v])[i]? = some w → (i < n ∧ f[i]? = some w) ∨ (i = n ∧ w = v) := by
        intro i w hi
        rcases Nat.lt_or_ge i f.length with hlt | hge
        · rw [List.getElem?_append_left hlt] at hi; exact .inl ⟨by rw [← h.len]; exact hlt, hi⟩
        · rw [List.getElem?_append_right hge] at hi
          have h0 : i - f.length = 0 := by
            rcases Nat.eq_zero_or_pos (i - f.length) with h | h
            · exact h
            · rw [List.getElem?_eq_none (by simp; omega)] at hi; cases hi
          rw [h0] at hi
          simp at hi
          exact .inr ⟨by have := h.len; omega, hi.symm⟩
      refine ⟨f ++ [v], c, by simp [h.len], fun i w hi => ?_, fun i j u w hi hj => ?_, fun i hi => ?_⟩
      · rcases hget i w hi with ⟨_, hi⟩ | ⟨_, rfl⟩
        · exact h.rng _ _ hi
        · exact ⟨h0, h1⟩
      · rcases hget i u hi with ⟨_, hi2⟩ | ⟨rfl, rfl⟩ <;> rcases hget j w hj with ⟨_, hj2⟩ | ⟨rfl, rfl⟩
        · exact h.eqv _ _ _ _ hi2 hj2
        · rw [h.eqv _ _ _ _ hi2 hv]
          exact ⟨fun g => ht _ _ _ g hr1, fun g => ht _ _ _ g (hs _ _ hr1)⟩
        · rw [h.eqv _ _ _ _ hv hj2]
          exact ⟨fun g => ht _ _ _ (hs _ _ hr1) g, fun g => ht _ _ _ hr1 g⟩
        · exact ⟨fun _ => hr _, fun _ => rfl⟩
      · obtain ⟨b, hb⟩ := h.sur i hi
        exact ⟨b, by rw [List.getElem?_append_left (by rw [h.len]; exact h.val hb)]; exact hb⟩
    · have hget : ∀ (i : Nat) w, (f ++ [(c : Int)])[i]? = some w → (i < n ∧ f[i]? = some w) ∨ (i = n ∧ w = c) := by
        intro i w hi
        rcases Nat.lt_or_ge i f.length with hlt | hge
        · rw [List.getElem?_append_left hlt] at hi; exact .inl ⟨by rw [← h.len]; exact hlt, hi⟩
        · rw [List.getElem?_append_right hge] at hi
          have h0 : i - f.length = 0 := by
            rcases Nat.eq_zero_or_pos (i - f.length) with h | h
            · exact h
            · rw [List.getElem?_eq_none (by simp; omega)] at hi; cases hi
          rw [h0] at hi
          simp at hi
          exact .inr ⟨by have := h.len; omega, hi.symm⟩
      refine ⟨f ++ [(c : Int)], c + 1, by simp [h.len], fun i w hi => ?_, fun i j u w hi hj => ?_, fun i hi => ?_⟩
      · rcases hget i w hi with ⟨_, hi⟩ | ⟨_, rfl⟩
        · have := h.rng _ _ hi; omega
        · omega
      · rcases hget i u hi with ⟨hi', hi2⟩ | ⟨rfl, rfl⟩ <;> rcases hget j w hj with ⟨hj', hj2⟩ | ⟨rfl, rfl⟩
        · exact h.eqv _ _ _ _ hi2 hj2
        · have := h.rng _ _ hi2
          exact ⟨fun g => by omega, fun g => absurd ⟨i, hi', g⟩ hx⟩
        · have := h.rng _ _ hj2
          exact ⟨fun g => by omega, fun g => absurd ⟨j, hj', hs _ _ g⟩ hx⟩
        · exact ⟨fun _ => hr _, fun _ => rfl⟩
      · rcases Nat.lt_or_ge i c with hlt | hge
        · obtain ⟨b, hb⟩ := h.sur i hlt
          exact ⟨b, by rw [List.getElem?_append_left (by rw [h.len]; exact h.val hb)]; exact hb⟩
        · refine ⟨n, ?_⟩
          rw [List.getElem?_append_right (by rw [h.len]; omega), h.len, Nat.sub_self]
          simp; omega
section
variable {δ : Nat → Nat → Option Nat} {n : Nat}
theorem Rr.num (r : Nat) : ∃ f c, Num (Rr δ r) n f c := Num.ex (Rr.refl r) (fun _ _ h => h.symm) (fun _ _ _ h g => h.trans g) n
theorem Stab4.of_num {r c : Nat} {f f' : List Int} (h : Num (Rr δ r) n f c) (h' : Num (Rr δ (r + 1)) n f' c) : Stab4 δ n r := h.same h' (fun _ _ _ _ g => g.1)
theorem grow_num {r c c' : Nat} {f f' : List Int} (h : Num (Rr δ r) n f c) (h' : Num (Rr δ (r + 1)) n f' c') : c ≤ c' := h.le h' (fun _ _ _ _ g => g.1)
theorem stab_n (hc : Clo δ n) (hn : 1 ≤ n) : ∀ a b, a < n → b < n → (Rr δ n a b ↔ Ra δ a b) := by
  have key : ∀ r, (∃ q, q ≤ r ∧ Stab4 δ n q) ∨ ∀ f c, Num (Rr δ r) n f c → r + 1 ≤ c := by
    intro r
    induction r with
    | zero => exact .inr fun f c h => h.pos hn
    | succ r ih =>
      rcases ih with ⟨q, h1, h2⟩ | h
      · exact .inl ⟨q, by omega, h2⟩
      · by_cases hs : Stab4 δ n r
        · exact .inl ⟨r, by omega, hs⟩
        · refine .inr fun f' c' h' => ?_
          obtain ⟨f, c, hf⟩ := Rr.num (δ := δ) (n := n) r
          have h1 := h f c hf
          have h2 := grow_num hf h'
          have h3 : c ≠ c' := fun e => hs (Stab4.of_num hf (e ▸ h'))
          omega
  intro a b ha hb
  rcases key n with ⟨q, h1, h2⟩ | h
  · exact ⟨fun h3 => (h2.ra hc ha hb).1 (h3.le h1), fun h3 => h3 n⟩
  · obtain ⟨f, c, hf⟩ := Rr.num (δ := δ) (n := n) n
    have h1 := h f c hf
    have h2 := hf.cle
    omega
end
def hop {K : Type} [DecidableEq K] (cl : Nat → K) (L : List Nat) (row : List Int) : Option Nat → List Nat × List Int
  | none => (L, row ++ [-1])
  | some x => match kfind (cl x) (L.map cl) with
    | some j => (L, row ++ [(j : Int)])
    | none => (L ++ [x], row ++ [(L.length : Int)])
def hops {K : Type} [DecidableEq K] (δ : Nat → Nat → Option Nat) (cl : Nat → K) (s : Nat) : Nat → Nat → List Nat → List Int → List Nat × List Int
  | 0, _, L, row => (L, row)
  | k + 1, e, L, row => let p := hop cl L row (δ s e); hops δ cl s k (e + 1) p.1 p.2
inductive Bfs {K : Type} [DecidableEq K] (δ : Nat → Nat → Option Nat) (cl : Nat → K) : Nat → List Nat → List (List Int) → List Nat → List (List Int) → Prop
  | done {i : Nat} {L : List Nat} {out : List (List Int)} : L.length ≤ i → Bfs δ cl i L out L out
  | step {i s : Nat} {L Lf : List Nat} {out res : List (List Int)} : L[i]? = some s → Bfs δ cl (i + 1) (hops δ cl s 4 0 L []).1 (out ++ [(hops δ cl s 4 0 L []).2]) Lf res → Bfs δ cl i L out Lf res
theorem Bfs.det {K : Type} [DecidableEq K] {δ : Nat → Nat → Option Nat} {cl : Nat → K} {i : Nat} {L Lf Lg : List Nat} {out r s : List (List Int)} (h : Bfs δ cl i L out Lf r) : Bfs δ cl i L out Lg s → Lf = Lg ∧ r = s := by
  induction h with
  | done hl =>
    intro g
    cases g with
    | done _ => exact ⟨rfl, rfl⟩
    | step hs _ => have := (List.getElem?_eq_some_iff.1 hs).1; omega
  | step hs _ ih =>
    intro g
    cases g with
    | done hl => have := (List.getElem?_eq_some_iff.1 hs).1; omega
    | step hs2 g => rw [hs] at hs2; cases hs2; exact ih g
theorem kfind_map {α β : Type} [DecidableEq α] [DecidableEq β] {f : Nat → α} {g : Nat → β} {x y : Nat} : ∀ {L M : List Nat}, L.length = M.length → (∀ (j : Nat) a b, L[j]? = some a → M[j]? = some b → (f a = f x ↔ g b = g y)) → kfind (f x) (L.map f) = kfind (g y) (M.map g)
  | [], [], _, _ => rfl
  | a :: L, b :: M, hl, h => by
    simp only [List.map_cons, kfind]
    have h0 := h 0 a b rfl rfl
    have ih := kfind_map (L := L) (M := M) (by simpa using hl) (fun j p q hp hq => h (j + 1) p q (by simpa using hp) (by simpa using hq))
    by_cases hx : f a = f x
    · rw [if_pos hx, if_pos (h0.1 hx)]
    · rw [if_neg hx, if_neg (fun e => hx (h0.2 e)), ih]
  | [], _ :: _, hl, _ => by simp at hl
  | _ :: _, [], hl, _ => by simp at hl
section
variable {K K' : Type} [DecidableEq K] [DecidableEq K'] {δ δ' : Nat → Nat → Option Nat} {cl : Nat → K} {cl' : Nat → K'} {ι : Nat → Nat} {n : Nat}
theorem hop_rng {L : List Nat} {row : List Int} {o : Option Nat} (hL : ∀ x ∈ L, x < n) (ho : ∀ x, o = some x → x < n) : ∀ x ∈ (hop cl L row o).1, x < n := by
  unfold hop
  cases o with
  | none => exact hL
  | some x =>
    cases h : kfind (cl x) (L.map cl) with
    | some j => simp only [h]; exact hL
    | none =>
      simp only [h]
      intro y hy
      rcases List.mem_append.1 hy with hy | hy
      · exact hL y hy
      · simp at hy; subst hy; exact ho _ rfl
theorem hops_rng (hc : Clo δ n) {s : Nat} (hs : s < n) : ∀ (k e : Nat) (L : List Nat) (row : List Int), e + k ≤ 4 → (∀ x ∈ L, x < n) → ∀ x ∈ (hops δ cl s k e L row).1, x < n
  | 0, _, _, _, _, hL => hL
  | k + 1, e, L, row, he, hL => hops_rng hc hs k (e + 1) _ _ (by omega) (hop_rng hL (fun x hx => hc _ _ _ hs (by omega) hx))
theorem hops_emb (hc : Clo δ n) (hi : ∀ a e, a < n → e < 4 → δ' (ι a) e = (δ a e).map ι) (hcl : ∀ a b, a < n → b < n → (cl a = cl b ↔ cl' (ι a) = cl' (ι b))) {s : Nat} (hs : s < n) :
    ∀ (k e : Nat) (L : List Nat) (row : List Int), e + k ≤ 4 → (∀ x ∈ L, x < n) → hops δ' cl' (ι s) k e (L.map ι) row = ((hops δ cl s k e L row).1.map ι, (hops δ cl s k e L row).2)
  | 0, _, _, _, _, _ => rfl
  | k + 1, e, L, row, he, hL => by
    have key : hop cl' (L.map ι) row (δ' (ι s) e) = ((hop cl L row (δ s e)).1.map ι, (hop cl L row (δ s e)).2) := by
      rw [hi s e hs (by omega)]
      cases hx : δ s e with
      | none => rfl
      | some x =>
        have hxn := hc s e x hs (by omega) hx
        have hk : kfind (cl' (ι x)) ((L.map ι).map cl') = kfind (cl x) (L.map cl) := by
          rw [List.map_map]
          refine (kfind_map (f := cl) (g := cl' ∘ ι) (x := x) (y := x) rfl (fun j a b ha hb => ?_)).symm
          rw [ha] at hb; cases hb
          exact hcl a x (hL a (List.mem_of_getElem? ha)) hxn
        simp only [hop, Option.map_some, hk]
        cases kfind (cl x) (L.map cl) with
        | some j => rfl
        | none => simp
    simp only [hops, key]
    exact hops_emb hc hi hcl hs k (e + 1) _ _ (by omega) (hop_rng hL (fun x hx => hc _ _ _ hs (by omega) hx))
theorem Bfs.emb (hc : Clo δ n) (hi : ∀ a e, a < n → e < 4 → δ' (ι a) e = (δ a e).map ι) (hcl : ∀ a b, a < n → b < n → (cl a = cl b ↔ cl' (ι a) = cl' (ι b))) {i : Nat} {L Lf : List Nat} {out res : List (List Int)}
    (h : Bfs δ cl i L out Lf res) : (∀ x ∈ L, x < n) → Bfs δ' cl' i (L.map ι) out (Lf.map ι) res := by
  induction h with
  | done hl => exact fun _ => .done (by simpa using hl)
  | step hs hb ih =>
    intro hL
    have hsn := hL _ (List.mem_of_getElem? hs)
    refine .step (s := ι _) (by rw [List.getElem?_map, hs]; rfl) ?_
    rw [hops_emb hc hi hcl hsn 4 0 _ _ (Nat.le_refl _) hL]
    exact ih (hops_rng hc hsn 4 0 _ _ (Nat.le_refl _) hL)
end
end Go.Mod

namespace Go.Mod
open Go.AM
set_option linter.unusedVariables false
set_option linter.unusedSimpArgs false
abbrev nm (v : Int) : List UInt8 := Go.Lib.itoa v
theorem nm_nat (n : Nat) : nm (n : Int) = Go.Lib.decDigits n := by unfold nm Go.Lib.itoa; rw [if_neg (by omega)]; simp
theorem digit_val {d : Nat} (h : d < 10) : (UInt8.ofNat (48 + d)).toNat = 48 + d := by simp [UInt8.toNat_ofNat]; omega
theorem dd_digits : ∀ (u : Nat), ∀ b ∈ Go.Lib.decDigits u, 48 ≤ b.toNat ∧ b.toNat ≤ 57 := by
  intro u
  induction u using Nat.strongRecOn with
  | _ u ih =>
    intro b hb
    rw [Go.Lib.decDigits] at hb
    by_cases h : u < 10
    · rw [dif_pos h] at hb
      simp only [List.mem_singleton] at hb
      subst hb; rw [digit_val h]; omega
    · rw [dif_neg h] at hb
      rcases List.mem_append.1 hb with hb | hb
      · exact ih (u / 10) (by omega) b hb
      · simp only [List.mem_singleton] at hb
        subst hb; rw [digit_val (by omega)]; omega
theorem dd_ne (u : Nat) : Go.Lib.decDigits u ≠ [] := by
  rw [Go.Lib.decDigits]
  by_cases h : u < 10
  · rw [dif_pos h]; simp
  · rw [dif_neg h]; simp
theorem dd_inj : ∀ (u v : Nat), Go.Lib.decDigits u = Go.Lib.decDigits v → u = v := by
  intro u
  induction u using Nat.strongRecOn with
  | _ u ih =>
    intro v e
    rw [Go.Lib.decDigits, Go.Lib.decDigits.eq_1 v] at e
    by_cases h : u < 10 <;> by_cases g : v < 10
    · rw [dif_pos h, dif_pos g] at e
      have := congrArg (fun l => (l.headD 0).toNat) e
      simp only [List.headD_cons, digit_val h, digit_val g] at this
      omega
    · rw [dif_pos h, dif_neg g] at e
      have := congrArg List.length e
      have h1 := List.length_pos_iff.2 (dd_ne (v / 10))
      simp only [List.length_append, List.length_cons, List.length_nil] at this; omega
    · rw [dif_neg h, dif_pos g] at e
      have := congrArg List.length e
      have h1 := List.length_pos_iff.2 (dd_ne (u / 10))
      simp only [List.length_append, List.length_cons, List.length_nil] at this; omega
    · rw [dif_neg h, dif_neg g] at e
      obtain ⟨e1, e2⟩ := List.append_inj' e rfl
      have h1 := ih (u / 10) (by omega) _ e1
      have h2 := congrArg (fun l => (l.headD 0).toNat) e2
      simp only [List.headD_cons, digit_val (show u % 10 < 10 by omega), digit_val (show v % 10 < 10 by omega)] at h2
      omega
theorem dd_len : ∀ (k u : Nat), u < 10 ^ (k + 1) → (Go.Lib.decDigits u).length ≤ k + 1
  | 0, u, h => by rw [Go.Lib.decDigits, dif_pos (by omega)]; simp
  | k + 1, u, h => by
    rw [Go.Lib.decDigits]
    by_cases g : u < 10
    · rw [dif_pos g]; simp
    · rw [dif_neg g]
      have := dd_len k (u / 10) (by rw [Nat.pow_succ] at h; omega)
      simp; omega
theorem impl_dec {v : Int} (h0 : -9223372036854775808 ≤ v) (h1 : v ≤ 9223372036854775807) : m_impl_Decimal v = some (nm v) := by
  unfold m_impl_Decimal m_strconv_FormatInt
  rw [decide_eq_true rfl, decide_eq_true h0, decide_eq_true h1]
  rfl
def cel (f : List Int) (v : Int) : List UInt8 := 44 :: (if v < 0 then [120] else nm ((f[v.toNat]?).getD 0))
def keyOf (f : List Int) (x : Int) (row : List Int) : List UInt8 := nm x ++ (row.map (cel f)).flatten
theorem cut_comma : ∀ {a b s t : List UInt8}, (∀ c ∈ a, c ≠ 44) → (∀ c ∈ b, c ≠ 44) → (s = [] ∨ ∃ q, s = 44 :: q) → (t = [] ∨ ∃ q, t = 44 :: q) → a ++ s = b ++ t → a = b ∧ s = t
  | [], [], _, _, _, _, _, _, e => ⟨rfl, e⟩
  | [], y :: b, s, t, _, hb, hs, _, e => by
    rcases hs with rfl | ⟨q, rfl⟩
    · simp at e
    · simp at e; exact absurd e.1.symm (hb y (by simp))
  | x :: a, [], s, t, ha, _, _, ht, e => by
    rcases ht with rfl | ⟨q, rfl⟩
    · simp at e
    · simp at e; exact absurd e.1 (ha x (by simp))
  | x :: a, y :: b, s, t, ha, hb, hs, ht, e => by
    simp only [List.cons_append, List.cons.injEq] at e
    obtain ⟨h1, h2⟩ := cut_comma (fun c hc => ha c (by simp [hc])) (fun c hc => hb c (by simp [hc])) hs ht e.2
    exact ⟨by rw [e.1, h1], h2⟩
theorem nm_no_comma {v : Int} (h : 0 ≤ v) : ∀ c ∈ nm v, c ≠ 44 ∧ c ≠ 120 := by
  obtain ⟨n, rfl⟩ : ∃ n : Nat, v = n := ⟨v.toNat, by omega⟩
  rw [nm_nat]
  intro c hc
  have := dd_digits n c hc
  refine ⟨fun e => ?_, fun e => ?_⟩ <;> subst e <;> revert this <;> decide
theorem nm_inj {v w : Int} (hv : 0 ≤ v) (hw : 0 ≤ w) (e : nm v = nm w) : v = w := by
  obtain ⟨n, rfl⟩ : ∃ n : Nat, v = n := ⟨v.toNat, by omega⟩
  obtain ⟨m, rfl⟩ : ∃ n : Nat, w = n := ⟨w.toNat, by omega⟩
  rw [nm_nat, nm_nat] at e
  exact congrArg _ (dd_inj _ _ e)
def tgt (f : List Int) (v : Int) : Option Int := if v < 0 then none else some ((f[v.toNat]?).getD 0)
theorem cel_inj {f : List Int} (hf : ∀ (i : Nat) v, f[i]? = some v → 0 ≤ v) {a b : Int} {s t : List UInt8} (hs : s = [] ∨ ∃ q, s = 44 :: q) (ht : t = [] ∨ ∃ q, t = 44 :: q)
    (e : cel f a ++ s = cel f b ++ t) : tgt f a = tgt f b ∧ s = t := by
  have h0 : ∀ v : Int, 0 ≤ (f[v.toNat]?).getD 0 := by
    intro v
    cases h : f[v.toNat]? with
    | none => simp
    | some x => simpa using hf _ _ h
  have hc : ∀ v : Int, ∀ c ∈ (if v < 0 then [120] else nm ((f[v.toNat]?).getD 0)), c ≠ (44 : UInt8) := by
    intro v c hc
    split at hc
    · simp only [List.mem_singleton] at hc; subst hc; decide
    · exact (nm_no_comma (h0 v) c hc).1
  unfold cel at e
  simp only [List.cons_append, List.cons.injEq, true_and] at e
  obtain ⟨e1, e2⟩ := cut_comma (hc a) (hc b) hs ht e
  refine ⟨?_, e2⟩
  unfold tgt
  by_cases ha : a < 0 <;> by_cases hb : b < 0
  · rw [if_pos ha, if_pos hb]
  · rw [if_pos ha, if_neg hb] at e1
    exact absurd rfl (nm_no_comma (h0 b) 120 (by rw [← e1]; simp)).2
  · rw [if_neg ha, if_pos hb] at e1
    exact absurd rfl (nm_no_comma (h0 a) 120 (by rw [e1]; simp)).2
  · rw [if_neg ha, if_neg hb] at e1
    rw [if_neg ha, if_neg hb, nm_inj (h0 a) (h0 b) e1]
theorem flat_start {f : List Int} (row : List Int) : ((row.map (cel f)).flatten = [] ∨ ∃ q, (row.map (cel f)).flatten = 44 :: q) := by
  cases row with
  | nil => exact .inl rfl
  | cons a r => exact .inr ⟨_, rfl⟩
theorem row_inj {f : List Int} (hf : ∀ (i : Nat) v, f[i]? = some v → 0 ≤ v) : ∀ {r q : List Int}, r.length = q.length → (r.map (cel f)).flatten = (q.map (cel f)).flatten → r.map (tgt f) = q.map (tgt f)
  | [], [], _, _ => rfl
  | a :: r, b :: q, hl, e => by
    simp only [List.map_cons, List.flatten_cons] at e ⊢
    obtain ⟨h1, h2⟩ := cel_inj hf (flat_start r) (flat_start q) e
    rw [h1, row_inj hf (by simpa using hl) h2]
  | [], _ :: _, hl, _ => by simp at hl
  | _ :: _, [], hl, _ => by simp at hl
theorem key_inj {f : List Int} (hf : ∀ (i : Nat) v, f[i]? = some v → 0 ≤ v) {x y : Int} {r q : List Int} (hx : 0 ≤ x) (hy : 0 ≤ y) (hl : r.length = q.length) :
    keyOf f x r = keyOf f y q ↔ x = y ∧ r.map (tgt f) = q.map (tgt f) := by
  constructor
  · intro e
    obtain ⟨h1, h2⟩ := cut_comma (fun c hc => (nm_no_comma hx c hc).1) (fun c hc => (nm_no_comma hy c hc).1) (flat_start r) (flat_start q) e
    exact ⟨nm_inj hx hy h1, row_inj hf hl h2⟩
  · rintro ⟨rfl, h⟩
    unfold keyOf
    congr 2
    have : ∀ v, cel f v = 44 :: (match tgt f v with | none => [120] | some w => nm w) := by
      intro v; unfold cel tgt; by_cases hv : v < 0 <;> simp [hv]
    have e : cel f = (fun o : Option Int => 44 :: (match o with | none => [120] | some w => nm w)) ∘ tgt f := funext this
    rw [e, ← List.map_map, ← List.map_map, h]
theorem nm_len {v : Int} (h0 : 0 ≤ v) (h1 : v < 1000) : (nm v).length ≤ 3 := by
  obtain ⟨n, rfl⟩ : ∃ n : Nat, v = n := ⟨v.toNat, by omega⟩
  rw [nm_nat]; exact dd_len 2 n (by omega)
end Go.Mod

namespace Go.Mod
open Go.AM
set_option linter.unusedVariables false
set_option linter.unusedSimpArgs false
structure GOK (g : List (List Int)) : Prop where
  pos : 1 ≤ g.length
  le : g.length ≤ 200
  row : ∀ x ∈ g, x.length = 4 ∧ ∀ v ∈ x, -1 ≤ v ∧ v < g.length
def dl (g : List (List Int)) (a e : Nat) : Option Nat := (g[a]?).bind fun x => (x[e]?).bind fun v => if v < 0 then none else some v.toNat
theorem dl_clo {g : List (List Int)} (h : GOK g) : Clo (dl g) g.length := by
  intro a e x ha he hx
  unfold dl at hx
  rw [List.getElem?_eq_getElem ha, Option.bind_some] at hx
  obtain ⟨h1, h2⟩ := h.row _ (List.getElem_mem ha)
  rw [List.getElem?_eq_getElem (by omega), Option.bind_some] at hx
  have := h2 _ (List.getElem_mem (show e < g[a].length by omega))
  split at hx
  · cases hx
  · obtain rfl := Option.some.inj hx; omega
theorem kfind_app {K : Type} [DecidableEq K] {x q : K} : ∀ (ks : List K), kfind q (ks ++ [x]) = match kfind q ks with | some i => some i | none => if x = q then some ks.length else none
  | [] => by simp [kfind]
  | a :: r => by
    simp only [List.cons_append, kfind]
    by_cases h : a = q
    · simp [h]
    · rw [if_neg h, if_neg h, kfind_app r]
      cases kfind q r with
      | some i => rfl
      | none => by_cases h2 : x = q <;> simp [h2]
theorem mget_put {K V : Type} [DecidableEq K] {v : V} {k q : K} : ∀ (m : List (K × V)), mget (mput m k v) q = if k = q then some v else mget m q := by
  intro m
  induction m with
  | nil => unfold mput; simp only [mget]
  | cons x r ih =>
    obtain ⟨a, b⟩ := x
    unfold mput
    by_cases ha : a = k
    · subst ha
      rw [if_pos rfl]
      simp only [mget]
      by_cases hq : a = q
      · rw [if_pos hq, if_pos hq]
      · rw [if_neg hq, if_neg hq, if_neg hq]
    · rw [if_neg ha]
      simp only [mget]
      by_cases hq : a = q
      · rw [if_pos hq, if_pos hq, if_neg (fun h => ha (hq.trans h.symm))]
      · rw [if_neg hq, if_neg hq]; exact ih
structure Enum {K : Type} [DecidableEq K] (M : List (K × Int)) (ks : List K) : Prop where
  keys : M.map (·.1) = ks
  get : ∀ q, mget M q = (kfind q ks).map fun i : Nat => (i : Int)
theorem Enum.len {K : Type} [DecidableEq K] {M : List (K × Int)} {ks : List K} (h : Enum M ks) : M.length = ks.length := by rw [← h.keys, List.length_map]
theorem Enum.nil {K : Type} [DecidableEq K] : Enum ([] : List (K × Int)) [] := ⟨rfl, fun q => rfl⟩
theorem Enum.add {K : Type} [DecidableEq K] {M : List (K × Int)} {ks : List K} (h : Enum M ks) {x : K} (hx : kfind x ks = none) : Enum (mput M x (ks.length : Int)) (ks ++ [x]) := by
  refine ⟨?_, fun q => ?_⟩
  · rw [mput_none (by rw [h.keys]; exact hx), List.map_append, h.keys]; rfl
  · rw [mget_put, kfind_app, h.get]
    by_cases e : x = q
    · subst e; simp [hx]
    · rw [if_neg e]
      cases kfind q ks with
      | some i => rfl
      | none => simp only [if_neg e]
section
variable {g : List (List Int)} (hg : GOK g)
def ky (g : List (List Int)) (f : List Int) (a : Nat) : List UInt8 := keyOf f ((f[a]?).getD 0) ((g[a]?).getD [])
theorem tgt_dl {f : List Int} {a e : Nat} (hc : Clo (dl g) g.length) (hl : f.length = g.length) (ha : a < g.length) {x : List Int} (hx : g[a]? = some x) (he : e < 4) (h4 : x.length = 4) :
    (x.map (tgt f))[e]? = some ((dl g a e).bind fun b => f[b]?) := by
  have hex : e < x.length := by omega
  rw [List.getElem?_map, List.getElem?_eq_getElem hex, Option.map_some]
  have hd : dl g a e = if x[e] < 0 then none else some x[e].toNat := by unfold dl; rw [hx, Option.bind_some, List.getElem?_eq_getElem hex, Option.bind_some]
  unfold tgt
  by_cases h : x[e] < 0
  · rw [if_pos h] at hd ⊢; rw [hd, Option.bind_none]
  · rw [if_neg h] at hd ⊢
    have hb := hc a e _ ha he hd
    rw [hd, Option.bind_some, List.getElem?_eq_getElem (by omega)]; rfl
include hg in
theorem ky_rr {f : List Int} {r c : Nat} (hn : Num (Rr (dl g) r) g.length f c) {a b : Nat} (ha : a < g.length) (hb : b < g.length) : ky g f a = ky g f b ↔ Rr (dl g) (r + 1) a b := by
  obtain ⟨va, fa, ra⟩ := hn.at ha
  obtain ⟨vb, fb, rb⟩ := hn.at hb
  have ga : g[a]? = some g[a] := List.getElem?_eq_getElem ha
  have gb : g[b]? = some g[b] := List.getElem?_eq_getElem hb
  have la := (hg.row _ (List.getElem_mem ha)).1
  have lb := (hg.row _ (List.getElem_mem hb)).1
  unfold ky
  rw [fa, fb, ga, gb, Option.getD_some, Option.getD_some, Option.getD_some, Option.getD_some, key_inj (fun i v h => (hn.rng i v h).1) ra.1 rb.1 (by omega), hn.eqv _ _ _ _ fa fb]
  show _ ↔ Rr (dl g) r a b ∧ _
  refine and_congr Iff.rfl ?_
  have hc := dl_clo hg
  constructor
  · intro e k hk
    have h1 := tgt_dl hc hn.len ha ga hk la
    have h2 := tgt_dl hc hn.len hb gb hk lb
    rw [e, h2] at h1
    have h1 := Option.some.inj h1
    cases x : dl g a k <;> cases y : dl g b k <;> rw [x, y] at h1
    · trivial
    · obtain ⟨v, hv, _⟩ := hn.at (hc _ _ _ hb hk y)
      simp [hv] at h1
    · obtain ⟨v, hv, _⟩ := hn.at (hc _ _ _ ha hk x)
      simp [hv] at h1
    · obtain ⟨v, hv, _⟩ := hn.at (hc _ _ _ hb hk y)
      obtain ⟨w, hw, _⟩ := hn.at (hc _ _ _ ha hk x)
      simp only [Option.bind_some, hv, hw, Option.some.injEq] at h1
      exact (hn.eqv _ _ _ _ hw hv).1 h1.symm
  · intro e
    apply List.ext_getElem?
    intro k
    by_cases hk : k < 4
    · rw [tgt_dl hc hn.len ha ga hk la, tgt_dl hc hn.len hb gb hk lb]
      have := e k hk
      cases x : dl g a k <;> cases y : dl g b k <;> rw [x, y] at this <;> simp only [Mt] at this
      · obtain ⟨v, hv, _⟩ := hn.at (hc _ _ _ hb hk y)
        obtain ⟨w, hw, _⟩ := hn.at (hc _ _ _ ha hk x)
        rw [Option.bind_some, Option.bind_some, hv, hw, (hn.eqv _ _ _ _ hw hv).2 this]
    · rw [List.getElem?_eq_none (by simp; omega), List.getElem?_eq_none (by simp; omega)]
theorem key_ok {f : List Int} {n : Nat} (hl : f.length = n) (hr : ∀ (i : Nat) v, f[i]? = some v → 0 ≤ v ∧ v < 200) {x : List Int} (hx : ∀ v ∈ x, -1 ≤ v ∧ v < n) (h4 : x.length = 4) {k0 : List UInt8} (hk : k0.length ≤ 100) (cnt : Int) :
    forL (m_impl_graph_minimal_L2 (f, cnt)) (fun s2 => s2) 0 x k0 = some (k0 ++ (x.map (cel f)).flatten) := by
  have key : ∀ (y : List Int) (k : Nat) (s : List UInt8), (∀ v ∈ y, -1 ≤ v ∧ v < n) → s.length + 4 * y.length ≤ 1000 → forL (m_impl_graph_minimal_L2 (f, cnt)) (fun s2 => s2) k y s = some (s ++ (y.map (cel f)).flatten) := by
    intro y
    induction y with
    | nil => intro k s _ _; simp [forL]
    | cons v y ih =>
      intro k s hv hs
      simp only [List.length_cons] at hs
      have h1 : m_impl_graph_minimal_L2 (f, cnt) k v s = some (.next (s ++ cel f v)) ∧ (cel f v).length ≤ 4 := by
        unfold m_impl_graph_minimal_L2 cel
        by_cases hv0 : v < 0
        · rw [decide_eq_true hv0, cond_true, if_pos hv0, strI_some (by simp; omega)]
          exact ⟨rfl, by simp⟩
        · have := hv v (by simp)
          obtain ⟨w, hw⟩ : ∃ w, f[v.toNat]? = some w := ⟨_, List.getElem?_eq_getElem (show v.toNat < f.length by omega)⟩
          have hw2 := hr _ _ hw
          have hnl := nm_len hw2.1 (by omega)
          rw [decide_eq_false hv0, cond_false, if_neg hv0, getI_of (by omega) hw, Option.bind_some, impl_dec (by omega) (by omega), Option.bind_some, strI_some (by simp; omega), Option.bind_some, strI_some (by simp; omega), hw]
          exact ⟨rfl, by simp; omega⟩
      unfold forL
      rw [h1.1]
      show forL _ _ (k + 1) y (s ++ cel f v) = _
      rw [ih (k + 1) _ (fun u hu => hv u (by simp [hu])) (by simp; omega)]
      simp
  exact key x 0 k0 hx (by omega)
structure Mid (g : List (List Int)) (f : List Int) (k : Nat) (s : (List ((List UInt8) × Int)) × (List Int)) (ks : List (List UInt8)) : Prop where
  len : s.2.length = g.length
  en : Enum s.1 ks
  le : ks.length ≤ k
  num : ∀ a, a < k → ∃ j, kfind (ky g f a) ks = some j ∧ s.2[a]? = some (j : Int)
  sur : ∀ j, j < ks.length → ∃ a, a < k ∧ s.2[a]? = some (j : Int)
include hg in
theorem mid_step {f : List Int} {r c : Nat} (hn : Num (Rr (dl g) r) g.length f c) (cnt : Int) {k : Nat} {x : List Int} (hx : g[k]? = some x) {s : (List ((List UInt8) × Int)) × (List Int)} {ks : List (List UInt8)} (h : Mid g f k s ks) :
    ∃ s' ks', m_impl_graph_minimal_L1 (f, cnt) k x s = some (.next s') ∧ Mid g f (k + 1) s' ks' := by
  have hk := get_lt hx
  have hr := hg.row _ (List.mem_of_getElem? hx)
  have hgl := hg.le
  obtain ⟨v, hv, hv0, hv1⟩ := hn.at hk
  have hcl := hn.cle
  have hkey : (nm v ++ (x.map (cel f)).flatten) = ky g f k := by unfold ky keyOf; rw [hv, hx]; rfl
  obtain ⟨w, hw⟩ : ∃ w, s.2[k]? = some w := ⟨_, List.getElem?_eq_getElem (show k < s.2.length by rw [h.len]; exact hk)⟩
  have hstep : m_impl_graph_minimal_L1 (f, cnt) k x s = m_impl_graph_minimal_A2 s k (ky g f k) := by
    unfold m_impl_graph_minimal_L1
    have hnl := nm_len hv0 (by omega)
    rw [getI_some hv, Option.bind_some, impl_dec (by omega) (by omega), Option.bind_some,
      key_ok hn.len (fun i u hu => by have := hn.rng i u hu; omega) hr.2 hr.1 (by omega), Option.bind_some, hkey]
  have key : ∀ j : Nat, ∀ ks', (∀ q i, kfind q ks = some i → kfind q ks' = some i) → kfind (ky g f k) ks' = some j →
      ∀ a, a < k + 1 → ∃ i, kfind (ky g f a) ks' = some i ∧ (s.2.set ((k : Int)).toNat (j : Int))[a]? = some (i : Int) := by
    intro j ks' hmono hj a ha
    rw [Int.toNat_natCast, List.getElem?_set]
    by_cases e : k = a
    · subst e; rw [if_pos rfl, if_pos (by rw [h.len]; exact hk)]; exact ⟨j, hj, rfl⟩
    · rw [if_neg e]
      obtain ⟨i, h1, h2⟩ := h.num a (by omega)
      exact ⟨i, hmono _ _ h1, h2⟩
  rw [hstep]
  unfold m_impl_graph_minimal_A2
  rw [h.en.get]
  cases hf : kfind (ky g f k) ks with
  | none =>
    refine ⟨(mput s.1 (ky g f k) (ks.length : Int), s.2.set ((k : Int)).toNat (ks.length : Int)), ks ++ [ky g f k], ?_, ⟨by simp [h.len], h.en.add hf, by simp; have := h.le; omega, ?_, ?_⟩⟩
    · simp only [Option.map_none, Option.isSome_none, Bool.not_false, cond_true]
      unfold m_impl_size
      rw [Option.bind_some, getI_some hw, Option.bind_some, h.en.len]
    · refine key ks.length _ (fun q i hq => by rw [kfind_app, hq]) (by rw [kfind_app, hf]; simp)
    · intro j hj
      rcases Nat.lt_or_ge j ks.length with hlt | hge
      · obtain ⟨a, ha, h2⟩ := h.sur j hlt
        refine ⟨a, by omega, ?_⟩
        show (s.2.set _ _)[a]? = _
        rw [Int.toNat_natCast, List.getElem?_set, if_neg (by omega)]; exact h2
      · refine ⟨k, by omega, ?_⟩
        show (s.2.set _ _)[k]? = _
        have : j = ks.length := by simp at hj; omega
        subst this
        rw [Int.toNat_natCast, List.getElem?_set, if_pos rfl, if_pos (by rw [h.len]; exact hk)]
  | some j =>
    have hjl : j < ks.length := (List.getElem?_eq_some_iff.1 (kfind_some hf)).1
    refine ⟨(s.1, s.2.set ((k : Int)).toNat (j : Int)), ks, ?_, ⟨by simp [h.len], h.en, by have := h.le; omega, key j ks (fun q i hq => hq) hf, ?_⟩⟩
    · simp only [Option.map_some, Option.isSome_some, Bool.not_true, cond_false, Option.getD_some]
      rw [getI_some hw, Option.bind_some]
    · intro i hi
      obtain ⟨a, ha, h2⟩ := h.sur i hi
      refine ⟨a, by omega, ?_⟩
      show (s.2.set _ _)[a]? = _
      rw [Int.toNat_natCast, List.getElem?_set, if_neg (by omega)]; exact h2
include hg in
theorem round_num {f : List Int} {r c : Nat} (hn : Num (Rr (dl g) r) g.length f c) (cnt : Int) :
    ∃ M f', forL (m_impl_graph_minimal_L1 (f, cnt)) (fun s1 => (s1.1, s1.2)) 0 g (([] : List ((List UInt8) × Int)), List.replicate g.length (0 : Int)) = some (M, f') ∧ Num (Rr (dl g) (r + 1)) g.length f' M.length := by
  obtain ⟨t, h1, ks, h2⟩ := forL_inv (step := m_impl_graph_minimal_L1 (f, cnt)) (fin := fun s1 => (s1.1, s1.2)) (xs := g) (fun k s => ∃ ks, Mid g f k s ks) (fun t => ∃ ks, Mid g f g.length t ks)
    (fun k x s hx ⟨ks, h⟩ => by
      obtain ⟨s', ks', e1, e2⟩ := mid_step hg hn cnt hx h
      exact .inl ⟨s', e1, ks', e2⟩)
    (fun s hI => hI) (s := (([] : List ((List UInt8) × Int)), List.replicate g.length (0 : Int))) ⟨[], by simp, Enum.nil, Nat.le_refl _, fun a ha => by omega, fun j hj => by simp at hj⟩
  refine ⟨t.1, t.2, h1, h2.len, fun a v hv => ?_, fun a b v w hv hw => ?_, fun i hi => ?_⟩
  · have ha : a < g.length := by rw [← h2.len]; exact get_lt hv
    obtain ⟨j, hj, e⟩ := h2.num a ha
    rw [e] at hv
    obtain rfl := Option.some.inj hv
    have := (List.getElem?_eq_some_iff.1 (kfind_some hj)).1
    rw [h2.en.len]; omega
  · have ha : a < g.length := by rw [← h2.len]; exact get_lt hv
    have hb : b < g.length := by rw [← h2.len]; exact get_lt hw
    obtain ⟨j, hj, e⟩ := h2.num a ha
    obtain ⟨i, hi, e'⟩ := h2.num b hb
    rw [e] at hv; rw [e'] at hw
    obtain rfl := Option.some.inj hv
    obtain rfl := Option.some.inj hw
    rw [← ky_rr hg hn ha hb]
    constructor
    · intro q
      have q : j = i := by omega
      subst q
      have := (kfind_some hj).symm.trans (kfind_some hi)
      exact Option.some.inj this
    · intro q
      rw [q, hi] at hj
      have := Option.some.inj hj
      omega
  · obtain ⟨a, _, h3⟩ := h2.sur i (by rw [← h2.en.len]; exact hi)
    exact ⟨a, h3⟩
theorem num_zero {n : Nat} (hn : 1 ≤ n) (δ : Nat → Nat → Option Nat) : Num (Rr δ 0) n (List.replicate n (0 : Int)) 1 := by
  have key : ∀ (a : Nat) v, (List.replicate n (0 : Int))[a]? = some v → v = 0 := by
    intro a v hv
    rw [List.getElem?_replicate] at hv
    split at hv
    · exact (Option.some.inj hv).symm
    · cases hv
  refine ⟨by simp, fun a v hv => by have := key a v hv; omega, fun a b v w hv hw => ?_, fun i hi => ⟨0, ?_⟩⟩
  · rw [key a v hv, key b w hw]; exact ⟨fun _ => trivial, fun _ => rfl⟩
  · have : i = 0 := by omega
    subst this
    rw [List.getElem?_replicate, if_pos (by omega)]; rfl
include hg in
theorem rounds_num : ∃ f c, iter (m_impl_graph_minimal_L0 g) ((List.replicate g.length (0 : Int)), (0 : Int)) = some f ∧ Num (Ra (dl g)) g.length f c ∧
    ∀ a b, a < g.length → b < g.length → (Ra (dl g) a b → ∀ e, e < 4 → Mt (Ra (dl g)) (dl g a e) (dl g b e)) := by
  have hgl := hg.le
  have hc := dl_clo hg
  obtain ⟨f, h1, c, h2⟩ := iter_inv (step := m_impl_graph_minimal_L0 g)
    (fun s => ∃ r c, Num (Rr (dl g) r) g.length s.1 c ∧ (s.2 = (c : Int) ∨ s.2 = 0)) (fun s => g.length + 1 - s.2.toNat) (fun f => ∃ c, Num (Ra (dl g)) g.length f c)
    (fun s ⟨r, c, hn, hs⟩ => by
      obtain ⟨M, f', e1, e2⟩ := round_num hg hn s.2
      have hle := grow_num hn e2
      have hp := hn.pos hg.pos
      have hM := e2.cle
      have hstep : m_impl_graph_minimal_L0 g s = m_impl_graph_minimal_A1 s (M, f') := by
        unfold m_impl_graph_minimal_L0
        rw [makeI_some (by omega), Option.bind_some]
        show (forL (m_impl_graph_minimal_L1 (s.1, s.2)) _ 0 g _).bind _ = _
        rw [e1, Option.bind_some]
      rw [hstep]
      unfold m_impl_graph_minimal_A1
      by_cases hq : (M.length : Int) = s.2
      · rw [decide_eq_true hq, cond_true]
        refine .inr ⟨f', rfl, M.length, ?_⟩
        have hcM : c = M.length := by omega
        subst hcM
        have hst := Stab4.of_num hn e2
        have hst2 : Stab4 (dl g) g.length (r + 1) := fun a b ha hb h => hst.all hc 2 a b ha hb (h.le (Nat.le_succ r))
        exact ⟨e2.len, e2.rng, fun a b v w hv hw => by
          rw [e2.eqv a b v w hv hw]
          exact hst2.ra hc (e2.val hv) (e2.val hw), e2.sur⟩
      · rw [decide_eq_false hq, cond_false]
        refine .inl ⟨_, rfl, ⟨r + 1, M.length, e2, .inl rfl⟩, ?_⟩
        show g.length + 1 - ((M.length : Int)).toNat < g.length + 1 - s.2.toNat
        rcases hs with hs | hs <;> omega)
    (s := ((List.replicate g.length (0 : Int)), (0 : Int))) ⟨0, 1, num_zero hg.pos _, .inr rfl⟩
  exact ⟨f, c, h1, h2, fun a b _ _ h e he => h.step he⟩
end
end Go.Mod

namespace Go.Mod
open Go.AM
set_option linter.unusedVariables false
set_option linter.unusedSimpArgs false
section
variable {K : Type} [DecidableEq K]
noncomputable def gwL1 (bz : Nat) (nx : K → Int → Option (K × Bool)) (s0 : (List (K × Int)) × (List K) × (List (List Int)) × Int) (n1 : Nat) (x1 : Nat) (s1 : (List (K × Int)) × (List K) × (List Int)) : Option (Ctl ((List (K × Int)) × (List K) × (List Int)) (((List (K × Int)) × (List K) × (List Int)))) :=
  (getI s1.2.1 s0.2.2.2).bind fun (x33 : K) =>
  (nx x33 (n1 : Int)).bind fun (r36 : K × Bool) =>
  bif (!r36.2) then
    (capI (s1.2.2.length + [(-1 : Int)].length) 8).bind fun (q43 : Unit) =>
    some (.next (s1.1, s1.2.1, (s1.2.2 ++ [(-1 : Int)])))
  else
    bif (!(mget s1.1 r36.1).isSome) then
      (m_impl_size (s1.2.1.length : Int)).bind fun (r54 : Int) =>
      (capI (s1.2.1.length + [r36.1].length) bz).bind fun (q61 : Unit) =>
      (capI (s1.2.2.length + [r54].length) 8).bind fun (q65 : Unit) =>
      some (.next ((mput s1.1 r36.1 r54), (s1.2.1 ++ [r36.1]), (s1.2.2 ++ [r54])))
    else
      (capI (s1.2.2.length + [((mget s1.1 r36.1).getD (0 : Int))].length) 8).bind fun (q65 : Unit) =>
      some (.next (s1.1, s1.2.1, (s1.2.2 ++ [((mget s1.1 r36.1).getD (0 : Int))])))
noncomputable def gwA1 (s0 : (List (K × Int)) × (List K) × (List (List Int)) × Int) (u1 : ((List (K × Int)) × (List K) × (List Int))) : Option (Ctl ((List (K × Int)) × (List K) × (List (List Int)) × Int) ((List (List Int)))) :=
  (capI (s0.2.2.1.length + [u1.2.2].length) 24).bind fun (q70 : Unit) =>
  some (.next (u1.1, u1.2.1, (s0.2.2.1 ++ [u1.2.2]), (w64 (s0.2.2.2 + (1 : Int)))))
noncomputable def gwL0 (bz : Nat) (nx : K → Int → Option (K × Bool)) (s0 : (List (K × Int)) × (List K) × (List (List Int)) × Int) : Option (Ctl ((List (K × Int)) × (List K) × (List (List Int)) × Int) ((List (List Int)))) :=
  bif (decide (s0.2.2.2 < (s0.2.1.length : Int))) then
    (forL (gwL1 bz nx s0) (fun s1 => (s1.1, s1.2.1, s1.2.2)) 0 (List.range 4) (s0.1, s0.2.1, ([] : List Int))).bind fun (u1 : ((List (K × Int)) × (List K) × (List Int))) =>
    gwA1 s0 u1
  else
    some (.out s0.2.2.1)
noncomputable def gw (bz : Nat) (nx : K → Int → Option (K × Bool)) (p0 : K) : Option (List (List Int)) :=
  (iter (gwL0 bz nx) ((mput ([] : List (K × Int)) p0 (0 : Int)), [p0], ([] : List (List Int)), (0 : Int))).bind fun (u0 : (List (List Int))) =>
  some u0
end
theorem grown_min (x : Int) (g : List (List Int)) (one f : List Int) : m_impl_grown_int64_fminimal_1 x g one f = gw 8 (fun k e => m_impl_graph_minimal_1 k e g one f) x := rfl
theorem grown_both (x : Int × Int) (g h : List (List Int)) : m_impl_grown_2_int64_fBothPolicies_1 x g h = gw 16 (fun k e => m_impl_BothPolicies_1 k e g h) x := rfl
theorem nodup_nat {n : Nat} {l : List Nat} (h : l.Nodup) (hl : ∀ x ∈ l, x < n) : l.length ≤ n := by
  have := nodup_int n (l.map fun i : Nat => (i : Int)) (List.pairwise_map.2 (List.Pairwise.imp (fun {a b} h e => h (by omega)) h)) (fun x hx => by
    obtain ⟨y, hy, rfl⟩ := List.mem_map.1 hx
    have := hl y hy; omega)
  simpa using this
theorem kfind_none {K : Type} [DecidableEq K] {q : K} : ∀ {ks : List K}, kfind q ks = none → q ∉ ks
  | [], _ => by simp
  | a :: r, h => by
    unfold kfind at h
    by_cases e : a = q
    · rw [if_pos e] at h; cases h
    · rw [if_neg e] at h
      have := kfind_none (ks := r) (by cases hr : kfind q r with | none => rfl | some j => rw [hr] at h; cases h)
      simp only [List.mem_cons, not_or]
      exact ⟨fun h => e h.symm, this⟩
structure Met {K : Type} (cl : Nat → K) (n : Nat) (L : List Nat) : Prop where
  nd : (L.map cl).Nodup
  lt : ∀ x ∈ L, x < n
theorem Met.len {K : Type} {cl : Nat → K} {n : Nat} {L : List Nat} (h : Met cl n L) : L.length ≤ n := nodup_nat (List.Pairwise.imp (fun {a b} h e => h (by rw [e])) (List.pairwise_map.1 h.nd)) h.lt
section
variable {K : Type} [DecidableEq K] {bz : Nat} {nx : K → Int → Option (K × Bool)} {δ : Nat → Nat → Option Nat} {cl : Nat → K} {n : Nat}
theorem Met.hop {L : List Nat} {row : List Int} {o : Option Nat} (h : Met cl n L) (ho : ∀ x, o = some x → x < n) : Met cl n (hop cl L row o).1 := by
  unfold Mod.hop
  cases o with
  | none => exact h
  | some x =>
    cases hk : kfind (cl x) (L.map cl) with
    | some j => simp only [hk]; exact h
    | none =>
      simp only [hk]
      refine ⟨?_, fun y hy => ?_⟩
      · rw [List.map_append]
        refine List.nodup_append.2 ⟨h.nd, by simp, fun a ha b hb e => ?_⟩
        simp at hb
        subst hb; subst e
        exact kfind_none hk ha
      · rcases List.mem_append.1 hy with hy | hy
        · exact h.lt y hy
        · simp at hy; subst hy; exact ho _ rfl
theorem hop_pre {L : List Nat} {row : List Int} {o : Option Nat} : ∃ M, (hop cl L row o).1 = L ++ M := by
  unfold hop
  cases o with
  | none => exact ⟨[], by simp⟩
  | some x =>
    cases hk : kfind (cl x) (L.map cl) with
    | some j => exact ⟨[], by simp [hk]⟩
    | none => exact ⟨[x], by simp [hk]⟩
theorem hop_row {L : List Nat} {row : List Int} {o : Option Nat} : (hop cl L row o).2.length = row.length + 1 := by
  unfold hop
  cases o with
  | none => simp
  | some x => cases hk : kfind (cl x) (L.map cl) <;> simp [hk]
theorem hops_pre (s : Nat) : ∀ (k e : Nat) (L : List Nat) (row : List Int), ∃ M, (hops δ cl s k e L row).1 = L ++ M
  | 0, _, _, _ => ⟨[], by simp [hops]⟩
  | k + 1, e, L, row => by
    obtain ⟨M, h⟩ := hop_pre (cl := cl) (L := L) (row := row) (o := δ s e)
    obtain ⟨M', h'⟩ := hops_pre s k (e + 1) (hop cl L row (δ s e)).1 (hop cl L row (δ s e)).2
    exact ⟨M ++ M', by simp only [hops]; rw [h', h, List.append_assoc]⟩
theorem hops_row (s : Nat) : ∀ (k e : Nat) (L : List Nat) (row : List Int), (hops δ cl s k e L row).2.length = row.length + k
  | 0, _, _, _ => by simp [hops]
  | k + 1, e, L, row => by simp only [hops]; rw [hops_row s k, hop_row]; omega
def Nx (δ : Nat → Nat → Option Nat) (cl : Nat → K) (n : Nat) (nx : K → Int → Option (K × Bool)) : Prop :=
  ∀ s e, s < n → e < 4 → match δ s e with | none => ∃ k, nx (cl s) (e : Int) = some (k, false) | some x => nx (cl s) (e : Int) = some (cl x, true)
variable (hc : Clo δ n) (hn : n ≤ 200) (hb : bz ≤ 1000) (hx : Nx δ cl n nx)
include hc hn hb hx
theorem gw_row {i : Nat} {s : Nat} (hs : s < n) (out : List (List Int)) (M0 : List (K × Int)) (ids0 : List K) : ∀ (ys : List Nat) (e : Nat) (L : List Nat) (row : List Int) (M : List (K × Int)), e + ys.length ≤ 4 → L[i]? = some s → Met cl n L → Enum M (L.map cl) → row.length ≤ e →
    ∃ M', forL (gwL1 bz nx (M0, ids0, out, (i : Int))) (fun s1 => (s1.1, s1.2.1, s1.2.2)) e ys (M, L.map cl, row) = some (M', (hops δ cl s ys.length e L row).1.map cl, (hops δ cl s ys.length e L row).2) ∧
      Met cl n (hops δ cl s ys.length e L row).1 ∧ Enum M' ((hops δ cl s ys.length e L row).1.map cl)
  | [], e, L, row, M, _, _, hm, he, _ => ⟨M, rfl, hm, he⟩
  | y :: ys, e, L, row, M, hl, hi, hm, he, hr => by
    simp only [List.length_cons] at hl
    have hml := hm.len
    have h4 := hx s e hs (by omega)
    have hxr : ∀ x, δ s e = some x → x < n := fun x h => hc s e x hs (by omega) h
    have step : ∃ M1, gwL1 bz nx (M0, ids0, out, (i : Int)) e y (M, L.map cl, row) = some (.next (M1, (hop cl L row (δ s e)).1.map cl, (hop cl L row (δ s e)).2)) ∧ Enum M1 ((hop cl L row (δ s e)).1.map cl) := by
      unfold gwL1
      simp only
      rw [getI_some (show (L.map cl)[i]? = some (cl s) by rw [List.getElem?_map, hi]; rfl), Option.bind_some]
      cases hd : δ s e with
      | none =>
        rw [hd] at h4
        obtain ⟨k, hk⟩ := h4
        rw [hk, Option.bind_some]
        simp only [Bool.not_false, cond_true]
        rw [capI_some (by simp; omega), Option.bind_some]
        exact ⟨M, rfl, he⟩
      | some x =>
        rw [hd] at h4
        simp only at h4
        rw [h4, Option.bind_some]
        simp only [Bool.not_true, cond_false]
        rw [he.get]
        cases hk : kfind (cl x) (L.map cl) with
        | some j =>
          simp only [Option.map_some, Option.isSome_some, Bool.not_true, cond_false, Option.getD_some]
          rw [capI_some (by simp; omega), Option.bind_some]
          exact ⟨M, by simp only [hop, hk], by simp only [hop, hk]; exact he⟩
        | none =>
          simp only [Option.map_none, Option.isSome_none, Bool.not_false, cond_true, m_impl_size, Option.bind_some, List.length_map]
          have hq : (L.length + [cl x].length) * bz ≤ 140737488355328 := by
            have : (L.length + 1) * bz ≤ 201 * 1000 := Nat.mul_le_mul (by omega) hb
            exact Nat.le_trans this (by decide)
          have hq2 : (row.length + [(L.length : Int)].length) * 8 ≤ 140737488355328 := by simp only [List.length_cons, List.length_nil]; omega
          rw [capI_some hq, Option.bind_some, capI_some hq2, Option.bind_some]
          refine ⟨mput M (cl x) (L.length : Int), by simp only [hop, hk, List.map_append, List.map_cons, List.map_nil], ?_⟩
          simp only [hop, hk, List.map_append, List.map_cons, List.map_nil]
          have := he.add hk
          rw [List.length_map] at this
          exact this
    obtain ⟨M1, h1, h2⟩ := step
    obtain ⟨T, hT⟩ := hop_pre (cl := cl) (L := L) (row := row) (o := δ s e)
    obtain ⟨M', h3, h5⟩ := gw_row hs out M0 ids0 ys (e + 1) (hop cl L row (δ s e)).1 (hop cl L row (δ s e)).2 M1 (by omega)
      (by rw [hT, List.getElem?_append_left (get_lt hi)]; exact hi) (hm.hop hxr) h2 (by rw [hop_row]; omega)
    refine ⟨M', ?_, h5⟩
    unfold forL
    rw [h1]
    exact h3
theorem gw_loop : ∀ (m i : Nat) (L : List Nat) (M : List (K × Int)) (out : List (List Int)), n ≤ i + m → i ≤ L.length → Met cl n L → Enum M (L.map cl) → out.length = i →
    ∃ Lf res, iter (gwL0 bz nx) (M, L.map cl, out, (i : Int)) = some res ∧ Bfs δ cl i L out Lf res ∧ Met cl n Lf := by
  intro m
  induction m with
  | zero =>
    intro i L M out hm hi hmet he ho
    have := hmet.len
    refine ⟨L, out, iter_out ?_, .done (by omega), hmet⟩
    unfold gwL0
    simp only
    rw [List.length_map, decide_eq_false (by omega), cond_false]
  | succ m ih =>
    intro i L M out hm hi hmet he ho
    have hml := hmet.len
    by_cases hlt : i < L.length
    · have hs : L[i]? = some L[i] := List.getElem?_eq_getElem hlt
      have hsn := hmet.lt _ (List.getElem_mem hlt)
      obtain ⟨M', h1, h2, h3⟩ := gw_row hc hn hb hx hsn out M (L.map cl) (List.range 4) 0 L [] M (by simp) hs hmet he (by simp)
      obtain ⟨T, hT⟩ := hops_pre (δ := δ) (cl := cl) L[i] 4 0 L []
      rw [List.length_range] at h1 h2 h3
      have hml2 := h2.len
      have hstep : gwL0 bz nx (M, L.map cl, out, (i : Int)) = some (.next (M', (hops δ cl L[i] 4 0 L []).1.map cl, out ++ [(hops δ cl L[i] 4 0 L []).2], ((i + 1 : Nat) : Int))) := by
        unfold gwL0
        simp only
        rw [List.length_map, dec_lt hlt, cond_true, h1, Option.bind_some]
        unfold gwA1
        simp only
        rw [capI_some (by simp; omega), Option.bind_some, w64_succ (by omega)]
      obtain ⟨Lf, res, h4, h5, h6⟩ := ih (i + 1) (hops δ cl L[i] 4 0 L []).1 M' (out ++ [(hops δ cl L[i] 4 0 L []).2]) (by omega) (by rw [hT]; simp; omega) h2 h3 (by simp [ho])
      exact ⟨Lf, res, by rw [iter_next hstep]; exact h4, .step hs h5, h6⟩
    · refine ⟨L, out, iter_out ?_, .done (by omega), hmet⟩
      unfold gwL0
      simp only
      rw [List.length_map, decide_eq_false (by omega), cond_false]
theorem gw_ok {s : Nat} (hs : s < n) : ∃ Lf res, gw bz nx (cl s) = some res ∧ Bfs δ cl 0 [s] [] Lf res ∧ Met cl n Lf := by
  obtain ⟨Lf, res, h1, h2, h3⟩ := gw_loop hc hn hb hx n 0 [s] (mput [] (cl s) 0) [] (by omega) (by simp) ⟨by simp, by simpa using hs⟩
    (by have := Enum.nil.add (x := cl s) rfl; simpa using this) rfl
  refine ⟨Lf, res, ?_, h2, h3⟩
  unfold gw
  have h1 : iter (gwL0 bz nx) (mput [] (cl s) 0, [cl s], [], (0 : Int)) = some res := h1
  rw [h1]; rfl
end
section
variable {g : List (List Int)} (hg : GOK g)
def cf (f : List Int) (s : Nat) : Int := (f[s]?).getD 0
theorem one_ok {R : Nat → Nat → Prop} {f : List Int} {c : Nat} (hn : Num R g.length f c) :
    ∃ one, forL m_impl_graph_minimal_L3 (fun s3 => s3) 0 f (List.replicate g.length (0 : Int)) = some one ∧ one.length = g.length ∧ ∀ i : Nat, i < c → ∃ a : Nat, one[i]? = some (a : Int) ∧ f[a]? = some (i : Int) := by
  have hcl := hn.cle
  obtain ⟨one, h1, h2, h3⟩ := forL_inv (step := m_impl_graph_minimal_L3) (fin := fun s3 => s3) (xs := f)
    (fun k (s : List Int) => s.length = g.length ∧ ∀ a i : Nat, a < k → f[a]? = some (i : Int) → ∃ b : Nat, b < k ∧ s[i]? = some (b : Int) ∧ f[b]? = some (i : Int))
    (fun s => s.length = g.length ∧ ∀ a i : Nat, a < f.length → f[a]? = some (i : Int) → ∃ b : Nat, b < f.length ∧ s[i]? = some (b : Int) ∧ f[b]? = some (i : Int))
    (fun k x s hx ⟨hl, h⟩ => by
      have hr := hn.rng _ _ hx
      obtain ⟨w, hw⟩ : ∃ w, s[x.toNat]? = some w := ⟨_, List.getElem?_eq_getElem (show x.toNat < s.length by omega)⟩
      refine .inl ⟨s.set x.toNat (k : Int), ?_, by simpa using hl, fun a i ha hi => ?_⟩
      · unfold m_impl_graph_minimal_L3
        rw [getI_of hr.1 hw, Option.bind_some]
      · by_cases e : x.toNat = i
        · subst e
          refine ⟨k, by omega, by rw [List.getElem?_set, if_pos rfl, if_pos (by omega)], ?_⟩
          rw [hx]; congr 1; omega
        · have hak : a ≠ k := fun e2 => by subst e2; rw [hx] at hi; have := Option.some.inj hi; omega
          obtain ⟨b, h1, h2, h3⟩ := h a i (by omega) hi
          exact ⟨b, by omega, by rw [List.getElem?_set, if_neg e]; exact h2, h3⟩)
    (fun s hI => hI) (s := List.replicate g.length (0 : Int)) ⟨by simp, fun a i ha _ => by omega⟩
  refine ⟨one, h1, h2, fun i hi => ?_⟩
  obtain ⟨a, ha⟩ := hn.sur i hi
  obtain ⟨b, _, h4, h5⟩ := h3 a i (get_lt ha) ha
  exact ⟨b, h4, h5⟩
include hg in
theorem minimal_ok : ∃ f c Lf res, Num (Ra (dl g)) g.length f c ∧ m_impl_graph_minimal g = some res ∧ Bfs (dl g) (cf f) 0 [0] [] Lf res ∧ Met (cf f) g.length Lf := by
  have hgl := hg.le
  have hgp := hg.pos
  have hc := dl_clo hg
  obtain ⟨f, c, h1, hn, hst⟩ := rounds_num hg
  have hcl := hn.cle
  obtain ⟨one, h2, h3, h4⟩ := one_ok hn
  have hnx : Nx (dl g) (cf f) g.length (fun k e => m_impl_graph_minimal_1 k e g one f) := by
    intro s e hs he
    obtain ⟨v, hv, hv0, hv1⟩ := hn.at hs
    obtain ⟨a, ha, hfa⟩ := h4 v.toNat (by omega)
    have hvv : ((v.toNat : Nat) : Int) = v := by omega
    rw [hvv] at hfa
    have han := hn.val hfa
    have hr := (hn.eqv _ _ _ _ hfa hv).1 rfl
    have hm := hr.step he
    obtain ⟨hr4, hrv⟩ := hg.row _ (List.getElem_mem han)
    have hval : (g[a])[e]? = some g[a][e] := List.getElem?_eq_getElem (by omega)
    have hd : dl g a e = if g[a][e] < 0 then none else some g[a][e].toNat := by unfold dl; rw [List.getElem?_eq_getElem han, Option.bind_some, hval, Option.bind_some]
    have hmod : m_impl_graph_minimal_1 (cf f s) (e : Int) g one f = bif decide (g[a][e] < 0) then some (0, false) else (getI f g[a][e]).bind fun x24 => some (x24, true) := by
      unfold m_impl_graph_minimal_1 cf
      rw [hv, Option.getD_some, getI_of hv0 ha, Option.bind_some, getI_some (List.getElem?_eq_getElem han), Option.bind_some, getI_some hval, Option.bind_some]
    show match dl g s e with | none => ∃ k, m_impl_graph_minimal_1 (cf f s) (e : Int) g one f = some (k, false) | some x => m_impl_graph_minimal_1 (cf f s) (e : Int) g one f = some (cf f x, true)
    rw [hmod]
    by_cases hneg : g[a][e] < 0
    · rw [if_pos hneg] at hd
      rw [hd] at hm
      cases hs2 : dl g s e with
      | none => rw [decide_eq_true hneg]; exact ⟨0, rfl⟩
      | some x => rw [hs2] at hm; exact hm.elim
    · rw [if_neg hneg] at hd
      rw [hd] at hm
      cases hs2 : dl g s e with
      | none => rw [hs2] at hm; exact hm.elim
      | some x =>
        rw [hs2] at hm
        obtain ⟨u, hu, _⟩ := hn.at (hc _ _ _ hs he hs2)
        obtain ⟨w, hw, _⟩ := hn.at (hc _ _ _ han he hd)
        have hwu : w = u := (hn.eqv _ _ _ _ hw hu).2 hm
        subst hwu
        simp only [decide_eq_false hneg, cond_false]
        rw [getI_of (by omega) hw, Option.bind_some]
        unfold cf
        rw [hu]; rfl
  obtain ⟨Lf, res, h5, h6, h7⟩ := gw_ok (bz := 8) hc hgl (by omega) hnx (s := 0) (by omega)
  refine ⟨f, c, Lf, res, hn, ?_, h6, h7⟩
  obtain ⟨v, hv, _⟩ := hn.at (show 0 < g.length by omega)
  unfold m_impl_graph_minimal
  rw [makeI_some (by omega), Option.bind_some, h1, Option.bind_some]
  unfold m_impl_graph_minimal_A0
  rw [makeI_some (by omega), Option.bind_some, h2, Option.bind_some]
  unfold m_impl_graph_minimal_A3
  have hg0 : getI f (0 : Int) = some v := getI_some (n := 0) hv
  rw [hg0, Option.bind_some, grown_min]
  have hcv : cf f 0 = v := by unfold cf; rw [hv]; rfl
  rw [← hcv, h5, Option.bind_some]
end
end Go.Mod

namespace Go.Mod
open Go.AM
set_option linter.unusedVariables false
set_option linter.unusedSimpArgs false
structure Mk2 (R : Nat → Nat → Prop) (n : Nat) (f : List Int) : Prop where
  len : f.length = n
  rng : ∀ (a : Nat) v, f[a]? = some v → 0 ≤ v ∧ v < 200
  eqv : ∀ (a b : Nat) v w, f[a]? = some v → f[b]? = some w → (v = w ↔ R a b)
theorem Mk2.at {R : Nat → Nat → Prop} {n : Nat} {f : List Int} (h : Mk2 R n f) {a : Nat} (ha : a < n) : ∃ v, f[a]? = some v ∧ 0 ≤ v ∧ v < 200 := by
  have ha' : a < f.length := by rw [h.len]; exact ha
  exact ⟨f[a], List.getElem?_eq_getElem ha', h.rng a _ (List.getElem?_eq_getElem ha')⟩
section
variable {p : Policy} (hg : GOK p.Next)
include hg in
theorem cell_at {a e : Nat} (ha : a < p.Next.length) (he : e < 4) : ∃ x v, p.Next[a]? = some x ∧ x[e]? = some v ∧ -1 ≤ v ∧ v < p.Next.length ∧ dl p.Next a e = if v < 0 then none else some v.toNat := by
  obtain ⟨h4, hv⟩ := hg.row _ (List.getElem_mem ha)
  have hx : e < p.Next[a].length := by omega
  have hb := hv _ (List.getElem_mem hx)
  refine ⟨p.Next[a], p.Next[a][e], List.getElem?_eq_getElem ha, List.getElem?_eq_getElem hx, hb.1, hb.2, ?_⟩
  unfold dl
  rw [List.getElem?_eq_getElem ha, Option.bind_some, List.getElem?_eq_getElem hx, Option.bind_some]
include hg in
theorem alike_ok {f : List Int} {r : Nat} (hf : Mk2 (Rr (dl p.Next) r) p.Next.length f) {a b : Nat} (ha : a < p.Next.length) (hb : b < p.Next.length) :
    ∃ t, m_spec_l10Alike p f (a : Int) (b : Int) = some t ∧ (t = true ↔ Rr (dl p.Next) (r + 1) a b) := by
  obtain ⟨va, fa, _⟩ := hf.at ha
  obtain ⟨vb, fb, _⟩ := hf.at hb
  unfold m_spec_l10Alike
  rw [getI_some fa, Option.bind_some, getI_some fb, Option.bind_some]
  have hab := hf.eqv _ _ _ _ fa fb
  by_cases hv : va = vb
  · rw [decide_eq_true hv, Bool.not_true, cond_false]
    obtain ⟨t, h1, h2⟩ := iter_inv (step := m_spec_l10Alike_L0 p f a b) (fun s => ∃ e : Nat, s = (e : Int) ∧ e ≤ 4 ∧ ∀ k, k < e → Mt (Rr (dl p.Next) r) (dl p.Next a k) (dl p.Next b k)) (fun s => 4 - s.toNat)
      (fun t => (t = .inl () ∧ ∀ k, k < 4 → Mt (Rr (dl p.Next) r) (dl p.Next a k) (dl p.Next b k)) ∨ (t = .inr false ∧ ¬ ∀ k, k < 4 → Mt (Rr (dl p.Next) r) (dl p.Next a k) (dl p.Next b k)))
      (fun s ⟨e, he, h4, hI⟩ => by
        subst he
        unfold m_spec_l10Alike_L0
        by_cases hlt : e < 4
        · obtain ⟨xa, ua, ga, ha1, ha2, ha3, da⟩ := cell_at hg ha hlt
          obtain ⟨xb, ub, gb, hb1, hb2, hb3, db⟩ := cell_at hg hb hlt
          rw [decide_eq_true (show ((e : Nat) : Int) < 4 by omega), cond_true, getI_some ga, Option.bind_some, getI_some ha1, Option.bind_some, getI_some gb, Option.bind_some, getI_some hb1, Option.bind_some]
          have nxt : Mt (Rr (dl p.Next) r) (dl p.Next a e) (dl p.Next b e) → ∃ s', some (Ctl.next (τ := Unit ⊕ Bool) (w64 ((e : Int) + 1))) = some (.next s') ∧ (∃ e : Nat, s' = (e : Int) ∧ e ≤ 4 ∧ ∀ k, k < e → Mt (Rr (dl p.Next) r) (dl p.Next a k) (dl p.Next b k)) ∧ 4 - s'.toNat < 4 - ((e : Nat) : Int).toNat := by
            intro hm
            refine ⟨((e + 1 : Nat) : Int), by rw [w64_succ (by omega)], ⟨e + 1, rfl, by omega, fun k hk => ?_⟩, by omega⟩
            rcases Nat.lt_or_ge k e with h | h
            · exact hI k h
            · rw [show k = e by omega]; exact hm
          by_cases n1 : ua < 0 <;> by_cases n2 : ub < 0
          · rw [if_pos n1] at da; rw [if_pos n2] at db
            rw [decide_eq_true n1, decide_eq_true n2, decide_eq_false (show ¬ (0 : Int) ≤ ua by omega)]
            exact .inl (nxt (by rw [da, db]; trivial))
          · rw [if_pos n1] at da; rw [if_neg n2] at db
            rw [decide_eq_true n1, decide_eq_false n2]
            exact .inr ⟨_, rfl, .inr ⟨rfl, fun h => by have := h e hlt; rw [da, db] at this; exact this⟩⟩
          · rw [if_neg n1] at da; rw [if_pos n2] at db
            rw [decide_eq_false n1, decide_eq_true n2]
            exact .inr ⟨_, rfl, .inr ⟨rfl, fun h => by have := h e hlt; rw [da, db] at this; exact this⟩⟩
          · rw [if_neg n1] at da; rw [if_neg n2] at db
            obtain ⟨ca, hca, _⟩ := hf.at (show ua.toNat < p.Next.length by omega)
            obtain ⟨cb, hcb, _⟩ := hf.at (show ub.toNat < p.Next.length by omega)
            have hcc := hf.eqv _ _ _ _ hca hcb
            rw [decide_eq_false n1, decide_eq_false n2, decide_eq_true (show (0 : Int) ≤ ua by omega), getI_of (by omega) hca, Option.bind_some, getI_of (by omega) hcb, Option.bind_some]
            by_cases e1 : ca = cb
            · rw [decide_eq_true e1]
              exact .inl (nxt (by rw [da, db]; exact hcc.1 e1))
            · rw [decide_eq_false e1]
              exact .inr ⟨_, rfl, .inr ⟨rfl, fun h => by have := h e hlt; rw [da, db] at this; exact e1 (hcc.2 this)⟩⟩
        · have : e = 4 := by omega
          subst this
          exact .inr ⟨_, rfl, .inl ⟨rfl, hI⟩⟩)
      (s := (0 : Int)) ⟨0, rfl, by omega, fun k hk => by omega⟩
    rw [h1, Option.bind_some]
    rcases h2 with ⟨rfl, h2⟩ | ⟨rfl, h2⟩
    · exact ⟨true, rfl, fun _ => ⟨hab.1 hv, h2⟩, fun _ => rfl⟩
    · exact ⟨false, rfl, fun h => (by cases h), fun h => absurd h.2 h2⟩
  · rw [decide_eq_false hv, Bool.not_false, cond_true]
    exact ⟨false, rfl, fun h => (by cases h), fun h => absurd (hab.2 h.1) hv⟩
structure Mid2 (R : Nat → Nat → Prop) (i : Nat) (nx : List Int) : Prop where
  len : nx.length = i
  rng : ∀ (a : Nat) v, nx[a]? = some v → 0 ≤ v ∧ v ≤ a
  eqv : ∀ (a b : Nat) v w, nx[a]? = some v → nx[b]? = some w → (v = w ↔ R a b)
theorem Mid2.add {δ : Nat → Nat → Option Nat} {r i : Nat} {nx : List Int} {v : Int} (h : Mid2 (Rr δ r) i nx) (hv : (v = i ∧ ∀ k, k < i → ¬ Rr δ r k i) ∨ ∃ k, k < i ∧ Rr δ r k i ∧ nx[k]? = some v) : Mid2 (Rr δ r) (i + 1) (nx ++ [v]) := by
  have hget : ∀ (a : Nat) w, (nx ++ [v])[a]? = some w → (a < i ∧ nx[a]? = some w) ∨ (a = i ∧ w = v) := by
    intro a w ha
    rcases Nat.lt_or_ge a nx.length with hlt | hge
    · rw [List.getElem?_append_left hlt] at ha; exact .inl ⟨by rw [← h.len]; exact hlt, ha⟩
    · rw [List.getElem?_append_right hge] at ha
      have h0 : a - nx.length = 0 := by
        rcases Nat.eq_zero_or_pos (a - nx.length) with h | h
        · exact h
        · rw [List.getElem?_eq_none (by simp; omega)] at ha; cases ha
      rw [h0] at ha
      simp at ha
      exact .inr ⟨by have := h.len; omega, ha.symm⟩
  refine ⟨by simp [h.len], fun a w ha => ?_, fun a b x w ha hb => ?_⟩
  · rcases hget a w ha with ⟨_, h2⟩ | ⟨rfl, rfl⟩
    · exact h.rng a w h2
    · rcases hv with ⟨e, _⟩ | ⟨k, hk, _, h3⟩
      · omega
      · have := h.rng k _ h3; omega
  · rcases hget a x ha with ⟨la, ha2⟩ | ⟨rfl, rfl⟩ <;> rcases hget b w hb with ⟨lb, hb2⟩ | ⟨rfl, rfl⟩
    · exact h.eqv _ _ _ _ ha2 hb2
    · rcases hv with ⟨e, hno⟩ | ⟨k, hk, hr, h3⟩
      · have := h.rng a _ ha2
        exact ⟨fun g => by omega, fun g => absurd g (hno a la)⟩
      · rw [h.eqv _ _ _ _ ha2 h3]
        exact ⟨fun g => g.trans hr, fun g => g.trans hr.symm⟩
    · rcases hv with ⟨e, hno⟩ | ⟨k, hk, hr, h3⟩
      · have := h.rng b _ hb2
        exact ⟨fun g => by omega, fun g => absurd g.symm (hno b lb)⟩
      · rw [h.eqv _ _ _ _ h3 hb2]
        exact ⟨fun g => hr.symm.trans g, fun g => hr.trans g⟩
    · exact ⟨fun _ => Rr.refl _ _, fun _ => rfl⟩
include hg in
theorem find_ok {f : List Int} {r : Nat} (hf : Mk2 (Rr (dl p.Next) r) p.Next.length f) {i : Nat} (hi : i < p.Next.length) {nx : List Int} (h : Mid2 (Rr (dl p.Next) (r + 1)) i nx) (rd : Int) :
    ∃ t, iter (m_spec_l10Classes_L2 p (f, rd) (nx, (i : Int))) ((-1 : Int), (0 : Int)) = some t ∧ ((t = -1 ∧ ∀ k, k < i → ¬ Rr (dl p.Next) (r + 1) k i) ∨ ∃ k, k < i ∧ Rr (dl p.Next) (r + 1) k i ∧ nx[k]? = some t) := by
  have hgl := hg.le
  refine iter_inv (step := m_spec_l10Classes_L2 p (f, rd) (nx, (i : Int))) (fun s => ∃ k : Nat, s.2 = (k : Int) ∧ k ≤ i ∧ ((s.1 = -1 ∧ ∀ j, j < k → ¬ Rr (dl p.Next) (r + 1) j i) ∨ ∃ j, j < i ∧ Rr (dl p.Next) (r + 1) j i ∧ nx[j]? = some s.1)) (fun s => i - s.2.toNat) _
    (fun s ⟨k, hk, hki, hs⟩ => ?_) (s := ((-1 : Int), (0 : Int))) ⟨0, rfl, by omega, .inl ⟨rfl, fun j hj => by omega⟩⟩
  unfold m_spec_l10Classes_L2
  simp only
  rw [hk]
  have hout : ∀ j, nx[j]? = some s.1 → 0 ≤ s.1 := fun j hj => (h.rng j _ hj).1
  by_cases hlt : k < i
  · rcases hs with ⟨h1, h2⟩ | ⟨j, h1, h2, h3⟩
    · obtain ⟨t, e1, e2⟩ := alike_ok hg hf (a := k) (b := i) (by omega) hi
      rw [h1, dec_lt hlt, decide_eq_true (show (-1 : Int) < 0 by omega), Bool.and_self, cond_true, e1, Option.bind_some]
      obtain ⟨w, hw⟩ : ∃ w, nx[k]? = some w := ⟨_, List.getElem?_eq_getElem (show k < nx.length by rw [h.len]; exact hlt)⟩
      cases t with
      | true =>
        rw [cond_true, getI_some hw, Option.bind_some, w64_succ (by omega)]
        exact .inl ⟨_, rfl, ⟨k + 1, rfl, by omega, .inr ⟨k, hlt, e2.1 rfl, hw⟩⟩, by show i - ((k + 1 : Nat) : Int).toNat < i - ((k : Nat) : Int).toNat; omega⟩
      | false =>
        rw [cond_false, w64_succ (by omega)]
        refine .inl ⟨_, rfl, ⟨k + 1, rfl, by omega, .inl ⟨rfl, fun j hj => ?_⟩⟩, by show i - ((k + 1 : Nat) : Int).toNat < i - ((k : Nat) : Int).toNat; omega⟩
        rcases Nat.lt_or_ge j k with g | g
        · exact h2 j g
        · rw [show j = k by omega]; exact fun q => by have := e2.2 q; cases this
    · have := hout j h3
      rw [decide_eq_false (show ¬ s.1 < 0 by omega), Bool.and_false, cond_false]
      exact .inr ⟨_, rfl, .inr ⟨j, h1, h2, h3⟩⟩
  · have : k = i := by omega
    subst this
    rw [dec_self, Bool.false_and, cond_false]
    exact .inr ⟨_, rfl, hs⟩
include hg in
theorem round2 {f : List Int} {r : Nat} (hf : Mk2 (Rr (dl p.Next) r) p.Next.length f) (rd : Int) : ∃ f', iter (m_spec_l10Classes_L1 p (f, rd)) (([] : List Int), (0 : Int)) = some f' ∧ Mk2 (Rr (dl p.Next) (r + 1)) p.Next.length f' := by
  have hgl := hg.le
  obtain ⟨f', h1, h2⟩ := iter_inv (step := m_spec_l10Classes_L1 p (f, rd)) (fun s => ∃ i : Nat, s.2 = (i : Int) ∧ i ≤ p.Next.length ∧ Mid2 (Rr (dl p.Next) (r + 1)) i s.1) (fun s => p.Next.length - s.2.toNat) (fun t => Mid2 (Rr (dl p.Next) (r + 1)) p.Next.length t)
    (fun s ⟨i, hs, hi, hm⟩ => by
      unfold m_spec_l10Classes_L1
      rw [hs]
      by_cases hlt : i < p.Next.length
      · obtain ⟨t, e1, e2⟩ := find_ok hg hf hlt hm rd
        have hs1 : s = (s.1, (i : Int)) := by rw [← hs]
        rw [dec_lt hlt, cond_true, hs1, e1, Option.bind_some]
        unfold m_spec_l10Classes_A2
        simp only
        have hl := hm.len
        rcases e2 with ⟨rfl, e2⟩ | ⟨k, hk, e3, e4⟩
        · rw [decide_eq_true (show (-1 : Int) < 0 by omega), cond_true, capI_some (by simp; omega), Option.bind_some, w64_succ (by omega)]
          exact .inl ⟨_, rfl, ⟨i + 1, rfl, by omega, hm.add (.inl ⟨rfl, e2⟩)⟩, by show p.Next.length - ((i + 1 : Nat) : Int).toNat < p.Next.length - ((i : Nat) : Int).toNat; omega⟩
        · have := hm.rng k _ e4
          rw [decide_eq_false (show ¬ t < 0 by omega), cond_false, capI_some (by simp; omega), Option.bind_some, w64_succ (by omega)]
          exact .inl ⟨_, rfl, ⟨i + 1, rfl, by omega, hm.add (.inr ⟨k, hk, e3, e4⟩)⟩, by show p.Next.length - ((i + 1 : Nat) : Int).toNat < p.Next.length - ((i : Nat) : Int).toNat; omega⟩
      · have : i = p.Next.length := by omega
        subst this
        rw [dec_self, cond_false]
        exact .inr ⟨_, rfl, hm⟩)
    (s := (([] : List Int), (0 : Int))) ⟨0, rfl, by omega, rfl, fun a v hv => (by simp at hv), fun a b v w hv => (by simp at hv)⟩
  exact ⟨f', h1, h2.len, fun a v hv => by have := h2.rng a v hv; have := get_lt hv; have := h2.len; omega, h2.eqv⟩
include hg in
theorem classes_ok : ∃ f, m_spec_l10Classes p = some f ∧ f.length = p.Next.length ∧ ∀ (a b : Nat) v w, f[a]? = some v → f[b]? = some w → (v = w ↔ Ra (dl p.Next) a b) := by
  have hgl := hg.le
  obtain ⟨f, h1, h2⟩ := iter_inv (step := m_spec_l10Classes_L0 p) (fun s => ∃ r : Nat, s.2 = (r : Int) ∧ r ≤ p.Next.length ∧ Mk2 (Rr (dl p.Next) r) p.Next.length s.1) (fun s => p.Next.length - s.2.toNat) (fun t => Mk2 (Rr (dl p.Next) p.Next.length) p.Next.length t)
    (fun s ⟨r, hs, hr, hm⟩ => by
      unfold m_spec_l10Classes_L0
      rw [hs]
      by_cases hlt : r < p.Next.length
      · obtain ⟨f', e1, e2⟩ := round2 hg hm s.2
        rw [dec_lt hlt, cond_true]
        have e1 : iter (m_spec_l10Classes_L1 p s) (([] : List Int), (0 : Int)) = some f' := e1
        rw [e1, Option.bind_some]
        unfold m_spec_l10Classes_A1
        rw [hs, w64_succ (by omega)]
        exact .inl ⟨_, rfl, ⟨r + 1, rfl, by omega, e2⟩, by show p.Next.length - ((r + 1 : Nat) : Int).toNat < p.Next.length - ((r : Nat) : Int).toNat; omega⟩
      · have : r = p.Next.length := by omega
        subst this
        rw [dec_self, cond_false]
        exact .inr ⟨_, rfl, hm⟩)
    (s := (List.replicate p.Next.length (0 : Int), (0 : Int))) ⟨0, rfl, by omega, by simp, fun a v hv => (by
        rw [List.getElem?_replicate] at hv; split at hv
        · have := Option.some.inj hv; omega
        · cases hv), fun a b v w hv hw => by
        rw [List.getElem?_replicate] at hv hw; split at hv <;> split at hw
        · have := Option.some.inj hv; have := Option.some.inj hw; exact ⟨fun _ => trivial, fun _ => by omega⟩
        · cases hw
        · cases hv
        · cases hv⟩
  refine ⟨f, ?_, h2.len, fun a b v w hv hw => ?_⟩
  · unfold m_spec_l10Classes
    rw [makeI_some (by omega), Option.bind_some, h1]; rfl
  · rw [h2.eqv a b v w hv hw]
    exact stab_n (dl_clo hg) hg.pos a b (by rw [← h2.len]; exact get_lt hv) (by rw [← h2.len]; exact get_lt hw)
end
theorem kfind_last {K : Type} [DecidableEq K] {c x : K} {ks : List K} {k : Nat} (hk : ks[k]? = some x) (hn : ks.Nodup) : kfind c (ks.take (k + 1)) = if x = c then some k else kfind c (ks.take k) := by
  have hl : (ks.take k).length = k := by rw [List.length_take]; have := get_lt hk; omega
  rw [List.take_add_one, hk, Option.toList_some, kfind_app, hl]
  by_cases e : x = c
  · subst e
    rw [if_pos rfl]
    cases h : kfind x (ks.take k) with
    | none => rw [if_pos rfl]
    | some i =>
      have h1 := kfind_some h
      rw [List.getElem?_take] at h1
      split at h1
      · rename_i hi
        have h2 := (List.getElem?_eq_some_iff.1 h1)
        have h3 := (List.getElem?_eq_some_iff.1 hk)
        have := List.pairwise_iff_getElem.1 hn i k h2.1 h3.1 hi
        exact absurd (h2.2.trans h3.2.symm) this
      · cases h1
  · rw [if_neg e]
    cases kfind c (ks.take k) with
    | none => simp only [if_neg e]
    | some i => simp only [if_neg e]
section
variable {p : Policy} (hg : GOK p.Next) {f : List Int} (hfl : f.length = p.Next.length)
include hg hfl in
theorem look_ok {L : List Nat} (hm : Met (cf f) p.Next.length L) {x : Nat} (hx : x < p.Next.length) (l1 row : List Int) (e : Int) :
    iter (m_spec_l10Minimal_L2 f (l1, L.map (cf f), row, e) (x : Int)) ((-1 : Int), (0 : Int)) = some (match kfind (cf f x) (L.map (cf f)) with | some j => (j : Int) | none => -1) := by
  have hml := hm.len
  have hgl := hg.le
  have hfx : f[x]? = some (cf f x) := by unfold cf; rw [List.getElem?_eq_getElem (by omega)]; rfl
  obtain ⟨t, h1, h2⟩ := iter_inv (step := m_spec_l10Minimal_L2 f (l1, L.map (cf f), row, e) (x : Int)) (fun s => ∃ k : Nat, s.2 = (k : Int) ∧ k ≤ (L.map (cf f)).length ∧ s.1 = match kfind (cf f x) ((L.map (cf f)).take k) with | some j => (j : Int) | none => -1)
    (fun s => (L.map (cf f)).length - s.2.toNat) (fun t => t = match kfind (cf f x) (L.map (cf f)) with | some j => (j : Int) | none => -1)
    (fun s ⟨k, hk, hkl, hs⟩ => by
      unfold m_spec_l10Minimal_L2
      simp only
      rw [hk]
      by_cases hlt : k < (L.map (cf f)).length
      · have hv := List.getElem?_eq_getElem hlt
        rw [dec_lt hlt, cond_true, getI_some hv, Option.bind_some, getI_some hfx, Option.bind_some, w64_succ (by rw [List.length_map] at hlt; omega)]
        have hl := kfind_last (c := cf f x) hv hm.nd
        by_cases e1 : (L.map (cf f))[k] = cf f x
        · rw [decide_eq_true e1, cond_true]
          exact .inl ⟨_, rfl, ⟨k + 1, rfl, by omega, by rw [hl, if_pos e1]⟩, by show (L.map (cf f)).length - ((k + 1 : Nat) : Int).toNat < (L.map (cf f)).length - ((k : Nat) : Int).toNat; omega⟩
        · rw [decide_eq_false e1, cond_false]
          exact .inl ⟨_, rfl, ⟨k + 1, rfl, by omega, by rw [hl, if_neg e1]; exact hs⟩, by show (L.map (cf f)).length - ((k + 1 : Nat) : Int).toNat < (L.map (cf f)).length - ((k : Nat) : Int).toNat; omega⟩
      · have : k = (L.map (cf f)).length := by omega
        subst this
        rw [dec_self, cond_false]
        exact .inr ⟨_, rfl, by rw [hs, List.take_length]⟩)
    (s := ((-1 : Int), (0 : Int))) ⟨0, rfl, by omega, by simp [kfind]⟩
  rw [h1, h2]
def ns (L : List Nat) : List Int := L.map fun i : Nat => (i : Int)
include hg hfl in
theorem row2 {i s : Nat} (hs : s < p.Next.length) (s0 : (List Int) × (List Int) × (List (List Int)) × Int) (h0 : s0.2.2.2 = (i : Int)) : ∀ (k e : Nat) (L : List Nat) (row : List Int), e + k = 4 → L[i]? = some s → Met (cf f) p.Next.length L → row.length ≤ e →
    iter (m_spec_l10Minimal_L1 p f s0) (ns L, L.map (cf f), row, (e : Int)) = some (ns (hops (dl p.Next) (cf f) s k e L row).1, (hops (dl p.Next) (cf f) s k e L row).1.map (cf f), (hops (dl p.Next) (cf f) s k e L row).2)
  | 0, e, L, row, he, _, _, _ => by
    have : e = 4 := by omega
    subst this
    exact iter_out rfl
  | k + 1, e, L, row, he, hi, hm, hr => by
    have hml := hm.len
    have hgl := hg.le
    have hc := dl_clo hg
    obtain ⟨x, v, g1, g2, g3, g4, hd⟩ := cell_at hg hs (show e < 4 by omega)
    have step : m_spec_l10Minimal_L1 p f s0 (ns L, L.map (cf f), row, (e : Int)) = some (.next (ns (hop (cf f) L row (dl p.Next s e)).1, (hop (cf f) L row (dl p.Next s e)).1.map (cf f), (hop (cf f) L row (dl p.Next s e)).2, ((e + 1 : Nat) : Int))) := by
      unfold m_spec_l10Minimal_L1
      simp only
      rw [decide_eq_true (show ((e : Nat) : Int) < 4 by omega), cond_true, h0, getI_some (show (ns L)[i]? = some (s : Int) by unfold ns; rw [List.getElem?_map, hi]; rfl), Option.bind_some, getI_some g1, Option.bind_some, getI_some g2, Option.bind_some]
      by_cases n1 : v < 0
      · rw [if_pos n1] at hd
        rw [decide_eq_true n1, cond_true, capI_some (by simp; omega), Option.bind_some, w64_succ (by omega), hd]
        rfl
      · rw [if_neg n1] at hd
        have hvx : v = ((v.toNat : Nat) : Int) := by omega
        have hxn := hc s e _ hs (by omega) hd
        rw [decide_eq_false n1, cond_false, hvx, look_ok hg hfl hm hxn, Option.bind_some, hd]
        unfold m_spec_l10Minimal_A2
        simp only
        have hfx : f[v.toNat]? = some (cf f v.toNat) := by unfold cf; rw [List.getElem?_eq_getElem (by omega)]; rfl
        cases hk : kfind (cf f v.toNat) (L.map (cf f)) with
        | some j =>
          simp only [Int.toNat_natCast, hk]
          rw [decide_eq_false (show ¬ ((j : Nat) : Int) < 0 by omega), cond_false, capI_some (by simp; omega), Option.bind_some, w64_succ (by omega)]
          simp only [hop, hk]
        | none =>
          simp only [Int.toNat_natCast, hk]
          rw [decide_eq_true (show (-1 : Int) < 0 by omega), cond_true, getI_some hfx, Option.bind_some, capI_some (by simp; omega), Option.bind_some, capI_some (by simp [ns]; omega), Option.bind_some, capI_some (by simp; omega), Option.bind_some, w64_succ (by omega)]
          simp [hop, hk, ns]
    obtain ⟨T, hT⟩ := hop_pre (cl := cf f) (L := L) (row := row) (o := dl p.Next s e)
    rw [iter_next step]
    exact row2 hs s0 h0 k (e + 1) _ _ (by omega) (by rw [hT, List.getElem?_append_left (get_lt hi)]; exact hi) (hm.hop (fun x h => hc s e x hs (by omega) h)) (by rw [hop_row]; omega)
include hg hfl in
theorem loop2 : ∀ (m i : Nat) (L : List Nat) (out : List (List Int)), p.Next.length ≤ i + m → i ≤ L.length → Met (cf f) p.Next.length L → out.length = i →
    ∃ Lf res, iter (m_spec_l10Minimal_L0 p f) (ns L, L.map (cf f), out, (i : Int)) = some res ∧ Bfs (dl p.Next) (cf f) i L out Lf res ∧ Met (cf f) p.Next.length Lf := by
  have hgl := hg.le
  have hc := dl_clo hg
  intro m
  induction m with
  | zero =>
    intro i L out hm hi hmet ho
    have := hmet.len
    refine ⟨L, out, iter_out ?_, .done (by omega), hmet⟩
    unfold m_spec_l10Minimal_L0 ns
    simp only
    rw [List.length_map, decide_eq_false (by omega), cond_false]
  | succ m ih =>
    intro i L out hm hi hmet ho
    have hml := hmet.len
    by_cases hlt : i < L.length
    · have hs : L[i]? = some L[i] := List.getElem?_eq_getElem hlt
      have hsn := hmet.lt _ (List.getElem_mem hlt)
      have h1 := row2 hg hfl hsn (ns L, L.map (cf f), out, (i : Int)) rfl 4 0 L [] rfl hs hmet (by simp)
      obtain ⟨T, hT⟩ := hops_pre (δ := dl p.Next) (cl := cf f) L[i] 4 0 L []
      have h2 : ∀ (k e : Nat) (L' : List Nat) (row : List Int), e + k ≤ 4 → Met (cf f) p.Next.length L' → Met (cf f) p.Next.length (hops (dl p.Next) (cf f) L[i] k e L' row).1 := by
        intro k
        induction k with
        | zero => intro e L' row _ h; exact h
        | succ k ihk => intro e L' row he h; exact ihk (e + 1) _ _ (by omega) (h.hop (fun x hx => hc _ _ _ hsn (by omega) hx))
      have hmet2 := h2 4 0 L [] (by omega) hmet
      have hstep : m_spec_l10Minimal_L0 p f (ns L, L.map (cf f), out, (i : Int)) = some (.next (ns (hops (dl p.Next) (cf f) L[i] 4 0 L []).1, (hops (dl p.Next) (cf f) L[i] 4 0 L []).1.map (cf f), out ++ [(hops (dl p.Next) (cf f) L[i] 4 0 L []).2], ((i + 1 : Nat) : Int))) := by
        unfold m_spec_l10Minimal_L0
        simp only
        have h1 : iter (m_spec_l10Minimal_L1 p f (ns L, L.map (cf f), out, (i : Int))) (ns L, L.map (cf f), [], (0 : Int)) = _ := h1
        rw [show (ns L).length = L.length from List.length_map _, dec_lt hlt, cond_true, h1, Option.bind_some]
        unfold m_spec_l10Minimal_A1
        simp only
        rw [capI_some (by simp; omega), Option.bind_some, w64_succ (by omega)]
      obtain ⟨Lf, res, h4, h5, h6⟩ := ih (i + 1) (hops (dl p.Next) (cf f) L[i] 4 0 L []).1 (out ++ [(hops (dl p.Next) (cf f) L[i] 4 0 L []).2]) (by omega) (by rw [hT]; simp; omega) hmet2 (by simp [ho])
      exact ⟨Lf, res, by rw [iter_next hstep]; exact h4, .step hs h5, h6⟩
    · refine ⟨L, out, iter_out ?_, .done (by omega), hmet⟩
      unfold m_spec_l10Minimal_L0 ns
      simp only
      rw [List.length_map, decide_eq_false (by omega), cond_false]
include hg in
theorem spec_minimal : ∃ f Lf res, f.length = p.Next.length ∧ (∀ (a b : Nat) v w, f[a]? = some v → f[b]? = some w → (v = w ↔ Ra (dl p.Next) a b)) ∧ m_spec_l10Minimal p = some ⟨res⟩ ∧ Bfs (dl p.Next) (cf f) 0 [0] [] Lf res ∧ Met (cf f) p.Next.length Lf := by
  have hgp := hg.pos
  obtain ⟨f, h1, h2, h3⟩ := classes_ok hg
  obtain ⟨Lf, res, h4, h5, h6⟩ := loop2 hg h2 p.Next.length 0 [0] [] (by omega) (by simp) ⟨by simp, by simp; omega⟩ rfl
  refine ⟨f, Lf, res, h2, h3, ?_, h5, h6⟩
  have hf0 : f[0]? = some (cf f 0) := by unfold cf; rw [List.getElem?_eq_getElem (by omega)]; rfl
  unfold m_spec_l10Minimal
  rw [h1, Option.bind_some, show getI f (0 : Int) = some (cf f 0) from getI_some (n := 0) hf0, Option.bind_some]
  have h4 : iter (m_spec_l10Minimal_L0 p f) ([(0 : Int)], [cf f 0], [], (0 : Int)) = some res := h4
  rw [h4]; rfl
end
theorem cf_iff {R : Nat → Nat → Prop} {n : Nat} {f : List Int} (hl : f.length = n) (h : ∀ (a b : Nat) v w, f[a]? = some v → f[b]? = some w → (v = w ↔ R a b)) {a b : Nat} (ha : a < n) (hb : b < n) : cf f a = cf f b ↔ R a b := by
  have h1 : f[a]? = some (cf f a) := by unfold cf; rw [List.getElem?_eq_getElem (by omega)]; rfl
  have h2 : f[b]? = some (cf f b) := by unfold cf; rw [List.getElem?_eq_getElem (by omega)]; rfl
  exact h a b _ _ h1 h2
theorem Bfs.size {K : Type} [DecidableEq K] {δ : Nat → Nat → Option Nat} {cl : Nat → K} {i : Nat} {L Lf : List Nat} {out res : List (List Int)} (h : Bfs δ cl i L out Lf res) : i ≤ L.length → out.length = i → (∀ x ∈ out, x.length = 4) → res.length = Lf.length ∧ ∀ x ∈ res, x.length = 4 := by
  induction h with
  | done hl => exact fun h1 h2 h3 => ⟨by omega, h3⟩
  | @step i s L Lf out res hs hb ih =>
    intro h1 h2 h3
    obtain ⟨T, hT⟩ := hops_pre (δ := δ) (cl := cl) s 4 0 L []
    refine ih (by rw [hT]; have := get_lt hs; simp; omega) (by simp [h2]) (fun x hx => ?_)
    rcases List.mem_append.1 hx with hx | hx
    · exact h3 x hx
    · simp at hx; subst hx; rw [hops_row]; rfl
theorem gok_of_vP {p : Policy} (h : vP p = true) : GOK p.Next :=
  ⟨(vP_len h).1, by have := (vP_len h).2; omega, fun x hx => ⟨(vP_row h hx).1, fun v hv => by have := (vP_row h hx).2 v hv; omega⟩⟩
end Go.Mod

namespace Go.Mod
open Go.AM
set_option linter.unusedVariables false
set_option linter.unusedSimpArgs false
section
variable {p : Policy} (hv : vP p = true)
include hv in
include hv in
end
end Go.Mod

namespace Go.Mod
open Go.AM
set_option linter.unusedVariables false
set_option linter.unusedSimpArgs false
def splitL (c : UInt8) : List UInt8 → List (List UInt8)
  | [] => [[]]
  | b :: l => if b = c then [] :: splitL c l else match splitL c l with
    | [] => [[b]]
    | x :: r => (b :: x) :: r
def dstep (u : Int) (b : UInt8) : Int := if 48 ≤ b.toNat ∧ b.toNat ≤ 57 then 10 * u + ((b.toNat : Int) - 48) else u
def val (x : List UInt8) : Int := if x.head? = some 45 then -(x.foldl dstep 0) else x.foldl dstep 0
def rd (x : List UInt8) : Int × Bool := if (-1000000000 ≤ val x ∧ val x ≤ 1000000000) ∧ nm (val x) = x then (val x, true) else (0, false)
def sc (x : List UInt8) : Int := if (rd x).2 = true then (rd x).1 else -1
def rows (s : List UInt8) : List (List Int) := (splitL 47 s).map fun r => (splitL 44 r).map sc
def pre (row : List Int) : List (List Int) → List (List Int)
  | [] => [row]
  | h :: t => (row ++ h) :: t
theorem spec_vP0 {p : Policy} : m_spec_l10Is p = some (vP p) := by
  unfold m_spec_l10Is m_spec_l00In vP
  rw [Option.bind_some, dec_leI, dec_le12]
  cases h0 : decide (1 ≤ p.Next.length) && decide (p.Next.length ≤ 12) with
  | false => rfl
  | true =>
    simp only [Bool.and_eq_true, decide_eq_true_eq] at h0
    have h := iter_for (step := m_spec_l10Is_L0 p) p.Next (fun n (_ : Unit) => (n : Int)) (fun _ x _ => bif rowOK p.Next.length x then some (.next ()) else some (.out (.inr false))) (fun _ => .inl ())
      (fun n x r hx => by
        have hlt := get_lt hx
        unfold m_spec_l10Is_L0 rowOK
        rw [dec_lt hlt, cond_true, getI_some hx, Option.bind_some]
        by_cases h4 : x.length = 4
        · rw [decide_eq_true h4, decide_eq_true (show (x.length : Int) = 4 by omega), Bool.not_true, cond_false, spec_row h4 h0.2 h0.1, Bool.true_and, Option.bind_some]
          cases x.all fun v => decide (-1 ≤ v) && decide (v ≤ (p.Next.length : Int) - 1)
          · rfl
          · unfold m_spec_l10Is_A1
            simp only [cond_true]
            rw [w64_succ (by omega)]; rfl
        · rw [decide_eq_false h4, decide_eq_false (show ¬ (x.length : Int) = 4 by omega)]; rfl)
      (fun r => by unfold m_spec_l10Is_L0; rw [dec_self]; rfl) ()
    rw [forL_all (rowOK p.Next.length) _ _ (fun n x _ => rfl)] at h
    rw [Bool.not_true, cond_false, show (0 : Int) = ((0 : Nat) : Int) from rfl, h, Option.bind_some, Bool.true_and]
    cases p.Next.all (rowOK p.Next.length) <;> rfl
end Go.Mod

namespace Go.Mod
open Go.AM
set_option linter.unusedVariables false
set_option linter.unusedSimpArgs false
def Cell {K : Type} (cl : Nat → K) (L : List Nat) (o : Option Nat) (c : Int) : Prop :=
  match o with
  | none => c = -1
  | some x => ∃ (t y : Nat), c = (t : Int) ∧ L[t]? = some y ∧ cl y = cl x
theorem Cell.more {K : Type} {cl : Nat → K} {L M : List Nat} {o : Option Nat} {c : Int} (h : Cell cl L o c) : Cell cl (L ++ M) o c := by
  cases o with
  | none => exact h
  | some x =>
    obtain ⟨t, y, h1, h2, h3⟩ := h
    exact ⟨t, y, h1, by rw [List.getElem?_append_left (get_lt h2)]; exact h2, h3⟩
section
variable {K : Type} [DecidableEq K] {δ : Nat → Nat → Option Nat} {cl : Nat → K}
theorem hop_cell {L : List Nat} {row : List Int} {o : Option Nat} : ∃ c, (hop cl L row o).2 = row ++ [c] ∧ Cell cl (hop cl L row o).1 o c := by
  unfold hop
  cases o with
  | none => exact ⟨_, rfl, rfl⟩
  | some x =>
    cases hk : kfind (cl x) (L.map cl) with
    | some j =>
      simp only [hk]
      have := kfind_some hk
      rw [List.getElem?_map] at this
      cases hy : L[j]? with
      | none => rw [hy] at this; cases this
      | some y => rw [hy] at this; exact ⟨_, rfl, j, y, rfl, hy, Option.some.inj this⟩
    | none =>
      simp only [hk]
      exact ⟨_, rfl, L.length, x, rfl, by simp, rfl⟩
theorem hops_cells (s : Nat) : ∀ (k e : Nat) (L : List Nat) (row : List Int), ∃ cs, (hops δ cl s k e L row).2 = row ++ cs ∧ cs.length = k ∧ ∀ j, j < k → ∃ c, cs[j]? = some c ∧ Cell cl (hops δ cl s k e L row).1 (δ s (e + j)) c
  | 0, e, L, row => ⟨[], by simp [hops], rfl, fun j hj => by omega⟩
  | k + 1, e, L, row => by
    obtain ⟨c, h1, h2⟩ := hop_cell (cl := cl) (L := L) (row := row) (o := δ s e)
    obtain ⟨cs, h3, h4, h5⟩ := hops_cells s k (e + 1) (hop cl L row (δ s e)).1 (hop cl L row (δ s e)).2
    obtain ⟨M, hM⟩ := hops_pre (δ := δ) (cl := cl) s k (e + 1) (hop cl L row (δ s e)).1 (hop cl L row (δ s e)).2
    refine ⟨c :: cs, ?_, by simp [h4], fun j hj => ?_⟩
    · simp only [hops]; rw [h3, h1]; simp
    · cases j with
      | zero => exact ⟨c, rfl, by simp only [hops]; rw [hM]; exact h2.more⟩
      | succ j =>
        obtain ⟨d, h6, h7⟩ := h5 j (by omega)
        exact ⟨d, by simpa using h6, by simp only [hops]; rw [show e + (j + 1) = e + 1 + j by omega]; exact h7⟩
theorem Bfs.rows {i : Nat} {L Lf : List Nat} {out res : List (List Int)} (h : Bfs δ cl i L out Lf res) : i ≤ L.length → out.length = i →
    (∃ T, Lf = L ++ T) ∧ (∃ U, res = out ++ U) ∧ res.length = Lf.length ∧ ∀ j, i ≤ j → j < Lf.length → ∃ s row, Lf[j]? = some s ∧ res[j]? = some row ∧ row.length = 4 ∧ ∀ e, e < 4 → ∃ c, row[e]? = some c ∧ Cell cl Lf (δ s e) c := by
  induction h with
  | done hl => exact fun h1 h2 => ⟨⟨[], by simp⟩, ⟨[], by simp⟩, by omega, fun j h3 h4 => by omega⟩
  | @step i s L Lf out res hs hb ih =>
    intro h1 h2
    obtain ⟨T, hT⟩ := hops_pre (δ := δ) (cl := cl) s 4 0 L []
    obtain ⟨cs, c1, c2, c3⟩ := hops_cells (δ := δ) (cl := cl) s 4 0 L []
    obtain ⟨⟨T2, e1⟩, ⟨U, e2⟩, e3, e4⟩ := ih (by rw [hT]; have := get_lt hs; simp; omega) (by simp [h2])
    refine ⟨⟨T ++ T2, by rw [e1, hT, List.append_assoc]⟩, ⟨[(hops δ cl s 4 0 L []).2] ++ U, by rw [e2, List.append_assoc]⟩, e3, fun j hj hjl => ?_⟩
    rcases Nat.eq_or_lt_of_le hj with rfl | hlt
    · refine ⟨s, (hops δ cl s 4 0 L []).2, ?_, ?_, by rw [hops_row]; rfl, fun e he => ?_⟩
      · rw [e1, hT, List.append_assoc, List.getElem?_append_left (get_lt hs)]; exact hs
      · rw [e2, List.append_assoc, List.getElem?_append_right (by omega), h2]; simp
      · obtain ⟨c, d1, d2⟩ := c3 e he
        refine ⟨c, by rw [c1]; simpa using d1, ?_⟩
        rw [Nat.zero_add] at d2
        rw [e1]
        exact d2.more
    · exact e4 j hlt hjl
end
theorem quoI_nat {a b : Nat} (hb : 0 < b) (ha : a < 1000) : quoI (a : Int) (b : Int) = some ((a / b : Nat) : Int) := by
  unfold quoI
  rw [decide_eq_false (by omega), cond_false]
  have h1 : a / b ≤ a := Nat.div_le_self _ _
  have e : Int.tdiv (a : Int) (b : Int) = ((a / b : Nat) : Int) := rfl
  rw [e]
  generalize a / b = k at h1
  rw [w64_eq (by omega)]
theorem remI_nat {a b : Nat} (hb : 0 < b) : remI (a : Int) (b : Int) = some ((a % b : Nat) : Int) := by
  unfold remI
  rw [decide_eq_false (by omega), cond_false]
  rfl
section
variable {p q : Policy} (hp : vP p = true) (hq : vP q = true)
def pr (q : Policy) (i : Nat) : Int × Int := (((i / q.Next.length : Nat) : Int), ((i % q.Next.length : Nat) : Int))
def bthE (q : Policy) (x y : Int) : Int := if x < 0 ∨ y < 0 then -1 else x * (q.Next.length : Int) + y
include hp hq in
theorem pair_at {i e : Nat} (hi : i < p.Next.length * q.Next.length) (he : e < 4) : ∃ xr x yr y, p.Next[i / q.Next.length]? = some xr ∧ xr[e]? = some x ∧ q.Next[i % q.Next.length]? = some yr ∧ yr[e]? = some y ∧
    -1 ≤ x ∧ x < p.Next.length ∧ -1 ≤ y ∧ y < q.Next.length := by
  have h1 := vP_len hq
  have ha : i / q.Next.length < p.Next.length := (Nat.div_lt_iff_lt_mul (by omega)).2 hi
  have hb : i % q.Next.length < q.Next.length := Nat.mod_lt _ (by omega)
  obtain ⟨a4, av⟩ := vP_row hp (List.getElem_mem ha)
  obtain ⟨b4, bv⟩ := vP_row hq (List.getElem_mem hb)
  have l1 : e < (p.Next[i / q.Next.length]).length := by omega
  have l2 : e < (q.Next[i % q.Next.length]).length := by omega
  have v1 := av _ (List.getElem_mem l1)
  have v2 := bv _ (List.getElem_mem l2)
  exact ⟨_, _, _, _, List.getElem?_eq_getElem ha, List.getElem?_eq_getElem l1, List.getElem?_eq_getElem hb, List.getElem?_eq_getElem l2, v1.1, by omega, v2.1, by omega⟩
theorem code_lt {a b n m : Nat} (ha : a < n) (hb : b < m) : a * m + b < n * m := by
  have : (a + 1) * m ≤ n * m := Nat.mul_le_mul_right m ha
  rw [Nat.add_mul, Nat.one_mul] at this
  omega
theorem code_of {x y : Int} {m : Nat} (hx : 0 ≤ x) (hy : 0 ≤ y) : ((x.toNat * m + y.toNat : Nat) : Int) = x * (m : Int) + y := by
  rw [Int.natCast_add, Int.natCast_mul, Int.toNat_of_nonneg hx, Int.toNat_of_nonneg hy]
theorem bnd_mul {n m : Nat} (h1 : n ≤ 12) (h2 : m ≤ 12) : n * m ≤ 144 := Nat.mul_le_mul h1 h2
include hp hq in
theorem both_ok : ∃ g, m_spec_l10Both p q = some ⟨g⟩ ∧ g.length = p.Next.length * q.Next.length ∧ ∀ i, i < p.Next.length * q.Next.length → ∃ row, g[i]? = some row ∧ row.length = 4 ∧
    ∀ e xr x yr y, e < 4 → p.Next[i / q.Next.length]? = some xr → xr[e]? = some x → q.Next[i % q.Next.length]? = some yr → yr[e]? = some y → row[e]? = some (bthE q x y) := by
  have h1 := vP_len hp
  have h2 := vP_len hq
  have hb := bnd_mul h1.2 h2.2
  have row_ok : ∀ i, i < p.Next.length * q.Next.length → ∀ s0 : (List (List Int)) × Int, s0.2 = (i : Int) → ∃ row, iter (m_spec_l10Both_L1 p q s0) (([] : List Int), (0 : Int)) = some row ∧ row.length = 4 ∧
      ∀ e xr x yr y, e < 4 → p.Next[i / q.Next.length]? = some xr → xr[e]? = some x → q.Next[i % q.Next.length]? = some yr → yr[e]? = some y → row[e]? = some (bthE q x y) := by
    intro i hi s0 h0
    refine iter_inv (step := m_spec_l10Both_L1 p q s0) (fun s => ∃ k : Nat, s.2 = (k : Int) ∧ k ≤ 4 ∧ s.1.length = k ∧
      ∀ e xr x yr y, e < k → p.Next[i / q.Next.length]? = some xr → xr[e]? = some x → q.Next[i % q.Next.length]? = some yr → yr[e]? = some y → s.1[e]? = some (bthE q x y)) (fun s => 4 - s.2.toNat) _
      (fun s ⟨k, hk, hk4, hl, hs⟩ => ?_) (s := (([] : List Int), (0 : Int))) ⟨0, rfl, by omega, rfl, fun e _ _ _ _ he => by omega⟩
    unfold m_spec_l10Both_L1
    rw [hk]
    by_cases hlt : k < 4
    · obtain ⟨xr, x, yr, y, g1, g2, g3, g4, b1, b2, b3, b4⟩ := pair_at hp hq hi hlt
      rw [decide_eq_true (show ((k : Nat) : Int) < 4 by omega), cond_true, h0, quoI_nat (by omega) (by omega), Option.bind_some, getI_some g1, Option.bind_some, getI_some g2, Option.bind_some, remI_nat (by omega), Option.bind_some, getI_some g3, Option.bind_some, getI_some g4, Option.bind_some]
      have nxt : ∀ v, v = bthE q x y → ∃ k' : Nat, w64 ((k : Int) + 1) = (k' : Int) ∧ k' ≤ 4 ∧ (s.1 ++ [v]).length = k' ∧ ∀ e xr x yr y, e < k' → p.Next[i / q.Next.length]? = some xr → xr[e]? = some x → q.Next[i % q.Next.length]? = some yr → yr[e]? = some y → (s.1 ++ [v])[e]? = some (bthE q x y) := by
        rintro v rfl
        refine ⟨k + 1, w64_succ (by omega), by omega, by simp [hl], fun e xr' x' yr' y' he e1 e2 e3 e4 => ?_⟩
        rcases Nat.lt_or_ge e k with h | h
        · rw [List.getElem?_append_left (by omega)]; exact hs e xr' x' yr' y' h e1 e2 e3 e4
        · have : e = k := by omega
          subst this
          rw [g1] at e1; rw [g3] at e3
          obtain rfl := Option.some.inj e1
          obtain rfl := Option.some.inj e3
          rw [g2] at e2; rw [g4] at e4
          obtain rfl := Option.some.inj e2
          obtain rfl := Option.some.inj e4
          rw [List.getElem?_append_right (by omega), hl, Nat.sub_self]; rfl
      have dec : 4 - (w64 ((k : Int) + 1)).toNat < 4 - ((k : Nat) : Int).toNat := by rw [w64_succ (by omega)]; omega
      by_cases hn : x < 0 ∨ y < 0
      · have e1 : (decide (x < 0) || decide (y < 0)) = true := by rcases hn with h | h <;> simp [h]
        rw [e1, cond_true, capI_some (by simp; omega), Option.bind_some]
        exact .inl ⟨_, rfl, nxt (-1) (by unfold bthE; rw [if_pos hn]), dec⟩
      · have e1 : (decide (x < 0) || decide (y < 0)) = false := by rw [decide_eq_false (by omega), decide_eq_false (by omega)]; rfl
        have hc := code_of (m := q.Next.length) (show 0 ≤ x by omega) (show 0 ≤ y by omega)
        have hlt2 := code_lt (a := x.toNat) (b := y.toNat) (n := p.Next.length) (m := q.Next.length) (by omega) (by omega)
        have hxm : 0 ≤ x * (q.Next.length : Int) := Int.mul_nonneg (by omega) (by omega)
        rw [e1, cond_false, w64_eq (n := x * (q.Next.length : Int)) (by omega), w64_eq (n := x * (q.Next.length : Int) + y) (by omega), capI_some (by simp; omega), Option.bind_some]
        exact .inl ⟨_, rfl, nxt _ (by unfold bthE; rw [if_neg hn]), dec⟩
    · have : k = 4 := by omega
      subst this
      exact .inr ⟨_, rfl, hl, fun e xr x yr y he => hs e xr x yr y he⟩
  have hw : w64 ((p.Next.length : Int) * (q.Next.length : Int)) = ((p.Next.length * q.Next.length : Nat) : Int) := by rw [Int.natCast_mul, w64_eq (by rw [← Int.natCast_mul]; omega)]
  obtain ⟨g, e1, e2, e3⟩ := iter_inv (step := m_spec_l10Both_L0 p q) (fun s => ∃ k : Nat, s.2 = (k : Int) ∧ k ≤ p.Next.length * q.Next.length ∧ s.1.length = k ∧
      ∀ i, i < k → ∃ row, s.1[i]? = some row ∧ row.length = 4 ∧ ∀ e xr x yr y, e < 4 → p.Next[i / q.Next.length]? = some xr → xr[e]? = some x → q.Next[i % q.Next.length]? = some yr → yr[e]? = some y → row[e]? = some (bthE q x y))
    (fun s => p.Next.length * q.Next.length - s.2.toNat) (fun g => g.length = p.Next.length * q.Next.length ∧ ∀ i, i < p.Next.length * q.Next.length → ∃ row, g[i]? = some row ∧ row.length = 4 ∧
      ∀ e xr x yr y, e < 4 → p.Next[i / q.Next.length]? = some xr → xr[e]? = some x → q.Next[i % q.Next.length]? = some yr → yr[e]? = some y → row[e]? = some (bthE q x y))
    (fun s ⟨k, hk, hkn, hl, hs⟩ => by
      unfold m_spec_l10Both_L0
      rw [hk, hw]
      by_cases hlt : k < p.Next.length * q.Next.length
      · obtain ⟨row, r1, r2, r3⟩ := row_ok k hlt s hk
        rw [dec_lt hlt, cond_true, r1, Option.bind_some]
        unfold m_spec_l10Both_A1
        rw [hk, capI_some (by simp; omega), Option.bind_some, w64_succ (by omega)]
        refine .inl ⟨_, rfl, ⟨k + 1, rfl, by omega, by simp [hl], fun i hi => ?_⟩, by show p.Next.length * q.Next.length - ((k + 1 : Nat) : Int).toNat < p.Next.length * q.Next.length - ((k : Nat) : Int).toNat; omega⟩
        rcases Nat.lt_or_ge i k with h | h
        · obtain ⟨r, a1, a2⟩ := hs i h
          exact ⟨r, by show (s.1 ++ [row])[i]? = _; rw [List.getElem?_append_left (by omega)]; exact a1, a2⟩
        · have : i = k := by omega
          subst this
          exact ⟨row, by show (s.1 ++ [row])[i]? = _; rw [List.getElem?_append_right (by omega), hl, Nat.sub_self]; rfl, r2, r3⟩
      · have : k = p.Next.length * q.Next.length := by omega
        subst this
        rw [dec_self, cond_false]
        exact .inr ⟨_, rfl, hl, hs⟩)
    (s := (([] : List (List Int)), (0 : Int))) ⟨0, rfl, by omega, rfl, fun i hi => by omega⟩
  refine ⟨g, ?_, e2, e3⟩
  unfold m_spec_l10Both
  rw [e1]; rfl
include hp hq in
theorem both_gok {g : List (List Int)} (hl : g.length = p.Next.length * q.Next.length) (h : ∀ i, i < p.Next.length * q.Next.length → ∃ row, g[i]? = some row ∧ row.length = 4 ∧
    ∀ e xr x yr y, e < 4 → p.Next[i / q.Next.length]? = some xr → xr[e]? = some x → q.Next[i % q.Next.length]? = some yr → yr[e]? = some y → row[e]? = some (bthE q x y)) : GOK g := by
  have h1 := vP_len hp
  have h2 := vP_len hq
  have hb := bnd_mul h1.2 h2.2
  have hpos : 1 * 1 ≤ p.Next.length * q.Next.length := Nat.mul_le_mul h1.1 h2.1
  refine ⟨by omega, by omega, fun r hr => ?_⟩
  obtain ⟨i, hi, rfl⟩ := List.getElem_of_mem hr
  obtain ⟨row, a1, a2, a3⟩ := h i (by omega)
  rw [List.getElem?_eq_getElem hi] at a1
  have a1 := Option.some.inj a1
  rw [a1]
  refine ⟨a2, fun v hv => ?_⟩
  obtain ⟨e, he, rfl⟩ := List.getElem_of_mem hv
  obtain ⟨xr, x, yr, y, g1, g2, g3, g4, b1, b2, b3, b4⟩ := pair_at hp hq (i := i) (e := e) (by omega) (by omega)
  have a3 := a3 e xr x yr y (by omega) g1 g2 g3 g4
  rw [List.getElem?_eq_getElem he] at a3
  have a3 := Option.some.inj a3
  rw [a3]
  unfold bthE
  by_cases hn : x < 0 ∨ y < 0
  · rw [if_pos hn]; omega
  · rw [if_neg hn]
    have hc := code_of (m := q.Next.length) (show 0 ≤ x by omega) (show 0 ≤ y by omega)
    have hlt2 := code_lt (a := x.toNat) (b := y.toNat) (n := p.Next.length) (m := q.Next.length) (by omega) (by omega)
    omega
include hp hq in
theorem grown_ok {g : List (List Int)} (hl : g.length = p.Next.length * q.Next.length) (h : ∀ i, i < p.Next.length * q.Next.length → ∃ row, g[i]? = some row ∧ row.length = 4 ∧
    ∀ e xr x yr y, e < 4 → p.Next[i / q.Next.length]? = some xr → xr[e]? = some x → q.Next[i % q.Next.length]? = some yr → yr[e]? = some y → row[e]? = some (bthE q x y)) :
    ∃ Lf res, m_impl_grown_2_int64_fBothPolicies_1 ((0 : Int), (0 : Int)) p.Next q.Next = some res ∧ Bfs (dl g) (pr q) 0 [0] [] Lf res ∧ Met (pr q) g.length Lf := by
  have h1 := vP_len hp
  have h2 := vP_len hq
  have hg := both_gok hp hq hl h
  have hgl := hg.le
  have hnx : Nx (dl g) (pr q) g.length (fun k e => m_impl_BothPolicies_1 k e p.Next q.Next) := by
    intro s e hs he
    obtain ⟨xr, x, yr, y, g1, g2, g3, g4, b1, b2, b3, b4⟩ := pair_at hp hq (i := s) (e := e) (by omega) he
    obtain ⟨row, a1, a2, a3⟩ := h s (by omega)
    have a3 := a3 e xr x yr y he g1 g2 g3 g4
    have hd : dl g s e = if bthE q x y < 0 then none else some (bthE q x y).toNat := by unfold dl; rw [a1, Option.bind_some, a3, Option.bind_some]
    have hm : m_impl_BothPolicies_1 (pr q s) (e : Int) p.Next q.Next = some ((x, y), (decide ((0 : Int) ≤ x)) && (decide ((0 : Int) ≤ y))) := by
      unfold m_impl_BothPolicies_1 pr
      rw [getI_some g1, Option.bind_some, getI_some g2, Option.bind_some, getI_some g3, Option.bind_some, getI_some g4, Option.bind_some]
    show match dl g s e with | none => ∃ k, m_impl_BothPolicies_1 (pr q s) (e : Int) p.Next q.Next = some (k, false) | some x => m_impl_BothPolicies_1 (pr q s) (e : Int) p.Next q.Next = some (pr q x, true)
    rw [hm, hd]
    unfold bthE
    by_cases hn : x < 0 ∨ y < 0
    · rw [if_pos hn, if_pos (by omega)]
      have e1 : (decide ((0 : Int) ≤ x) && decide ((0 : Int) ≤ y)) = false := by
        rcases hn with h | h
        · rw [decide_eq_false (show ¬ (0 : Int) ≤ x by omega)]; rfl
        · rw [decide_eq_false (show ¬ (0 : Int) ≤ y by omega), Bool.and_false]
      rw [e1]
      exact ⟨_, rfl⟩
    · have hc := code_of (m := q.Next.length) (show 0 ≤ x by omega) (show 0 ≤ y by omega)
      rw [if_neg hn, if_neg (by omega), decide_eq_true (show (0 : Int) ≤ x by omega), decide_eq_true (show (0 : Int) ≤ y by omega), ← hc]
      simp only [Bool.and_self, Int.toNat_natCast]
      unfold pr
      have hy : y.toNat < q.Next.length := by omega
      have d1 : (x.toNat * q.Next.length + y.toNat) / q.Next.length = x.toNat := by
        rw [Nat.mul_comm, Nat.mul_add_div (by omega), Nat.div_eq_of_lt hy, Nat.add_zero]
      have d2 : (x.toNat * q.Next.length + y.toNat) % q.Next.length = y.toNat := by
        rw [Nat.mul_comm, Nat.mul_add_mod, Nat.mod_eq_of_lt hy]
      rw [d1, d2, Int.toNat_of_nonneg (by omega), Int.toNat_of_nonneg (by omega)]
  obtain ⟨Lf, res, e1, e2, e3⟩ := gw_ok (bz := 16) (dl_clo hg) hgl (by omega) hnx (s := 0) (by have := hg.pos; omega)
  refine ⟨Lf, res, ?_, e2, e3⟩
  rw [grown_both]
  have : pr q 0 = ((0 : Int), (0 : Int)) := by unfold pr; simp
  rw [← this]; exact e1
theorem pr_inj {a b : Nat} (h : pr q a = pr q b) : a = b := by
  unfold pr at h
  have h1 := congrArg Prod.fst h
  have h2 := congrArg Prod.snd h
  simp only [Int.natCast_inj] at h1 h2
  have ha := Nat.div_add_mod a q.Next.length
  have hb := Nat.div_add_mod b q.Next.length
  rw [h1, h2] at ha
  omega
include hp hq in
theorem both_same : ∃ (g : List (List Int)) (res r1 : List (List Int)) (Lf : List Nat), m_spec_l10Both p q = some ⟨g⟩ ∧ m_spec_l10Minimal ⟨g⟩ = some ⟨res⟩ ∧ m_impl_grown_2_int64_fBothPolicies_1 ((0 : Int), (0 : Int)) p.Next q.Next = some r1 ∧ m_impl_graph_minimal r1 = some res ∧
    res.length = Lf.length ∧ Lf.length ≤ 200 ∧ ∀ x ∈ res, x.length = 4 := by
  obtain ⟨g, g1, g2, g3⟩ := both_ok hp hq
  have hg := both_gok hp hq g2 g3
  have hgp := hg.pos
  have hgl := hg.le
  obtain ⟨L1, r1, h1, h2, h3⟩ := grown_ok hp hq g2 g3
  obtain ⟨⟨T, t1⟩, _, t2, t3⟩ := h2.rows (by simp) rfl
  have hL0 : L1[0]? = some 0 := by rw [t1]; rfl
  have hl1 := h3.len
  -- the graph of the pairs reached
  have hcell : ∀ j, j < L1.length → ∃ s row, L1[j]? = some s ∧ r1[j]? = some row ∧ row.length = 4 ∧ s < g.length ∧ ∀ e, e < 4 → ∃ c, row[e]? = some c ∧ match dl g s e with | none => c = -1 | some x => ∃ t : Nat, c = (t : Int) ∧ L1[t]? = some x := by
    intro j hj
    obtain ⟨s, row, a1, a2, a3, a4⟩ := t3 j (by omega) hj
    have hs := h3.lt s (List.mem_of_getElem? a1)
    refine ⟨s, row, a1, a2, a3, hs, fun e he => ?_⟩
    obtain ⟨c, b1, b2⟩ := a4 e he
    refine ⟨c, b1, ?_⟩
    unfold Cell at b2
    cases hd : dl g s e with
    | none => rw [hd] at b2; exact b2
    | some x =>
      rw [hd] at b2
      obtain ⟨t, y, c1, c2, c3⟩ := b2
      exact ⟨t, c1, by rw [c2, pr_inj c3]⟩
  have hg1 : GOK r1 := by
    have hl : 1 ≤ L1.length := by have := get_lt hL0; omega
    refine ⟨by omega, by omega, fun r hr => ?_⟩
    obtain ⟨j, hj, rfl⟩ := List.getElem_of_mem hr
    obtain ⟨s, row, a1, a2, a3, a4, a5⟩ := hcell j (by omega)
    rw [List.getElem?_eq_getElem hj] at a2
    have a2 := Option.some.inj a2
    rw [a2]
    refine ⟨a3, fun v hv => ?_⟩
    obtain ⟨e, he, rfl⟩ := List.getElem_of_mem hv
    obtain ⟨c, b1, b2⟩ := a5 e (by omega)
    rw [List.getElem?_eq_getElem he] at b1
    have b1 := Option.some.inj b1
    rw [b1]
    cases hd : dl g s e with
    | none => rw [hd] at b2; simp only at b2; omega
    | some x =>
      rw [hd] at b2
      obtain ⟨t, c1, c2⟩ := b2
      have := get_lt c2
      omega
  -- the two graphs side by side
  have hemb : ∀ a e, a < r1.length → e < 4 → dl g ((L1[a]?).getD 0) e = (dl r1 a e).map (fun i => (L1[i]?).getD 0) := by
    intro a e ha he
    obtain ⟨s, row, a1, a2, a3, a4, a5⟩ := hcell a (by omega)
    obtain ⟨c, b1, b2⟩ := a5 e he
    have hd1 : dl r1 a e = if c < 0 then none else some c.toNat := by unfold dl; rw [a2, Option.bind_some, b1, Option.bind_some]
    rw [a1, Option.getD_some, hd1]
    cases hd : dl g s e with
    | none => rw [hd] at b2; simp only at b2; rw [if_pos (by omega)]; rfl
    | some x =>
      rw [hd] at b2
      obtain ⟨t, c1, c2⟩ := b2
      rw [if_neg (by omega), c1, Option.map_some, Int.toNat_natCast, c2]; rfl
  have hι : ∀ a, a < r1.length → (L1[a]?).getD 0 < g.length := by
    intro a ha
    obtain ⟨s, row, a1, _, _, a4, _⟩ := hcell a (by omega)
    rw [a1]; exact a4
  obtain ⟨f, Lf, res, k1, k2, k3, k4, k5⟩ := spec_minimal (p := ⟨g⟩) hg
  obtain ⟨f', c, Lf', res', m1, m2, m3, m4⟩ := minimal_ok hg1
  have he := Bfs.emb (δ' := dl g) (cl' := cf f) (ι := fun i => (L1[i]?).getD 0) (dl_clo hg1) hemb
    (fun a b ha hb => (cf_iff m1.len m1.eqv ha hb).trans ((Ra.emb (dl_clo hg1) hemb ha hb).trans (cf_iff k1 k2 (hι a ha) (hι b hb)).symm)) m3 (by have := hg1.pos; simp; omega)
  simp only [List.map_cons, List.map_nil, hL0, Option.getD_some] at he
  obtain ⟨e1, e2⟩ := k4.det he
  subst e2
  obtain ⟨s1, s2⟩ := k4.size (by simp) rfl (by simp)
  exact ⟨g, res, r1, Lf, g1, k3, h1, m2, s1, by have h5 := k5.len; have h6 : g.length ≤ 200 := hgl; exact Nat.le_trans h5 h6, s2⟩
end
end Go.Mod

namespace Go.Mod
open Go.AM
set_option linter.unusedVariables false
set_option linter.unusedSimpArgs false
def path (δ : Nat → Nat → Option Nat) : Nat → List Nat → Option Nat
  | s, [] => some s
  | s, e :: w => match δ s e with
    | none => none
    | some t => path δ t w
theorem path_snoc {δ : Nat → Nat → Option Nat} {e : Nat} : ∀ {w : List Nat} {s : Nat}, path δ s (w ++ [e]) = (path δ s w).bind fun t => δ t e
  | [], s => by simp only [List.nil_append, path, Option.bind_some]; cases δ s e <;> rfl
  | f :: w, s => by
    simp only [List.cons_append, path]
    cases δ s f with
    | none => rfl
    | some t => exact path_snoc
noncomputable def gJ0 (s1 : (List ((Int × Int) × Bool)) × (List spot)) (n1 : Nat) (x41 : Int) (x54 : Int) (r61 : List Int) (j0 : Bool) : Option (Ctl ((List ((Int × Int) × Bool)) × (List spot)) (((List ((Int × Int) × Bool)) × (List spot)) ⊕ ((List Int) × Bool))) :=
  bif j0 then
    (capI (s1.2.length + ([(spot.mk (x41, x54) (r61 ++ [(n1 : Int)]))]).length) 40).bind fun (q94 : Unit) =>
    some (.next ((mput s1.1 (x41, x54) true), (s1.2 ++ [(spot.mk (x41, x54) (r61 ++ [(n1 : Int)]))])))
  else
    some (.next (s1.1, s1.2))
noncomputable def gL1 (df : Bool → Bool → Option Bool) (p0 : Policy) (p1 : Policy) (s0 : (List ((Int × Int) × Bool)) × (List spot) × Int) (n1 : Nat) (x1 : Nat) (s1 : (List ((Int × Int) × Bool)) × (List spot)) : Option (Ctl ((List ((Int × Int) × Bool)) × (List spot)) (((List ((Int × Int) × Bool)) × (List spot)) ⊕ ((List Int) × Bool))) :=
  (getI s1.2 s0.2.2).bind fun (x34 : spot) =>
  (getI p0.Next x34.pair.1).bind fun (x38 : List Int) =>
  (getI x38 (n1 : Int)).bind fun (x41 : Int) =>
  (getI p1.Next x34.pair.2).bind fun (x51 : List Int) =>
  (getI x51 (n1 : Int)).bind fun (x54 : Int) =>
  (m_impl_copyInts x34.word).bind fun (r61 : List Int) =>
  (capI (r61.length + [(n1 : Int)].length) 8).bind fun (q64 : Unit) =>
  (df (decide ((0 : Int) ≤ x41)) (decide ((0 : Int) ≤ x54))).bind fun (r70 : Bool) =>
  bif r70 then
    some (.out (.inr ((r61 ++ [(n1 : Int)]), true)))
  else
    bif ((decide ((0 : Int) ≤ x41)) && (decide ((0 : Int) ≤ x54))) then
      gJ0 s1 n1 x41 x54 r61 (!((mget s1.1 (x41, x54)).getD false))
    else
      gJ0 s1 n1 x41 x54 r61 false
noncomputable def gL0 (df : Bool → Bool → Option Bool) (p0 : Policy) (p1 : Policy) (s0 : (List ((Int × Int) × Bool)) × (List spot) × Int) : Option (Ctl ((List ((Int × Int) × Bool)) × (List spot) × Int) (Unit ⊕ ((List Int) × Bool))) :=
  bif (decide (s0.2.2 < (s0.2.1.length : Int))) then
    (forL (gL1 df p0 p1 s0) (fun s1 => (.inl (s1.1, s1.2))) 0 (List.range 4) (s0.1, s0.2.1)).bind fun (u1 : ((List ((Int × Int) × Bool)) × (List spot)) ⊕ ((List Int) × Bool)) =>
    match u1 with
    | .inl u1 =>
      some (.next (u1.1, u1.2, (w64 (s0.2.2 + (1 : Int)))))
    | .inr u1 =>
      some (.out (.inr (u1.1, u1.2)))
  else
    some (.out (.inl ()))
noncomputable def gApart (df : Bool → Bool → Option Bool) (p0 : Policy) (p1 : Policy) : Option ((List Int) × Bool) :=
  (iter (gL0 df p0 p1) ((mput ([] : List ((Int × Int) × Bool)) ((0 : Int), (0 : Int)) true), [(spot.mk ((0 : Int), (0 : Int)) ([] : List Int))], (0 : Int))).bind fun (u0 : Unit ⊕ ((List Int) × Bool)) =>
  match u0 with
  | .inl u0 =>
    some (([] : List Int), false)
  | .inr u0 =>
    some (u0.1, u0.2)
theorem apart_strict (p q : Policy) : m_impl_apart_fIsStricter_1 p q = gApart m_impl_IsStricter_1 p q := rfl
theorem apart_diff (p q : Policy) : m_impl_apart_fDifferenceOf_1 p q = gApart m_impl_DifferenceOf_1 p q := rfl
def dfB (both : Bool) (a b : Bool) : Bool := bif both then !(a == b) else a && !b
theorem df_strict (a b : Bool) : m_impl_IsStricter_1 a b = some (dfB false a b) := rfl
theorem df_diff (a b : Bool) : m_impl_DifferenceOf_1 a b = some (dfB true a b) := rfl
section
variable {p q : Policy} (hp : GOK p.Next) (hq : GOK q.Next) (hpl : p.Next.length ≤ 12) (hql : q.Next.length ≤ 12) {both : Bool}
def InP (p q : Policy) (k : Int × Int) : Prop := 0 ≤ k.1 ∧ k.1 < p.Next.length ∧ 0 ≤ k.2 ∧ k.2 < q.Next.length
def cod (q : Policy) (k : Int × Int) : Nat := k.1.toNat * q.Next.length + k.2.toNat
theorem cod_lt {k : Int × Int} (h : InP p q k) : cod q k < p.Next.length * q.Next.length := by
  obtain ⟨h1, h2, h3, h4⟩ := h
  exact code_lt (by omega) (by omega)
theorem cod_inj {k k' : Int × Int} (h : InP p q k) (h' : InP p q k') (e : cod q k = cod q k') : k = k' := by
  obtain ⟨h1, h2, h3, h4⟩ := h
  obtain ⟨g1, g2, g3, g4⟩ := h'
  unfold cod at e
  have d1 : ∀ a b : Nat, b < q.Next.length → (a * q.Next.length + b) / q.Next.length = a := fun a b hb => by rw [Nat.mul_comm, Nat.mul_add_div (by omega), Nat.div_eq_of_lt hb, Nat.add_zero]
  have d2 : ∀ a b : Nat, b < q.Next.length → (a * q.Next.length + b) % q.Next.length = b := fun a b hb => by rw [Nat.mul_comm, Nat.mul_add_mod, Nat.mod_eq_of_lt hb]
  have e1 := congrArg (· / q.Next.length) e
  have e2 := congrArg (· % q.Next.length) e
  rw [d1 _ _ (by omega), d1 _ _ (by omega)] at e1
  rw [d2 _ _ (by omega), d2 _ _ (by omega)] at e2
  exact Prod.ext (by omega) (by omega)
def Done (p q : Policy) (both : Bool) (L : List spot) (s : spot) (e : Nat) : Prop :=
  dfB both (dl p.Next s.pair.1.toNat e).isSome (dl q.Next s.pair.2.toNat e).isSome = false ∧
  ∀ a b, dl p.Next s.pair.1.toNat e = some a → dl q.Next s.pair.2.toNat e = some b → ∃ t ∈ L, t.pair = ((a : Int), (b : Int)) ∧ t.word.length ≤ s.word.length + 1
def Wd (p q : Policy) (s : spot) : Prop := ∃ v : List Nat, s.word = v.map (fun i : Nat => (i : Int)) ∧ (∀ x ∈ v, x < 4) ∧ path (dl p.Next) 0 v = some s.pair.1.toNat ∧ path (dl q.Next) 0 v = some s.pair.2.toNat
structure Ap (p q : Policy) (both : Bool) (i k : Nat) (M : List ((Int × Int) × Bool)) (L : List spot) : Prop where
  rng : ∀ s ∈ L, InP p q s.pair
  nd : (L.map (·.pair)).Nodup
  met : ∀ k, (mget M k).getD false = decide (k ∈ L.map (·.pair))
  fst : L[0]? = some (spot.mk (0, 0) [])
  pth : ∀ s ∈ L, Wd p q s
  len : ∀ (j : Nat) s, L[j]? = some s → s.word.length ≤ j
  srt : ∀ (j m : Nat) s t, j ≤ m → L[j]? = some s → L[m]? = some t → s.word.length ≤ t.word.length
  mx : ∀ s ∈ L, ∀ x, L[i]? = some x → s.word.length ≤ x.word.length + 1
  dn : ∀ (j e : Nat) s, L[j]? = some s → (j < i ∧ e < 4) ∨ (j = i ∧ e < k) → Done p q both L s e
theorem Ap.size {i k : Nat} {M : List ((Int × Int) × Bool)} {L : List spot} (h : Ap p q both i k M L) : L.length ≤ p.Next.length * q.Next.length := by
  have h1 : ((L.map (·.pair)).map (cod q)).Nodup := by
    refine (List.pairwise_map.2 ?_)
    refine List.Pairwise.imp_of_mem ?_ h.nd
    intro a b ha hb hne e
    obtain ⟨s, hs, rfl⟩ := List.mem_map.1 ha
    obtain ⟨t, ht, rfl⟩ := List.mem_map.1 hb
    exact hne (cod_inj (h.rng s hs) (h.rng t ht) e)
  have h2 := nodup_nat (n := p.Next.length * q.Next.length) h1 (fun x hx => by
    obtain ⟨k, hk, rfl⟩ := List.mem_map.1 hx
    obtain ⟨s, hs, rfl⟩ := List.mem_map.1 hk
    exact cod_lt (h.rng s hs))
  simpa using h2
theorem Done.more {L : List spot} {T : List spot} {s : spot} {e : Nat} (h : Done p q both L s e) : Done p q both (L ++ T) s e :=
  ⟨h.1, fun a b ha hb => by obtain ⟨t, h1, h2⟩ := h.2 a b ha hb; exact ⟨t, List.mem_append_left _ h1, h2⟩⟩
def Found (p q : Policy) (both : Bool) (w : List Int) : Prop :=
  ∃ (v : List Nat) (e a b : Nat), w = (v ++ [e]).map (fun i : Nat => (i : Int)) ∧ (∀ x ∈ v ++ [e], x < 4) ∧ path (dl p.Next) 0 v = some a ∧ path (dl q.Next) 0 v = some b ∧ dfB both (dl p.Next a e).isSome (dl q.Next b e).isSome = true ∧
    ∀ (u : List Nat) (f c d : Nat), u.length < v.length → (∀ x ∈ u ++ [f], x < 4) → path (dl p.Next) 0 u = some c → path (dl q.Next) 0 u = some d → dfB both (dl p.Next c f).isSome (dl q.Next d f).isSome = false
theorem Ap.reach {i k : Nat} {M : List ((Int × Int) × Bool)} {L : List spot} (h : Ap p q both i k M L) (l : Nat) (hl : ∀ (j : Nat) s, L[j]? = some s → s.word.length < l → j < i) : ∀ (n : Nat) (u : List Nat) (c d : Nat), u.length = n → n ≤ l → (∀ x ∈ u, x < 4) → path (dl p.Next) 0 u = some c → path (dl q.Next) 0 u = some d →
    ∃ t ∈ L, t.pair = ((c : Int), (d : Int)) ∧ t.word.length ≤ n
  | 0, u, c, d, hu, _, _, h1, h2 => by
    have : u = [] := List.eq_nil_of_length_eq_zero hu
    subst this
    simp only [path, Option.some.injEq] at h1 h2
    subst h1 h2
    exact ⟨_, List.mem_of_getElem? h.fst, rfl, by simp⟩
  | n + 1, u, c, d, hu, hn, h4, h1, h2 => by
    obtain ⟨u', e, rfl⟩ : ∃ u' e, u = u' ++ [e] := ⟨u.dropLast, u.getLast (by intro e; rw [e] at hu; simp at hu), (List.dropLast_concat_getLast _).symm⟩
    rw [path_snoc] at h1 h2
    cases g1 : path (dl p.Next) 0 u' with
    | none => rw [g1] at h1; cases h1
    | some a =>
      cases g2 : path (dl q.Next) 0 u' with
      | none => rw [g2] at h2; cases h2
      | some b =>
        rw [g1, Option.bind_some] at h1
        rw [g2, Option.bind_some] at h2
        obtain ⟨t, t1, t2, t3⟩ := h.reach l hl n u' a b (by simpa using hu) (by omega) (fun x hx => h4 x (by simp [hx])) g1 g2
        obtain ⟨j, hj⟩ := List.getElem?_of_mem t1
        have hji := hl j t hj (by omega)
        obtain ⟨_, hd⟩ := h.dn j e t hj (.inl ⟨hji, h4 e (by simp)⟩)
        rw [t2] at hd
        obtain ⟨t', q1, q2, q3⟩ := hd c d h1 h2
        exact ⟨t', q1, q2, by omega⟩
include hp hq hpl hql in
theorem ap_row {df : Bool → Bool → Option Bool} (hdf : ∀ a b, df a b = some (dfB both a b)) {i : Nat} {x : spot} {M0 : List ((Int × Int) × Bool)} {L0 : List spot} : ∀ (m k : Nat) (M : List ((Int × Int) × Bool)) (L : List spot), k + m = 4 → L[i]? = some x → Ap p q both i k M L →
    (∃ M' L', forL (gL1 df p q (M0, L0, (i : Int))) (fun s1 => (.inl (s1.1, s1.2))) k (List.range' k m) (M, L) = some (.inl (M', L')) ∧ Ap p q both i 4 M' L' ∧ L'[i]? = some x) ∨
    ∃ w, forL (gL1 df p q (M0, L0, (i : Int))) (fun s1 => (.inl (s1.1, s1.2))) k (List.range' k m) (M, L) = some (.inr (w, true)) ∧ Found p q both w := by
  have h144 : p.Next.length * q.Next.length ≤ 144 := Nat.mul_le_mul hpl hql
  intro m
  induction m with
  | zero =>
    intro k M L hk hx hs
    obtain rfl : k = 4 := by omega
    exact .inl ⟨M, L, rfl, hs, hx⟩
  | succ m ih =>
    intro k M L hk hx hs
    have hlen := hs.size
    have hil := get_lt hx
    have hwd := hs.len i x hx
    have hxm := List.mem_of_getElem? hx
    obtain ⟨a0, a1, b0, b1⟩ := hs.rng x hxm
    obtain ⟨v, w1, w2, w3, w4⟩ := hs.pth x hxm
    obtain ⟨a, ha⟩ := Int.eq_ofNat_of_zero_le a0
    obtain ⟨b, hb⟩ := Int.eq_ofNat_of_zero_le b0
    obtain ⟨ra, ca, hra, hka, r1, r2, hda⟩ := cell_at hp (a := a) (e := k) (by omega) (by omega)
    obtain ⟨rb, cb, hrb, hkb, r3, r4, hdb⟩ := cell_at hq (a := b) (e := k) (by omega) (by omega)
    have hwl : x.word.length ≤ 1000 := by omega
    have sa : (dl p.Next a k).isSome = decide (0 ≤ ca) := by rw [hda]; by_cases h : ca < 0 <;> simp [h] <;> omega
    have sb : (dl q.Next b k).isSome = decide (0 ≤ cb) := by rw [hdb]; by_cases h : cb < 0 <;> simp [h] <;> omega
    have ea : x.pair.1.toNat = a := by omega
    have eb : x.pair.2.toNat = b := by omega
    rw [ea] at w3
    rw [eb] at w4
    have gi : gL1 df p q (M0, L0, (i : Int)) k k (M, L) = bif dfB both (decide (0 ≤ ca)) (decide (0 ≤ cb)) then some (.out (.inr (x.word ++ [(k : Int)], true))) else
        bif (decide (0 ≤ ca) && decide (0 ≤ cb)) then gJ0 (M, L) k ca cb x.word (!decide ((ca, cb) ∈ L.map (·.pair))) else gJ0 (M, L) k ca cb x.word false := by
      unfold gL1
      simp only
      rw [getI_some hx, Option.bind_some, ha, getI_some hra, Option.bind_some, getI_some hka, Option.bind_some, hb, getI_some hrb, Option.bind_some, getI_some hkb, Option.bind_some]
      unfold m_impl_copyInts
      rw [capI_some (by simp; omega), Option.bind_some, Option.bind_some, List.nil_append, capI_some (by simp; omega), Option.bind_some, hdf, Option.bind_some, hs.met]
    rw [List.range'_succ]
    unfold forL
    rw [gi]
    cases hd : dfB both (decide (0 ≤ ca)) (decide (0 ≤ cb)) with
    | true =>
      refine .inr ⟨x.word ++ [(k : Int)], rfl, v, k, a, b, by rw [w1]; simp, fun y hy => ?_, w3, w4, by rw [sa, sb]; exact hd, fun u f c d hu h4 g1 g2 => ?_⟩
      · rcases List.mem_append.1 hy with hy | hy
        · exact w2 y hy
        · simp at hy; omega
      · have hvl : x.word.length = v.length := by rw [w1, List.length_map]
        have hl : ∀ (j : Nat) s, L[j]? = some s → s.word.length < v.length → j < i := fun j s hj hlt => by
          rcases Nat.lt_or_ge j i with h | h
          · exact h
          · have := hs.srt i j x s h hx hj; omega
        obtain ⟨t, t1, t2, t3⟩ := hs.reach v.length hl u.length u c d rfl (by omega) (fun y hy => h4 y (by simp [hy])) g1 g2
        obtain ⟨j, hj⟩ := List.getElem?_of_mem t1
        have := (hs.dn j f t hj (.inl ⟨hl j t hj (by omega), h4 f (by simp)⟩)).1
        rw [t2] at this
        exact this
    | false =>
      rw [cond_false]
      -- what is known once the step is looked at
      have step : ∀ (M' : List ((Int × Int) × Bool)) (T : List spot), (∀ s ∈ T, InP p q s.pair ∧ Wd p q s ∧ s.word.length = x.word.length + 1) → T.length ≤ 1 → ((L ++ T).map (·.pair)).Nodup → (∀ k, (mget M' k).getD false = decide (k ∈ (L ++ T).map (·.pair))) →
          (∀ a' b', dl p.Next a k = some a' → dl q.Next b k = some b' → ((a' : Int), (b' : Int)) ∈ (L ++ T).map (·.pair)) → Ap p q both i (k + 1) M' (L ++ T) := by
        intro M' T hT hT1 hnd hmet hto
        have hget : ∀ (j : Nat) s, (L ++ T)[j]? = some s → (j < L.length ∧ L[j]? = some s) ∨ (j = L.length ∧ s ∈ T) := by
          intro j s hj
          rcases Nat.lt_or_ge j L.length with h | h
          · rw [List.getElem?_append_left h] at hj; exact .inl ⟨h, hj⟩
          · rw [List.getElem?_append_right h] at hj
            have := get_lt hj
            exact .inr ⟨by omega, List.mem_of_getElem? hj⟩
        refine ⟨fun s hs' => ?_, hnd, hmet, by rw [List.getElem?_append_left (by omega)]; exact hs.fst, fun s hs' => ?_, fun j s hj => ?_, fun j m s t hjm hj hm => ?_, fun s hs' y hy => ?_, fun j e s hj he => ?_⟩
        · rcases List.mem_append.1 hs' with h | h
          · exact hs.rng s h
          · exact (hT s h).1
        · rcases List.mem_append.1 hs' with h | h
          · exact hs.pth s h
          · exact (hT s h).2.1
        · rcases hget j s hj with ⟨_, h⟩ | ⟨h, h2⟩
          · exact hs.len j s h
          · have := (hT s h2).2.2; omega
        · rcases hget j s hj with ⟨g1, h1⟩ | ⟨g1, h1⟩ <;> rcases hget m t hm with ⟨g2, h2⟩ | ⟨g2, h2⟩
          · exact hs.srt j m s t hjm h1 h2
          · have := hs.mx s (List.mem_of_getElem? h1) x hx; have := (hT t h2).2.2; omega
          · omega
          · have := (hT s h1).2.2; have := (hT t h2).2.2; omega
        · rw [List.getElem?_append_left hil, hx] at hy
          cases hy
          rcases List.mem_append.1 hs' with h | h
          · exact hs.mx s h x hx
          · have := (hT s h).2.2; omega
        · rcases hget j s hj with ⟨g1, h1⟩ | ⟨g1, h1⟩
          · by_cases hn : j = i ∧ e = k
            · obtain ⟨rfl, rfl⟩ := hn
              rw [hx] at h1
              cases h1
              refine ⟨by rw [ea, eb, sa, sb]; exact hd, fun a' b' e1 e2 => ?_⟩
              rw [ea] at e1
              rw [eb] at e2
              obtain ⟨t, t1, t2⟩ := List.mem_map.1 (hto a' b' e1 e2)
              refine ⟨t, t1, t2, ?_⟩
              rcases List.mem_append.1 t1 with h | h
              · exact hs.mx t h x hx
              · have := (hT t h).2.2; omega
            · exact (hs.dn j e s h1 (by omega)).more
          · omega
      have stay : ∀ (M' : List ((Int × Int) × Bool)) (L' : List spot), L'[i]? = some x → Ap p q both i (k + 1) M' L' → (∃ M2 L2, forL (gL1 df p q (M0, L0, (i : Int))) (fun s1 => (.inl (s1.1, s1.2))) (k + 1) (List.range' (k + 1) m) (M', L') = some (.inl (M2, L2)) ∧ Ap p q both i 4 M2 L2 ∧ L2[i]? = some x) ∨
          ∃ w, forL (gL1 df p q (M0, L0, (i : Int))) (fun s1 => (.inl (s1.1, s1.2))) (k + 1) (List.range' (k + 1) m) (M', L') = some (.inr (w, true)) ∧ Found p q both w := fun M' L' h1 h2 => ih (k + 1) M' L' (by omega) h1 h2
      cases hc : decide (0 ≤ ca) && decide (0 ≤ cb) with
      | false =>
        rw [cond_false]
        unfold gJ0
        simp only [cond_false]
        refine stay M L hx ?_
        have := step M [] (by simp) (by simp) (by simpa using hs.nd) (by simpa using hs.met) (fun a' b' e1 e2 => by
          have : (dl p.Next a k).isSome = true := by rw [e1]; rfl
          have h2 : (dl q.Next b k).isSome = true := by rw [e2]; rfl
          rw [← sa, ← sb, this, h2] at hc; cases hc)
        simpa using this
      | true =>
        rw [cond_true]
        simp only [Bool.and_eq_true, decide_eq_true_eq] at hc
        have hin : InP p q (ca, cb) := ⟨hc.1, by simp only; omega, hc.2, by simp only; omega⟩
        have da : dl p.Next a k = some ca.toNat := by rw [hda, if_neg (by omega)]
        have db : dl q.Next b k = some cb.toNat := by rw [hdb, if_neg (by omega)]
        unfold gJ0
        by_cases hmem : (ca, cb) ∈ L.map (·.pair)
        · rw [decide_eq_true hmem]
          simp only [Bool.not_true, cond_false]
          refine stay M L hx ?_
          have := step M [] (by simp) (by simp) (by simpa using hs.nd) (by simpa using hs.met) (fun a' b' e1 e2 => by
            rw [da] at e1; rw [db] at e2
            cases e1; cases e2
            rw [Int.toNat_of_nonneg hc.1, Int.toNat_of_nonneg hc.2]
            simpa using hmem)
          simpa using this
        · rw [decide_eq_false hmem]
          simp only [Bool.not_false, cond_true]
          rw [capI_some (by simp; omega), Option.bind_some]
          refine stay _ (L ++ [spot.mk (ca, cb) (x.word ++ [(k : Int)])]) (by rw [List.getElem?_append_left hil]; exact hx) ?_
          refine step _ _ (fun s hs' => ?_) (by simp) ?_ (fun k' => ?_) (fun a' b' e1 e2 => ?_)
          · rw [List.mem_singleton.1 hs']
            refine ⟨hin, ⟨v ++ [k], by rw [w1]; simp, fun y hy => ?_, ?_, ?_⟩, by simp⟩
            · rcases List.mem_append.1 hy with hy | hy
              · exact w2 y hy
              · simp at hy; omega
            · rw [path_snoc, w3, Option.bind_some]; exact da
            · rw [path_snoc, w4, Option.bind_some]; exact db
          · rw [List.map_append]
            exact List.nodup_append.2 ⟨hs.nd, by simp, fun a ha b hb => by
              simp only [List.map_cons, List.map_nil, List.mem_singleton] at hb
              subst hb
              exact fun e => hmem (e ▸ ha)⟩
          · rw [mget_put]
            by_cases e : (ca, cb) = k'
            · subst e; rw [if_pos rfl, decide_eq_true (by simp)]; rfl
            · rw [if_neg e, hs.met k']
              refine decide_eq_decide.2 ?_
              simp only [List.map_append, List.map_cons, List.map_nil, List.mem_append, List.mem_singleton]
              exact ⟨.inl, fun g => g.elim id (fun g => absurd g.symm e)⟩
          · rw [da] at e1; rw [db] at e2
            cases e1; cases e2
            rw [Int.toNat_of_nonneg hc.1, Int.toNat_of_nonneg hc.2]
            simp
include hp hq hpl hql in
theorem ap_loop {df : Bool → Bool → Option Bool} (hdf : ∀ a b, df a b = some (dfB both a b)) : ∀ (n i : Nat) (M : List ((Int × Int) × Bool)) (L : List spot), p.Next.length * q.Next.length - i ≤ n → Ap p q both i 0 M L →
    (iter (gL0 df p q) (M, L, (i : Int)) = some (.inl ()) ∧ ∀ (u : List Nat) (f c d : Nat), (∀ x ∈ u ++ [f], x < 4) → path (dl p.Next) 0 u = some c → path (dl q.Next) 0 u = some d → dfB both (dl p.Next c f).isSome (dl q.Next d f).isSome = false) ∨
    ∃ w, iter (gL0 df p q) (M, L, (i : Int)) = some (.inr (w, true)) ∧ Found p q both w := by
  have h144 : p.Next.length * q.Next.length ≤ 144 := Nat.mul_le_mul hpl hql
  intro n
  induction n with
  | zero =>
    intro i M L hn hs
    have hlen := hs.size
    refine .inl ⟨iter_out ?_, fun u f c d h4 g1 g2 => ?_⟩
    · unfold gL0
      simp only
      rw [decide_eq_false (by omega)]; rfl
    · have hl : ∀ (j : Nat) s, L[j]? = some s → s.word.length < u.length + 1 → j < i := fun j s hj _ => by have := get_lt hj; omega
      obtain ⟨t, t1, t2, t3⟩ := hs.reach (u.length + 1) hl u.length u c d rfl (by omega) (fun y hy => h4 y (by simp [hy])) g1 g2
      obtain ⟨j, hj⟩ := List.getElem?_of_mem t1
      have := (hs.dn j f t hj (.inl ⟨hl j t hj (by omega), h4 f (by simp)⟩)).1
      rw [t2] at this
      exact this
  | succ n ih =>
    intro i M L hn hs
    have hlen := hs.size
    by_cases hlt : i < L.length
    · have hx : L[i]? = some L[i] := List.getElem?_eq_getElem hlt
      have h4 : w64 ((i : Int) + 1) = ((i + 1 : Nat) : Int) := w64_succ (by omega)
      rcases ap_row hp hq hpl hql hdf (M0 := M) (L0 := L) 4 0 M L rfl hx hs with ⟨M', L', e1, e2, e3⟩ | ⟨w, e1, e2⟩
      · have s1 : gL0 df p q (M, L, (i : Int)) = some (.next (M', L', ((i + 1 : Nat) : Int))) := by
          unfold gL0
          simp only
          rw [decide_eq_true (show (i : Int) < (L.length : Int) by clear h4; omega), cond_true, show List.range 4 = List.range' 0 4 from rfl, e1, Option.bind_some, h4]
        clear h4
        rw [iter_next s1]
        refine ih (i + 1) M' L' (by omega) ⟨e2.rng, e2.nd, e2.met, e2.fst, e2.pth, e2.len, e2.srt, fun s hs' y hy => ?_, fun j e s hj he => e2.dn j e s hj (by omega)⟩
        have h1 := e2.mx s hs' _ e3
        have h2 := e2.srt i (i + 1) _ _ (by omega) e3 hy
        omega
      · clear h4
        refine .inr ⟨w, iter_out ?_, e2⟩
        unfold gL0
        simp only
        rw [decide_eq_true (show (i : Int) < (L.length : Int) by omega), cond_true, show List.range 4 = List.range' 0 4 from rfl, e1]; rfl
    · refine .inl ⟨iter_out ?_, fun u f c d h4 g1 g2 => ?_⟩
      · unfold gL0
        simp only
        rw [decide_eq_false (by omega)]; rfl
      · have hl : ∀ (j : Nat) s, L[j]? = some s → s.word.length < u.length + 1 → j < i := fun j s hj _ => by have := get_lt hj; omega
        obtain ⟨t, t1, t2, t3⟩ := hs.reach (u.length + 1) hl u.length u c d rfl (by omega) (fun y hy => h4 y (by simp [hy])) g1 g2
        obtain ⟨j, hj⟩ := List.getElem?_of_mem t1
        have := (hs.dn j f t hj (.inl ⟨hl j t hj (by omega), h4 f (by simp)⟩)).1
        rw [t2] at this
        exact this
include hp hq hpl hql in
theorem apart_ok {df : Bool → Bool → Option Bool} (hdf : ∀ a b, df a b = some (dfB both a b)) :
    (gApart df p q = some ([], false) ∧ ∀ (u : List Nat) (f c d : Nat), (∀ x ∈ u ++ [f], x < 4) → path (dl p.Next) 0 u = some c → path (dl q.Next) 0 u = some d → dfB both (dl p.Next c f).isSome (dl q.Next d f).isSome = false) ∨
    ∃ w, gApart df p q = some (w, true) ∧ Found p q both w := by
  have hin : InP p q (0, 0) := ⟨Int.le_refl _, by have := hp.pos; simp only; omega, Int.le_refl _, by have := hq.pos; simp only; omega⟩
  have hst : Ap p q both 0 0 (mput [] ((0 : Int), (0 : Int)) true) [spot.mk (0, 0) []] := by
    have hget : ∀ (j : Nat) s, [spot.mk ((0 : Int), (0 : Int)) ([] : List Int)][j]? = some s → j = 0 ∧ s = spot.mk (0, 0) [] := by
      intro j s hj
      cases j with
      | zero => cases hj; exact ⟨rfl, rfl⟩
      | succ j => simp at hj
    refine ⟨fun s hs => by rw [List.mem_singleton.1 hs]; exact hin, by simp, fun k => ?_, rfl, fun s hs => by rw [List.mem_singleton.1 hs]; exact ⟨[], rfl, by simp, rfl, rfl⟩, fun j s hj => by obtain ⟨rfl, rfl⟩ := hget j s hj; simp,
      fun j m s t _ hj hm => by obtain ⟨rfl, rfl⟩ := hget j s hj; simp, fun s hs x hx => by rw [List.mem_singleton.1 hs]; simp, fun j e s hj he => by omega⟩
    rw [mget_put]
    by_cases e : ((0 : Int), (0 : Int)) = k
    · subst e; rfl
    · rw [if_neg e, decide_eq_false (by simpa using fun h => e h.symm)]; rfl
  rcases ap_loop hp hq hpl hql hdf _ 0 _ _ (Nat.le_refl _) hst with ⟨e1, e2⟩ | ⟨w, e1, e2⟩
  · refine .inl ⟨?_, e2⟩
    unfold gApart
    have e1' : iter (gL0 df p q) ((mput ([] : List ((Int × Int) × Bool)) ((0 : Int), (0 : Int)) true), [(spot.mk ((0 : Int), (0 : Int)) ([] : List Int))], (0 : Int)) = _ := e1
    rw [e1']; rfl
  · refine .inr ⟨w, ?_, e2⟩
    unfold gApart
    have e1' : iter (gL0 df p q) ((mput ([] : List ((Int × Int) × Bool)) ((0 : Int), (0 : Int)) true), [(spot.mk ((0 : Int), (0 : Int)) ([] : List Int))], (0 : Int)) = _ := e1
    rw [e1']; rfl
end
end Go.Mod
