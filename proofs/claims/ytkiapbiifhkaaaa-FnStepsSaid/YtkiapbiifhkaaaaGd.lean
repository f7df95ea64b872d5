import Derived.Test.YtkiapbiifhkaaaaGc
namespace Go.Mod
open Go.AM
set_option linter.unusedVariables false
structure l00Src where
  code : List Int
  at_ : Int
  seed : Int
  deriving DecidableEq, Inhabited
structure Instr where
  Op : Int
  Arg : Int
  deriving DecidableEq, Inhabited
structure State where
  Vars : List Int
  Cells : List Int
  deriving DecidableEq, Inhabited
structure Config where
  State : State
  Stack : List Int
  At : Int
  deriving DecidableEq, Inhabited
structure runs where
  config : Config
  events : List Int
  counts : List Int
  out : Int
  deriving DecidableEq, Inhabited
structure Term where
  Const : Int
  Coeffs : List Int
  deriving DecidableEq, Inhabited
structure Point where
  At : Int
  Facts : List Term
  deriving DecidableEq, Inhabited
structure Annotated where
  Pre : List Term
  Post : List Term
  Code : List Instr
  Points : List Point
  deriving DecidableEq, Inhabited
structure Node where
  Kind : Int
  Fact : Int
  Term : Term
  Multipliers : List Int
  deriving DecidableEq, Inhabited
structure Package where
  Name : List UInt8
  Code : Annotated
  Proofs : List (List Node)
  deriving DecidableEq, Inhabited
def k_u8 (x : Int) : Prop := 0 ≤ x ∧ x ≤ 255
def kLa_u8 (x : List Int) : Prop := x.length ≤ 9223372036854775807 ∧ ∀ y ∈ x, k_u8 y
noncomputable def m_laws_r8Long (p0 : List Int) (p1 : List Int) : Option Bool :=
  some ((decide ((48 : Int) < (p0.length : Int))) || (decide ((48 : Int) < (p1.length : Int))))
noncomputable def m_spec_l00From (p0 : List Int) : Option l00Src :=
  some (l00Src.mk p0 (0 : Int) (0 : Int))
noncomputable def m_spec_l00Src_next_J0 (p0 : l00Src) (j0 : Int) : Option (Int × l00Src) :=
  bif (decide ((w64 (p0.at_ + (1 : Int))) ≤ (p0.code.length : Int))) then
    some (j0, (l00Src.mk p0.code (w64 (p0.at_ + (1 : Int))) (wu 64 ((wu 64 ((wu 64 (p0.seed * (6364136223846793005 : Int))) + (wu 64 j0))) + (1442695040888963407 : Int)))))
  else
    some ((w64 (andU 64 (Int.fdiv (wu 64 ((wu 64 ((wu 64 (p0.seed * (6364136223846793005 : Int))) + (wu 64 j0))) + (1442695040888963407 : Int))) (2 ^ 40)) (255 : Int))), (l00Src.mk p0.code (w64 (p0.at_ + (1 : Int))) (wu 64 ((wu 64 ((wu 64 (p0.seed * (6364136223846793005 : Int))) + (wu 64 j0))) + (1442695040888963407 : Int)))))
noncomputable def m_spec_l00Src_next (p0 : l00Src) : Option (Int × l00Src) :=
  bif (decide (p0.at_ < (p0.code.length : Int))) then
    (getI p0.code p0.at_).bind fun (x22 : Int) =>
    m_spec_l00Src_next_J0 p0 (w64 x22)
  else
    m_spec_l00Src_next_J0 p0 (0 : Int)
noncomputable def m_spec_l00Src_pick (p0 : l00Src) (p1 : Int) : Option (Int × l00Src) :=
  bif (decide (p1 ≤ (1 : Int))) then
    some ((0 : Int), p0)
  else
    (m_spec_l00Src_next p0).bind fun (r9 : Int × l00Src) =>
    bif (decide ((200 : Int) < p1)) then
      (m_spec_l00Src_next r9.2).bind fun (r15 : Int × l00Src) =>
      (remI (w64 ((w64 (r9.1 * (256 : Int))) + r15.1)) p1).bind fun (q19 : Int) =>
      some (q19, r15.2)
    else
      (remI r9.1 p1).bind fun (q19 : Int) =>
      some (q19, r9.2)
noncomputable def m_spec_l00Src_one (p0 : l00Src) (p1 : Int) : Option (Bool × l00Src) :=
  (m_spec_l00Src_pick p0 p1).bind fun (r7 : Int × l00Src) =>
  some ((decide (r7.1 = (0 : Int))), r7.2)
noncomputable def m_spec_l07DrawTidy_L0 (r12 : Int × l00Src) (s0 : (List Int) × Int × Int × (List Instr) × Int) : Option (Ctl ((List Int) × Int × Int × (List Instr) × Int) (((List Instr) × (List Int) × Int × Int))) :=
  bif (decide (s0.2.2.2.2 < (w64 ((1 : Int) + r12.1)))) then
    (m_spec_l00Src_pick (l00Src.mk s0.1 s0.2.1 s0.2.2.1) (4 : Int)).bind fun (r20 : Int × l00Src) =>
    (m_spec_l00Src_pick r20.2 (9 : Int)).bind fun (r23 : Int × l00Src) =>
    (m_spec_l00Src_pick r23.2 (4 : Int)).bind fun (r27 : Int × l00Src) =>
    (m_spec_l00Src_pick r27.2 (w64 ((w64 ((1 : Int) + r12.1)) + (1 : Int)))).bind fun (r32 : Int × l00Src) =>
    (m_spec_l00Src_pick r32.2 (6 : Int)).bind fun (r35 : Int × l00Src) =>
    bif (decide (r35.1 = (0 : Int))) then
      (capI (s0.2.2.2.1.length + [(Instr.mk (1 : Int) r20.1), (Instr.mk (0 : Int) (w64 (r23.1 - (2 : Int)))), (Instr.mk (3 : Int) (0 : Int)), (Instr.mk (2 : Int) r27.1)].length) 16).bind fun (q44 : Unit) =>
      some (.next (r35.2.code, r35.2.at_, r35.2.seed, (s0.2.2.2.1 ++ [(Instr.mk (1 : Int) r20.1), (Instr.mk (0 : Int) (w64 (r23.1 - (2 : Int)))), (Instr.mk (3 : Int) (0 : Int)), (Instr.mk (2 : Int) r27.1)]), (w64 (s0.2.2.2.2 + (1 : Int)))))
    else
      bif (decide (r35.1 = (1 : Int))) then
        (capI (s0.2.2.2.1.length + [(Instr.mk (1 : Int) r20.1), (Instr.mk (4 : Int) (w64 (r23.1 - (2 : Int)))), (Instr.mk (6 : Int) (w64 ((4 : Int) * r32.1))), (Instr.mk (9 : Int) (Int.tmod s0.2.2.2.2 (4 : Int)))].length) 16).bind fun (q58 : Unit) =>
        some (.next (r35.2.code, r35.2.at_, r35.2.seed, (s0.2.2.2.1 ++ [(Instr.mk (1 : Int) r20.1), (Instr.mk (4 : Int) (w64 (r23.1 - (2 : Int)))), (Instr.mk (6 : Int) (w64 ((4 : Int) * r32.1))), (Instr.mk (9 : Int) (Int.tmod s0.2.2.2.2 (4 : Int)))]), (w64 (s0.2.2.2.2 + (1 : Int)))))
      else
        bif (decide (r35.1 = (2 : Int))) then
          (capI (s0.2.2.2.1.length + [(Instr.mk (0 : Int) (w64 (r23.1 - (2 : Int)))), (Instr.mk (7 : Int) (0 : Int)), (Instr.mk (2 : Int) r27.1), (Instr.mk (9 : Int) r27.1)].length) 16).bind fun (q69 : Unit) =>
          some (.next (r35.2.code, r35.2.at_, r35.2.seed, (s0.2.2.2.1 ++ [(Instr.mk (0 : Int) (w64 (r23.1 - (2 : Int)))), (Instr.mk (7 : Int) (0 : Int)), (Instr.mk (2 : Int) r27.1), (Instr.mk (9 : Int) r27.1)]), (w64 (s0.2.2.2.2 + (1 : Int)))))
        else
          bif (decide (r35.1 = (3 : Int))) then
            (capI (s0.2.2.2.1.length + [(Instr.mk (0 : Int) (w64 (r23.1 - (2 : Int)))), (Instr.mk (1 : Int) r20.1), (Instr.mk (8 : Int) (0 : Int)), (Instr.mk (5 : Int) (w64 ((4 : Int) * r32.1)))].length) 16).bind fun (q79 : Unit) =>
            some (.next (r35.2.code, r35.2.at_, r35.2.seed, (s0.2.2.2.1 ++ [(Instr.mk (0 : Int) (w64 (r23.1 - (2 : Int)))), (Instr.mk (1 : Int) r20.1), (Instr.mk (8 : Int) (0 : Int)), (Instr.mk (5 : Int) (w64 ((4 : Int) * r32.1)))]), (w64 (s0.2.2.2.2 + (1 : Int)))))
          else
            bif (decide (r35.1 = (4 : Int))) then
              (capI (s0.2.2.2.1.length + [(Instr.mk (1 : Int) r20.1), (Instr.mk (10 : Int) (0 : Int)), (Instr.mk (0 : Int) (w64 (r23.1 - (2 : Int)))), (Instr.mk (2 : Int) r27.1)].length) 16).bind fun (q88 : Unit) =>
              some (.next (r35.2.code, r35.2.at_, r35.2.seed, (s0.2.2.2.1 ++ [(Instr.mk (1 : Int) r20.1), (Instr.mk (10 : Int) (0 : Int)), (Instr.mk (0 : Int) (w64 (r23.1 - (2 : Int)))), (Instr.mk (2 : Int) r27.1)]), (w64 (s0.2.2.2.2 + (1 : Int)))))
            else
              bif (decide (r35.1 = (5 : Int))) then
                (capI (s0.2.2.2.1.length + [(Instr.mk (1 : Int) r20.1), (Instr.mk (0 : Int) (w64 (r23.1 - (2 : Int)))), (Instr.mk (3 : Int) (0 : Int)), (Instr.mk (6 : Int) (w64 ((4 : Int) * r32.1)))].length) 16).bind fun (q98 : Unit) =>
                some (.next (r35.2.code, r35.2.at_, r35.2.seed, (s0.2.2.2.1 ++ [(Instr.mk (1 : Int) r20.1), (Instr.mk (0 : Int) (w64 (r23.1 - (2 : Int)))), (Instr.mk (3 : Int) (0 : Int)), (Instr.mk (6 : Int) (w64 ((4 : Int) * r32.1)))]), (w64 (s0.2.2.2.2 + (1 : Int)))))
              else
                some (.next (r35.2.code, r35.2.at_, r35.2.seed, s0.2.2.2.1, (w64 (s0.2.2.2.2 + (1 : Int)))))
  else
    some (.out (s0.2.2.2.1, s0.1, s0.2.1, s0.2.2.1))
noncomputable def m_spec_l07DrawTidy_A0 (u0 : ((List Instr) × (List Int) × Int × Int)) : Option ((List Instr) × l00Src) :=
  (capI (u0.1.length + [(Instr.mk (11 : Int) (0 : Int))].length) 16).bind fun (q102 : Unit) =>
  some ((u0.1 ++ [(Instr.mk (11 : Int) (0 : Int))]), (l00Src.mk u0.2.1 u0.2.2.1 u0.2.2.2))
noncomputable def m_spec_l07DrawTidy (p0 : l00Src) : Option ((List Instr) × l00Src) :=
  (m_spec_l00Src_pick p0 (5 : Int)).bind fun (r12 : Int × l00Src) =>
  (iter (m_spec_l07DrawTidy_L0 r12) (r12.2.code, r12.2.at_, r12.2.seed, ([] : List Instr), (0 : Int))).bind fun (u0 : ((List Instr) × (List Int) × Int × Int)) =>
  m_spec_l07DrawTidy_A0 u0
noncomputable def m_spec_l00Src_among (p0 : l00Src) (p1 : List Int) : Option (Int × l00Src) :=
  (m_spec_l00Src_pick p0 (p1.length : Int)).bind fun (r9 : Int × l00Src) =>
  (getI p1 r9.1).bind fun (x10 : Int) =>
  some (x10, r9.2)
noncomputable def m_spec_l00Min (p0 : Int) (p1 : Int) : Option Int :=
  bif (decide (p0 < p1)) then
    some p0
  else
    some p1
noncomputable def m_spec_l07DrawInstr_J2 (p1 : Int) (r7 : Int × l00Src) (j2 : Bool) : Option (Instr × l00Src) :=
  bif j2 then
    (m_spec_l00Min (w64 (p1 + (1 : Int))) (80 : Int)).bind fun (r36 : Int) =>
    (m_spec_l00Src_pick r7.2 r36).bind fun (r37 : Int × l00Src) =>
    some ((Instr.mk r7.1 r37.1), r37.2)
  else
    bif (decide (r7.1 = (9 : Int))) then
      (m_spec_l00Src_pick r7.2 (4 : Int)).bind fun (r42 : Int × l00Src) =>
      some ((Instr.mk r7.1 r42.1), r42.2)
    else
      some ((Instr.mk r7.1 (0 : Int)), r7.2)
noncomputable def m_spec_l07DrawInstr_J1 (p1 : Int) (r7 : Int × l00Src) (j1 : Bool) : Option (Instr × l00Src) :=
  bif j1 then
    (m_spec_l00Src_pick r7.2 (4 : Int)).bind fun (r28 : Int × l00Src) =>
    some ((Instr.mk r7.1 r28.1), r28.2)
  else
    bif (decide (r7.1 = (5 : Int))) then
      m_spec_l07DrawInstr_J2 p1 r7 (decide (r7.1 = (5 : Int)))
    else
      m_spec_l07DrawInstr_J2 p1 r7 (decide (r7.1 = (6 : Int)))
noncomputable def m_spec_l07DrawInstr_J0 (p1 : Int) (r7 : Int × l00Src) (j0 : Bool) : Option (Instr × l00Src) :=
  bif j0 then
    (m_spec_l00Src_pick r7.2 (9 : Int)).bind fun (r15 : Int × l00Src) =>
    (m_spec_l00Src_one r15.2 (20 : Int)).bind fun (r19 : Bool × l00Src) =>
    bif r19.1 then
      (m_spec_l00Src_among r19.2 [(1000000 : Int), (-1000000 : Int)]).bind fun (r22 : Int × l00Src) =>
      some ((Instr.mk r7.1 r22.1), r22.2)
    else
      some ((Instr.mk r7.1 (w64 (r15.1 - (3 : Int)))), r19.2)
  else
    bif (decide (r7.1 = (1 : Int))) then
      m_spec_l07DrawInstr_J1 p1 r7 (decide (r7.1 = (1 : Int)))
    else
      m_spec_l07DrawInstr_J1 p1 r7 (decide (r7.1 = (2 : Int)))
noncomputable def m_spec_l07DrawInstr (p0 : l00Src) (p1 : Int) : Option (Instr × l00Src) :=
  (m_spec_l00Src_pick p0 (12 : Int)).bind fun (r7 : Int × l00Src) =>
  bif (decide (r7.1 = (0 : Int))) then
    m_spec_l07DrawInstr_J0 p1 r7 (decide (r7.1 = (0 : Int)))
  else
    m_spec_l07DrawInstr_J0 p1 r7 (decide (r7.1 = (4 : Int)))
noncomputable def m_spec_l07DrawOk_L0 (j0 : (List Int) × Int × Int × Int) (s0 : (List Int) × Int × Int × (List Instr) × Int) : Option (Ctl ((List Int) × Int × Int × (List Instr) × Int) (((List Instr) × (List Int) × Int × Int))) :=
  bif (decide (s0.2.2.2.2 < j0.2.2.2)) then
    (m_spec_l07DrawInstr (l00Src.mk s0.1 s0.2.1 s0.2.2.1) j0.2.2.2).bind fun (r25 : Instr × l00Src) =>
    (capI (s0.2.2.2.1.length + [r25.1].length) 16).bind fun (q27 : Unit) =>
    some (.next (r25.2.code, r25.2.at_, r25.2.seed, (s0.2.2.2.1 ++ [r25.1]), (w64 (s0.2.2.2.2 + (1 : Int)))))
  else
    some (.out (s0.2.2.2.1, s0.1, s0.2.1, s0.2.2.1))
noncomputable def m_spec_l07DrawOk_A0 (u0 : ((List Instr) × (List Int) × Int × Int)) : Option ((List Instr) × l00Src) :=
  some (u0.1, (l00Src.mk u0.2.1 u0.2.2.1 u0.2.2.2))
noncomputable def m_spec_l07DrawOk_J0 (j0 : (List Int) × Int × Int × Int) : Option ((List Instr) × l00Src) :=
  (iter (m_spec_l07DrawOk_L0 j0) (j0.1, j0.2.1, j0.2.2.1, ([] : List Instr), (0 : Int))).bind fun (u0 : ((List Instr) × (List Int) × Int × Int)) =>
  m_spec_l07DrawOk_A0 u0
noncomputable def m_spec_l07DrawOk (p0 : l00Src) : Option ((List Instr) × l00Src) :=
  (m_spec_l00Src_one p0 (3 : Int)).bind fun (r7 : Bool × l00Src) =>
  bif (!r7.1) then
    (m_spec_l07DrawTidy r7.2).bind fun (r10 : (List Instr) × l00Src) =>
    some (r10.1, r10.2)
  else
    (m_spec_l00Src_pick r7.2 (9 : Int)).bind fun (r13 : Int × l00Src) =>
    (m_spec_l00Src_one r13.2 (14 : Int)).bind fun (r16 : Bool × l00Src) =>
    bif r16.1 then
      m_spec_l07DrawOk_J0 (r16.2.code, r16.2.at_, r16.2.seed, (80 : Int))
    else
      m_spec_l07DrawOk_J0 (r16.2.code, r16.2.at_, r16.2.seed, (w64 ((1 : Int) + r13.1)))
noncomputable def m_spec_R8Code (p0 : List Int) : Option (List Instr) :=
  (m_spec_l00From p0).bind fun (r5 : l00Src) =>
  (m_spec_l07DrawOk r5).bind fun (r7 : (List Instr) × l00Src) =>
  some r7.1
noncomputable def m_spec_l03DrawState_L0 (s0 : (List Int) × Int × Int × (List Int) × Int) : Option (Ctl ((List Int) × Int × Int × (List Int) × Int) (((List Int) × Int × Int × (List Int)))) :=
  bif (decide (s0.2.2.2.2 < (4 : Int))) then
    (m_spec_l00Src_pick (l00Src.mk s0.1 s0.2.1 s0.2.2.1) (9 : Int)).bind fun (r16 : Int × l00Src) =>
    (capI (s0.2.2.2.1.length + [(w64 (r16.1 - (2 : Int)))].length) 8).bind fun (q19 : Unit) =>
    some (.next (r16.2.code, r16.2.at_, r16.2.seed, (s0.2.2.2.1 ++ [(w64 (r16.1 - (2 : Int)))]), (w64 (s0.2.2.2.2 + (1 : Int)))))
  else
    some (.out (s0.1, s0.2.1, s0.2.2.1, s0.2.2.2.1))
noncomputable def m_spec_l03DrawState_L1 (s1 : (List Int) × Int × Int × (List Int) × Int) : Option (Ctl ((List Int) × Int × Int × (List Int) × Int) (((List Int) × Int × Int × (List Int)))) :=
  bif (decide (s1.2.2.2.2 < (8 : Int))) then
    (m_spec_l00Src_pick (l00Src.mk s1.1 s1.2.1 s1.2.2.1) (9 : Int)).bind fun (r28 : Int × l00Src) =>
    (capI (s1.2.2.2.1.length + [(w64 (r28.1 - (2 : Int)))].length) 8).bind fun (q31 : Unit) =>
    some (.next (r28.2.code, r28.2.at_, r28.2.seed, (s1.2.2.2.1 ++ [(w64 (r28.1 - (2 : Int)))]), (w64 (s1.2.2.2.2 + (1 : Int)))))
  else
    some (.out (s1.1, s1.2.1, s1.2.2.1, s1.2.2.2.1))
noncomputable def m_spec_l03DrawState_A1 (u0 : (List Int) × Int × Int × (List Int)) (u1 : ((List Int) × Int × Int × (List Int))) : Option (State × l00Src) :=
  (m_spec_l00Src_one (l00Src.mk u1.1 u1.2.1 u1.2.2.1) (8 : Int)).bind fun (r34 : Bool × l00Src) =>
  bif r34.1 then
    (m_spec_l00Src_among r34.2 [(1000000000 : Int), (-1000000000 : Int)]).bind fun (r39 : Int × l00Src) =>
    (getI u0.2.2.2 (0 : Int)).bind fun (x40 : Int) =>
    some ((State.mk (u0.2.2.2.set (((0 : Int)).toNat) r39.1) u1.2.2.2), r39.2)
  else
    some ((State.mk u0.2.2.2 u1.2.2.2), r34.2)
noncomputable def m_spec_l03DrawState_A0 (u0 : ((List Int) × Int × Int × (List Int))) : Option (State × l00Src) :=
  (iter (m_spec_l03DrawState_L1) (u0.1, u0.2.1, u0.2.2.1, ([] : List Int), (0 : Int))).bind fun (u1 : ((List Int) × Int × Int × (List Int))) =>
  m_spec_l03DrawState_A1 u0 u1
noncomputable def m_spec_l03DrawState (p0 : l00Src) : Option (State × l00Src) :=
  (iter (m_spec_l03DrawState_L0) (p0.code, p0.at_, p0.seed, ([] : List Int), (0 : Int))).bind fun (u0 : ((List Int) × Int × Int × (List Int))) =>
  m_spec_l03DrawState_A0 u0
noncomputable def m_spec_R8State (p0 : List Int) : Option State :=
  (m_spec_l00From p0).bind fun (r5 : l00Src) =>
  (m_spec_l03DrawState r5).bind fun (r7 : State × l00Src) =>
  some r7.1
noncomputable def m_impl_size (p0 : Int) : Option Int :=
  some p0
noncomputable def m_impl_within (p0 : Int) (p1 : Int) (p2 : Int) : Option Bool :=
  some ((decide (p1 ≤ p0)) && (decide (p0 ≤ p2)))
noncomputable def m_impl_isCoeff (p0 : Int) : Option Bool :=
  (m_impl_within p0 (-1000000 : Int) (1000000 : Int)).bind fun (r4 : Bool) =>
  some r4
noncomputable def m_impl_isVar (p0 : Int) : Option Bool :=
  (m_impl_within p0 (0 : Int) (3 : Int)).bind fun (r4 : Bool) =>
  some r4
noncomputable def m_impl_isPlace (p0 : Int) : Option Bool :=
  (m_impl_within p0 (0 : Int) (79 : Int)).bind fun (r4 : Bool) =>
  some r4
noncomputable def m_impl_isEvent (p0 : Int) : Option Bool :=
  (m_impl_within p0 (0 : Int) (3 : Int)).bind fun (r4 : Bool) =>
  some r4
noncomputable def m_impl_ValidInstr_J3 (p0 : Instr) (j3 : Bool) : Option Bool :=
  bif j3 then
    some (decide (p0.Arg = (0 : Int)))
  else
    some false
noncomputable def m_impl_ValidInstr_J2 (p0 : Instr) (j2 : Bool) : Option Bool :=
  bif j2 then
    (m_impl_isPlace p0.Arg).bind fun (r22 : Bool) =>
    some r22
  else
    bif (decide (p0.Op = (9 : Int))) then
      (m_impl_isEvent p0.Arg).bind fun (r27 : Bool) =>
      some r27
    else
      bif (decide (p0.Op = (3 : Int))) then
        m_impl_ValidInstr_J3 p0 (decide (p0.Op = (3 : Int)))
      else
        bif (decide (p0.Op = (7 : Int))) then
          m_impl_ValidInstr_J3 p0 (decide (p0.Op = (7 : Int)))
        else
          bif (decide (p0.Op = (8 : Int))) then
            m_impl_ValidInstr_J3 p0 (decide (p0.Op = (8 : Int)))
          else
            bif (decide (p0.Op = (10 : Int))) then
              m_impl_ValidInstr_J3 p0 (decide (p0.Op = (10 : Int)))
            else
              m_impl_ValidInstr_J3 p0 (decide (p0.Op = (11 : Int)))
noncomputable def m_impl_ValidInstr_J1 (p0 : Instr) (j1 : Bool) : Option Bool :=
  bif j1 then
    (m_impl_isVar p0.Arg).bind fun (r16 : Bool) =>
    some r16
  else
    bif (decide (p0.Op = (5 : Int))) then
      m_impl_ValidInstr_J2 p0 (decide (p0.Op = (5 : Int)))
    else
      m_impl_ValidInstr_J2 p0 (decide (p0.Op = (6 : Int)))
noncomputable def m_impl_ValidInstr_J0 (p0 : Instr) (j0 : Bool) : Option Bool :=
  bif j0 then
    (m_impl_isCoeff p0.Arg).bind fun (r10 : Bool) =>
    some r10
  else
    bif (decide (p0.Op = (1 : Int))) then
      m_impl_ValidInstr_J1 p0 (decide (p0.Op = (1 : Int)))
    else
      m_impl_ValidInstr_J1 p0 (decide (p0.Op = (2 : Int)))
noncomputable def m_impl_ValidInstr (p0 : Instr) : Option Bool :=
  bif (decide (p0.Op = (0 : Int))) then
    m_impl_ValidInstr_J0 p0 (decide (p0.Op = (0 : Int)))
  else
    m_impl_ValidInstr_J0 p0 (decide (p0.Op = (4 : Int)))
noncomputable def m_impl_ValidCode_1 (p0 : Instr) : Option Bool :=
  (m_impl_ValidInstr p0).bind fun (r4 : Bool) =>
  some (!r4)
noncomputable def m_slices_IndexFunc_impl_Instr_impl_Instr_fValidCode_1_L0 (n0 : Nat) (x0 : Instr) (s0 : Unit) : Option (Ctl Unit (Unit ⊕ Int)) :=
  (m_impl_ValidCode_1 x0).bind fun (r16 : Bool) =>
  bif r16 then
    some (.out (.inr (n0 : Int)))
  else
    some (.next ())
noncomputable def m_slices_IndexFunc_impl_Instr_impl_Instr_fValidCode_1_A0 (u0 : Unit ⊕ Int) : Option Int :=
  match u0 with
  | .inl u0 =>
    some (-1 : Int)
  | .inr u0 =>
    some u0
noncomputable def m_slices_IndexFunc_impl_Instr_impl_Instr_fValidCode_1 (p0 : List Instr) : Option Int :=
  (forL (m_slices_IndexFunc_impl_Instr_impl_Instr_fValidCode_1_L0) (fun s0 => (.inl ())) 0 p0 ()).bind fun (u0 : Unit ⊕ Int) =>
  m_slices_IndexFunc_impl_Instr_impl_Instr_fValidCode_1_A0 u0
noncomputable def m_slices_ContainsFunc_impl_Instr_impl_Instr_fValidCode_1 (p0 : List Instr) : Option Bool :=
  (m_slices_IndexFunc_impl_Instr_impl_Instr_fValidCode_1 p0).bind fun (r7 : Int) =>
  some (decide ((0 : Int) ≤ r7))
noncomputable def m_impl_ValidCode (p0 : List Instr) : Option Bool :=
  (m_impl_size (p0.length : Int)).bind fun (r5 : Int) =>
  (m_impl_within r5 (1 : Int) (80 : Int)).bind fun (r6 : Bool) =>
  bif r6 then
    (m_slices_ContainsFunc_impl_Instr_impl_Instr_fValidCode_1 p0).bind fun (r9 : Bool) =>
    some (!r9)
  else
    some false
noncomputable def m_impl_allWithin_L0 (p1 : Int) (p2 : Int) (n0 : Nat) (x0 : Int) (s0 : Unit) : Option (Ctl Unit (Unit ⊕ Bool)) :=
  (m_impl_within x0 p1 p2).bind fun (r18 : Bool) =>
  bif (!r18) then
    some (.out (.inr false))
  else
    some (.next ())
noncomputable def m_impl_allWithin_A0 (u0 : Unit ⊕ Bool) : Option Bool :=
  match u0 with
  | .inl u0 =>
    some true
  | .inr u0 =>
    some u0
noncomputable def m_impl_allWithin (p0 : List Int) (p1 : Int) (p2 : Int) : Option Bool :=
  (forL (m_impl_allWithin_L0 p1 p2) (fun s0 => (.inl ())) 0 p0 ()).bind fun (u0 : Unit ⊕ Bool) =>
  m_impl_allWithin_A0 u0
noncomputable def m_impl_ValidState (p0 : State) : Option Bool :=
  bif ((decide ((p0.Vars.length : Int) = (4 : Int))) && (decide ((p0.Cells.length : Int) = (8 : Int)))) then
    (m_impl_allWithin p0.Vars (-1000000000 : Int) (1000000000 : Int)).bind fun (r16 : Bool) =>
    bif r16 then
      (m_impl_allWithin p0.Cells (-1000000000 : Int) (1000000000 : Int)).bind fun (r21 : Bool) =>
      some r21
    else
      some false
  else
    some false
noncomputable def m_impl_copyInts (p0 : List Int) : Option (List Int) :=
  (capI (([] : List Int).length + p0.length) 8).bind fun (q5 : Unit) =>
  some (([] : List Int) ++ p0)
noncomputable def m_impl_State_own (p0 : State) : Option State :=
  (m_impl_copyInts p0.Vars).bind fun (r5 : List Int) =>
  (m_impl_copyInts p0.Cells).bind fun (r8 : List Int) =>
  some (State.mk r5 r8)
noncomputable def m_impl_isIndex (p0 : Int) (p1 : Int) : Option Bool :=
  (m_impl_size p1).bind fun (r7 : Int) =>
  (m_impl_within p0 (0 : Int) (w64 (r7 - (1 : Int)))).bind fun (r9 : Bool) =>
  some r9
noncomputable def m_impl_Instr_moves_J2 (p0 : Instr) (j2 : Bool) : Option (Int × Int) :=
  bif j2 then
    some ((1 : Int), (1 : Int))
  else
    bif (decide (p0.Op = (8 : Int))) then
      some ((2 : Int), (0 : Int))
    else
      some ((0 : Int), (0 : Int))
noncomputable def m_impl_Instr_moves_J1 (p0 : Instr) (j1 : Bool) : Option (Int × Int) :=
  bif j1 then
    some ((1 : Int), (0 : Int))
  else
    bif (decide (p0.Op = (3 : Int))) then
      some ((2 : Int), (1 : Int))
    else
      bif (decide (p0.Op = (4 : Int))) then
        m_impl_Instr_moves_J2 p0 (decide (p0.Op = (4 : Int)))
      else
        m_impl_Instr_moves_J2 p0 (decide (p0.Op = (7 : Int)))
noncomputable def m_impl_Instr_moves_J0 (p0 : Instr) (j0 : Bool) : Option (Int × Int) :=
  bif j0 then
    some ((0 : Int), (1 : Int))
  else
    bif (decide (p0.Op = (2 : Int))) then
      m_impl_Instr_moves_J1 p0 (decide (p0.Op = (2 : Int)))
    else
      bif (decide (p0.Op = (6 : Int))) then
        m_impl_Instr_moves_J1 p0 (decide (p0.Op = (6 : Int)))
      else
        m_impl_Instr_moves_J1 p0 (decide (p0.Op = (10 : Int)))
noncomputable def m_impl_Instr_moves (p0 : Instr) : Option (Int × Int) :=
  bif (decide (p0.Op = (0 : Int))) then
    m_impl_Instr_moves_J0 p0 (decide (p0.Op = (0 : Int)))
  else
    m_impl_Instr_moves_J0 p0 (decide (p0.Op = (1 : Int)))
noncomputable def m_impl_isInt (p0 : Int) : Option Bool :=
  (m_impl_within p0 (-1000000000 : Int) (1000000000 : Int)).bind fun (r4 : Bool) =>
  some r4
noncomputable def m_impl_isWide (p0 : Int) : Option Bool :=
  (m_impl_within p0 (-10000000000000000 : Int) (10000000000000000 : Int)).bind fun (r4 : Bool) =>
  some r4
noncomputable def m_impl_absolute (p0 : Int) : Option Int :=
  some (max p0 (w64 (0 - p0)))
noncomputable def m_impl_scaled_J0 (p0 : Int) (p1 : Int) (j0 : Unit) : Option (Int × Bool) :=
  (m_impl_isWide (w64 (p0 * p1))).bind fun (r22 : Bool) =>
  some ((w64 (p0 * p1)), r22)
noncomputable def m_impl_scaled (p0 : Int) (p1 : Int) : Option (Int × Bool) :=
  bif (!decide (p0 = (0 : Int))) then
    (m_impl_absolute p1).bind fun (r10 : Int) =>
    (m_impl_absolute p0).bind fun (r12 : Int) =>
    (quoI (10000000000000000 : Int) r12).bind fun (q13 : Int) =>
    bif (decide (q13 < r10)) then
      some ((0 : Int), false)
    else
      m_impl_scaled_J0 p0 p1 ()
  else
    m_impl_scaled_J0 p0 p1 ()
noncomputable def m_impl_Config_step_J3 (j2 : (List Int) × (List Int) × Int × Int × Int × Bool) (j3 : List Int) : Option (Int × Int × Config) :=
  some ((0 : Int), j2.2.2.2.1, (Config.mk (State.mk j2.1 j2.2.1) j3 j2.2.2.1))
noncomputable def m_impl_Config_step_J2 (p0 : Config) (r33 : Int × Int) (j2 : (List Int) × (List Int) × Int × Int × Int × Bool) : Option (Int × Int × Config) :=
  bif (!j2.2.2.2.2.2) then
    some ((4 : Int), (-1 : Int), (Config.mk (State.mk j2.1 j2.2.1) p0.Stack p0.At))
  else
    (sliceI p0.Stack (0 : Int) (w64 ((p0.Stack.length : Int) - r33.1))).bind fun (y190 : List Int) =>
    bif (decide ((0 : Int) < r33.2)) then
      (capI (y190.length + [j2.2.2.2.2.1].length) 8).bind fun (q202 : Unit) =>
      m_impl_Config_step_J3 j2 (y190 ++ [j2.2.2.2.2.1])
    else
      m_impl_Config_step_J3 j2 y190
noncomputable def m_impl_Config_step_J1 (p0 : Config) (x29 : Instr) (r33 : Int × Int) (j1 : Bool) : Option (Int × Int × Config) :=
  bif j1 then
    (p0.Stack[(((w64 ((p0.Stack.length : Int) - r33.1))).toNat + 0)]?).bind fun (e141 : Int) =>
    (m_impl_within e141 (0 : Int) (7 : Int)).bind fun (r144 : Bool) =>
    bif (!r144) then
      some ((2 : Int), (-1 : Int), p0)
    else
      bif (decide (x29.Op = (7 : Int))) then
        (getI p0.State.Cells e141).bind fun (x155 : Int) =>
        m_impl_Config_step_J2 p0 r33 (p0.State.Vars, p0.State.Cells, (w64 (p0.At + (1 : Int))), (-1 : Int), x155, true)
      else
        (p0.Stack[(((w64 ((p0.Stack.length : Int) - r33.1))).toNat + 1)]?).bind fun (e158 : Int) =>
        (m_impl_isInt e158).bind fun (r160 : Bool) =>
        bif (!r160) then
          some ((4 : Int), (-1 : Int), p0)
        else
          (getI p0.State.Cells e141).bind fun (x171 : Int) =>
          m_impl_Config_step_J2 p0 r33 (p0.State.Vars, (p0.State.Cells.set ((e141).toNat) e158), (w64 (p0.At + (1 : Int))), (-1 : Int), (0 : Int), true)
  else
    bif (decide (x29.Op = (9 : Int))) then
      m_impl_Config_step_J2 p0 r33 (p0.State.Vars, p0.State.Cells, (w64 (p0.At + (1 : Int))), x29.Arg, (0 : Int), true)
    else
      bif (decide (x29.Op = (10 : Int))) then
        (p0.Stack[(((w64 ((p0.Stack.length : Int) - r33.1))).toNat + 0)]?).bind fun (e179 : Int) =>
        bif (decide (e179 < (0 : Int))) then
          some ((3 : Int), (-1 : Int), p0)
        else
          m_impl_Config_step_J2 p0 r33 (p0.State.Vars, p0.State.Cells, (w64 (p0.At + (1 : Int))), (-1 : Int), (0 : Int), true)
      else
        m_impl_Config_step_J2 p0 r33 (p0.State.Vars, p0.State.Cells, (w64 (p0.At + (1 : Int))), (-1 : Int), (0 : Int), true)
noncomputable def m_impl_Config_step_J0 (p0 : Config) (x29 : Instr) (r33 : Int × Int) (j0 : Unit) : Option (Int × Int × Config) :=
  (sliceI p0.Stack (w64 ((p0.Stack.length : Int) - r33.1)) (p0.Stack.length : Int)).bind fun (y60 : List Int) =>
  bif (decide (x29.Op = (11 : Int))) then
    some ((6 : Int), (-1 : Int), p0)
  else
    bif (decide (x29.Op = (0 : Int))) then
      m_impl_Config_step_J2 p0 r33 (p0.State.Vars, p0.State.Cells, (w64 (p0.At + (1 : Int))), (-1 : Int), x29.Arg, true)
    else
      bif (decide (x29.Op = (1 : Int))) then
        (getI p0.State.Vars x29.Arg).bind fun (x83 : Int) =>
        m_impl_Config_step_J2 p0 r33 (p0.State.Vars, p0.State.Cells, (w64 (p0.At + (1 : Int))), (-1 : Int), x83, true)
      else
        bif (decide (x29.Op = (2 : Int))) then
          (p0.Stack[(((w64 ((p0.Stack.length : Int) - r33.1))).toNat + 0)]?).bind fun (e88 : Int) =>
          (m_impl_isInt e88).bind fun (r90 : Bool) =>
          bif (!r90) then
            some ((4 : Int), (-1 : Int), p0)
          else
            (getI p0.State.Vars x29.Arg).bind fun (x102 : Int) =>
            m_impl_Config_step_J2 p0 r33 ((p0.State.Vars.set ((x29.Arg).toNat) e88), p0.State.Cells, (w64 (p0.At + (1 : Int))), (-1 : Int), (0 : Int), true)
        else
          bif (decide (x29.Op = (3 : Int))) then
            (p0.Stack[(((w64 ((p0.Stack.length : Int) - r33.1))).toNat + 0)]?).bind fun (e106 : Int) =>
            (p0.Stack[(((w64 ((p0.Stack.length : Int) - r33.1))).toNat + 1)]?).bind fun (e109 : Int) =>
            (m_impl_isWide (w64 (e106 + e109))).bind fun (r113 : Bool) =>
            m_impl_Config_step_J2 p0 r33 (p0.State.Vars, p0.State.Cells, (w64 (p0.At + (1 : Int))), (-1 : Int), (w64 (e106 + e109)), r113)
          else
            bif (decide (x29.Op = (4 : Int))) then
              (p0.Stack[(((w64 ((p0.Stack.length : Int) - r33.1))).toNat + 0)]?).bind fun (e118 : Int) =>
              (m_impl_scaled e118 x29.Arg).bind fun (r122 : Int × Bool) =>
              m_impl_Config_step_J2 p0 r33 (p0.State.Vars, p0.State.Cells, (w64 (p0.At + (1 : Int))), (-1 : Int), r122.1, r122.2)
            else
              bif (decide (x29.Op = (5 : Int))) then
                m_impl_Config_step_J2 p0 r33 (p0.State.Vars, p0.State.Cells, x29.Arg, (-1 : Int), (0 : Int), true)
              else
                bif (decide (x29.Op = (6 : Int))) then
                  (p0.Stack[(((w64 ((p0.Stack.length : Int) - r33.1))).toNat + 0)]?).bind fun (e132 : Int) =>
                  bif (decide (e132 < (0 : Int))) then
                    m_impl_Config_step_J2 p0 r33 (p0.State.Vars, p0.State.Cells, x29.Arg, (-1 : Int), (0 : Int), true)
                  else
                    m_impl_Config_step_J2 p0 r33 (p0.State.Vars, p0.State.Cells, (w64 (p0.At + (1 : Int))), (-1 : Int), (0 : Int), true)
                else
                  bif (decide (x29.Op = (7 : Int))) then
                    m_impl_Config_step_J1 p0 x29 r33 (decide (x29.Op = (7 : Int)))
                  else
                    m_impl_Config_step_J1 p0 x29 r33 (decide (x29.Op = (8 : Int)))
noncomputable def m_impl_Config_step (p0 : Config) (p1 : List Instr) : Option (Int × Int × Config) :=
  (m_impl_isIndex p0.At (p1.length : Int)).bind fun (r22 : Bool) =>
  bif (!r22) then
    some ((5 : Int), (-1 : Int), p0)
  else
    (getI p1 p0.At).bind fun (x29 : Instr) =>
    (m_impl_Instr_moves x29).bind fun (r33 : Int × Int) =>
    bif (decide ((w64 ((p0.Stack.length : Int) - r33.1)) < (0 : Int))) then
      some ((5 : Int), (-1 : Int), p0)
    else
      bif (decide ((0 : Int) < r33.2)) then
        bif (decide ((6 : Int) < (w64 ((w64 ((p0.Stack.length : Int) - r33.1)) + r33.2)))) then
          some ((5 : Int), (-1 : Int), p0)
        else
          m_impl_Config_step_J0 p0 x29 r33 ()
      else
        m_impl_Config_step_J0 p0 x29 r33 ()
noncomputable def m_impl_ran_L0 (p0 : List Instr) (s0 : Int × (List Int) × (List Int) × (List Int) × Int × (List Int) × (List Int)) : Option (Ctl (Int × (List Int) × (List Int) × (List Int) × Int × (List Int) × (List Int)) (((List Int) × (List Int) × (List Int) × Int × (List Int) × (List Int) × Int))) :=
  bif (decide (s0.1 = (0 : Int))) then
    some (.out (s0.2.1, s0.2.2.1, s0.2.2.2.1, s0.2.2.2.2.1, s0.2.2.2.2.2.1, s0.2.2.2.2.2.2, (1 : Int)))
  else
    (m_impl_Config_step (Config.mk (State.mk s0.2.1 s0.2.2.1) s0.2.2.2.1 s0.2.2.2.2.1) p0).bind fun (r51 : Int × Int × Config) =>
    bif (decide (r51.1 = (6 : Int))) then
      some (.out (r51.2.2.State.Vars, r51.2.2.State.Cells, r51.2.2.Stack, r51.2.2.At, s0.2.2.2.2.2.1, s0.2.2.2.2.2.2, (0 : Int)))
    else
      bif (!decide (r51.1 = (0 : Int))) then
        some (.out (r51.2.2.State.Vars, r51.2.2.State.Cells, r51.2.2.Stack, r51.2.2.At, s0.2.2.2.2.2.1, s0.2.2.2.2.2.2, r51.1))
      else
        (getI s0.2.2.2.2.2.2 s0.2.2.2.2.1).bind fun (x69 : Int) =>
        bif (decide ((0 : Int) ≤ r51.2.1)) then
          (capI (s0.2.2.2.2.2.1.length + [r51.2.1].length) 8).bind fun (q82 : Unit) =>
          some (.next ((w64 (s0.1 - (1 : Int))), r51.2.2.State.Vars, r51.2.2.State.Cells, r51.2.2.Stack, r51.2.2.At, (s0.2.2.2.2.2.1 ++ [r51.2.1]), (s0.2.2.2.2.2.2.set ((s0.2.2.2.2.1).toNat) (w64 (x69 + (1 : Int))))))
        else
          some (.next ((w64 (s0.1 - (1 : Int))), r51.2.2.State.Vars, r51.2.2.State.Cells, r51.2.2.Stack, r51.2.2.At, s0.2.2.2.2.2.1, (s0.2.2.2.2.2.2.set ((s0.2.2.2.2.1).toNat) (w64 (x69 + (1 : Int))))))
noncomputable def m_impl_ran_A0 (u0 : ((List Int) × (List Int) × (List Int) × Int × (List Int) × (List Int) × Int)) : Option (runs × Bool) :=
  some ((runs.mk (Config.mk (State.mk u0.1 u0.2.1) u0.2.2.1 u0.2.2.2.1) u0.2.2.2.2.1 u0.2.2.2.2.2.1 u0.2.2.2.2.2.2), true)
noncomputable def m_impl_ran_J0 (p0 : List Instr) (p2 : Int) (j0 : (List Int) × (List Int) × (List Int)) : Option (runs × Bool) :=
  (iter (m_impl_ran_L0 p0) (p2, j0.1, j0.2.1, ([] : List Int), (0 : Int), ([] : List Int), j0.2.2)).bind fun (u0 : ((List Int) × (List Int) × (List Int) × Int × (List Int) × (List Int) × Int)) =>
  m_impl_ran_A0 u0
noncomputable def m_impl_ran (p0 : List Instr) (p1 : State) (p2 : Int) : Option (runs × Bool) :=
  (m_impl_ValidCode p0).bind fun (r13 : Bool) =>
  bif (!r13) then
    some (default, false)
  else
    (m_impl_ValidState p1).bind fun (r17 : Bool) =>
    bif (!r17) then
      some (default, false)
    else
      (m_impl_within p2 (0 : Int) (2000 : Int)).bind fun (r22 : Bool) =>
      bif (!r22) then
        some (default, false)
      else
        (m_impl_State_own p1).bind fun (r26 : State) =>
        (makeI (p0.length : Int) 8).bind fun (k30 : Nat) =>
        m_impl_ran_J0 p0 p2 (r26.Vars, r26.Cells, (List.replicate k30 (0 : Int)))
noncomputable def m_impl_RunCode (p0 : List Instr) (p1 : State) (p2 : Int) : Option (State × (List Int) × Int × Bool) :=
  (m_impl_ran p0 p1 p2).bind fun (r16 : runs × Bool) =>
  bif r16.2 then
    some (r16.1.config.State, r16.1.events, r16.1.out, true)
  else
    some ((State.mk ([] : List Int) ([] : List Int)), ([] : List Int), (0 : Int), false)
noncomputable def m_impl_CountCode (p0 : List Instr) (p1 : State) (p2 : Int) : Option ((List Int) × Bool) :=
  (m_impl_ran p0 p1 p2).bind fun (r14 : runs × Bool) =>
  bif r14.2 then
    some (r14.1.counts, true)
  else
    some (([] : List Int), false)
noncomputable def m_impl_ValidConfig (p0 : List Instr) (p1 : Config) : Option Bool :=
  (m_impl_ValidCode p0).bind fun (r6 : Bool) =>
  bif r6 then
    (m_impl_ValidState p1.State).bind fun (r10 : Bool) =>
    bif (r10 && (decide ((p1.Stack.length : Int) ≤ (6 : Int)))) then
      (m_impl_allWithin p1.Stack (-10000000000000000 : Int) (10000000000000000 : Int)).bind fun (r21 : Bool) =>
      bif r21 then
        (m_impl_within p1.At (0 : Int) (80 : Int)).bind fun (r26 : Bool) =>
        some r26
      else
        some false
    else
      some false
  else
    some false
noncomputable def m_impl_Config_own (p0 : Config) : Option Config :=
  (m_impl_State_own p0.State).bind fun (r5 : State) =>
  (m_impl_copyInts p0.Stack).bind fun (r8 : List Int) =>
  some (Config.mk r5 r8 p0.At)
noncomputable def m_impl_StepCode (p0 : List Instr) (p1 : Config) : Option (Config × Int × Bool) :=
  (m_impl_ValidConfig p0 p1).bind fun (r12 : Bool) =>
  bif (!r12) then
    some ((Config.mk (State.mk ([] : List Int) ([] : List Int)) ([] : List Int) (0 : Int)), (0 : Int), false)
  else
    (m_impl_Config_own p1).bind fun (r16 : Config) =>
    (m_impl_Config_step r16 p0).bind fun (r19 : Int × Int × Config) =>
    some (r19.2.2, r19.1, true)
noncomputable def m_laws_r8Same_L0 (p0 : List Int) (p1 : List Int) (s0 : Int) : Option (Ctl Int (Unit ⊕ Bool)) :=
  bif (decide (s0 < (p0.length : Int))) then
    (getI p0 s0).bind fun (x19 : Int) =>
    (getI p1 s0).bind fun (x23 : Int) =>
    bif (!decide (x19 = x23)) then
      some (.out (.inr false))
    else
      some (.next (w64 (s0 + (1 : Int))))
  else
    some (.out (.inl ()))
noncomputable def m_laws_r8Same_A0 (u0 : Unit ⊕ Bool) : Option Bool :=
  match u0 with
  | .inl u0 =>
    some true
  | .inr u0 =>
    some u0
noncomputable def m_laws_r8Same (p0 : List Int) (p1 : List Int) : Option Bool :=
  bif (!decide ((p0.length : Int) = (p1.length : Int))) then
    some false
  else
    (iter (m_laws_r8Same_L0 p0 p1) (0 : Int)).bind fun (u0 : Unit ⊕ Bool) =>
    m_laws_r8Same_A0 u0
noncomputable def m_laws_r8States (p0 : State) (p1 : State) : Option Bool :=
  (m_laws_r8Same p0.Vars p1.Vars).bind fun (r9 : Bool) =>
  bif r9 then
    (m_laws_r8Same p0.Cells p1.Cells).bind fun (r15 : Bool) =>
    some r15
  else
    some false
noncomputable def m_laws_FnSteps_L0 (r25 : List Instr) (s0 : (List Int) × (List Int) × (List Int) × Int × (List Int) × (List Int) × Int) : Option (Ctl ((List Int) × (List Int) × (List Int) × Int × (List Int) × (List Int) × Int) (((List Int) × (List Int) × (List Int) × Int × (List Int) × (List Int) × Int) ⊕ Bool)) :=
  bif (decide (s0.2.2.2.2.2.2 < (60 : Int))) then
    (m_impl_StepCode r25 (Config.mk (State.mk s0.1 s0.2.1) s0.2.2.1 s0.2.2.2.1)).bind fun (r68 : Config × Int × Bool) =>
    bif (!r68.2.2) then
      some (.out (.inr false))
    else
      bif (!decide (r68.2.1 = (0 : Int))) then
        some (.out (.inl (s0.1, s0.2.1, s0.2.2.1, s0.2.2.2.1, s0.2.2.2.2.1, s0.2.2.2.2.2.1, r68.2.1)))
      else
        bif ((decide (s0.2.2.2.1 < (0 : Int))) || (decide ((r25.length : Int) ≤ s0.2.2.2.1))) then
          some (.out (.inr false))
        else
          (m_impl_ValidConfig r25 r68.1).bind fun (r90 : Bool) =>
          bif (!r90) then
            some (.out (.inr false))
          else
            (getI s0.2.2.2.2.2.1 s0.2.2.2.1).bind fun (x96 : Int) =>
            (getI r25 s0.2.2.2.1).bind fun (x103 : Instr) =>
            bif (decide (x103.Op = (9 : Int))) then
              (capI (s0.2.2.2.2.1.length + [x103.Arg].length) 8).bind fun (q115 : Unit) =>
              some (.next (r68.1.State.Vars, r68.1.State.Cells, r68.1.Stack, r68.1.At, (s0.2.2.2.2.1 ++ [x103.Arg]), (s0.2.2.2.2.2.1.set ((s0.2.2.2.1).toNat) (w64 (x96 + (1 : Int)))), (w64 (s0.2.2.2.2.2.2 + (1 : Int)))))
            else
              some (.next (r68.1.State.Vars, r68.1.State.Cells, r68.1.Stack, r68.1.At, s0.2.2.2.2.1, (s0.2.2.2.2.2.1.set ((s0.2.2.2.1).toNat) (w64 (x96 + (1 : Int)))), (w64 (s0.2.2.2.2.2.2 + (1 : Int)))))
  else
    some (.out (.inl (s0.1, s0.2.1, s0.2.2.1, s0.2.2.2.1, s0.2.2.2.2.1, s0.2.2.2.2.2.1, (1 : Int))))
noncomputable def m_laws_FnSteps_J0 (r31 : State × (List Int) × Int × Bool) (r39 : (List Int) × Bool) (u0 : (List Int) × (List Int) × (List Int) × Int × (List Int) × (List Int) × Int) (j0 : Int) : Option Bool :=
  bif (decide (r31.2.2.1 = j0)) then
    (m_laws_r8Same r31.2.1 u0.2.2.2.2.1).bind fun (r125 : Bool) =>
    bif r125 then
      (m_laws_r8Same r39.1 u0.2.2.2.2.2.1).bind fun (r130 : Bool) =>
      bif r130 then
        (m_laws_r8States r31.1 (State.mk u0.1 u0.2.1)).bind fun (r136 : Bool) =>
        some r136
      else
        some false
    else
      some false
  else
    some false
noncomputable def m_laws_FnSteps_A0 (r31 : State × (List Int) × Int × Bool) (r39 : (List Int) × Bool) (u0 : ((List Int) × (List Int) × (List Int) × Int × (List Int) × (List Int) × Int) ⊕ Bool) : Option Bool :=
  match u0 with
  | .inl u0 =>
    bif (decide (u0.2.2.2.2.2.2 = (6 : Int))) then
      m_laws_FnSteps_J0 r31 r39 u0 (0 : Int)
    else
      m_laws_FnSteps_J0 r31 r39 u0 u0.2.2.2.2.2.2
  | .inr u0 =>
    some u0
noncomputable def m_laws_FnSteps (p0 : List Int) (p1 : List Int) : Option Bool :=
  (m_laws_r8Long p0 p1).bind fun (r23 : Bool) =>
  bif r23 then
    some true
  else
    (m_spec_R8Code p0).bind fun (r25 : List Instr) =>
    (m_spec_R8State p1).bind fun (r27 : State) =>
    (m_impl_RunCode r25 r27 (60 : Int)).bind fun (r31 : State × (List Int) × Int × Bool) =>
    (m_impl_CountCode r25 r27 (60 : Int)).bind fun (r39 : (List Int) × Bool) =>
    bif (((!r31.2.2.2) || (!r39.2)) || (!decide ((r39.1.length : Int) = (r25.length : Int)))) then
      some false
    else
      (makeI (r25.length : Int) 8).bind fun (k60 : Nat) =>
      (iter (m_laws_FnSteps_L0 r25) (r27.Vars, r27.Cells, ([] : List Int), (0 : Int), ([] : List Int), (List.replicate k60 (0 : Int)), (0 : Int))).bind fun (u0 : ((List Int) × (List Int) × (List Int) × Int × (List Int) × (List Int) × Int) ⊕ Bool) =>
      m_laws_FnSteps_A0 r31 r39 u0
noncomputable def m_spec_l00In (p0 : Int) (p1 : Int) (p2 : Int) : Option Bool :=
  some ((decide (p1 ≤ p0)) && (decide (p0 ≤ p2)))
noncomputable def m_spec_l00Own (p0 : List Int) : Option (List Int) :=
  (capI (([] : List Int).length + p0.length) 8).bind fun (q5 : Unit) =>
  some (([] : List Int) ++ p0)
noncomputable def m_spec_l03Own (p0 : State) : Option State :=
  (m_spec_l00Own p0.Vars).bind fun (r7 : List Int) =>
  (m_spec_l00Own p0.Cells).bind fun (r12 : List Int) =>
  some (State.mk r7 r12)
noncomputable def m_spec_l07Pops_J0 (p0 : Int) (j0 : Bool) : Option Int :=
  bif j0 then
    some (1 : Int)
  else
    bif (decide (p0 = (3 : Int))) then
      bif (decide (p0 = (3 : Int))) then
        some (2 : Int)
      else
        some (0 : Int)
    else
      bif (decide (p0 = (8 : Int))) then
        some (2 : Int)
      else
        some (0 : Int)
noncomputable def m_spec_l07Pops (p0 : Int) : Option Int :=
  bif (decide (p0 = (2 : Int))) then
    m_spec_l07Pops_J0 p0 (decide (p0 = (2 : Int)))
  else
    bif (decide (p0 = (4 : Int))) then
      m_spec_l07Pops_J0 p0 (decide (p0 = (4 : Int)))
    else
      bif (decide (p0 = (6 : Int))) then
        m_spec_l07Pops_J0 p0 (decide (p0 = (6 : Int)))
      else
        bif (decide (p0 = (7 : Int))) then
          m_spec_l07Pops_J0 p0 (decide (p0 = (7 : Int)))
        else
          m_spec_l07Pops_J0 p0 (decide (p0 = (10 : Int)))
noncomputable def m_spec_l07Pushes (p0 : Int) : Option Int :=
  bif (decide (p0 = (0 : Int))) then
    bif (decide (p0 = (0 : Int))) then
      some (1 : Int)
    else
      some (0 : Int)
  else
    bif (decide (p0 = (1 : Int))) then
      bif (decide (p0 = (1 : Int))) then
        some (1 : Int)
      else
        some (0 : Int)
    else
      bif (decide (p0 = (3 : Int))) then
        bif (decide (p0 = (3 : Int))) then
          some (1 : Int)
        else
          some (0 : Int)
      else
        bif (decide (p0 = (4 : Int))) then
          bif (decide (p0 = (4 : Int))) then
            some (1 : Int)
          else
            some (0 : Int)
        else
          bif (decide (p0 = (7 : Int))) then
            some (1 : Int)
          else
            some (0 : Int)
noncomputable def m_spec_l03Cell (p0 : Int) : Option Bool :=
  (m_spec_l00In p0 (0 : Int) (7 : Int)).bind fun (r4 : Bool) =>
  some r4
noncomputable def m_spec_l07Wide (p0 : Int) : Option Bool :=
  (m_spec_l00In p0 (-10000000000000000 : Int) (10000000000000000 : Int)).bind fun (r4 : Bool) =>
  some r4
noncomputable def m_spec_l00Max (p0 : Int) (p1 : Int) : Option Int :=
  bif (decide (p1 < p0)) then
    some p0
  else
    some p1
noncomputable def m_spec_l07Far (p0 : Int) (p1 : Int) : Option Bool :=
  bif (decide (p1 = (0 : Int))) then
    some false
  else
    (m_spec_l00Max p0 (w64 (0 - p0))).bind fun (r11 : Int) =>
    (m_spec_l00Max p1 (w64 (0 - p1))).bind fun (r16 : Int) =>
    (quoI (10000000000000000 : Int) r16).bind fun (q17 : Int) =>
    some (decide (q17 < r11))
noncomputable def m_spec_l03Int (p0 : Int) : Option Bool :=
  (m_spec_l00In p0 (-1000000000 : Int) (1000000000 : Int)).bind fun (r4 : Bool) =>
  some r4
noncomputable def m_spec_l07Next_J4 (p1 : Config) (j0 : (List Int) × (List Int) × (List Int)) (x39 : Instr) (r43 : Int) (j1 : Int) (j2 : Int) (j4 : Unit) : Option (Config × Int) :=
  bif ((decide (x39.Op = (10 : Int))) && (decide (j1 < (0 : Int)))) then
    some ((Config.mk (State.mk j0.1 j0.2.1) j0.2.2 p1.At), (3 : Int))
  else
    (sliceI p1.Stack (0 : Int) (w64 ((p1.Stack.length : Int) - r43))).bind fun (y158 : List Int) =>
    (m_spec_l00Own y158).bind fun (r159 : List Int) =>
    bif (decide (x39.Op = (0 : Int))) then
      (capI (r159.length + [x39.Arg].length) 8).bind fun (q176 : Unit) =>
      some ((Config.mk (State.mk j0.1 j0.2.1) (r159 ++ [x39.Arg]) (w64 (p1.At + (1 : Int)))), (0 : Int))
    else
      bif (decide (x39.Op = (1 : Int))) then
        (getI p1.State.Vars x39.Arg).bind fun (x189 : Int) =>
        (capI (r159.length + [x189].length) 8).bind fun (q192 : Unit) =>
        some ((Config.mk (State.mk j0.1 j0.2.1) (r159 ++ [x189]) (w64 (p1.At + (1 : Int)))), (0 : Int))
      else
        bif (decide (x39.Op = (2 : Int))) then
          (getI j0.1 x39.Arg).bind fun (x202 : Int) =>
          some ((Config.mk (State.mk (j0.1.set ((x39.Arg).toNat) j1) j0.2.1) r159 (w64 (p1.At + (1 : Int)))), (0 : Int))
        else
          bif (decide (x39.Op = (3 : Int))) then
            (capI (r159.length + [(w64 (j1 + j2))].length) 8).bind fun (q211 : Unit) =>
            some ((Config.mk (State.mk j0.1 j0.2.1) (r159 ++ [(w64 (j1 + j2))]) (w64 (p1.At + (1 : Int)))), (0 : Int))
          else
            bif (decide (x39.Op = (4 : Int))) then
              (capI (r159.length + [(w64 (j1 * x39.Arg))].length) 8).bind fun (q222 : Unit) =>
              some ((Config.mk (State.mk j0.1 j0.2.1) (r159 ++ [(w64 (j1 * x39.Arg))]) (w64 (p1.At + (1 : Int)))), (0 : Int))
            else
              bif (decide (x39.Op = (5 : Int))) then
                some ((Config.mk (State.mk j0.1 j0.2.1) r159 x39.Arg), (0 : Int))
              else
                bif (decide (x39.Op = (6 : Int))) then
                  bif (decide (j1 < (0 : Int))) then
                    some ((Config.mk (State.mk j0.1 j0.2.1) r159 x39.Arg), (0 : Int))
                  else
                    some ((Config.mk (State.mk j0.1 j0.2.1) r159 (w64 (p1.At + (1 : Int)))), (0 : Int))
                else
                  bif (decide (x39.Op = (7 : Int))) then
                    (getI p1.State.Cells j1).bind fun (x246 : Int) =>
                    (capI (r159.length + [x246].length) 8).bind fun (q249 : Unit) =>
                    some ((Config.mk (State.mk j0.1 j0.2.1) (r159 ++ [x246]) (w64 (p1.At + (1 : Int)))), (0 : Int))
                  else
                    bif (decide (x39.Op = (8 : Int))) then
                      (getI j0.2.1 j2).bind fun (x258 : Int) =>
                      some ((Config.mk (State.mk j0.1 (j0.2.1.set ((j2).toNat) j1)) r159 (w64 (p1.At + (1 : Int)))), (0 : Int))
                    else
                      some ((Config.mk (State.mk j0.1 j0.2.1) r159 (w64 (p1.At + (1 : Int)))), (0 : Int))
noncomputable def m_spec_l07Next_J3 (p1 : Config) (j0 : (List Int) × (List Int) × (List Int)) (x39 : Instr) (r43 : Int) (j1 : Int) (j2 : Int) (j3 : Unit) : Option (Config × Int) :=
  bif (decide (x39.Op = (3 : Int))) then
    (m_spec_l07Wide (w64 (j1 + j2))).bind fun (r115 : Bool) =>
    bif (!r115) then
      some ((Config.mk (State.mk j0.1 j0.2.1) j0.2.2 p1.At), (4 : Int))
    else
      bif (decide (x39.Op = (4 : Int))) then
        (m_spec_l07Far j1 x39.Arg).bind fun (r126 : Bool) =>
        bif r126 then
          some ((Config.mk (State.mk j0.1 j0.2.1) j0.2.2 p1.At), (4 : Int))
        else
          bif (decide (x39.Op = (2 : Int))) then
            (m_spec_l03Int j1).bind fun (r140 : Bool) =>
            bif (!r140) then
              some ((Config.mk (State.mk j0.1 j0.2.1) j0.2.2 p1.At), (4 : Int))
            else
              m_spec_l07Next_J4 p1 j0 x39 r43 j1 j2 ()
          else
            bif (decide (x39.Op = (8 : Int))) then
              (m_spec_l03Int j1).bind fun (r140 : Bool) =>
              bif (!r140) then
                some ((Config.mk (State.mk j0.1 j0.2.1) j0.2.2 p1.At), (4 : Int))
              else
                m_spec_l07Next_J4 p1 j0 x39 r43 j1 j2 ()
            else
              m_spec_l07Next_J4 p1 j0 x39 r43 j1 j2 ()
      else
        bif (decide (x39.Op = (2 : Int))) then
          (m_spec_l03Int j1).bind fun (r140 : Bool) =>
          bif (!r140) then
            some ((Config.mk (State.mk j0.1 j0.2.1) j0.2.2 p1.At), (4 : Int))
          else
            m_spec_l07Next_J4 p1 j0 x39 r43 j1 j2 ()
        else
          bif (decide (x39.Op = (8 : Int))) then
            (m_spec_l03Int j1).bind fun (r140 : Bool) =>
            bif (!r140) then
              some ((Config.mk (State.mk j0.1 j0.2.1) j0.2.2 p1.At), (4 : Int))
            else
              m_spec_l07Next_J4 p1 j0 x39 r43 j1 j2 ()
          else
            m_spec_l07Next_J4 p1 j0 x39 r43 j1 j2 ()
  else
    bif (decide (x39.Op = (4 : Int))) then
      (m_spec_l07Far j1 x39.Arg).bind fun (r126 : Bool) =>
      bif r126 then
        some ((Config.mk (State.mk j0.1 j0.2.1) j0.2.2 p1.At), (4 : Int))
      else
        bif (decide (x39.Op = (2 : Int))) then
          (m_spec_l03Int j1).bind fun (r140 : Bool) =>
          bif (!r140) then
            some ((Config.mk (State.mk j0.1 j0.2.1) j0.2.2 p1.At), (4 : Int))
          else
            m_spec_l07Next_J4 p1 j0 x39 r43 j1 j2 ()
        else
          bif (decide (x39.Op = (8 : Int))) then
            (m_spec_l03Int j1).bind fun (r140 : Bool) =>
            bif (!r140) then
              some ((Config.mk (State.mk j0.1 j0.2.1) j0.2.2 p1.At), (4 : Int))
            else
              m_spec_l07Next_J4 p1 j0 x39 r43 j1 j2 ()
          else
            m_spec_l07Next_J4 p1 j0 x39 r43 j1 j2 ()
    else
      bif (decide (x39.Op = (2 : Int))) then
        (m_spec_l03Int j1).bind fun (r140 : Bool) =>
        bif (!r140) then
          some ((Config.mk (State.mk j0.1 j0.2.1) j0.2.2 p1.At), (4 : Int))
        else
          m_spec_l07Next_J4 p1 j0 x39 r43 j1 j2 ()
      else
        bif (decide (x39.Op = (8 : Int))) then
          (m_spec_l03Int j1).bind fun (r140 : Bool) =>
          bif (!r140) then
            some ((Config.mk (State.mk j0.1 j0.2.1) j0.2.2 p1.At), (4 : Int))
          else
            m_spec_l07Next_J4 p1 j0 x39 r43 j1 j2 ()
        else
          m_spec_l07Next_J4 p1 j0 x39 r43 j1 j2 ()
noncomputable def m_spec_l07Next_J2 (p1 : Config) (j0 : (List Int) × (List Int) × (List Int)) (x39 : Instr) (r43 : Int) (j1 : Int) (j2 : Int) : Option (Config × Int) :=
  bif (decide (x39.Op = (7 : Int))) then
    (m_spec_l03Cell j1).bind fun (r94 : Bool) =>
    bif (!r94) then
      some ((Config.mk (State.mk j0.1 j0.2.1) j0.2.2 p1.At), (2 : Int))
    else
      bif (decide (x39.Op = (8 : Int))) then
        (m_spec_l03Cell j2).bind fun (r103 : Bool) =>
        bif (!r103) then
          some ((Config.mk (State.mk j0.1 j0.2.1) j0.2.2 p1.At), (2 : Int))
        else
          m_spec_l07Next_J3 p1 j0 x39 r43 j1 j2 ()
      else
        m_spec_l07Next_J3 p1 j0 x39 r43 j1 j2 ()
  else
    bif (decide (x39.Op = (8 : Int))) then
      (m_spec_l03Cell j2).bind fun (r103 : Bool) =>
      bif (!r103) then
        some ((Config.mk (State.mk j0.1 j0.2.1) j0.2.2 p1.At), (2 : Int))
      else
        m_spec_l07Next_J3 p1 j0 x39 r43 j1 j2 ()
    else
      m_spec_l07Next_J3 p1 j0 x39 r43 j1 j2 ()
noncomputable def m_spec_l07Next_J1 (p1 : Config) (j0 : (List Int) × (List Int) × (List Int)) (x39 : Instr) (r43 : Int) (j1 : Int) : Option (Config × Int) :=
  bif (decide ((1 : Int) < r43)) then
    (getI p1.Stack (w64 ((p1.Stack.length : Int) - r43))).bind fun (x87 : Int) =>
    m_spec_l07Next_J2 p1 j0 x39 r43 j1 x87
  else
    m_spec_l07Next_J2 p1 j0 x39 r43 j1 (0 : Int)
noncomputable def m_spec_l07Next_J0 (p0 : List Instr) (p1 : Config) (j0 : (List Int) × (List Int) × (List Int)) : Option (Config × Int) :=
  bif (decide ((p0.length : Int) ≤ p1.At)) then
    some ((Config.mk (State.mk j0.1 j0.2.1) j0.2.2 p1.At), (5 : Int))
  else
    (getI p0 p1.At).bind fun (x39 : Instr) =>
    (m_spec_l07Pops x39.Op).bind fun (r43 : Int) =>
    bif (decide ((w64 ((p1.Stack.length : Int) - r43)) < (0 : Int))) then
      some ((Config.mk (State.mk j0.1 j0.2.1) j0.2.2 p1.At), (5 : Int))
    else
      (m_spec_l07Pushes x39.Op).bind fun (r57 : Int) =>
      bif (decide ((6 : Int) < (w64 ((w64 ((p1.Stack.length : Int) - r43)) + r57)))) then
        some ((Config.mk (State.mk j0.1 j0.2.1) j0.2.2 p1.At), (5 : Int))
      else
        bif (decide (x39.Op = (11 : Int))) then
          some ((Config.mk (State.mk j0.1 j0.2.1) j0.2.2 p1.At), (6 : Int))
        else
          bif (decide ((0 : Int) < r43)) then
            (getI p1.Stack (w64 ((p1.Stack.length : Int) - (1 : Int)))).bind fun (x78 : Int) =>
            m_spec_l07Next_J1 p1 j0 x39 r43 x78
          else
            m_spec_l07Next_J1 p1 j0 x39 r43 (0 : Int)
noncomputable def m_spec_l07Next (p0 : List Instr) (p1 : Config) : Option (Config × Int) :=
  (m_spec_l03Own p1.State).bind fun (r15 : State) =>
  (m_spec_l00Own p1.Stack).bind fun (r20 : List Int) =>
  m_spec_l07Next_J0 p0 p1 (r15.Vars, r15.Cells, r20)
end Go.Mod

namespace Go.Mod
open Go.AM
set_option linter.unusedVariables false
set_option linter.unusedSimpArgs false
def inR (c : Int) : Bool := decide (-1000000 ≤ c) && decide (c ≤ 1000000)
def lastOK (xs : List Int) : Bool := match xs.getLast? with | none => true | some x => !decide (x = 0)
def vT (t : Term) : Bool := inR t.Const && decide (t.Coeffs.length ≤ 10) && lastOK t.Coeffs && t.Coeffs.all inR
theorem impl_all {xs : List Int} {a b : Int} : m_impl_allWithin xs a b = some (xs.all fun x => decide (a ≤ x) && decide (x ≤ b)) := by
  unfold m_impl_allWithin
  rw [forL_all (fun x => decide (a ≤ x) && decide (x ≤ b)) (f := .inr false) xs 0 (fun n x _ => by
    unfold m_impl_allWithin_L0 m_impl_within
    rw [Option.bind_some]
    cases (decide (a ≤ x) && decide (x ≤ b)) <;> rfl), Option.bind_some]
  cases xs.all fun x => decide (a ≤ x) && decide (x ≤ b) <;> rfl
def chk (t : Term) : Term × Bool := bif vT t then (t, true) else (Term.mk 0 [], false)
theorem spec_own {xs : List Int} (h : xs.length ≤ 1048576) : m_spec_l00Own xs = some xs := by
  unfold m_spec_l00Own; rw [capI_some (by simp; omega)]; simp
theorem impl_copy {xs : List Int} (h : xs.length ≤ 1048576) : m_impl_copyInts xs = some xs := by
  unfold m_impl_copyInts; rw [capI_some (by simp; omega)]; simp
def coef (xs : List Int) (i : Nat) : Int := xs[i]?.getD 0
def sumN (f : Nat → Int) : Nat → Int
  | 0 => 0
  | n + 1 => sumN f n + f n
def tAt (ts : List Term) (k : Nat) : Term := ts[k]?.getD ⟨0, []⟩
def lin (ts : List Term) (ms : List Int) (g : Term → Int) (n : Nat) : Int := sumN (fun k => coef ms k * g (tAt ts k)) n
def Src (s : l00Src) (k : Nat) : Prop := (∀ x ∈ s.code, 0 ≤ x ∧ x ≤ 255) ∧ s.code.length ≤ 1048576 ∧ 0 ≤ s.at_ ∧ s.at_ ≤ k
theorem Src.mono {s : l00Src} {k k' : Nat} (h : Src s k) (hk : k ≤ k') : Src s k' := ⟨h.1, h.2.1, h.2.2.1, by have := h.2.2.2; omega⟩
theorem and_rng (a : Int) : 0 ≤ andU 64 a 255 ∧ andU 64 a 255 ≤ 255 := by
  unfold andU
  have h : (BitVec.ofInt 64 a &&& BitVec.ofInt 64 255).toNat ≤ 255 := by
    rw [BitVec.toNat_and]
    have : (BitVec.ofInt 64 255).toNat = 255 := by decide
    rw [this]
    exact Nat.and_le_right
  generalize (BitVec.ofInt 64 a &&& BitVec.ofInt 64 255).toNat = q at h
  unfold wu
  omega
theorem next_ok {s : l00Src} {k : Nat} (h : Src s k) (hk : k ≤ 1000000000) : ∃ r s', m_spec_l00Src_next s = some (r, s') ∧ 0 ≤ r ∧ r ≤ 255 ∧ Src s' (k + 1) := by
  obtain ⟨h1, h2, h3, h4⟩ := h
  have hJ : ∀ j : Int, 0 ≤ j → j ≤ 255 → ∃ r s', m_spec_l00Src_next_J0 s j = some (r, s') ∧ 0 ≤ r ∧ r ≤ 255 ∧ Src s' (k + 1) := by
    intro j hj0 hj1
    unfold m_spec_l00Src_next_J0
    rw [w64_eq (n := s.at_ + 1) (by omega)]
    have hS : ∀ sd, Src (l00Src.mk s.code (s.at_ + 1) sd) (k + 1) := fun sd => ⟨h1, h2, by simp only; omega, by simp only; omega⟩
    by_cases hq : s.at_ + 1 ≤ (s.code.length : Int)
    · rw [decide_eq_true hq, cond_true]; exact ⟨_, _, rfl, hj0, hj1, hS _⟩
    · rw [decide_eq_false hq, cond_false]
      have := and_rng (Int.fdiv (wu 64 ((wu 64 ((wu 64 (s.seed * (6364136223846793005 : Int))) + (wu 64 j))) + (1442695040888963407 : Int))) (2 ^ 40))
      exact ⟨_, _, rfl, by rw [w64_eq (by omega)]; omega, by rw [w64_eq (by omega)]; omega, hS _⟩
  unfold m_spec_l00Src_next
  by_cases hq : s.at_ < (s.code.length : Int)
  · obtain ⟨n, hn⟩ := Int.eq_ofNat_of_zero_le h3
    have hlt : n < s.code.length := by omega
    have hx : s.code[n]? = some s.code[n] := by simp
    have hb := h1 _ (List.getElem_mem hlt)
    rw [decide_eq_true hq, cond_true, hn, getI_some hx, Option.bind_some, w64_eq (by omega)]
    exact hJ _ hb.1 hb.2
  · rw [decide_eq_false hq, cond_false]; exact hJ 0 (by omega) (by omega)
theorem pick_ok {s : l00Src} {k : Nat} {n : Int} (h : Src s k) (hk : k ≤ 100000000) (hn : n ≤ 200) : ∃ r s', m_spec_l00Src_pick s n = some (r, s') ∧ 0 ≤ r ∧ (r < n ∨ r = 0) ∧ Src s' (k + 1) := by
  unfold m_spec_l00Src_pick
  by_cases h1 : n ≤ 1
  · rw [decide_eq_true h1, cond_true]; exact ⟨_, _, rfl, by omega, .inr rfl, h.mono (by omega)⟩
  · rw [decide_eq_false h1, cond_false]
    obtain ⟨r, s', e1, e2, e3, e4⟩ := next_ok h (by omega)
    rw [e1, Option.bind_some, decide_eq_false (by omega), cond_false]
    simp only
    unfold remI
    rw [decide_eq_false (by omega), cond_false, Option.bind_some]
    exact ⟨_, _, rfl, Int.tmod_nonneg _ e2, .inl (Int.tmod_lt_of_pos _ (by omega)), e4⟩
theorem from_ok {code : List Int} (h1 : ∀ x ∈ code, 0 ≤ x ∧ x ≤ 255) (h2 : code.length ≤ 1048576) : m_spec_l00From code = some (l00Src.mk code 0 0) ∧ Src (l00Src.mk code 0 0) 0 :=
  ⟨rfl, h1, h2, Int.le_refl _, Int.le_refl _⟩
def val (t : Term) (v : List Int) : Int := t.Const + sumN (fun i => coef t.Coeffs i * coef v i) 10
def Vals (v : List Int) : Prop := v.length = 10 ∧ ∀ x ∈ v, -6 ≤ x ∧ x ≤ 6
theorem Vals.coef {v : List Int} (h : Vals v) (i : Nat) : -6 ≤ coef v i ∧ coef v i ≤ 6 := by
  unfold Mod.coef
  cases hx : v[i]? with
  | none => simp
  | some x => exact h.2 x (List.mem_of_getElem? hx)
structure Small (t : Term) : Prop where
  v : vT t = true
  c : -7 ≤ t.Const ∧ t.Const ≤ 7
  f : ∀ i, -4 ≤ coef t.Coeffs i ∧ coef t.Coeffs i ≤ 4
structure Fact (t : Term) (c : Nat) : Prop where
  v : vT t = true
  c : -(c : Int) ≤ t.Const ∧ t.Const ≤ c
  f : ∀ i, -3 ≤ coef t.Coeffs i ∧ coef t.Coeffs i ≤ 3
theorem Fact.mono {t : Term} {c c' : Nat} (h : Fact t c) (hc : c ≤ c') : Fact t c' := ⟨h.v, by have := h.c; omega, h.f⟩
end Go.Mod

namespace Go.Mod
open Go.AM
set_option linter.unusedVariables false
set_option linter.unusedSimpArgs false
def rng (a b x : Int) : Bool := decide (a ≤ x) && decide (x ≤ b)
theorem rng_iff {a b x : Int} : rng a b x = true ↔ a ≤ x ∧ x ≤ b := by simp [rng]
def okInstr (x : Instr) : Bool :=
  bif decide (x.Op = 0) || decide (x.Op = 4) then rng (-1000000) 1000000 x.Arg
  else bif decide (x.Op = 1) || decide (x.Op = 2) then rng 0 3 x.Arg
  else bif decide (x.Op = 5) || decide (x.Op = 6) then rng 0 79 x.Arg
  else bif decide (x.Op = 9) then rng 0 3 x.Arg
  else bif decide (x.Op = 3) || decide (x.Op = 7) || decide (x.Op = 8) || decide (x.Op = 10) || decide (x.Op = 11) then decide (x.Arg = 0) else false
theorem impl_instr (x : Instr) : m_impl_ValidInstr x = some (okInstr x) := by
  unfold m_impl_ValidInstr m_impl_ValidInstr_J0 m_impl_ValidInstr_J1 m_impl_ValidInstr_J2 m_impl_ValidInstr_J3 okInstr
  unfold m_impl_isCoeff m_impl_isVar m_impl_isPlace m_impl_isEvent m_impl_within rng
  cases decide (x.Op = 0) with
  | true => rfl
  | false =>
    cases decide (x.Op = 4) with
    | true => rfl
    | false =>
      cases decide (x.Op = 1) with
      | true => rfl
      | false =>
        cases decide (x.Op = 2) with
        | true => rfl
        | false =>
          cases decide (x.Op = 5) with
          | true => rfl
          | false =>
            cases decide (x.Op = 6) with
            | true => rfl
            | false =>
              cases decide (x.Op = 9) with
              | true => rfl
              | false =>
                cases decide (x.Op = 3) with
                | true => rfl
                | false =>
                  cases decide (x.Op = 7) with
                  | true => rfl
                  | false =>
                    cases decide (x.Op = 8) with
                    | true => rfl
                    | false =>
                      cases decide (x.Op = 10) with
                      | true => rfl
                      | false =>
                        cases decide (x.Op = 11) with
                        | true => rfl
                        | false =>
                          rfl
def okCode (code : List Instr) : Bool := code.all okInstr && rng 1 80 (code.length : Int)
theorem bad_index : ∀ (code : List Instr) (m : Nat), ∃ u, forL m_slices_IndexFunc_impl_Instr_impl_Instr_fValidCode_1_L0 (fun s0 => (.inl ())) m code () = some u ∧
    (code.all okInstr = false → ∃ n : Nat, u = .inr (n : Int)) ∧ (code.all okInstr = true → u = .inl ()) := by
  intro code
  induction code with
  | nil => intro m; exact ⟨.inl (), rfl, ⟨fun h => by simp at h, fun _ => rfl⟩⟩
  | cons x r ih =>
    intro m
    have hs : m_slices_IndexFunc_impl_Instr_impl_Instr_fValidCode_1_L0 m x () = bif !okInstr x then some (.out (.inr (m : Int))) else some (.next ()) := by
      unfold m_slices_IndexFunc_impl_Instr_impl_Instr_fValidCode_1_L0 m_impl_ValidCode_1
      rw [impl_instr, Option.bind_some, Option.bind_some]
    obtain ⟨u, hu, h1, h2⟩ := ih (m + 1)
    unfold forL
    rw [hs, List.all_cons]
    cases hc : okInstr x with
    | false => exact ⟨.inr (m : Int), rfl, fun _ => ⟨m, rfl⟩, fun h => by cases h⟩
    | true => exact ⟨u, hu, fun h => h1 h, fun h => h2 h⟩
theorem impl_code (code : List Instr) : m_impl_ValidCode code = some (okCode code) := by
  unfold m_impl_ValidCode okCode
  rw [show m_impl_size (code.length : Int) = some (code.length : Int) from rfl, Option.bind_some, show m_impl_within (code.length : Int) 1 80 = some (rng 1 80 (code.length : Int)) from rfl, Option.bind_some]
  cases rng 1 80 (code.length : Int) with
  | false => rw [cond_false, Bool.and_false]
  | true =>
    rw [cond_true, Bool.and_true]
    unfold m_slices_ContainsFunc_impl_Instr_impl_Instr_fValidCode_1 m_slices_IndexFunc_impl_Instr_impl_Instr_fValidCode_1
    obtain ⟨u, hu, h1, h2⟩ := bad_index code 0
    rw [hu, Option.bind_some]
    unfold m_slices_IndexFunc_impl_Instr_impl_Instr_fValidCode_1_A0
    cases hs : code.all okInstr with
    | false => obtain ⟨n, rfl⟩ := h1 hs; simp only [Option.bind_some]; rw [decide_eq_true (by omega)]; rfl
    | true => rw [h2 hs]; rfl
def okInts (xs : List Int) (n : Nat) : Bool := xs.all (rng (-1000000000) 1000000000) && decide (xs.length = n)
def okState (s : State) : Bool := okInts s.Vars 4 && okInts s.Cells 8
theorem dec_cast {a b : Nat} : decide ((a : Int) = (b : Int)) = decide (a = b) := by
  by_cases h : a = b
  · rw [decide_eq_true h, decide_eq_true (by omega)]
  · rw [decide_eq_false h, decide_eq_false (by omega)]
theorem impl_state (s : State) : m_impl_ValidState s = some (okState s) := by
  unfold m_impl_ValidState okState okInts
  rw [show (4 : Int) = ((4 : Nat) : Int) from rfl, show (8 : Int) = ((8 : Nat) : Int) from rfl, dec_cast, dec_cast, impl_all, impl_all]
  rw [show (s.Vars.all fun x => decide (-1000000000 ≤ x) && decide (x ≤ 1000000000)) = s.Vars.all (rng (-1000000000) 1000000000) from rfl, show (s.Cells.all fun x => decide (-1000000000 ≤ x) && decide (x ≤ 1000000000)) = s.Cells.all (rng (-1000000000) 1000000000) from rfl]
  cases decide (s.Vars.length = 4) <;> cases decide (s.Cells.length = 8) <;> cases s.Vars.all (rng (-1000000000) 1000000000) <;> cases s.Cells.all (rng (-1000000000) 1000000000) <;> rfl
def W : Int := 10000000000000000
def okConfig (c : Config) : Bool := c.Stack.all (rng (-10000000000000000) 10000000000000000) && (okState c.State && decide (c.Stack.length ≤ 6) && rng 0 80 c.At)
theorem dec_le {a b : Nat} : decide ((a : Int) ≤ (b : Int)) = decide (a ≤ b) := by
  by_cases h : a ≤ b
  · rw [decide_eq_true h, decide_eq_true (by omega)]
  · rw [decide_eq_false h, decide_eq_false (by omega)]
theorem impl_config {code : List Instr} {c : Config} : m_impl_ValidConfig code c = some (okCode code && okConfig c) := by
  unfold m_impl_ValidConfig okConfig
  rw [impl_code, Option.bind_some, impl_state, Option.bind_some, impl_all, Option.bind_some, show (6 : Int) = ((6 : Nat) : Int) from rfl, dec_le]
  rw [show (c.Stack.all fun x => decide (-10000000000000000 ≤ x) && decide (x ≤ 10000000000000000)) = c.Stack.all (rng (-10000000000000000) 10000000000000000) from rfl, show m_impl_within c.At 0 80 = some (rng 0 80 c.At) from rfl]
  cases okCode code <;> cases okState c.State <;> cases decide (c.Stack.length ≤ 6) <;> cases c.Stack.all (rng (-10000000000000000) 10000000000000000) <;> cases rng 0 80 c.At <;> rfl
end Go.Mod

namespace Go.Mod
open Go.AM
set_option linter.unusedVariables false
set_option linter.unusedSimpArgs false
theorem okConfig_iff {c : Config} : okConfig c = true ↔ (∀ x ∈ c.Stack, -10000000000000000 ≤ x ∧ x ≤ 10000000000000000) ∧ okState c.State = true ∧ c.Stack.length ≤ 6 ∧ 0 ≤ c.At ∧ c.At ≤ 80 := by
  unfold okConfig
  simp only [Bool.and_eq_true, List.all_eq_true, rng_iff, decide_eq_true_eq]
  exact ⟨fun ⟨a, ⟨b, c⟩, d⟩ => ⟨a, b, c, d⟩, fun ⟨a, b, c, d⟩ => ⟨a, ⟨b, c⟩, d⟩⟩
theorem okState_iff {s : State} : okState s = true ↔ ((∀ x ∈ s.Vars, -1000000000 ≤ x ∧ x ≤ 1000000000) ∧ s.Vars.length = 4) ∧ ((∀ x ∈ s.Cells, -1000000000 ≤ x ∧ x ≤ 1000000000) ∧ s.Cells.length = 8) := by
  unfold okState okInts
  simp only [Bool.and_eq_true, List.all_eq_true, rng_iff, decide_eq_true_eq]
theorem getI_in {xs : List Int} {i : Int} (h0 : 0 ≤ i) (h1 : i < xs.length) : ∃ x, getI xs i = some x ∧ x ∈ xs := by
  obtain ⟨n, rfl⟩ := Int.eq_ofNat_of_zero_le h0
  have hn : n < xs.length := by omega
  exact ⟨xs[n], getI_some (List.getElem?_eq_getElem hn), List.getElem_mem hn⟩
theorem set_ok {xs : List Int} {n : Nat} {i : Nat} {v : Int} (h : (∀ x ∈ xs, -1000000000 ≤ x ∧ x ≤ 1000000000) ∧ xs.length = n) (hv : -1000000000 ≤ v ∧ v ≤ 1000000000) : (∀ x ∈ xs.set i v, -1000000000 ≤ x ∧ x ≤ 1000000000) ∧ (xs.set i v).length = n :=
  ⟨fun x hx => by rcases List.mem_or_eq_of_mem_set hx with hx | rfl; exact h.1 x hx; exact hv, by simpa using h.2⟩
theorem wpop {st : List Int} {p : Nat} (hl : st.length ≤ 6) (hp : p ≤ st.length) : w64 ((st.length : Int) - (p : Int)) = ((st.length - p : Nat) : Int) := by rw [w64_eq (by omega)]; omega
theorem front {st : List Int} {p : Nat} : sliceI st 0 ((st.length - p : Nat) : Int) = some (st.take (st.length - p)) := by
  have := sliceI_some (xs := st) (l := 0) (u := st.length - p) (by omega) (by omega)
  simpa using this
def Alike (code : List Instr) (c : Config) : Prop := ∃ out ev c', m_impl_Config_step c code = some (out, ev, c') ∧ m_spec_l07Next code c = some (c', out) ∧ okConfig c' = true ∧
  (out = 0 → ∃ x, getI code c.At = some x ∧ ev = if x.Op = 9 then x.Arg else -1) ∧ (out ≠ 0 → c' = c)
section
variable {code : List Instr} {c : Config} {x : Instr} {op arg : Int}
theorem J2_no {r : Int × Int} {vars cells : List Int} {next ev p : Int} : m_impl_Config_step_J2 c r (vars, cells, next, ev, p, false) = some (4, -1, Config.mk (State.mk vars cells) c.Stack c.At) := rfl
theorem J2_push {r : Int × Int} {pop : Nat} {vars cells : List Int} {next ev p : Int} (h1 : r.1 = (pop : Int)) (h2 : r.2 = 1) (hl : c.Stack.length ≤ 6) (hp : pop ≤ c.Stack.length) :
    m_impl_Config_step_J2 c r (vars, cells, next, ev, p, true) = some (0, ev, Config.mk (State.mk vars cells) (c.Stack.take (c.Stack.length - pop) ++ [p]) next) := by
  unfold m_impl_Config_step_J2 m_impl_Config_step_J3
  rw [h1, h2, wpop hl hp, front]
  simp only [Bool.not_true, cond_false, Option.bind_some]
  rw [decide_eq_true (by decide), cond_true, capI_some (by simp; omega), Option.bind_some]
theorem J2_none {r : Int × Int} {pop : Nat} {vars cells : List Int} {next ev p : Int} (h1 : r.1 = (pop : Int)) (h2 : r.2 = 0) (hl : c.Stack.length ≤ 6) (hp : pop ≤ c.Stack.length) :
    m_impl_Config_step_J2 c r (vars, cells, next, ev, p, true) = some (0, ev, Config.mk (State.mk vars cells) (c.Stack.take (c.Stack.length - pop)) next) := by
  unfold m_impl_Config_step_J2 m_impl_Config_step_J3
  rw [h1, h2, wpop hl hp, front]
  simp only [Bool.not_true, cond_false, Option.bind_some]
  rw [decide_eq_false (by decide), cond_false]
theorem impl_pre {pop : Nat} {push : Int} (hl : c.Stack.length ≤ 6) (hat : 0 ≤ c.At) (hlt : c.At < code.length) (hcl : code.length ≤ 80) (hx : getI code c.At = some x) (hm : m_impl_Instr_moves x = some ((pop : Int), push)) (hpush : push = 0 ∨ push = 1) (hp2 : pop ≤ 2) :
    m_impl_Config_step c code = bif decide (c.Stack.length < pop) || (decide (push = 1) && decide (6 < (c.Stack.length : Int) - pop + 1)) then some (5, -1, c) else m_impl_Config_step_J0 c x ((pop : Int), push) () := by
  unfold m_impl_Config_step
  have hidx : m_impl_isIndex c.At (code.length : Int) = some true := by
    unfold m_impl_isIndex m_impl_within m_impl_size
    simp only [Option.bind_some]
    rw [w64_eq (by omega), decide_eq_true hat, decide_eq_true (by omega)]; rfl
  rw [hidx, Option.bind_some, Bool.not_true, cond_false, hx, Option.bind_some, hm, Option.bind_some]
  by_cases h1 : c.Stack.length < pop
  · simp only
    rw [decide_eq_true h1, w64_eq (n := (c.Stack.length : Int) - pop) (by omega), decide_eq_true (by omega)]; rfl
  · simp only
    rw [decide_eq_false h1, wpop hl (by omega), decide_eq_false (by omega), cond_false, Bool.false_or]
    rcases hpush with rfl | rfl
    · rw [decide_eq_false (show ¬ (0 : Int) < 0 by decide), cond_false, decide_eq_false (show ¬ (0 : Int) = 1 by decide), Bool.false_and, cond_false]
    · rw [decide_eq_true (show (0 : Int) < 1 by decide), cond_true, w64_eq (by omega), decide_eq_true (show (1 : Int) = 1 from rfl), Bool.true_and]
      rw [show (((c.Stack.length - pop : Nat) : Int) + 1) = (c.Stack.length : Int) - pop + 1 by omega]
theorem spec_pre {pop : Nat} {push : Int} (hs : okConfig c = true) (hlt : c.At < code.length) (hx : getI code c.At = some x) (hm : m_spec_l07Pops x.Op = some (pop : Int)) (hm2 : m_spec_l07Pushes x.Op = some push) (hpush : push = 0 ∨ push = 1) (hp2 : pop ≤ 2) :
    m_spec_l07Next code c = bif decide (c.Stack.length < pop) || (decide (push = 1) && decide (6 < (c.Stack.length : Int) - pop + 1)) then some (c, 5) else
      bif decide (x.Op = 11) then some (c, 6) else bif decide ((0 : Int) < (pop : Int)) then (getI c.Stack (w64 ((c.Stack.length : Int) - 1))).bind fun t => m_spec_l07Next_J1 c (c.State.Vars, c.State.Cells, c.Stack) x (pop : Int) t else m_spec_l07Next_J1 c (c.State.Vars, c.State.Cells, c.Stack) x (pop : Int) 0 := by
  obtain ⟨w, ho, hl, ha1, ha2⟩ := okConfig_iff.1 hs
  obtain ⟨⟨_, v4⟩, ⟨_, c8⟩⟩ := okState_iff.1 ho
  unfold m_spec_l07Next m_spec_l03Own
  rw [spec_own (by omega), Option.bind_some, spec_own (by omega), Option.bind_some, Option.bind_some, spec_own (by omega), Option.bind_some]
  unfold m_spec_l07Next_J0
  rw [decide_eq_false (by omega), cond_false, hx, Option.bind_some, hm, Option.bind_some]
  by_cases h1 : c.Stack.length < pop
  · rw [decide_eq_true h1, w64_eq (n := (c.Stack.length : Int) - pop) (by omega), decide_eq_true (by omega)]; rfl
  · rw [decide_eq_false h1, wpop hl (by omega), decide_eq_false (by omega), cond_false, hm2, Option.bind_some, Bool.false_or]
    rcases hpush with rfl | rfl
    · rw [w64_eq (by omega), decide_eq_false (by omega), cond_false, decide_eq_false (show ¬ (0 : Int) = 1 by decide), Bool.false_and, cond_false]
    · rw [w64_eq (by omega), decide_eq_true (show (1 : Int) = 1 from rfl), Bool.true_and]
      rw [show (((c.Stack.length - pop : Nat) : Int) + 1) = (c.Stack.length : Int) - pop + 1 by omega]
end
end Go.Mod

namespace Go.Mod
open Go.AM
set_option linter.unusedVariables false
set_option linter.unusedSimpArgs false
theorem frontOwn {α : Type} {st : List Int} {p : Nat} {F : List Int → Option α} (hl : st.length ≤ 6) (hp : p ≤ st.length) :
    ((sliceI st 0 (w64 ((st.length : Int) - (p : Int)))).bind fun y => (m_spec_l00Own y).bind F) = F (st.take (st.length - p)) := by
  rw [wpop hl hp, front, Option.bind_some, spec_own (by simp; omega), Option.bind_some]
theorem backI {st : List Int} {p : Nat} (hl : st.length ≤ 6) (hp : p ≤ st.length) : ∃ b, sliceI st (w64 ((st.length : Int) - (p : Int))) (st.length : Int) = some b := by
  rw [wpop hl hp]; exact ⟨_, sliceI_some (by omega) (Nat.le_refl _)⟩
theorem topI {st : List Int} {t : Int} (hl : st.length ≤ 6) (h : st[st.length - 1]? = some t) : getI st (w64 ((st.length : Int) - 1)) = some t := by
  have := get_lt h
  rw [show ((st.length : Int) - 1) = (st.length : Int) - ((1 : Nat) : Int) from rfl, wpop hl (by omega)]; exact getI_some h
theorem wide_ok {st : List Int} {st' : List Int} (h : ∀ x ∈ st, -10000000000000000 ≤ x ∧ x ≤ 10000000000000000) {n : Nat} {p : Int} (hp : -10000000000000000 ≤ p ∧ p ≤ 10000000000000000) : ∀ x ∈ st.take n ++ [p], -10000000000000000 ≤ x ∧ x ≤ 10000000000000000 := by
  intro x hx
  rcases List.mem_append.1 hx with hx | hx
  · exact h x (List.mem_of_mem_take hx)
  · rw [List.mem_singleton.1 hx]; exact hp
theorem scale_ok {t arg : Int} (ht : -10000000000000000 ≤ t ∧ t ≤ 10000000000000000) (ha : -1000000 ≤ arg ∧ arg ≤ 1000000) :
    ∃ n f, m_impl_scaled t arg = some (n, f) ∧ m_spec_l07Far t arg = some (!f) ∧ (f = true → w64 (t * arg) = n ∧ -10000000000000000 ≤ n ∧ n ≤ 10000000000000000) := by
  have key : ∀ a b : Nat, 0 < a → 0 < b → (10000000000000000 / a < b ↔ 10000000000000000 < a * b) := fun a b ha hb => by rw [Nat.div_lt_iff_lt_mul ha, Nat.mul_comm b a]
  have hmul : (t * arg).natAbs = t.natAbs * arg.natAbs := Int.natAbs_mul t arg
  have quo : ∀ a : Nat, 0 < a → quoI 10000000000000000 (a : Int) = some ((10000000000000000 / a : Nat) : Int) := fun a ha => by
    unfold quoI
    have h1 : (10000000000000000 : Int).tdiv (a : Int) = ((10000000000000000 / a : Nat) : Int) := rfl
    have h2 := Nat.div_le_self 10000000000000000 a
    rw [decide_eq_false (by omega), cond_false, h1]
    generalize 10000000000000000 / a = q at h2
    rw [w64_eq (by omega)]
  have habs : ∀ x : Int, -10000000000000000 ≤ x ∧ x ≤ 10000000000000000 → m_impl_absolute x = some (x.natAbs : Int) := fun x hx => by
    unfold m_impl_absolute
    rw [w64_eq (by omega), show max x (0 - x) = (x.natAbs : Int) by omega]
  have hmax : ∀ x : Int, -10000000000000000 ≤ x ∧ x ≤ 10000000000000000 → m_spec_l00Max x (w64 (0 - x)) = some (x.natAbs : Int) := fun x hx => by
    unfold m_spec_l00Max
    rw [w64_eq (by omega)]
    by_cases h : 0 - x < x
    · rw [decide_eq_true h, cond_true, show ((x.natAbs : Nat) : Int) = x by omega]
    · rw [decide_eq_false h, cond_false, show ((x.natAbs : Nat) : Int) = 0 - x by omega]
  by_cases h0 : t = 0
  · subst h0
    refine ⟨0, true, ?_, ?_, fun _ => ⟨by rw [Int.zero_mul]; rfl, by omega, by omega⟩⟩
    · unfold m_impl_scaled m_impl_scaled_J0
      rw [Int.zero_mul]; rfl
    · unfold m_spec_l07Far
      by_cases h1 : arg = 0
      · rw [decide_eq_true h1]; rfl
      · rw [decide_eq_false h1, cond_false, hmax 0 (by omega), Option.bind_some, hmax arg (by omega), Option.bind_some, quo _ (by omega), Option.bind_some, show ((Int.natAbs 0 : Nat) : Int) = 0 from rfl, decide_eq_false (Int.not_lt.2 (Int.natCast_nonneg _))]; rfl
  · by_cases h1 : arg = 0
    · subst h1
      refine ⟨0, true, ?_, ?_, fun _ => ⟨by rw [Int.mul_zero]; rfl, by omega, by omega⟩⟩
      · unfold m_impl_scaled m_impl_scaled_J0
        rw [decide_eq_false h0, Bool.not_false, cond_true, habs 0 (by omega), Option.bind_some, habs t ht, Option.bind_some, quo _ (by omega), Option.bind_some, show ((Int.natAbs 0 : Nat) : Int) = 0 from rfl, decide_eq_false (Int.not_lt.2 (Int.natCast_nonneg _)), cond_false, Int.mul_zero]; rfl
      · unfold m_spec_l07Far; rfl
    · have k1 := key t.natAbs arg.natAbs (by omega) (by omega)
      have k2 := key arg.natAbs t.natAbs (by omega) (by omega)
      by_cases hbig : 10000000000000000 < t.natAbs * arg.natAbs
      · refine ⟨0, false, ?_, ?_, fun h => by cases h⟩
        · have := k1.2 hbig
          unfold m_impl_scaled
          rw [decide_eq_false h0, Bool.not_false, cond_true, habs arg (by omega), Option.bind_some, habs t ht, Option.bind_some, quo _ (by omega), Option.bind_some, decide_eq_true (Int.ofNat_lt.2 this), cond_true]
        · have := k2.2 (by rw [Nat.mul_comm]; exact hbig)
          unfold m_spec_l07Far
          rw [decide_eq_false h1, cond_false, hmax t ht, Option.bind_some, hmax arg (by omega), Option.bind_some, quo _ (by omega), Option.bind_some, decide_eq_true (Int.ofNat_lt.2 this)]; rfl
      · have g1 : ¬ 10000000000000000 / t.natAbs < arg.natAbs := fun h => hbig (k1.1 h)
        have g2 : ¬ 10000000000000000 / arg.natAbs < t.natAbs := fun h => hbig (by rw [Nat.mul_comm]; exact k2.1 h)
        have hp : -10000000000000000 ≤ t * arg ∧ t * arg ≤ 10000000000000000 := by omega
        refine ⟨t * arg, true, ?_, ?_, fun _ => ⟨w64_eq (by omega), hp⟩⟩
        · unfold m_impl_scaled m_impl_scaled_J0
          rw [decide_eq_false h0, Bool.not_false, cond_true, habs arg (by omega), Option.bind_some, habs t ht, Option.bind_some, quo _ (by omega), Option.bind_some, decide_eq_false (fun h => g1 (Int.ofNat_lt.1 h)), cond_false, w64_eq (by omega)]
          rw [show m_impl_isWide (t * arg) = some (rng (-10000000000000000) 10000000000000000 (t * arg)) from rfl, rng_iff.2 hp]; rfl
        · unfold m_spec_l07Far
          rw [decide_eq_false h1, cond_false, hmax t ht, Option.bind_some, hmax arg (by omega), Option.bind_some, quo _ (by omega), Option.bind_some, decide_eq_false (fun h => g2 (Int.ofNat_lt.1 h))]; rfl
section
variable {code : List Instr} {c : Config} {arg : Int}
theorem alike_0 (hs : okConfig c = true) (hcl : code.length ≤ 80) (hlt : c.At < code.length) (hx : getI code c.At = some (Instr.mk 0 arg)) (ha : -1000000 ≤ arg ∧ arg ≤ 1000000) : Alike code c := by
  obtain ⟨pop, hpop⟩ : ∃ p : Nat, p = 0 := ⟨0, rfl⟩
  obtain ⟨w, ho, hl, ha1, ha2⟩ := okConfig_iff.1 hs
  obtain ⟨hV, hC⟩ := okState_iff.1 ho
  have hI := impl_pre (pop := pop) (push := 1) hl ha1 hlt hcl hx (by rw [hpop]; rfl) (by decide) (by omega)
  have hS := spec_pre (pop := pop) (push := 1) hs hlt hx (by rw [hpop]; rfl) rfl (by decide) (by omega)
  have hw : w64 (c.At + 1) = c.At + 1 := w64_eq (by omega)
  unfold Alike
  rw [hI, hS]
  cases hb : decide (c.Stack.length < pop) || (decide ((1 : Int) = 1) && decide (6 < (c.Stack.length : Int) - (pop : Int) + 1)) with
  | true => exact ⟨5, -1, c, rfl, rfl, hs, ⟨fun h => absurd h (by decide), fun _ => rfl⟩⟩
  | false =>
    rw [Bool.or_eq_false_iff] at hb
    have hp : pop ≤ c.Stack.length := Nat.le_of_not_lt (of_decide_eq_false hb.1)
    have hq : (c.Stack.length : Int) - (pop : Int) + 1 ≤ 6 := by have := hb.2; rw [decide_eq_true (show (1 : Int) = 1 from rfl), Bool.true_and] at this; exact Int.not_lt.1 (of_decide_eq_false this)
    rw [cond_false, cond_false]
    obtain ⟨bk, hbk⟩ := backI (p := pop) hl hp
    refine ⟨0, -1, Config.mk c.State (c.Stack.take (c.Stack.length - pop) ++ [arg]) (c.At + 1), ?_, ?_, okConfig_iff.2 ⟨wide_ok (st' := []) w (by omega), ho, by simp; omega, by simp only; omega, by simp only; omega⟩, ⟨fun _ => ⟨_, hx, rfl⟩, fun h => absurd rfl h⟩⟩
    · rw [show m_impl_Config_step_J0 c (Instr.mk 0 arg) ((pop : Int), 1) () = (sliceI c.Stack (w64 ((c.Stack.length : Int) - (pop : Int))) (c.Stack.length : Int)).bind fun _ => m_impl_Config_step_J2 c ((pop : Int), 1) (c.State.Vars, c.State.Cells, w64 (c.At + 1), -1, arg, true) from rfl, hbk, Option.bind_some]; rw [J2_push (r := ((pop : Int), 1)) (pop := pop) rfl rfl hl hp, hw]
    · rw [show decide ((Instr.mk 0 arg).Op = 11) = false from rfl, cond_false, show decide ((0 : Int) < (pop : Int)) = false by rw [hpop]; rfl, cond_false]; unfold m_spec_l07Next_J1; rw [show decide ((1 : Int) < (pop : Int)) = false by rw [hpop]; rfl, cond_false]; unfold m_spec_l07Next_J2 m_spec_l07Next_J3; simp only [Int.reduceEq, Int.reduceLT, decide_false, decide_true, cond_true, cond_false, Option.bind_some, Bool.not_true, Bool.not_false, Bool.false_and, Bool.true_and]; unfold m_spec_l07Next_J4; simp only [Int.reduceEq, Int.reduceLT, decide_false, decide_true, cond_true, cond_false, Option.bind_some, Bool.not_true, Bool.not_false, Bool.false_and, Bool.true_and]; rw [frontOwn (p := pop) hl hp]; rw [capI_some (by simp; omega), Option.bind_some]; rw [hw]
theorem alike_1 (hs : okConfig c = true) (hcl : code.length ≤ 80) (hlt : c.At < code.length) (hx : getI code c.At = some (Instr.mk 1 arg)) (ha : 0 ≤ arg ∧ arg ≤ 3) : Alike code c := by
  obtain ⟨pop, hpop⟩ : ∃ p : Nat, p = 0 := ⟨0, rfl⟩
  obtain ⟨w, ho, hl, ha1, ha2⟩ := okConfig_iff.1 hs
  obtain ⟨hV, hC⟩ := okState_iff.1 ho
  have hI := impl_pre (pop := pop) (push := 1) hl ha1 hlt hcl hx (by rw [hpop]; rfl) (by decide) (by omega)
  have hS := spec_pre (pop := pop) (push := 1) hs hlt hx (by rw [hpop]; rfl) rfl (by decide) (by omega)
  have hw : w64 (c.At + 1) = c.At + 1 := w64_eq (by omega)
  unfold Alike
  rw [hI, hS]
  cases hb : decide (c.Stack.length < pop) || (decide ((1 : Int) = 1) && decide (6 < (c.Stack.length : Int) - (pop : Int) + 1)) with
  | true => exact ⟨5, -1, c, rfl, rfl, hs, ⟨fun h => absurd h (by decide), fun _ => rfl⟩⟩
  | false =>
    rw [Bool.or_eq_false_iff] at hb
    have hp : pop ≤ c.Stack.length := Nat.le_of_not_lt (of_decide_eq_false hb.1)
    have hq : (c.Stack.length : Int) - (pop : Int) + 1 ≤ 6 := by have := hb.2; rw [decide_eq_true (show (1 : Int) = 1 from rfl), Bool.true_and] at this; exact Int.not_lt.1 (of_decide_eq_false this)
    rw [cond_false, cond_false]
    obtain ⟨bk, hbk⟩ := backI (p := pop) hl hp
    obtain ⟨y, hy, hym⟩ := getI_in (xs := c.State.Vars) ha.1 (by have := hV.2; omega)
    have hyr := hV.1 y hym
    refine ⟨0, -1, Config.mk c.State (c.Stack.take (c.Stack.length - pop) ++ [y]) (c.At + 1), ?_, ?_, okConfig_iff.2 ⟨wide_ok (st' := []) w (by omega), ho, by simp; omega, by simp only; omega, by simp only; omega⟩, ⟨fun _ => ⟨_, hx, rfl⟩, fun h => absurd rfl h⟩⟩
    · rw [show m_impl_Config_step_J0 c (Instr.mk 1 arg) ((pop : Int), 1) () = (sliceI c.Stack (w64 ((c.Stack.length : Int) - (pop : Int))) (c.Stack.length : Int)).bind fun _ => (getI c.State.Vars arg).bind fun x83 => m_impl_Config_step_J2 c ((pop : Int), 1) (c.State.Vars, c.State.Cells, w64 (c.At + 1), -1, x83, true) from rfl, hbk, Option.bind_some]; rw [hy, Option.bind_some, J2_push (r := ((pop : Int), 1)) (pop := pop) rfl rfl hl hp, hw]
    · rw [show decide ((Instr.mk 1 arg).Op = 11) = false from rfl, cond_false, show decide ((0 : Int) < (pop : Int)) = false by rw [hpop]; rfl, cond_false]; unfold m_spec_l07Next_J1; rw [show decide ((1 : Int) < (pop : Int)) = false by rw [hpop]; rfl, cond_false]; unfold m_spec_l07Next_J2 m_spec_l07Next_J3; simp only [Int.reduceEq, Int.reduceLT, decide_false, decide_true, cond_true, cond_false, Option.bind_some, Bool.not_true, Bool.not_false, Bool.false_and, Bool.true_and]; unfold m_spec_l07Next_J4; simp only [Int.reduceEq, Int.reduceLT, decide_false, decide_true, cond_true, cond_false, Option.bind_some, Bool.not_true, Bool.not_false, Bool.false_and, Bool.true_and]; rw [frontOwn (p := pop) hl hp]; rw [hy, Option.bind_some]; rw [capI_some (by simp; omega), Option.bind_some]; rw [hw]
theorem alike_2 (hs : okConfig c = true) (hcl : code.length ≤ 80) (hlt : c.At < code.length) (hx : getI code c.At = some (Instr.mk 2 arg)) (ha : 0 ≤ arg ∧ arg ≤ 3) : Alike code c := by
  obtain ⟨w, ho, hl, ha1, ha2⟩ := okConfig_iff.1 hs
  obtain ⟨hV, hC⟩ := okState_iff.1 ho
  have hI := impl_pre (pop := 1) (push := 0) hl ha1 hlt hcl hx rfl (by decide) (by decide)
  have hS := spec_pre (pop := 1) (push := 0) hs hlt hx rfl rfl (by decide) (by decide)
  have hw : w64 (c.At + 1) = c.At + 1 := w64_eq (by omega)
  unfold Alike
  rw [hI, hS]
  cases hb : decide (c.Stack.length < 1) || (decide ((0 : Int) = 1) && decide (6 < (c.Stack.length : Int) - ((1 : Nat) : Int) + 1)) with
  | true => exact ⟨5, -1, c, rfl, rfl, hs, ⟨fun h => absurd h (by decide), fun _ => rfl⟩⟩
  | false =>
    rw [Bool.or_eq_false_iff] at hb
    have hp : 1 ≤ c.Stack.length := Nat.le_of_not_lt (of_decide_eq_false hb.1)
    rw [cond_false, cond_false]
    obtain ⟨bk, hbk⟩ := backI (p := 1) hl hp
    obtain ⟨t, ht⟩ : ∃ t, c.Stack[c.Stack.length - 1]? = some t := ⟨_, List.getElem?_eq_getElem (by omega)⟩
    have htw := w t (List.mem_of_getElem? ht)
    have htop := topI hl ht
    have ht0 : c.Stack[(w64 ((c.Stack.length : Int) - ((1 : Nat) : Int))).toNat + 0]? = some t := by rw [wpop hl hp, Int.toNat_natCast, show c.Stack.length - 1 + 0 = c.Stack.length - 1 by omega]; exact ht
    obtain ⟨y, hy, hym⟩ := getI_in (xs := c.State.Vars) ha.1 (by have := hV.2; omega)
    have hInt : m_impl_isInt t = some (rng (-1000000000) 1000000000 t) := rfl
    have hInt2 : m_spec_l03Int t = some (rng (-1000000000) 1000000000 t) := rfl
    cases hr : rng (-1000000000) 1000000000 t with
    | false =>
      refine ⟨4, -1, c, ?_, ?_, hs, ⟨fun h => absurd h (by decide), fun _ => rfl⟩⟩
      · unfold m_impl_Config_step_J0; simp only; rw [hbk, Option.bind_some]; simp only [Int.reduceEq, Int.reduceLT, decide_false, decide_true, cond_true, cond_false, Option.bind_some, Bool.not_true, Bool.not_false, Bool.false_and, Bool.true_and]; rw [ht0, Option.bind_some, hInt, hr, Option.bind_some, Bool.not_false, cond_true]
      · rw [show decide ((Instr.mk 2 arg).Op = 11) = false from rfl, cond_false, show decide ((0 : Int) < ((1 : Nat) : Int)) = true from rfl, cond_true, htop, Option.bind_some]; unfold m_spec_l07Next_J1; rw [show decide ((1 : Int) < ((1 : Nat) : Int)) = false from rfl, cond_false]; unfold m_spec_l07Next_J2 m_spec_l07Next_J3; simp only [Int.reduceEq, Int.reduceLT, decide_false, decide_true, cond_true, cond_false, Option.bind_some, Bool.not_true, Bool.not_false, Bool.false_and, Bool.true_and]; rw [hInt2, hr, Option.bind_some, Bool.not_false, cond_true]
    | true =>
      have htr := rng_iff.1 hr
      refine ⟨0, -1, Config.mk (State.mk (c.State.Vars.set arg.toNat t) c.State.Cells) (c.Stack.take (c.Stack.length - 1)) (c.At + 1), ?_, ?_, okConfig_iff.2 ⟨fun x hx => w x (List.mem_of_mem_take hx), okState_iff.2 ⟨set_ok hV htr, hC⟩, by simp; omega, by simp only; omega, by simp only; omega⟩, ⟨fun _ => ⟨_, hx, rfl⟩, fun h => absurd rfl h⟩⟩
      · unfold m_impl_Config_step_J0; simp only; rw [hbk, Option.bind_some]; simp only [Int.reduceEq, Int.reduceLT, decide_false, decide_true, cond_true, cond_false, Option.bind_some, Bool.not_true, Bool.not_false, Bool.false_and, Bool.true_and]; rw [ht0, Option.bind_some, hInt, hr, Option.bind_some, Bool.not_true, cond_false, hy, Option.bind_some, J2_none (r := (((1 : Nat) : Int), 0)) (pop := 1) rfl rfl hl hp, hw]
      · rw [show decide ((Instr.mk 2 arg).Op = 11) = false from rfl, cond_false, show decide ((0 : Int) < ((1 : Nat) : Int)) = true from rfl, cond_true, htop, Option.bind_some]; unfold m_spec_l07Next_J1; rw [show decide ((1 : Int) < ((1 : Nat) : Int)) = false from rfl, cond_false]; unfold m_spec_l07Next_J2 m_spec_l07Next_J3; simp only [Int.reduceEq, Int.reduceLT, decide_false, decide_true, cond_true, cond_false, Option.bind_some, Bool.not_true, Bool.not_false, Bool.false_and, Bool.true_and]; rw [hInt2, hr, Option.bind_some, Bool.not_true, cond_false]; unfold m_spec_l07Next_J4; simp only [Int.reduceEq, Int.reduceLT, decide_false, decide_true, cond_true, cond_false, Option.bind_some, Bool.not_true, Bool.not_false, Bool.false_and, Bool.true_and]; rw [frontOwn (p := 1) hl hp]; rw [hy, Option.bind_some, hw]
theorem alike_3 (hs : okConfig c = true) (hcl : code.length ≤ 80) (hlt : c.At < code.length) (hx : getI code c.At = some (Instr.mk 3 arg)) (ha : arg = 0) : Alike code c := by
  obtain ⟨w, ho, hl, ha1, ha2⟩ := okConfig_iff.1 hs
  obtain ⟨hV, hC⟩ := okState_iff.1 ho
  have hI := impl_pre (pop := 2) (push := 1) hl ha1 hlt hcl hx rfl (by decide) (by decide)
  have hS := spec_pre (pop := 2) (push := 1) hs hlt hx rfl rfl (by decide) (by decide)
  have hw : w64 (c.At + 1) = c.At + 1 := w64_eq (by omega)
  unfold Alike
  rw [hI, hS]
  cases hb : decide (c.Stack.length < 2) || (decide ((1 : Int) = 1) && decide (6 < (c.Stack.length : Int) - ((2 : Nat) : Int) + 1)) with
  | true => exact ⟨5, -1, c, rfl, rfl, hs, ⟨fun h => absurd h (by decide), fun _ => rfl⟩⟩
  | false =>
    rw [Bool.or_eq_false_iff] at hb
    have hp : 2 ≤ c.Stack.length := Nat.le_of_not_lt (of_decide_eq_false hb.1)
    have hq : (c.Stack.length : Int) - ((2 : Nat) : Int) + 1 ≤ 6 := by have := hb.2; rw [decide_eq_true (show (1 : Int) = 1 from rfl), Bool.true_and] at this; exact Int.not_lt.1 (of_decide_eq_false this)
    rw [cond_false, cond_false]
    obtain ⟨bk, hbk⟩ := backI (p := 2) hl hp
    obtain ⟨t, ht⟩ : ∃ t, c.Stack[c.Stack.length - 1]? = some t := ⟨_, List.getElem?_eq_getElem (by omega)⟩
    have htw := w t (List.mem_of_getElem? ht)
    have htop := topI hl ht
    have ht0 : c.Stack[(w64 ((c.Stack.length : Int) - ((2 : Nat) : Int))).toNat + 1]? = some t := by rw [wpop hl hp, Int.toNat_natCast, show c.Stack.length - 2 + 1 = c.Stack.length - 1 by omega]; exact ht
    obtain ⟨u, hu⟩ : ∃ u, c.Stack[c.Stack.length - 2]? = some u := ⟨_, List.getElem?_eq_getElem (by omega)⟩
    have huw := w u (List.mem_of_getElem? hu)
    have hund : getI c.Stack (w64 ((c.Stack.length : Int) - ((2 : Nat) : Int))) = some u := by rw [wpop hl hp]; exact getI_some hu
    have hu0 : c.Stack[(w64 ((c.Stack.length : Int) - ((2 : Nat) : Int))).toNat + 0]? = some u := by rw [wpop hl hp, Int.toNat_natCast]; exact hu
    have hsum : w64 (t + u) = t + u := w64_eq (by omega)
    have hsum2 : w64 (u + t) = t + u := by rw [Int.add_comm]; exact hsum
    have hW : m_impl_isWide (t + u) = some (rng (-10000000000000000) 10000000000000000 (t + u)) := rfl
    have hW2 : m_spec_l07Wide (t + u) = some (rng (-10000000000000000) 10000000000000000 (t + u)) := rfl
    cases hr : rng (-10000000000000000) 10000000000000000 (t + u) with
    | false =>
      refine ⟨4, -1, c, ?_, ?_, hs, ⟨fun h => absurd h (by decide), fun _ => rfl⟩⟩
      · unfold m_impl_Config_step_J0; simp only; rw [hbk, Option.bind_some]; simp only [Int.reduceEq, Int.reduceLT, decide_false, decide_true, cond_true, cond_false, Option.bind_some, Bool.not_true, Bool.not_false, Bool.false_and, Bool.true_and]; rw [hu0, Option.bind_some, ht0, Option.bind_some, hsum2, hW, hr, Option.bind_some, J2_no]
      · rw [show decide ((Instr.mk 3 arg).Op = 11) = false from rfl, cond_false, show decide ((0 : Int) < ((2 : Nat) : Int)) = true from rfl, cond_true, htop, Option.bind_some]; unfold m_spec_l07Next_J1; rw [show decide ((1 : Int) < ((2 : Nat) : Int)) = true from rfl, cond_true, hund, Option.bind_some]; unfold m_spec_l07Next_J2 m_spec_l07Next_J3; simp only [Int.reduceEq, Int.reduceLT, decide_false, decide_true, cond_true, cond_false, Option.bind_some, Bool.not_true, Bool.not_false, Bool.false_and, Bool.true_and]; rw [hsum, hW2, hr, Option.bind_some, Bool.not_false, cond_true]
    | true =>
      refine ⟨0, -1, Config.mk c.State (c.Stack.take (c.Stack.length - 2) ++ [(t + u)]) (c.At + 1), ?_, ?_, okConfig_iff.2 ⟨wide_ok (st' := []) w (rng_iff.1 hr), ho, by simp; omega, by simp only; omega, by simp only; omega⟩, ⟨fun _ => ⟨_, hx, rfl⟩, fun h => absurd rfl h⟩⟩
      · unfold m_impl_Config_step_J0; simp only; rw [hbk, Option.bind_some]; simp only [Int.reduceEq, Int.reduceLT, decide_false, decide_true, cond_true, cond_false, Option.bind_some, Bool.not_true, Bool.not_false, Bool.false_and, Bool.true_and]; rw [hu0, Option.bind_some, ht0, Option.bind_some, hsum2, hW, hr, Option.bind_some, J2_push (r := (((2 : Nat) : Int), 1)) (pop := 2) rfl rfl hl hp, hw]
      · rw [show decide ((Instr.mk 3 arg).Op = 11) = false from rfl, cond_false, show decide ((0 : Int) < ((2 : Nat) : Int)) = true from rfl, cond_true, htop, Option.bind_some]; unfold m_spec_l07Next_J1; rw [show decide ((1 : Int) < ((2 : Nat) : Int)) = true from rfl, cond_true, hund, Option.bind_some]; unfold m_spec_l07Next_J2 m_spec_l07Next_J3; simp only [Int.reduceEq, Int.reduceLT, decide_false, decide_true, cond_true, cond_false, Option.bind_some, Bool.not_true, Bool.not_false, Bool.false_and, Bool.true_and]; rw [hsum, hW2, hr, Option.bind_some, Bool.not_true, cond_false]; unfold m_spec_l07Next_J4; simp only [Int.reduceEq, Int.reduceLT, decide_false, decide_true, cond_true, cond_false, Option.bind_some, Bool.not_true, Bool.not_false, Bool.false_and, Bool.true_and]; rw [frontOwn (p := 2) hl hp]; rw [hsum]; rw [capI_some (by simp; omega), Option.bind_some]; rw [hw]
theorem alike_4 (hs : okConfig c = true) (hcl : code.length ≤ 80) (hlt : c.At < code.length) (hx : getI code c.At = some (Instr.mk 4 arg)) (ha : -1000000 ≤ arg ∧ arg ≤ 1000000) : Alike code c := by
  obtain ⟨w, ho, hl, ha1, ha2⟩ := okConfig_iff.1 hs
  obtain ⟨hV, hC⟩ := okState_iff.1 ho
  have hI := impl_pre (pop := 1) (push := 1) hl ha1 hlt hcl hx rfl (by decide) (by decide)
  have hS := spec_pre (pop := 1) (push := 1) hs hlt hx rfl rfl (by decide) (by decide)
  have hw : w64 (c.At + 1) = c.At + 1 := w64_eq (by omega)
  unfold Alike
  rw [hI, hS]
  cases hb : decide (c.Stack.length < 1) || (decide ((1 : Int) = 1) && decide (6 < (c.Stack.length : Int) - ((1 : Nat) : Int) + 1)) with
  | true => exact ⟨5, -1, c, rfl, rfl, hs, ⟨fun h => absurd h (by decide), fun _ => rfl⟩⟩
  | false =>
    rw [Bool.or_eq_false_iff] at hb
    have hp : 1 ≤ c.Stack.length := Nat.le_of_not_lt (of_decide_eq_false hb.1)
    have hq : (c.Stack.length : Int) - ((1 : Nat) : Int) + 1 ≤ 6 := by have := hb.2; rw [decide_eq_true (show (1 : Int) = 1 from rfl), Bool.true_and] at this; exact Int.not_lt.1 (of_decide_eq_false this)
    rw [cond_false, cond_false]
    obtain ⟨bk, hbk⟩ := backI (p := 1) hl hp
    obtain ⟨t, ht⟩ : ∃ t, c.Stack[c.Stack.length - 1]? = some t := ⟨_, List.getElem?_eq_getElem (by omega)⟩
    have htw := w t (List.mem_of_getElem? ht)
    have htop := topI hl ht
    have ht0 : c.Stack[(w64 ((c.Stack.length : Int) - ((1 : Nat) : Int))).toNat + 0]? = some t := by rw [wpop hl hp, Int.toNat_natCast, show c.Stack.length - 1 + 0 = c.Stack.length - 1 by omega]; exact ht
    obtain ⟨n, f, e1, e2, e3⟩ := scale_ok htw ha
    cases f with
    | false =>
      refine ⟨4, -1, c, ?_, ?_, hs, ⟨fun h => absurd h (by decide), fun _ => rfl⟩⟩
      · unfold m_impl_Config_step_J0; simp only; rw [hbk, Option.bind_some]; simp only [Int.reduceEq, Int.reduceLT, decide_false, decide_true, cond_true, cond_false, Option.bind_some, Bool.not_true, Bool.not_false, Bool.false_and, Bool.true_and]; rw [ht0, Option.bind_some, e1, Option.bind_some, J2_no]
      · rw [show decide ((Instr.mk 4 arg).Op = 11) = false from rfl, cond_false, show decide ((0 : Int) < ((1 : Nat) : Int)) = true from rfl, cond_true, htop, Option.bind_some]; unfold m_spec_l07Next_J1; rw [show decide ((1 : Int) < ((1 : Nat) : Int)) = false from rfl, cond_false]; unfold m_spec_l07Next_J2 m_spec_l07Next_J3; simp only [Int.reduceEq, Int.reduceLT, decide_false, decide_true, cond_true, cond_false, Option.bind_some, Bool.not_true, Bool.not_false, Bool.false_and, Bool.true_and]; rw [e2, Option.bind_some, Bool.not_false, cond_true]
    | true =>
      obtain ⟨g1, g2⟩ := e3 rfl
      refine ⟨0, -1, Config.mk c.State (c.Stack.take (c.Stack.length - 1) ++ [n]) (c.At + 1), ?_, ?_, okConfig_iff.2 ⟨wide_ok (st' := []) w g2, ho, by simp; omega, by simp only; omega, by simp only; omega⟩, ⟨fun _ => ⟨_, hx, rfl⟩, fun h => absurd rfl h⟩⟩
      · unfold m_impl_Config_step_J0; simp only; rw [hbk, Option.bind_some]; simp only [Int.reduceEq, Int.reduceLT, decide_false, decide_true, cond_true, cond_false, Option.bind_some, Bool.not_true, Bool.not_false, Bool.false_and, Bool.true_and]; rw [ht0, Option.bind_some, e1, Option.bind_some, J2_push (r := (((1 : Nat) : Int), 1)) (pop := 1) rfl rfl hl hp, hw]
      · rw [show decide ((Instr.mk 4 arg).Op = 11) = false from rfl, cond_false, show decide ((0 : Int) < ((1 : Nat) : Int)) = true from rfl, cond_true, htop, Option.bind_some]; unfold m_spec_l07Next_J1; rw [show decide ((1 : Int) < ((1 : Nat) : Int)) = false from rfl, cond_false]; unfold m_spec_l07Next_J2 m_spec_l07Next_J3; simp only [Int.reduceEq, Int.reduceLT, decide_false, decide_true, cond_true, cond_false, Option.bind_some, Bool.not_true, Bool.not_false, Bool.false_and, Bool.true_and]; rw [e2, Option.bind_some, Bool.not_true, cond_false]; unfold m_spec_l07Next_J4; simp only [Int.reduceEq, Int.reduceLT, decide_false, decide_true, cond_true, cond_false, Option.bind_some, Bool.not_true, Bool.not_false, Bool.false_and, Bool.true_and]; rw [frontOwn (p := 1) hl hp]; rw [g1]; rw [capI_some (by simp; omega), Option.bind_some]; rw [hw]
theorem alike_5 (hs : okConfig c = true) (hcl : code.length ≤ 80) (hlt : c.At < code.length) (hx : getI code c.At = some (Instr.mk 5 arg)) (ha : 0 ≤ arg ∧ arg ≤ 79) : Alike code c := by
  obtain ⟨pop, hpop⟩ : ∃ p : Nat, p = 0 := ⟨0, rfl⟩
  obtain ⟨w, ho, hl, ha1, ha2⟩ := okConfig_iff.1 hs
  obtain ⟨hV, hC⟩ := okState_iff.1 ho
  have hI := impl_pre (pop := pop) (push := 0) hl ha1 hlt hcl hx (by rw [hpop]; rfl) (by decide) (by omega)
  have hS := spec_pre (pop := pop) (push := 0) hs hlt hx (by rw [hpop]; rfl) rfl (by decide) (by omega)
  have hw : w64 (c.At + 1) = c.At + 1 := w64_eq (by omega)
  unfold Alike
  rw [hI, hS]
  cases hb : decide (c.Stack.length < pop) || (decide ((0 : Int) = 1) && decide (6 < (c.Stack.length : Int) - (pop : Int) + 1)) with
  | true => exact ⟨5, -1, c, rfl, rfl, hs, ⟨fun h => absurd h (by decide), fun _ => rfl⟩⟩
  | false =>
    rw [Bool.or_eq_false_iff] at hb
    have hp : pop ≤ c.Stack.length := Nat.le_of_not_lt (of_decide_eq_false hb.1)
    rw [cond_false, cond_false]
    obtain ⟨bk, hbk⟩ := backI (p := pop) hl hp
    refine ⟨0, -1, Config.mk c.State (c.Stack.take (c.Stack.length - pop)) (arg), ?_, ?_, okConfig_iff.2 ⟨fun x hx => w x (List.mem_of_mem_take hx), ho, by simp; omega, by simp only; omega, by simp only; omega⟩, ⟨fun _ => ⟨_, hx, rfl⟩, fun h => absurd rfl h⟩⟩
    · rw [show m_impl_Config_step_J0 c (Instr.mk 5 arg) ((pop : Int), 0) () = (sliceI c.Stack (w64 ((c.Stack.length : Int) - (pop : Int))) (c.Stack.length : Int)).bind fun _ => m_impl_Config_step_J2 c ((pop : Int), 0) (c.State.Vars, c.State.Cells, arg, -1, 0, true) from rfl, hbk, Option.bind_some]; rw [J2_none (r := ((pop : Int), 0)) (pop := pop) rfl rfl hl hp]
    · rw [show decide ((Instr.mk 5 arg).Op = 11) = false from rfl, cond_false, show decide ((0 : Int) < (pop : Int)) = false by rw [hpop]; rfl, cond_false]; unfold m_spec_l07Next_J1; rw [show decide ((1 : Int) < (pop : Int)) = false by rw [hpop]; rfl, cond_false]; unfold m_spec_l07Next_J2 m_spec_l07Next_J3; simp only [Int.reduceEq, Int.reduceLT, decide_false, decide_true, cond_true, cond_false, Option.bind_some, Bool.not_true, Bool.not_false, Bool.false_and, Bool.true_and]; unfold m_spec_l07Next_J4; simp only [Int.reduceEq, Int.reduceLT, decide_false, decide_true, cond_true, cond_false, Option.bind_some, Bool.not_true, Bool.not_false, Bool.false_and, Bool.true_and]; rw [frontOwn (p := pop) hl hp]
theorem alike_6 (hs : okConfig c = true) (hcl : code.length ≤ 80) (hlt : c.At < code.length) (hx : getI code c.At = some (Instr.mk 6 arg)) (ha : 0 ≤ arg ∧ arg ≤ 79) : Alike code c := by
  obtain ⟨w, ho, hl, ha1, ha2⟩ := okConfig_iff.1 hs
  obtain ⟨hV, hC⟩ := okState_iff.1 ho
  have hI := impl_pre (pop := 1) (push := 0) hl ha1 hlt hcl hx rfl (by decide) (by decide)
  have hS := spec_pre (pop := 1) (push := 0) hs hlt hx rfl rfl (by decide) (by decide)
  have hw : w64 (c.At + 1) = c.At + 1 := w64_eq (by omega)
  unfold Alike
  rw [hI, hS]
  cases hb : decide (c.Stack.length < 1) || (decide ((0 : Int) = 1) && decide (6 < (c.Stack.length : Int) - ((1 : Nat) : Int) + 1)) with
  | true => exact ⟨5, -1, c, rfl, rfl, hs, ⟨fun h => absurd h (by decide), fun _ => rfl⟩⟩
  | false =>
    rw [Bool.or_eq_false_iff] at hb
    have hp : 1 ≤ c.Stack.length := Nat.le_of_not_lt (of_decide_eq_false hb.1)
    rw [cond_false, cond_false]
    obtain ⟨bk, hbk⟩ := backI (p := 1) hl hp
    obtain ⟨t, ht⟩ : ∃ t, c.Stack[c.Stack.length - 1]? = some t := ⟨_, List.getElem?_eq_getElem (by omega)⟩
    have htw := w t (List.mem_of_getElem? ht)
    have htop := topI hl ht
    have ht0 : c.Stack[(w64 ((c.Stack.length : Int) - ((1 : Nat) : Int))).toNat + 0]? = some t := by rw [wpop hl hp, Int.toNat_natCast, show c.Stack.length - 1 + 0 = c.Stack.length - 1 by omega]; exact ht
    by_cases hneg : t < 0
    · refine ⟨0, -1, Config.mk c.State (c.Stack.take (c.Stack.length - 1)) (arg), ?_, ?_, okConfig_iff.2 ⟨fun x hx => w x (List.mem_of_mem_take hx), ho, by simp; omega, by simp only; omega, by simp only; omega⟩, ⟨fun _ => ⟨_, hx, rfl⟩, fun h => absurd rfl h⟩⟩
      · unfold m_impl_Config_step_J0; simp only; rw [hbk, Option.bind_some]; simp only [Int.reduceEq, Int.reduceLT, decide_false, decide_true, cond_true, cond_false, Option.bind_some, Bool.not_true, Bool.not_false, Bool.false_and, Bool.true_and]; rw [ht0, Option.bind_some, decide_eq_true hneg, cond_true, J2_none (r := (((1 : Nat) : Int), 0)) (pop := 1) rfl rfl hl hp]
      · rw [show decide ((Instr.mk 6 arg).Op = 11) = false from rfl, cond_false, show decide ((0 : Int) < ((1 : Nat) : Int)) = true from rfl, cond_true, htop, Option.bind_some]; unfold m_spec_l07Next_J1; rw [show decide ((1 : Int) < ((1 : Nat) : Int)) = false from rfl, cond_false]; unfold m_spec_l07Next_J2 m_spec_l07Next_J3; simp only [Int.reduceEq, Int.reduceLT, decide_false, decide_true, cond_true, cond_false, Option.bind_some, Bool.not_true, Bool.not_false, Bool.false_and, Bool.true_and]; unfold m_spec_l07Next_J4; simp only [Int.reduceEq, Int.reduceLT, decide_false, decide_true, cond_true, cond_false, Option.bind_some, Bool.not_true, Bool.not_false, Bool.false_and, Bool.true_and]; rw [frontOwn (p := 1) hl hp]; rw [decide_eq_true hneg, cond_true]
    · refine ⟨0, -1, Config.mk c.State (c.Stack.take (c.Stack.length - 1)) (c.At + 1), ?_, ?_, okConfig_iff.2 ⟨fun x hx => w x (List.mem_of_mem_take hx), ho, by simp; omega, by simp only; omega, by simp only; omega⟩, ⟨fun _ => ⟨_, hx, rfl⟩, fun h => absurd rfl h⟩⟩
      · unfold m_impl_Config_step_J0; simp only; rw [hbk, Option.bind_some]; simp only [Int.reduceEq, Int.reduceLT, decide_false, decide_true, cond_true, cond_false, Option.bind_some, Bool.not_true, Bool.not_false, Bool.false_and, Bool.true_and]; rw [ht0, Option.bind_some, decide_eq_false hneg, cond_false, J2_none (r := (((1 : Nat) : Int), 0)) (pop := 1) rfl rfl hl hp, hw]
      · rw [show decide ((Instr.mk 6 arg).Op = 11) = false from rfl, cond_false, show decide ((0 : Int) < ((1 : Nat) : Int)) = true from rfl, cond_true, htop, Option.bind_some]; unfold m_spec_l07Next_J1; rw [show decide ((1 : Int) < ((1 : Nat) : Int)) = false from rfl, cond_false]; unfold m_spec_l07Next_J2 m_spec_l07Next_J3; simp only [Int.reduceEq, Int.reduceLT, decide_false, decide_true, cond_true, cond_false, Option.bind_some, Bool.not_true, Bool.not_false, Bool.false_and, Bool.true_and]; unfold m_spec_l07Next_J4; simp only [Int.reduceEq, Int.reduceLT, decide_false, decide_true, cond_true, cond_false, Option.bind_some, Bool.not_true, Bool.not_false, Bool.false_and, Bool.true_and]; rw [frontOwn (p := 1) hl hp]; rw [decide_eq_false hneg, cond_false, hw]
theorem alike_7 (hs : okConfig c = true) (hcl : code.length ≤ 80) (hlt : c.At < code.length) (hx : getI code c.At = some (Instr.mk 7 arg)) (ha : arg = 0) : Alike code c := by
  obtain ⟨w, ho, hl, ha1, ha2⟩ := okConfig_iff.1 hs
  obtain ⟨hV, hC⟩ := okState_iff.1 ho
  have hI := impl_pre (pop := 1) (push := 1) hl ha1 hlt hcl hx rfl (by decide) (by decide)
  have hS := spec_pre (pop := 1) (push := 1) hs hlt hx rfl rfl (by decide) (by decide)
  have hw : w64 (c.At + 1) = c.At + 1 := w64_eq (by omega)
  unfold Alike
  rw [hI, hS]
  cases hb : decide (c.Stack.length < 1) || (decide ((1 : Int) = 1) && decide (6 < (c.Stack.length : Int) - ((1 : Nat) : Int) + 1)) with
  | true => exact ⟨5, -1, c, rfl, rfl, hs, ⟨fun h => absurd h (by decide), fun _ => rfl⟩⟩
  | false =>
    rw [Bool.or_eq_false_iff] at hb
    have hp : 1 ≤ c.Stack.length := Nat.le_of_not_lt (of_decide_eq_false hb.1)
    have hq : (c.Stack.length : Int) - ((1 : Nat) : Int) + 1 ≤ 6 := by have := hb.2; rw [decide_eq_true (show (1 : Int) = 1 from rfl), Bool.true_and] at this; exact Int.not_lt.1 (of_decide_eq_false this)
    rw [cond_false, cond_false]
    obtain ⟨bk, hbk⟩ := backI (p := 1) hl hp
    obtain ⟨t, ht⟩ : ∃ t, c.Stack[c.Stack.length - 1]? = some t := ⟨_, List.getElem?_eq_getElem (by omega)⟩
    have htw := w t (List.mem_of_getElem? ht)
    have htop := topI hl ht
    have ht0 : c.Stack[(w64 ((c.Stack.length : Int) - ((1 : Nat) : Int))).toNat + 0]? = some t := by rw [wpop hl hp, Int.toNat_natCast, show c.Stack.length - 1 + 0 = c.Stack.length - 1 by omega]; exact ht
    have hCe : m_impl_within t 0 7 = some (rng 0 7 t) := rfl
    have hCe2 : m_spec_l03Cell t = some (rng 0 7 t) := rfl
    cases hr : rng 0 7 t with
    | false =>
      refine ⟨2, -1, c, ?_, ?_, hs, ⟨fun h => absurd h (by decide), fun _ => rfl⟩⟩
      · unfold m_impl_Config_step_J0; simp only; rw [hbk, Option.bind_some]; simp only [Int.reduceEq, Int.reduceLT, decide_false, decide_true, cond_true, cond_false, Option.bind_some, Bool.not_true, Bool.not_false, Bool.false_and, Bool.true_and]; unfold m_impl_Config_step_J1; simp only [Int.reduceEq, Int.reduceLT, decide_false, decide_true, cond_true, cond_false, Option.bind_some, Bool.not_true, Bool.not_false, Bool.false_and, Bool.true_and]; rw [ht0, Option.bind_some, hCe, hr, Option.bind_some, Bool.not_false, cond_true]
      · rw [show decide ((Instr.mk 7 arg).Op = 11) = false from rfl, cond_false, show decide ((0 : Int) < ((1 : Nat) : Int)) = true from rfl, cond_true, htop, Option.bind_some]; unfold m_spec_l07Next_J1; rw [show decide ((1 : Int) < ((1 : Nat) : Int)) = false from rfl, cond_false]; unfold m_spec_l07Next_J2 m_spec_l07Next_J3; simp only [Int.reduceEq, Int.reduceLT, decide_false, decide_true, cond_true, cond_false, Option.bind_some, Bool.not_true, Bool.not_false, Bool.false_and, Bool.true_and]; rw [hCe2, hr, Option.bind_some, Bool.not_false, cond_true]
    | true =>
      have htr := rng_iff.1 hr
      obtain ⟨y, hy, hym⟩ := getI_in (xs := c.State.Cells) htr.1 (by have := hC.2; omega)
      have hyr := hC.1 y hym
      refine ⟨0, -1, Config.mk c.State (c.Stack.take (c.Stack.length - 1) ++ [y]) (c.At + 1), ?_, ?_, okConfig_iff.2 ⟨wide_ok (st' := []) w (by omega), ho, by simp; omega, by simp only; omega, by simp only; omega⟩, ⟨fun _ => ⟨_, hx, rfl⟩, fun h => absurd rfl h⟩⟩
      · unfold m_impl_Config_step_J0; simp only; rw [hbk, Option.bind_some]; simp only [Int.reduceEq, Int.reduceLT, decide_false, decide_true, cond_true, cond_false, Option.bind_some, Bool.not_true, Bool.not_false, Bool.false_and, Bool.true_and]; unfold m_impl_Config_step_J1; simp only [Int.reduceEq, Int.reduceLT, decide_false, decide_true, cond_true, cond_false, Option.bind_some, Bool.not_true, Bool.not_false, Bool.false_and, Bool.true_and]; rw [ht0, Option.bind_some, hCe, hr, Option.bind_some, Bool.not_true, cond_false, hy, Option.bind_some, J2_push (r := (((1 : Nat) : Int), 1)) (pop := 1) rfl rfl hl hp, hw]
      · rw [show decide ((Instr.mk 7 arg).Op = 11) = false from rfl, cond_false, show decide ((0 : Int) < ((1 : Nat) : Int)) = true from rfl, cond_true, htop, Option.bind_some]; unfold m_spec_l07Next_J1; rw [show decide ((1 : Int) < ((1 : Nat) : Int)) = false from rfl, cond_false]; unfold m_spec_l07Next_J2 m_spec_l07Next_J3; simp only [Int.reduceEq, Int.reduceLT, decide_false, decide_true, cond_true, cond_false, Option.bind_some, Bool.not_true, Bool.not_false, Bool.false_and, Bool.true_and]; rw [hCe2, hr, Option.bind_some, Bool.not_true, cond_false]; unfold m_spec_l07Next_J4; simp only [Int.reduceEq, Int.reduceLT, decide_false, decide_true, cond_true, cond_false, Option.bind_some, Bool.not_true, Bool.not_false, Bool.false_and, Bool.true_and]; rw [frontOwn (p := 1) hl hp]; rw [hy, Option.bind_some]; rw [capI_some (by simp; omega), Option.bind_some]; rw [hw]
theorem alike_8 (hs : okConfig c = true) (hcl : code.length ≤ 80) (hlt : c.At < code.length) (hx : getI code c.At = some (Instr.mk 8 arg)) (ha : arg = 0) : Alike code c := by
  obtain ⟨w, ho, hl, ha1, ha2⟩ := okConfig_iff.1 hs
  obtain ⟨hV, hC⟩ := okState_iff.1 ho
  have hI := impl_pre (pop := 2) (push := 0) hl ha1 hlt hcl hx rfl (by decide) (by decide)
  have hS := spec_pre (pop := 2) (push := 0) hs hlt hx rfl rfl (by decide) (by decide)
  have hw : w64 (c.At + 1) = c.At + 1 := w64_eq (by omega)
  unfold Alike
  rw [hI, hS]
  cases hb : decide (c.Stack.length < 2) || (decide ((0 : Int) = 1) && decide (6 < (c.Stack.length : Int) - ((2 : Nat) : Int) + 1)) with
  | true => exact ⟨5, -1, c, rfl, rfl, hs, ⟨fun h => absurd h (by decide), fun _ => rfl⟩⟩
  | false =>
    rw [Bool.or_eq_false_iff] at hb
    have hp : 2 ≤ c.Stack.length := Nat.le_of_not_lt (of_decide_eq_false hb.1)
    rw [cond_false, cond_false]
    obtain ⟨bk, hbk⟩ := backI (p := 2) hl hp
    obtain ⟨t, ht⟩ : ∃ t, c.Stack[c.Stack.length - 1]? = some t := ⟨_, List.getElem?_eq_getElem (by omega)⟩
    have htw := w t (List.mem_of_getElem? ht)
    have htop := topI hl ht
    have ht0 : c.Stack[(w64 ((c.Stack.length : Int) - ((2 : Nat) : Int))).toNat + 1]? = some t := by rw [wpop hl hp, Int.toNat_natCast, show c.Stack.length - 2 + 1 = c.Stack.length - 1 by omega]; exact ht
    obtain ⟨u, hu⟩ : ∃ u, c.Stack[c.Stack.length - 2]? = some u := ⟨_, List.getElem?_eq_getElem (by omega)⟩
    have huw := w u (List.mem_of_getElem? hu)
    have hund : getI c.Stack (w64 ((c.Stack.length : Int) - ((2 : Nat) : Int))) = some u := by rw [wpop hl hp]; exact getI_some hu
    have hu0 : c.Stack[(w64 ((c.Stack.length : Int) - ((2 : Nat) : Int))).toNat + 0]? = some u := by rw [wpop hl hp, Int.toNat_natCast]; exact hu
    have hCe : m_impl_within u 0 7 = some (rng 0 7 u) := rfl
    have hCe2 : m_spec_l03Cell u = some (rng 0 7 u) := rfl
    have hInt : m_impl_isInt t = some (rng (-1000000000) 1000000000 t) := rfl
    have hInt2 : m_spec_l03Int t = some (rng (-1000000000) 1000000000 t) := rfl
    cases hr : rng 0 7 u with
    | false =>
      refine ⟨2, -1, c, ?_, ?_, hs, ⟨fun h => absurd h (by decide), fun _ => rfl⟩⟩
      · unfold m_impl_Config_step_J0; simp only; rw [hbk, Option.bind_some]; simp only [Int.reduceEq, Int.reduceLT, decide_false, decide_true, cond_true, cond_false, Option.bind_some, Bool.not_true, Bool.not_false, Bool.false_and, Bool.true_and]; unfold m_impl_Config_step_J1; simp only [Int.reduceEq, Int.reduceLT, decide_false, decide_true, cond_true, cond_false, Option.bind_some, Bool.not_true, Bool.not_false, Bool.false_and, Bool.true_and]; rw [hu0, Option.bind_some, hCe, hr, Option.bind_some, Bool.not_false, cond_true]
      · rw [show decide ((Instr.mk 8 arg).Op = 11) = false from rfl, cond_false, show decide ((0 : Int) < ((2 : Nat) : Int)) = true from rfl, cond_true, htop, Option.bind_some]; unfold m_spec_l07Next_J1; rw [show decide ((1 : Int) < ((2 : Nat) : Int)) = true from rfl, cond_true, hund, Option.bind_some]; unfold m_spec_l07Next_J2 m_spec_l07Next_J3; simp only [Int.reduceEq, Int.reduceLT, decide_false, decide_true, cond_true, cond_false, Option.bind_some, Bool.not_true, Bool.not_false, Bool.false_and, Bool.true_and]; rw [hCe2, hr, Option.bind_some, Bool.not_false, cond_true]
    | true =>
      have htr := rng_iff.1 hr
      obtain ⟨y, hy, hym⟩ := getI_in (xs := c.State.Cells) htr.1 (by have := hC.2; omega)
      cases hr2 : rng (-1000000000) 1000000000 t with
      | false =>
        refine ⟨4, -1, c, ?_, ?_, hs, ⟨fun h => absurd h (by decide), fun _ => rfl⟩⟩
        · unfold m_impl_Config_step_J0; simp only; rw [hbk, Option.bind_some]; simp only [Int.reduceEq, Int.reduceLT, decide_false, decide_true, cond_true, cond_false, Option.bind_some, Bool.not_true, Bool.not_false, Bool.false_and, Bool.true_and]; unfold m_impl_Config_step_J1; simp only [Int.reduceEq, Int.reduceLT, decide_false, decide_true, cond_true, cond_false, Option.bind_some, Bool.not_true, Bool.not_false, Bool.false_and, Bool.true_and]; rw [hu0, Option.bind_some, hCe, hr, Option.bind_some, Bool.not_true, cond_false, ht0, Option.bind_some, hInt, hr2, Option.bind_some, Bool.not_false, cond_true]
        · rw [show decide ((Instr.mk 8 arg).Op = 11) = false from rfl, cond_false, show decide ((0 : Int) < ((2 : Nat) : Int)) = true from rfl, cond_true, htop, Option.bind_some]; unfold m_spec_l07Next_J1; rw [show decide ((1 : Int) < ((2 : Nat) : Int)) = true from rfl, cond_true, hund, Option.bind_some]; unfold m_spec_l07Next_J2 m_spec_l07Next_J3; simp only [Int.reduceEq, Int.reduceLT, decide_false, decide_true, cond_true, cond_false, Option.bind_some, Bool.not_true, Bool.not_false, Bool.false_and, Bool.true_and]; rw [hCe2, hr, Option.bind_some, Bool.not_true, cond_false, hInt2, hr2, Option.bind_some, Bool.not_false, cond_true]
      | true =>
        refine ⟨0, -1, Config.mk (State.mk c.State.Vars (c.State.Cells.set u.toNat t)) (c.Stack.take (c.Stack.length - 2)) (c.At + 1), ?_, ?_, okConfig_iff.2 ⟨fun x hx => w x (List.mem_of_mem_take hx), okState_iff.2 ⟨hV, set_ok hC (rng_iff.1 hr2)⟩, by simp; omega, by simp only; omega, by simp only; omega⟩, ⟨fun _ => ⟨_, hx, rfl⟩, fun h => absurd rfl h⟩⟩
        · unfold m_impl_Config_step_J0; simp only; rw [hbk, Option.bind_some]; simp only [Int.reduceEq, Int.reduceLT, decide_false, decide_true, cond_true, cond_false, Option.bind_some, Bool.not_true, Bool.not_false, Bool.false_and, Bool.true_and]; unfold m_impl_Config_step_J1; simp only [Int.reduceEq, Int.reduceLT, decide_false, decide_true, cond_true, cond_false, Option.bind_some, Bool.not_true, Bool.not_false, Bool.false_and, Bool.true_and]; rw [hu0, Option.bind_some, hCe, hr, Option.bind_some, Bool.not_true, cond_false, ht0, Option.bind_some, hInt, hr2, Option.bind_some, Bool.not_true, cond_false, hy, Option.bind_some, J2_none (r := (((2 : Nat) : Int), 0)) (pop := 2) rfl rfl hl hp, hw]
        · rw [show decide ((Instr.mk 8 arg).Op = 11) = false from rfl, cond_false, show decide ((0 : Int) < ((2 : Nat) : Int)) = true from rfl, cond_true, htop, Option.bind_some]; unfold m_spec_l07Next_J1; rw [show decide ((1 : Int) < ((2 : Nat) : Int)) = true from rfl, cond_true, hund, Option.bind_some]; unfold m_spec_l07Next_J2 m_spec_l07Next_J3; simp only [Int.reduceEq, Int.reduceLT, decide_false, decide_true, cond_true, cond_false, Option.bind_some, Bool.not_true, Bool.not_false, Bool.false_and, Bool.true_and]; rw [hCe2, hr, Option.bind_some, Bool.not_true, cond_false, hInt2, hr2, Option.bind_some, Bool.not_true, cond_false]; unfold m_spec_l07Next_J4; simp only [Int.reduceEq, Int.reduceLT, decide_false, decide_true, cond_true, cond_false, Option.bind_some, Bool.not_true, Bool.not_false, Bool.false_and, Bool.true_and]; rw [frontOwn (p := 2) hl hp]; rw [hy, Option.bind_some, hw]
theorem alike_9 (hs : okConfig c = true) (hcl : code.length ≤ 80) (hlt : c.At < code.length) (hx : getI code c.At = some (Instr.mk 9 arg)) (ha : 0 ≤ arg ∧ arg ≤ 3) : Alike code c := by
  obtain ⟨pop, hpop⟩ : ∃ p : Nat, p = 0 := ⟨0, rfl⟩
  obtain ⟨w, ho, hl, ha1, ha2⟩ := okConfig_iff.1 hs
  obtain ⟨hV, hC⟩ := okState_iff.1 ho
  have hI := impl_pre (pop := pop) (push := 0) hl ha1 hlt hcl hx (by rw [hpop]; rfl) (by decide) (by omega)
  have hS := spec_pre (pop := pop) (push := 0) hs hlt hx (by rw [hpop]; rfl) rfl (by decide) (by omega)
  have hw : w64 (c.At + 1) = c.At + 1 := w64_eq (by omega)
  unfold Alike
  rw [hI, hS]
  cases hb : decide (c.Stack.length < pop) || (decide ((0 : Int) = 1) && decide (6 < (c.Stack.length : Int) - (pop : Int) + 1)) with
  | true => exact ⟨5, -1, c, rfl, rfl, hs, ⟨fun h => absurd h (by decide), fun _ => rfl⟩⟩
  | false =>
    rw [Bool.or_eq_false_iff] at hb
    have hp : pop ≤ c.Stack.length := Nat.le_of_not_lt (of_decide_eq_false hb.1)
    rw [cond_false, cond_false]
    obtain ⟨bk, hbk⟩ := backI (p := pop) hl hp
    refine ⟨0, arg, Config.mk c.State (c.Stack.take (c.Stack.length - pop)) (c.At + 1), ?_, ?_, okConfig_iff.2 ⟨fun x hx => w x (List.mem_of_mem_take hx), ho, by simp; omega, by simp only; omega, by simp only; omega⟩, ⟨fun _ => ⟨_, hx, rfl⟩, fun h => absurd rfl h⟩⟩
    · rw [show m_impl_Config_step_J0 c (Instr.mk 9 arg) ((pop : Int), 0) () = (sliceI c.Stack (w64 ((c.Stack.length : Int) - (pop : Int))) (c.Stack.length : Int)).bind fun _ => m_impl_Config_step_J2 c ((pop : Int), 0) (c.State.Vars, c.State.Cells, w64 (c.At + 1), arg, 0, true) from rfl, hbk, Option.bind_some]; rw [J2_none (r := ((pop : Int), 0)) (pop := pop) rfl rfl hl hp, hw]
    · rw [show decide ((Instr.mk 9 arg).Op = 11) = false from rfl, cond_false, show decide ((0 : Int) < (pop : Int)) = false by rw [hpop]; rfl, cond_false]; unfold m_spec_l07Next_J1; rw [show decide ((1 : Int) < (pop : Int)) = false by rw [hpop]; rfl, cond_false]; unfold m_spec_l07Next_J2 m_spec_l07Next_J3; simp only [Int.reduceEq, Int.reduceLT, decide_false, decide_true, cond_true, cond_false, Option.bind_some, Bool.not_true, Bool.not_false, Bool.false_and, Bool.true_and]; unfold m_spec_l07Next_J4; simp only [Int.reduceEq, Int.reduceLT, decide_false, decide_true, cond_true, cond_false, Option.bind_some, Bool.not_true, Bool.not_false, Bool.false_and, Bool.true_and]; rw [frontOwn (p := pop) hl hp]; rw [hw]
theorem alike_10 (hs : okConfig c = true) (hcl : code.length ≤ 80) (hlt : c.At < code.length) (hx : getI code c.At = some (Instr.mk 10 arg)) (ha : arg = 0) : Alike code c := by
  obtain ⟨w, ho, hl, ha1, ha2⟩ := okConfig_iff.1 hs
  obtain ⟨hV, hC⟩ := okState_iff.1 ho
  have hI := impl_pre (pop := 1) (push := 0) hl ha1 hlt hcl hx rfl (by decide) (by decide)
  have hS := spec_pre (pop := 1) (push := 0) hs hlt hx rfl rfl (by decide) (by decide)
  have hw : w64 (c.At + 1) = c.At + 1 := w64_eq (by omega)
  unfold Alike
  rw [hI, hS]
  cases hb : decide (c.Stack.length < 1) || (decide ((0 : Int) = 1) && decide (6 < (c.Stack.length : Int) - ((1 : Nat) : Int) + 1)) with
  | true => exact ⟨5, -1, c, rfl, rfl, hs, ⟨fun h => absurd h (by decide), fun _ => rfl⟩⟩
  | false =>
    rw [Bool.or_eq_false_iff] at hb
    have hp : 1 ≤ c.Stack.length := Nat.le_of_not_lt (of_decide_eq_false hb.1)
    rw [cond_false, cond_false]
    obtain ⟨bk, hbk⟩ := backI (p := 1) hl hp
    obtain ⟨t, ht⟩ : ∃ t, c.Stack[c.Stack.length - 1]? = some t := ⟨_, List.getElem?_eq_getElem (by omega)⟩
    have htw := w t (List.mem_of_getElem? ht)
    have htop := topI hl ht
    have ht0 : c.Stack[(w64 ((c.Stack.length : Int) - ((1 : Nat) : Int))).toNat + 0]? = some t := by rw [wpop hl hp, Int.toNat_natCast, show c.Stack.length - 1 + 0 = c.Stack.length - 1 by omega]; exact ht
    by_cases hneg : t < 0
    · refine ⟨3, -1, c, ?_, ?_, hs, ⟨fun h => absurd h (by decide), fun _ => rfl⟩⟩
      · unfold m_impl_Config_step_J0; simp only; rw [hbk, Option.bind_some]; simp only [Int.reduceEq, Int.reduceLT, decide_false, decide_true, cond_true, cond_false, Option.bind_some, Bool.not_true, Bool.not_false, Bool.false_and, Bool.true_and]; unfold m_impl_Config_step_J1; simp only [Int.reduceEq, Int.reduceLT, decide_false, decide_true, cond_true, cond_false, Option.bind_some, Bool.not_true, Bool.not_false, Bool.false_and, Bool.true_and]; rw [ht0, Option.bind_some, decide_eq_true hneg, cond_true]
      · rw [show decide ((Instr.mk 10 arg).Op = 11) = false from rfl, cond_false, show decide ((0 : Int) < ((1 : Nat) : Int)) = true from rfl, cond_true, htop, Option.bind_some]; unfold m_spec_l07Next_J1; rw [show decide ((1 : Int) < ((1 : Nat) : Int)) = false from rfl, cond_false]; unfold m_spec_l07Next_J2 m_spec_l07Next_J3; simp only [Int.reduceEq, Int.reduceLT, decide_false, decide_true, cond_true, cond_false, Option.bind_some, Bool.not_true, Bool.not_false, Bool.false_and, Bool.true_and]; unfold m_spec_l07Next_J4; simp only [Int.reduceEq, Int.reduceLT, decide_false, decide_true, cond_true, cond_false, Option.bind_some, Bool.not_true, Bool.not_false, Bool.false_and, Bool.true_and]; rw [decide_eq_true hneg, cond_true]
    · refine ⟨0, -1, Config.mk c.State (c.Stack.take (c.Stack.length - 1)) (c.At + 1), ?_, ?_, okConfig_iff.2 ⟨fun x hx => w x (List.mem_of_mem_take hx), ho, by simp; omega, by simp only; omega, by simp only; omega⟩, ⟨fun _ => ⟨_, hx, rfl⟩, fun h => absurd rfl h⟩⟩
      · unfold m_impl_Config_step_J0; simp only; rw [hbk, Option.bind_some]; simp only [Int.reduceEq, Int.reduceLT, decide_false, decide_true, cond_true, cond_false, Option.bind_some, Bool.not_true, Bool.not_false, Bool.false_and, Bool.true_and]; unfold m_impl_Config_step_J1; simp only [Int.reduceEq, Int.reduceLT, decide_false, decide_true, cond_true, cond_false, Option.bind_some, Bool.not_true, Bool.not_false, Bool.false_and, Bool.true_and]; rw [ht0, Option.bind_some, decide_eq_false hneg, cond_false, J2_none (r := (((1 : Nat) : Int), 0)) (pop := 1) rfl rfl hl hp, hw]
      · rw [show decide ((Instr.mk 10 arg).Op = 11) = false from rfl, cond_false, show decide ((0 : Int) < ((1 : Nat) : Int)) = true from rfl, cond_true, htop, Option.bind_some]; unfold m_spec_l07Next_J1; rw [show decide ((1 : Int) < ((1 : Nat) : Int)) = false from rfl, cond_false]; unfold m_spec_l07Next_J2 m_spec_l07Next_J3; simp only [Int.reduceEq, Int.reduceLT, decide_false, decide_true, cond_true, cond_false, Option.bind_some, Bool.not_true, Bool.not_false, Bool.false_and, Bool.true_and]; unfold m_spec_l07Next_J4; simp only [Int.reduceEq, Int.reduceLT, decide_false, decide_true, cond_true, cond_false, Option.bind_some, Bool.not_true, Bool.not_false, Bool.false_and, Bool.true_and]; rw [decide_eq_false hneg, cond_false, frontOwn (p := 1) hl hp, hw]
theorem alike_11 (hs : okConfig c = true) (hcl : code.length ≤ 80) (hlt : c.At < code.length) (hx : getI code c.At = some (Instr.mk 11 arg)) (ha : arg = 0) : Alike code c := by
  obtain ⟨pop, hpop⟩ : ∃ p : Nat, p = 0 := ⟨0, rfl⟩
  obtain ⟨w, ho, hl, ha1, ha2⟩ := okConfig_iff.1 hs
  obtain ⟨hV, hC⟩ := okState_iff.1 ho
  have hI := impl_pre (pop := pop) (push := 0) hl ha1 hlt hcl hx (by rw [hpop]; rfl) (by decide) (by omega)
  have hS := spec_pre (pop := pop) (push := 0) hs hlt hx (by rw [hpop]; rfl) rfl (by decide) (by omega)
  have hw : w64 (c.At + 1) = c.At + 1 := w64_eq (by omega)
  unfold Alike
  rw [hI, hS]
  cases hb : decide (c.Stack.length < pop) || (decide ((0 : Int) = 1) && decide (6 < (c.Stack.length : Int) - (pop : Int) + 1)) with
  | true => exact ⟨5, -1, c, rfl, rfl, hs, ⟨fun h => absurd h (by decide), fun _ => rfl⟩⟩
  | false =>
    rw [Bool.or_eq_false_iff] at hb
    have hp : pop ≤ c.Stack.length := Nat.le_of_not_lt (of_decide_eq_false hb.1)
    rw [cond_false, cond_false]
    obtain ⟨bk, hbk⟩ := backI (p := pop) hl hp
    refine ⟨6, -1, c, ?_, ?_, hs, ⟨fun h => absurd h (by decide), fun _ => rfl⟩⟩
    · unfold m_impl_Config_step_J0; simp only; rw [hbk, Option.bind_some]; simp only [Int.reduceEq, Int.reduceLT, decide_false, decide_true, cond_true, cond_false, Option.bind_some, Bool.not_true, Bool.not_false, Bool.false_and, Bool.true_and]
    · rw [show decide ((Instr.mk 11 arg).Op = 11) = true from rfl, cond_true]
end
end Go.Mod

namespace Go.Mod
open Go.AM
set_option linter.unusedVariables false
set_option linter.unusedSimpArgs false
section
variable {α : Type} {ys : List α} {n : Nat} {a b c d e f g : α} (h : n < ys.length)
include h
end
end Go.Mod

namespace Go.Mod
open Go.AM
set_option linter.unusedVariables false
set_option linter.unusedSimpArgs false
theorem okInstr_cases {x : Instr} (h : okInstr x = true) :
    (x.Op = 0 ∧ -1000000 ≤ x.Arg ∧ x.Arg ≤ 1000000) ∨ (x.Op = 1 ∧ 0 ≤ x.Arg ∧ x.Arg ≤ 3) ∨ (x.Op = 2 ∧ 0 ≤ x.Arg ∧ x.Arg ≤ 3) ∨ (x.Op = 3 ∧ x.Arg = 0) ∨ (x.Op = 4 ∧ -1000000 ≤ x.Arg ∧ x.Arg ≤ 1000000) ∨
    (x.Op = 5 ∧ 0 ≤ x.Arg ∧ x.Arg ≤ 79) ∨ (x.Op = 6 ∧ 0 ≤ x.Arg ∧ x.Arg ≤ 79) ∨ (x.Op = 7 ∧ x.Arg = 0) ∨ (x.Op = 8 ∧ x.Arg = 0) ∨ (x.Op = 9 ∧ 0 ≤ x.Arg ∧ x.Arg ≤ 3) ∨ (x.Op = 10 ∧ x.Arg = 0) ∨ (x.Op = 11 ∧ x.Arg = 0) := by
  unfold okInstr at h
  cases h1 : (decide (x.Op = 0) || decide (x.Op = 4)) with
  | true =>
    rw [h1, cond_true, rng_iff] at h; simp only [Bool.or_eq_true, decide_eq_true_eq] at h1
    rcases h1 with g | g
    · exact .inl ⟨g, h⟩
    · exact .inr (.inr (.inr (.inr (.inl ⟨g, h⟩))))
  | false =>
    rw [h1, cond_false] at h
    cases h2 : (decide (x.Op = 1) || decide (x.Op = 2)) with
    | true =>
      rw [h2, cond_true, rng_iff] at h; simp only [Bool.or_eq_true, decide_eq_true_eq] at h2
      rcases h2 with g | g
      · exact .inr (.inl ⟨g, h⟩)
      · exact .inr (.inr (.inl ⟨g, h⟩))
    | false =>
      rw [h2, cond_false] at h
      cases h3 : (decide (x.Op = 5) || decide (x.Op = 6)) with
      | true =>
        rw [h3, cond_true, rng_iff] at h; simp only [Bool.or_eq_true, decide_eq_true_eq] at h3
        rcases h3 with g | g
        · exact .inr (.inr (.inr (.inr (.inr (.inl ⟨g, h⟩)))))
        · exact .inr (.inr (.inr (.inr (.inr (.inr (.inl ⟨g, h⟩))))))
      | false =>
        rw [h3, cond_false] at h
        cases h4 : decide (x.Op = 9) with
        | true => rw [h4, cond_true, rng_iff] at h; have g := of_decide_eq_true h4; exact .inr (.inr (.inr (.inr (.inr (.inr (.inr (.inr (.inr (.inl ⟨g, h⟩)))))))))
        | false =>
          rw [h4, cond_false] at h
          cases h5 : (decide (x.Op = 3) || decide (x.Op = 7) || decide (x.Op = 8) || decide (x.Op = 10) || decide (x.Op = 11)) with
          | true =>
            rw [h5, cond_true] at h; simp only [Bool.or_eq_true, decide_eq_true_eq] at h5 h
            rcases h5 with (((g | g) | g) | g) | g
            · exact .inr (.inr (.inr (.inl ⟨g, h⟩)))
            · exact .inr (.inr (.inr (.inr (.inr (.inr (.inr (.inl ⟨g, h⟩)))))))
            · exact .inr (.inr (.inr (.inr (.inr (.inr (.inr (.inr (.inl ⟨g, h⟩))))))))
            · exact .inr (.inr (.inr (.inr (.inr (.inr (.inr (.inr (.inr (.inr (.inl ⟨g, h⟩))))))))))
            · exact .inr (.inr (.inr (.inr (.inr (.inr (.inr (.inr (.inr (.inr (.inr (⟨g, h⟩)))))))))))
          | false => rw [h5] at h; cases h
theorem okCode_iff {code : List Instr} : okCode code = true ↔ (∀ x ∈ code, okInstr x = true) ∧ 1 ≤ code.length ∧ code.length ≤ 80 := by
  unfold okCode
  simp only [Bool.and_eq_true, List.all_eq_true, rng_iff]
  exact ⟨fun ⟨a, b, c⟩ => ⟨a, by omega, by omega⟩, fun ⟨a, b, c⟩ => ⟨a, by omega, by omega⟩⟩
theorem getI_in' {α : Type} {xs : List α} {i : Int} (h0 : 0 ≤ i) (h1 : i < xs.length) : ∃ x, getI xs i = some x ∧ x ∈ xs := by
  obtain ⟨n, rfl⟩ := Int.eq_ofNat_of_zero_le h0
  have hn : n < xs.length := by omega
  exact ⟨xs[n], getI_some (List.getElem?_eq_getElem hn), List.getElem_mem hn⟩
theorem step_alike {code : List Instr} {c : Config} (hc : okCode code = true) (hs : okConfig c = true) : Alike code c := by
  obtain ⟨ca, c1, c80⟩ := okCode_iff.1 hc
  obtain ⟨w, ho, hl, ha1, ha2⟩ := okConfig_iff.1 hs
  by_cases hlt : c.At < code.length
  · obtain ⟨⟨op, arg⟩, hx, hm⟩ := getI_in' ha1 hlt
    have hop := okInstr_cases (ca _ hm)
    simp only at hop
    rcases hop with ⟨rfl, h⟩ | ⟨rfl, h⟩ | ⟨rfl, h⟩ | ⟨rfl, h⟩ | ⟨rfl, h⟩ | ⟨rfl, h⟩ | ⟨rfl, h⟩ | ⟨rfl, h⟩ | ⟨rfl, h⟩ | ⟨rfl, h⟩ | ⟨rfl, h⟩ | ⟨rfl, h⟩
    · exact alike_0 hs c80 hlt hx h
    · exact alike_1 hs c80 hlt hx h
    · exact alike_2 hs c80 hlt hx h
    · exact alike_3 hs c80 hlt hx h
    · exact alike_4 hs c80 hlt hx h
    · exact alike_5 hs c80 hlt hx h
    · exact alike_6 hs c80 hlt hx h
    · exact alike_7 hs c80 hlt hx h
    · exact alike_8 hs c80 hlt hx h
    · exact alike_9 hs c80 hlt hx h
    · exact alike_10 hs c80 hlt hx h
    · exact alike_11 hs c80 hlt hx h
  · obtain ⟨⟨_, v4⟩, ⟨_, c8⟩⟩ := okState_iff.1 ho
    refine ⟨5, -1, c, ?_, ?_, hs, fun h => absurd h (by decide), fun _ => rfl⟩
    · unfold m_impl_Config_step
      have hidx : m_impl_isIndex c.At (code.length : Int) = some false := by
        unfold m_impl_isIndex m_impl_within m_impl_size
        simp only [Option.bind_some]
        rw [w64_eq (by omega), decide_eq_true ha1, decide_eq_false (by omega)]; rfl
      rw [hidx]; rfl
    · unfold m_spec_l07Next m_spec_l03Own
      rw [spec_own (by omega), Option.bind_some, spec_own (by omega), Option.bind_some, Option.bind_some, spec_own (by omega), Option.bind_some]
      unfold m_spec_l07Next_J0
      rw [decide_eq_true (by omega)]; rfl
theorem w64_decN {n : Nat} (h : n ≤ 2000) : w64 (((n + 1 : Nat) : Int) - 1) = (n : Int) := by rw [w64_eq (by omega)]; omega
end Go.Mod

namespace Go.Mod
open Go.AM
set_option linter.unusedVariables false
set_option linter.unusedSimpArgs false
def over (t : Term) : Bool := vT t && decide (t.Coeffs.length ≤ 4)
end Go.Mod

namespace Go.Mod
open Go.AM
set_option linter.unusedVariables false
set_option linter.unusedSimpArgs false
theorem one_ok {s : l00Src} {k : Nat} {n : Int} (h : Src s k) (hk : k ≤ 100000000) (hn : n ≤ 200) : ∃ b s', m_spec_l00Src_one s n = some (b, s') ∧ Src s' (k + 1) := by
  obtain ⟨r, s', e, _, _, hs⟩ := pick_ok h hk hn
  unfold m_spec_l00Src_one
  rw [e, Option.bind_some]
  exact ⟨_, _, rfl, hs⟩
theorem among_ok {s : l00Src} {k : Nat} {xs : List Int} (h : Src s k) (hk : k ≤ 100000000) (h0 : 0 < xs.length) (h1 : xs.length ≤ 200) : ∃ x s', m_spec_l00Src_among s xs = some (x, s') ∧ x ∈ xs ∧ Src s' (k + 1) := by
  obtain ⟨r, s', e, r0, r1, hs⟩ := pick_ok (n := (xs.length : Int)) h hk (by omega)
  obtain ⟨n, rfl⟩ := Int.eq_ofNat_of_zero_le r0
  have hlt : n < xs.length := by omega
  unfold m_spec_l00Src_among
  rw [e, Option.bind_some]
  simp only
  rw [getI_some (List.getElem?_eq_getElem hlt), Option.bind_some]
  exact ⟨_, _, rfl, List.getElem_mem hlt, hs⟩
theorem wsub {a b : Int} (h0 : -1000000 ≤ a) (h1 : a ≤ 1000000) (h2 : -1000000 ≤ b) (h3 : b ≤ 1000000) : w64 (a - b) = a - b := w64_eq ⟨by omega, by omega⟩
theorem wadd {a b : Int} (h0 : -1000000 ≤ a) (h1 : a ≤ 1000000) (h2 : -1000000 ≤ b) (h3 : b ≤ 1000000) : w64 (a + b) = a + b := w64_eq ⟨by omega, by omega⟩
theorem wmul4 {b : Int} (h2 : 0 ≤ b) (h3 : b ≤ 1000000) : w64 (4 * b) = 4 * b := w64_eq ⟨by omega, by omega⟩
theorem src_mk (s : l00Src) : l00Src.mk s.code s.at_ s.seed = s := rfl
theorem okI0 {o a : Int} (h : o = 0 ∨ o = 4) (ha : -1000000 ≤ a ∧ a ≤ 1000000) : okInstr (Instr.mk o a) = true := by
  rcases h with rfl | rfl <;> (unfold okInstr rng; simp; omega)
theorem okI1 {o a : Int} (h : o = 1 ∨ o = 2 ∨ o = 9) (ha : 0 ≤ a ∧ a ≤ 3) : okInstr (Instr.mk o a) = true := by
  rcases h with rfl | rfl | rfl <;> (unfold okInstr rng; simp; omega)
theorem okI5 {o a : Int} (h : o = 5 ∨ o = 6) (ha : 0 ≤ a ∧ a ≤ 79) : okInstr (Instr.mk o a) = true := by
  rcases h with rfl | rfl <;> (unfold okInstr rng; simp; omega)
theorem okI3 {o : Int} (h : o = 3 ∨ o = 7 ∨ o = 8 ∨ o = 10 ∨ o = 11) : okInstr (Instr.mk o 0) = true := by
  rcases h with rfl | rfl | rfl | rfl | rfl <;> decide
theorem drawInstr_ok {s : l00Src} {k : Nat} {n : Int} (hs : Src s k) (hk : k ≤ 1000000) (hn : 1 ≤ n ∧ n ≤ 80) : ∃ x s', m_spec_l07DrawInstr s n = some (x, s') ∧ okInstr x = true ∧ Src s' (k + 5) := by
  obtain ⟨o, s1, e1, o0, o1, hs1⟩ := pick_ok (n := 12) hs (by omega) (by omega)
  unfold m_spec_l07DrawInstr
  rw [e1, Option.bind_some]
  simp only
  have push : (o = 0 ∨ o = 4) → ∃ x s', m_spec_l07DrawInstr_J0 n (o, s1) true = some (x, s') ∧ okInstr x = true ∧ Src s' (k + 5) := by
    intro ho
    unfold m_spec_l07DrawInstr_J0
    rw [cond_true]
    simp only
    obtain ⟨r, s2, e2, r0, r1, hs2⟩ := pick_ok (n := 9) hs1 (by omega) (by omega)
    obtain ⟨b, s3, e3, hs3⟩ := one_ok (n := 20) hs2 (by omega) (by omega)
    rw [e2, Option.bind_some]
    simp only
    rw [e3, Option.bind_some]
    cases b with
    | true =>
      obtain ⟨y, s4, e4, hy, hs4⟩ := among_ok (xs := [1000000, -1000000]) hs3 (by omega) (by decide) (by decide)
      simp only [cond_true]
      rw [e4, Option.bind_some]
      simp only [List.mem_cons, List.not_mem_nil, or_false] at hy
      exact ⟨_, _, rfl, okI0 ho (by omega), hs4.mono (by omega)⟩
    | false =>
      simp only [cond_false]
      have w := wsub (a := r) (b := 3) (by omega) (by omega) (by omega) (by omega)
      rw [w]
      clear w
      exact ⟨_, _, rfl, okI0 ho (by omega), hs3.mono (by omega)⟩
  have vars : (o = 1 ∨ o = 2) → ∃ x s', m_spec_l07DrawInstr_J1 n (o, s1) true = some (x, s') ∧ okInstr x = true ∧ Src s' (k + 5) := by
    intro ho
    unfold m_spec_l07DrawInstr_J1
    rw [cond_true]
    simp only
    obtain ⟨r, s2, e2, r0, r1, hs2⟩ := pick_ok (n := 4) hs1 (by omega) (by omega)
    rw [e2, Option.bind_some]
    exact ⟨_, _, rfl, okI1 (by omega) (by omega), hs2.mono (by omega)⟩
  have jump : (o = 5 ∨ o = 6) → ∃ x s', m_spec_l07DrawInstr_J2 n (o, s1) true = some (x, s') ∧ okInstr x = true ∧ Src s' (k + 5) := by
    intro ho
    unfold m_spec_l07DrawInstr_J2
    rw [cond_true]
    simp only
    have w := wadd (a := n) (b := 1) (by omega) (by omega) (by omega) (by omega)
    rw [w]
    clear w
    have hm : ∃ q, m_spec_l00Min (n + 1) 80 = some q ∧ 2 ≤ q ∧ q ≤ 80 := by
      unfold m_spec_l00Min
      by_cases h : n + 1 < 80
      · rw [decide_eq_true h]; exact ⟨_, rfl, by omega, by omega⟩
      · rw [decide_eq_false h]; exact ⟨_, rfl, by omega, by omega⟩
    obtain ⟨q, eq, q0, q1⟩ := hm
    rw [eq, Option.bind_some]
    obtain ⟨r, s2, e2, r0, r1, hs2⟩ := pick_ok (n := q) hs1 (by omega) (by omega)
    rw [e2, Option.bind_some]
    exact ⟨_, _, rfl, okI5 ho (by omega), hs2.mono (by omega)⟩
  have rest : ¬ o = 0 → ¬ o = 4 → ¬ o = 1 → ¬ o = 2 → ¬ o = 5 → ¬ o = 6 → ∃ x s', m_spec_l07DrawInstr_J2 n (o, s1) false = some (x, s') ∧ okInstr x = true ∧ Src s' (k + 5) := by
    intro h0 h4 h1 h2 h5 h6
    unfold m_spec_l07DrawInstr_J2
    rw [cond_false]
    simp only
    by_cases h9 : o = 9
    · rw [decide_eq_true h9, cond_true]
      obtain ⟨r, s2, e2, r0, r1, hs2⟩ := pick_ok (n := 4) hs1 (by omega) (by omega)
      rw [e2, Option.bind_some]
      exact ⟨_, _, rfl, okI1 (by omega) (by omega), hs2.mono (by omega)⟩
    · rw [decide_eq_false h9, cond_false]
      exact ⟨_, _, rfl, okI3 (by omega), hs1.mono (by omega)⟩
  by_cases h0 : o = 0
  · rw [decide_eq_true h0, cond_true]; exact push (.inl h0)
  · rw [decide_eq_false h0, cond_false]
    by_cases h4 : o = 4
    · rw [decide_eq_true h4]; exact push (.inr h4)
    · rw [decide_eq_false h4]
      unfold m_spec_l07DrawInstr_J0
      rw [cond_false]
      simp only
      by_cases h1 : o = 1
      · rw [decide_eq_true h1, cond_true]; exact vars (.inl h1)
      · rw [decide_eq_false h1, cond_false]
        by_cases h2 : o = 2
        · rw [decide_eq_true h2]; exact vars (.inr h2)
        · rw [decide_eq_false h2]
          unfold m_spec_l07DrawInstr_J1
          rw [cond_false]
          simp only
          by_cases h5 : o = 5
          · rw [decide_eq_true h5, cond_true]; exact jump (.inl h5)
          · rw [decide_eq_false h5, cond_false]
            by_cases h6 : o = 6
            · rw [decide_eq_true h6]; exact jump (.inr h6)
            · rw [decide_eq_false h6]; exact rest h0 h4 h1 h2 h5 h6
theorem drawOk_loop {c : List Int} {a b : Int} {m : Nat} (hm : 1 ≤ m ∧ m ≤ 80) : ∀ (n : Nat) (s : l00Src) (k : Nat) (l : List Instr), l.length + n = m → Src s k → k + 5 * n ≤ 100000 → l.all okInstr = true →
    ∃ (s' : l00Src) (l' : List Instr), iter (m_spec_l07DrawOk_L0 (c, a, b, (m : Int))) (s.code, s.at_, s.seed, l, (l.length : Int)) = some (l', s'.code, s'.at_, s'.seed) ∧ l'.length = m ∧ l'.all okInstr = true := by
  intro n
  induction n with
  | zero =>
    intro s k l hl hs hk ha
    refine ⟨s, l, iter_out ?_, hl, ha⟩
    unfold m_spec_l07DrawOk_L0
    simp only
    rw [decide_eq_false (by omega), cond_false]
  | succ n ih =>
    intro s k l hl hs hk ha
    obtain ⟨x, s', e, hx, hs'⟩ := drawInstr_ok (n := (m : Int)) hs (by omega) (by omega)
    have st : m_spec_l07DrawOk_L0 (c, a, b, (m : Int)) (s.code, s.at_, s.seed, l, (l.length : Int)) = some (.next (s'.code, s'.at_, s'.seed, l ++ [x], (((l ++ [x]).length : Nat) : Int))) := by
      unfold m_spec_l07DrawOk_L0
      simp only
      rw [decide_eq_true (show (l.length : Int) < (m : Int) by omega), cond_true, src_mk, e, Option.bind_some]
      simp only
      have w2 : w64 ((l.length : Int) + 1) = ((l.length + 1 : Nat) : Int) := w64_succ (by omega)
      rw [w2, capI_some (by simp; omega), Option.bind_some, List.length_append]; rfl
    obtain ⟨s2, l2, e2, hl2, ha2⟩ := ih s' (k + 5) (l ++ [x]) (by rw [List.length_append]; simp only [List.length_cons, List.length_nil]; omega) hs' (by omega) (by rw [List.all_append, ha]; simp [hx])
    exact ⟨s2, l2, (iter_next st).trans e2, hl2, ha2⟩
theorem tmod4 {n : Nat} : 0 ≤ Int.tmod (n : Int) 4 ∧ Int.tmod (n : Int) 4 ≤ 3 := by
  have h0 : 0 ≤ Int.tmod (n : Int) 4 := Int.tmod_nonneg _ (by omega)
  have h1 := Int.tmod_lt_of_pos (n : Int) (show (0 : Int) < 4 by decide)
  omega
def Wq (a b : Int) : Prop := w64 a = b
theorem tidy_loop {r12 : Int × l00Src} {m : Nat} (hr : Wq (1 + r12.1) (m : Int)) (hm : m ≤ 5) : ∀ (n i : Nat) (s : l00Src) (k : Nat) (l : List Instr), i + n = m → Src s k → k + 5 * n ≤ 100000 → l.length ≤ 4 * i → l.all okInstr = true →
    ∃ (s' : l00Src) (l' : List Instr), iter (m_spec_l07DrawTidy_L0 r12) (s.code, s.at_, s.seed, l, (i : Int)) = some (l', s'.code, s'.at_, s'.seed) ∧ l'.length ≤ 4 * m ∧ l'.all okInstr = true := by
  intro n
  induction n with
  | zero =>
    intro i s k l hi hs hk hl ha
    refine ⟨s, l, iter_out ?_, by omega, ha⟩
    unfold m_spec_l07DrawTidy_L0
    simp only
    rw [show w64 (1 + r12.1) = (m : Int) from hr, decide_eq_false (by omega), cond_false]
  | succ n ih =>
    intro i s k l hi hs hk hl ha
    obtain ⟨a, s1, e1, a0, a1, hs1⟩ := pick_ok (n := 4) hs (by omega) (by omega)
    obtain ⟨b, s2, e2, b0, b1, hs2⟩ := pick_ok (n := 9) hs1 (by omega) (by omega)
    obtain ⟨c, s3, e3, c0, c1, hs3⟩ := pick_ok (n := 4) hs2 (by omega) (by omega)
    obtain ⟨d, s4, e4, d0, d1, hs4⟩ := pick_ok (n := (m : Int) + 1) hs3 (by omega) (by omega)
    obtain ⟨f, s5, e5, f0, f1, hs5⟩ := pick_ok (n := 6) hs4 (by omega) (by omega)
    have key : ∀ (q : List Instr), q.length ≤ 4 → q.all okInstr = true → m_spec_l07DrawTidy_L0 r12 (s.code, s.at_, s.seed, l, (i : Int)) = some (.next (s5.code, s5.at_, s5.seed, l ++ q, ((i + 1 : Nat) : Int))) →
        ∃ (s' : l00Src) (l' : List Instr), iter (m_spec_l07DrawTidy_L0 r12) (s.code, s.at_, s.seed, l, (i : Int)) = some (l', s'.code, s'.at_, s'.seed) ∧ l'.length ≤ 4 * m ∧ l'.all okInstr = true := by
      intro q hq hqa st
      rw [iter_next st]
      exact ih (i + 1) s5 (k + 1 + 1 + 1 + 1 + 1) (l ++ q) (by omega) hs5 (by omega) (by rw [List.length_append]; omega) (by rw [List.all_append, ha, hqa]; rfl)
    have w1 : Wq ((m : Int) + 1) ((m : Int) + 1) := wadd (a := (m : Int)) (b := 1) (by omega) (by omega) (by omega) (by omega)
    have w2 : Wq (b - 2) (b - 2) := wsub (a := b) (b := 2) (by omega) (by omega) (by omega) (by omega)
    have w3 : Wq (4 * d) (4 * d) := wmul4 (b := d) (by omega) (by omega)
    have w4 : Wq ((i : Int) + 1) ((i + 1 : Nat) : Int) := w64_succ (by omega)
    have head : m_spec_l07DrawTidy_L0 r12 (s.code, s.at_, s.seed, l, (i : Int)) = m_spec_l07DrawTidy_L0 r12 (s.code, s.at_, s.seed, l, (i : Int)) := rfl
    conv at head => rhs; unfold m_spec_l07DrawTidy_L0
    simp only at head
    rw [show w64 (1 + r12.1) = (m : Int) from hr, decide_eq_true (show (i : Int) < (m : Int) by omega), cond_true, src_mk, e1, Option.bind_some] at head
    simp only at head
    rw [e2, Option.bind_some] at head
    simp only at head
    rw [e3, Option.bind_some] at head
    simp only at head
    rw [show w64 ((m : Int) + 1) = (m : Int) + 1 from w1, e4, Option.bind_some] at head
    simp only at head
    rw [e5, Option.bind_some] at head
    simp only at head
    rw [show w64 (b - 2) = b - 2 from w2, show w64 (4 * d) = 4 * d from w3, show w64 ((i : Int) + 1) = ((i + 1 : Nat) : Int) from w4] at head
    clear w1 w2 w3 w4
    have hcap : ∀ (q : List Instr), q.length = 4 → capI (l.length + q.length) 16 = some () := fun q hq => capI_some (by rw [hq]; omega)
    have t4 := tmod4 (n := i)
    have oa : okInstr (Instr.mk 1 a) = true := okI1 (.inl rfl) (by omega)
    have oc : okInstr (Instr.mk 2 c) = true := okI1 (.inr (.inl rfl)) (by omega)
    have oc9 : okInstr (Instr.mk 9 c) = true := okI1 (.inr (.inr rfl)) (by omega)
    have ob : okInstr (Instr.mk 0 (b - 2)) = true := okI0 (.inl rfl) (by omega)
    have ob4 : okInstr (Instr.mk 4 (b - 2)) = true := okI0 (.inr rfl) (by omega)
    have od5 : okInstr (Instr.mk 5 (4 * d)) = true := okI5 (.inl rfl) (by omega)
    have od6 : okInstr (Instr.mk 6 (4 * d)) = true := okI5 (.inr rfl) (by omega)
    have ot : okInstr (Instr.mk 9 (Int.tmod (i : Int) 4)) = true := okI1 (.inr (.inr rfl)) t4
    have o3 : okInstr (Instr.mk 3 0) = true := by decide
    have o7 : okInstr (Instr.mk 7 0) = true := by decide
    have o8 : okInstr (Instr.mk 8 0) = true := by decide
    have o10 : okInstr (Instr.mk 10 0) = true := by decide
    have hall : ∀ {w x y z : Instr}, okInstr w = true → okInstr x = true → okInstr y = true → okInstr z = true → [w, x, y, z].all okInstr = true := fun h1 h2 h3 h4 => by simp [h1, h2, h3, h4]
    by_cases g0 : f = 0
    · rw [decide_eq_true g0, cond_true, hcap _ rfl, Option.bind_some] at head
      exact key _ (Nat.le_refl _) (hall oa ob o3 oc) head
    · rw [decide_eq_false g0, cond_false] at head
      by_cases g1 : f = 1
      · rw [decide_eq_true g1, cond_true, hcap _ rfl, Option.bind_some] at head
        exact key _ (Nat.le_refl _) (hall oa ob4 od6 ot) head
      · rw [decide_eq_false g1, cond_false] at head
        by_cases g2 : f = 2
        · rw [decide_eq_true g2, cond_true, hcap _ rfl, Option.bind_some] at head
          exact key _ (Nat.le_refl _) (hall ob o7 oc oc9) head
        · rw [decide_eq_false g2, cond_false] at head
          by_cases g3 : f = 3
          · rw [decide_eq_true g3, cond_true, hcap _ rfl, Option.bind_some] at head
            exact key _ (Nat.le_refl _) (hall ob oa o8 od5) head
          · rw [decide_eq_false g3, cond_false] at head
            by_cases g4 : f = 4
            · rw [decide_eq_true g4, cond_true, hcap _ rfl, Option.bind_some] at head
              exact key _ (Nat.le_refl _) (hall oa o10 ob oc) head
            · have g5 : f = 5 := by omega
              rw [decide_eq_false g4, cond_false, decide_eq_true g5, cond_true, hcap _ rfl, Option.bind_some] at head
              exact key _ (Nat.le_refl _) (hall oa ob o3 od6) head
theorem r8Code_ok {code : List Int} (hc : ∀ x ∈ code, 0 ≤ x ∧ x ≤ 255) (hl : code.length ≤ 1048576) : ∃ l, m_spec_R8Code code = some l ∧ okCode l = true := by
  obtain ⟨e, hs⟩ := from_ok hc hl
  unfold m_spec_R8Code
  rw [e, Option.bind_some]
  unfold m_spec_l07DrawOk
  obtain ⟨b, s1, e1, hs1⟩ := one_ok (n := 3) hs (by omega) (by omega)
  rw [e1, Option.bind_some]
  cases b with
  | false =>
    obtain ⟨r, s2, e2, r0, r1, hs2⟩ := pick_ok (n := 5) hs1 (by omega) (by omega)
    have w := wadd (a := 1) (b := r) (by omega) (by omega) (by omega) (by omega)
    obtain ⟨m, hm⟩ := Int.eq_ofNat_of_zero_le (show 0 ≤ 1 + r by omega)
    obtain ⟨s3, l, e3, l1, l2⟩ := tidy_loop (r12 := (r, s2)) (m := m) (w.trans hm) (by omega) m 0 s2 _ [] (by omega) hs2 (by omega) (Nat.zero_le _) rfl
    simp only [Bool.not_false, cond_true]
    unfold m_spec_l07DrawTidy
    rw [e2, Option.bind_some]
    simp only
    rw [show (s2.code, s2.at_, s2.seed, ([] : List Instr), (0 : Int)) = (s2.code, s2.at_, s2.seed, ([] : List Instr), ((0 : Nat) : Int)) from rfl, e3, Option.bind_some]
    unfold m_spec_l07DrawTidy_A0
    simp only
    rw [capI_some (by simp; omega), Option.bind_some, Option.bind_some, Option.bind_some]
    refine ⟨_, rfl, okCode_iff.2 ⟨fun x hx => ?_, by simp, by simp; omega⟩⟩
    rcases List.mem_append.1 hx with hx | hx
    · exact List.all_eq_true.1 l2 x hx
    · rw [List.mem_singleton.1 hx]; decide
  | true =>
    obtain ⟨r, s2, e2, r0, r1, hs2⟩ := pick_ok (n := 9) hs1 (by omega) (by omega)
    obtain ⟨b3, s3, e3, hs3⟩ := one_ok (n := 14) hs2 (by omega) (by omega)
    simp only [Bool.not_true, cond_false]
    rw [e2, Option.bind_some]
    simp only
    rw [e3, Option.bind_some]
    simp only
    have fin : ∀ (m : Nat), 1 ≤ m ∧ m ≤ 80 → ∃ l, ((m_spec_l07DrawOk_J0 (s3.code, s3.at_, s3.seed, (m : Int))).bind fun r7 => some r7.1) = some l ∧ okCode l = true := by
      intro m hm
      obtain ⟨s4, l, e4, l1, l2⟩ := drawOk_loop (c := s3.code) (a := s3.at_) (b := s3.seed) hm m s3 _ [] (by simp) hs3 (by omega) rfl
      unfold m_spec_l07DrawOk_J0
      simp only
      rw [show (s3.code, s3.at_, s3.seed, ([] : List Instr), (0 : Int)) = (s3.code, s3.at_, s3.seed, ([] : List Instr), ((([] : List Instr).length : Nat) : Int)) from rfl, e4, Option.bind_some]
      exact ⟨l, rfl, okCode_iff.2 ⟨fun x hx => List.all_eq_true.1 l2 x hx, by omega, by omega⟩⟩
    cases b3 with
    | true => rw [cond_true]; exact fin 80 ⟨by decide, by decide⟩
    | false =>
      rw [cond_false]
      have w := wadd (a := 1) (b := r) (by omega) (by omega) (by omega) (by omega)
      obtain ⟨m, hm⟩ := Int.eq_ofNat_of_zero_le (show 0 ≤ 1 + r by omega)
      rw [w, hm]
      clear w
      exact fin m ⟨by omega, by omega⟩
end Go.Mod

namespace Go.Mod
open Go.AM
set_option linter.unusedVariables false
set_option linter.unusedSimpArgs false
theorem st_loop (m : Nat) {step : (List Int) × Int × Int × (List Int) × Int → Option (Ctl ((List Int) × Int × Int × (List Int) × Int) ((List Int) × Int × Int × (List Int)))} (hm : m ≤ 8)
    (hstep : ∀ s0, step s0 = bif (decide (s0.2.2.2.2 < (m : Int))) then
      (m_spec_l00Src_pick (l00Src.mk s0.1 s0.2.1 s0.2.2.1) (9 : Int)).bind fun r => (capI (s0.2.2.2.1.length + [(w64 (r.1 - (2 : Int)))].length) 8).bind fun _ =>
      some (.next (r.2.code, r.2.at_, r.2.seed, (s0.2.2.2.1 ++ [(w64 (r.1 - (2 : Int)))]), (w64 (s0.2.2.2.2 + (1 : Int))))) else some (.out (s0.1, s0.2.1, s0.2.2.1, s0.2.2.2.1))) :
    ∀ (n : Nat) (s : l00Src) (k : Nat) (l : List Int), l.length + n = m → Src s k → k + n ≤ 100000 → l.all (rng (-1000000000) 1000000000) = true →
      ∃ (s' : l00Src) (l' : List Int), iter step (s.code, s.at_, s.seed, l, (l.length : Int)) = some (s'.code, s'.at_, s'.seed, l') ∧ l'.length = m ∧ l'.all (rng (-1000000000) 1000000000) = true ∧ Src s' (k + n) := by
  intro n
  induction n with
  | zero =>
    intro s k l hl hs hk ha
    refine ⟨s, l, iter_out ?_, hl, ha, hs⟩
    rw [hstep]
    simp only
    rw [decide_eq_false (by omega), cond_false]
  | succ n ih =>
    intro s k l hl hs hk ha
    obtain ⟨r, s', e, r0, r1, hs'⟩ := pick_ok (n := 9) hs (by omega) (by omega)
    have hr : r ≤ 8 := by omega
    have hc1 : l.length + 1 ≤ 8 := by omega
    have hlt : (l.length : Int) < (m : Int) := by omega
    have w1 := wsub (a := r) (b := 2) (by omega) (by omega) (by omega) (by omega)
    have w2 : w64 ((l.length : Int) + 1) = ((l.length + 1 : Nat) : Int) := w64_succ (Nat.lt_of_le_of_lt (Nat.le_of_succ_le hc1) (by decide))
    have st : step (s.code, s.at_, s.seed, l, (l.length : Int)) = some (.next (s'.code, s'.at_, s'.seed, l ++ [r - 2], (((l ++ [r - 2]).length : Nat) : Int))) := by
      rw [hstep]
      simp only
      rw [decide_eq_true hlt, cond_true, src_mk, e, Option.bind_some]
      simp only
      rw [w1, w2, capI_some (by simp only [List.length_cons, List.length_nil]; exact Nat.le_trans (Nat.mul_le_mul_right 8 hc1) (by decide)), Option.bind_some, List.length_append]; rfl
    clear w1 w2
    obtain ⟨s2, l2, e2, hl2, ha2, hs2⟩ := ih s' (k + 1) (l ++ [r - 2]) (by rw [List.length_append]; simp only [List.length_cons, List.length_nil]; omega) hs' (by omega) (by
      rw [List.all_append, ha, List.all_cons]
      have : rng (-1000000000) 1000000000 (r - 2) = true := rng_iff.2 ⟨by omega, by omega⟩
      rw [this]; rfl)
    exact ⟨s2, l2, (iter_next st).trans e2, hl2, ha2, by rw [show k + (n + 1) = k + 1 + n by omega]; exact hs2⟩
theorem all_set' {α : Type} {p : α → Bool} {l : List α} {i : Nat} {x : α} (h : l.all p = true) (hx : p x = true) : (l.set i x).all p = true := by
  rw [List.all_eq_true] at h ⊢
  intro y hy
  rcases List.mem_or_eq_of_mem_set hy with g | g
  · exact h y g
  · rw [g]; exact hx
theorem r8State_ok {code : List Int} (hc : ∀ x ∈ code, 0 ≤ x ∧ x ≤ 255) (hl : code.length ≤ 1048576) : ∃ s, m_spec_R8State code = some s ∧ okState s = true := by
  obtain ⟨e, hs⟩ := from_ok hc hl
  obtain ⟨s1, l1, e1, n1, a1, hs1⟩ := st_loop 4 (step := m_spec_l03DrawState_L0) (by omega) (fun s0 => rfl) 4 _ 0 [] rfl hs (by omega) rfl
  obtain ⟨s2, l2, e2, n2, a2, hs2⟩ := st_loop 8 (step := m_spec_l03DrawState_L1) (by omega) (fun s0 => rfl) 8 s1 (0 + 4) [] rfl hs1 (by omega) rfl
  obtain ⟨b, s3, e3, hs3⟩ := one_ok (n := 8) hs2 (by omega) (by omega)
  unfold m_spec_R8State
  rw [e, Option.bind_some]
  unfold m_spec_l03DrawState
  have e1' : iter m_spec_l03DrawState_L0 (code, (0 : Int), (0 : Int), ([] : List Int), (0 : Int)) = _ := e1
  simp only
  rw [e1', Option.bind_some]
  unfold m_spec_l03DrawState_A0
  have e2' : iter m_spec_l03DrawState_L1 (s1.code, s1.at_, s1.seed, ([] : List Int), (0 : Int)) = _ := e2
  simp only
  rw [e2', Option.bind_some]
  unfold m_spec_l03DrawState_A1
  simp only
  rw [src_mk, e3, Option.bind_some]
  cases b with
  | false =>
    refine ⟨_, rfl, ?_⟩
    unfold okState okInts
    simp only
    rw [a1, a2, n1, n2]; rfl
  | true =>
    obtain ⟨x, s4, e4, hx, hs4⟩ := among_ok (xs := [1000000000, -1000000000]) hs3 (by omega) (by decide) (by decide)
    rw [cond_true, e4, Option.bind_some, show getI l1 (0 : Int) = some (l1[0]'(by omega)) from getI_some (n := 0) (List.getElem?_eq_getElem (by omega)), Option.bind_some]
    refine ⟨_, rfl, ?_⟩
    have hxi : rng (-1000000000) 1000000000 x = true := by
      simp only [List.mem_cons, List.not_mem_nil, or_false] at hx
      rcases hx with rfl | rfl <;> decide
    unfold okState okInts
    simp only
    rw [all_set' a1 hxi, a2, List.length_set, n1, n2]; rfl
theorem get_lt {α : Type} {xs : List α} {n : Nat} {x : α} (h : xs[n]? = some x) : n < xs.length := by
  obtain ⟨a, _⟩ := List.getElem?_eq_some_iff.1 h; exact a
theorem r8Same_ok {xs : List Int} (h : xs.length ≤ 1000000) : m_laws_r8Same xs xs = some true := by
  have g := iter_for (step := m_laws_r8Same_L0 xs xs) xs (fun n (_ : Unit) => (n : Int)) (fun _ _ _ => some (.next ())) (fun _ => .inl ())
    (fun n x r hx => by
      have hn := get_lt hx
      unfold m_laws_r8Same_L0
      rw [dec_lt hn, cond_true, getI_some hx, Option.bind_some, Option.bind_some, decide_eq_true rfl, Bool.not_true, cond_false, w64_succ (by omega)]; rfl)
    (fun r => by unfold m_laws_r8Same_L0; rw [dec_self]; rfl) ()
  have f : ∀ (ys : List Int) (k : Nat), forL (fun (_ : Nat) (_ : Int) (_ : Unit) => some (Ctl.next () : Ctl Unit (Unit ⊕ Bool))) (fun _ => .inl ()) k ys () = some (.inl ()) := by
    intro ys
    induction ys with
    | nil => intro k; rfl
    | cons y ys ih => intro k; unfold forL; exact ih (k + 1)
  unfold m_laws_r8Same
  have g' : iter (m_laws_r8Same_L0 xs xs) (0 : Int) = _ := g
  rw [decide_eq_true rfl, Bool.not_true, cond_false, g', f]; rfl
theorem r8States_ok {s : State} (h : okState s = true) : m_laws_r8States s s = some true := by
  obtain ⟨⟨_, v4⟩, ⟨_, c8⟩⟩ := okState_iff.1 h
  unfold m_laws_r8States
  rw [r8Same_ok (by omega), Option.bind_some, cond_true, r8Same_ok (by omega)]; rfl
theorem bytes {a : List Int} (h : kLa_u8 a) : ∀ x ∈ a, 0 ≤ x ∧ x ≤ 255 := fun x hx => h.2 x hx
theorem long_cases (a b : List Int) : m_laws_r8Long a b = some true ∨ (m_laws_r8Long a b = some false ∧ a.length ≤ 48 ∧ b.length ≤ 48) := by
  unfold m_laws_r8Long
  by_cases h1 : 48 < a.length
  · left; rw [decide_eq_true (by omega)]; rfl
  · by_cases h2 : 48 < b.length
    · left; rw [decide_eq_true (p := (48 : Int) < (b.length : Int)) (by omega), Bool.or_true]
    · right; rw [decide_eq_false (by omega), decide_eq_false (by omega)]; exact ⟨rfl, by omega, by omega⟩
theorem impl_StepCode {code : List Instr} {c : Config} (hc : okCode code = true) (hs : okConfig c = true) {out ev : Int} {c' : Config} (e1 : m_impl_Config_step c code = some (out, ev, c')) :
    m_impl_StepCode code c = some (c', out, true) := by
  obtain ⟨w, ho, hl, ha1, ha2⟩ := okConfig_iff.1 hs
  obtain ⟨⟨_, v4⟩, ⟨_, c8⟩⟩ := okState_iff.1 ho
  unfold m_impl_StepCode
  rw [impl_config, Option.bind_some, hc, hs]
  unfold m_impl_Config_own m_impl_State_own
  rw [Bool.true_and, Bool.not_true, cond_false, impl_copy (by omega), Option.bind_some, impl_copy (by omega), Option.bind_some, Option.bind_some, impl_copy (by omega), Option.bind_some, Option.bind_some]
  rw [show (Config.mk (State.mk c.State.Vars c.State.Cells) c.Stack c.At) = c from rfl, e1]; rfl
def End (z o : Int) : Prop := (z = 6 ∧ o = 0) ∨ (¬ z = 6 ∧ o = z)
theorem run_law {code : List Instr} (hc : okCode code = true) : ∀ (n i : Nat) (V C S : List Int) (A : Int) (E K : List Int), n + i = 60 → E.length ≤ i → K.length = code.length →
    okConfig (Config.mk (State.mk V C) S A) = true →
    ∃ V' C' S' A' E' K' o z, iter (m_impl_ran_L0 code) ((n : Int), V, C, S, A, E, K) = some (V', C', S', A', E', K', o) ∧
      iter (m_laws_FnSteps_L0 code) (V, C, S, A, E, K, (i : Int)) = some (.inl (V', C', S', A', E', K', z)) ∧ End z o ∧ okState (State.mk V' C') = true ∧ E'.length ≤ 60 ∧ K'.length = code.length := by
  obtain ⟨ca, c1, c80⟩ := okCode_iff.1 hc
  intro n
  induction n with
  | zero =>
    intro i V C S A E K hn hE hK hs
    obtain ⟨w, ho, hl, ha1, ha2⟩ := okConfig_iff.1 hs
    refine ⟨V, C, S, A, E, K, 1, 1, iter_out ?_, iter_out ?_, .inr ⟨by decide, rfl⟩, ho, by omega, hK⟩
    · unfold m_impl_ran_L0; rfl
    · unfold m_laws_FnSteps_L0; simp only; rw [decide_eq_false (by omega)]; rfl
  | succ n ih =>
    intro i V C S A E K hn hE hK hs
    obtain ⟨out, ev, c', e1, e2, e3, e4, e5⟩ := step_alike hc hs
    have es := impl_StepCode hc hs e1
    obtain ⟨w, ho, hl, ha1, ha2⟩ := okConfig_iff.1 hs
    by_cases h0 : out = 0
    · subst h0
      obtain ⟨x, hx, hev⟩ := e4 rfl
      simp only at hx ha1
      have hlt := getI_lt hx
      obtain ⟨a, rfl⟩ := Int.eq_ofNat_of_zero_le ha1
      rw [Int.toNat_natCast] at hlt
      have hxa := List.getElem?_eq_getElem (l := K) (i := a) (by omega)
      have hxm : x ∈ code := List.mem_of_getElem? (getI_spec hx).2
      have hI : ∀ E', m_impl_ran_L0 code (((n + 1 : Nat) : Int), V, C, S, (a : Int), E, K) = some (.next ((n : Int), c'.State.Vars, c'.State.Cells, c'.Stack, c'.At, E', K.set a (w64 (K[a]'(by omega) + 1)))) ∧
          m_laws_FnSteps_L0 code (V, C, S, (a : Int), E, K, (i : Int)) = some (.next (c'.State.Vars, c'.State.Cells, c'.Stack, c'.At, E', K.set a (w64 (K[a]'(by omega) + 1)), ((i + 1 : Nat) : Int))) → E'.length ≤ i + 1 →
          ∃ V' C' S' A' E' K' o z, iter (m_impl_ran_L0 code) (((n + 1 : Nat) : Int), V, C, S, (a : Int), E, K) = some (V', C', S', A', E', K', o) ∧
            iter (m_laws_FnSteps_L0 code) (V, C, S, (a : Int), E, K, (i : Int)) = some (.inl (V', C', S', A', E', K', z)) ∧ End z o ∧ okState (State.mk V' C') = true ∧ E'.length ≤ 60 ∧ K'.length = code.length := by
        rintro E' ⟨g1, g2⟩ hE'
        rw [iter_next g1, iter_next g2]
        exact ih (i + 1) _ _ _ _ _ _ (by omega) hE' (by simpa using hK) e3
      by_cases h9 : x.Op = 9
      · rw [if_pos h9] at hev
        have h03 : 0 ≤ x.Arg := by
          have := okInstr_cases (ca _ hxm)
          omega
        refine hI (E ++ [x.Arg]) ⟨?_, ?_⟩ (by simp; omega)
        · unfold m_impl_ran_L0
          simp only
          rw [decide_eq_false (by omega), cond_false, e1, Option.bind_some]
          simp only
          rw [show decide ((0 : Int) = 6) = false from rfl, cond_false, decide_true, Bool.not_true, cond_false, getI_some hxa, Option.bind_some, hev, decide_eq_true h03, cond_true, capI_some (by simp; omega), Option.bind_some]; simp only [w64_decN (show n ≤ 2000 by omega), Int.toNat_natCast]
        · unfold m_laws_FnSteps_L0
          simp only
          rw [decide_eq_true (show (i : Int) < 60 by omega), cond_true, es, Option.bind_some]
          simp only
          rw [Bool.not_true, cond_false, decide_true, Bool.not_true, cond_false, decide_eq_false (show ¬ (a : Int) < 0 by omega), decide_eq_false (show ¬ (code.length : Int) ≤ (a : Int) by omega), Bool.or_self, cond_false, impl_config, Option.bind_some, hc, e3, Bool.and_self, Bool.not_true, cond_false,
            getI_some hxa, Option.bind_some, hx, Option.bind_some, decide_eq_true h9, cond_true, capI_some (by simp; omega), Option.bind_some]; simp only [w64_succ (show i < 9223372036854775807 by omega), Int.toNat_natCast]
      · rw [if_neg h9] at hev
        refine hI E ⟨?_, ?_⟩ (by omega)
        · unfold m_impl_ran_L0
          simp only
          rw [decide_eq_false (by omega), cond_false, e1, Option.bind_some]
          simp only
          rw [show decide ((0 : Int) = 6) = false from rfl, cond_false, decide_true, Bool.not_true, cond_false, getI_some hxa, Option.bind_some, hev, show decide ((0 : Int) ≤ -1) = false from rfl, cond_false]; simp only [w64_decN (show n ≤ 2000 by omega), Int.toNat_natCast]
        · unfold m_laws_FnSteps_L0
          simp only
          rw [decide_eq_true (show (i : Int) < 60 by omega), cond_true, es, Option.bind_some]
          simp only
          rw [Bool.not_true, cond_false, decide_true, Bool.not_true, cond_false, decide_eq_false (show ¬ (a : Int) < 0 by omega), decide_eq_false (show ¬ (code.length : Int) ≤ (a : Int) by omega), Bool.or_self, cond_false, impl_config, Option.bind_some, hc, e3, Bool.and_self, Bool.not_true, cond_false,
            getI_some hxa, Option.bind_some, hx, Option.bind_some, decide_eq_false h9, cond_false]; simp only [w64_succ (show i < 9223372036854775807 by omega), Int.toNat_natCast]
    · obtain rfl := e5 h0
      have law : m_laws_FnSteps_L0 code (V, C, S, A, E, K, (i : Int)) = some (.out (.inl (V, C, S, A, E, K, out))) := by
        unfold m_laws_FnSteps_L0
        simp only
        rw [decide_eq_true (show (i : Int) < 60 by omega), cond_true, es, Option.bind_some]
        simp only
        rw [Bool.not_true, cond_false, decide_eq_false h0]; rfl
      by_cases h6 : out = 6
      · subst h6
        refine ⟨V, C, S, A, E, K, 0, 6, iter_out ?_, iter_out law, .inl ⟨rfl, rfl⟩, ho, by omega, hK⟩
        unfold m_impl_ran_L0
        simp only
        rw [decide_eq_false (by omega), cond_false, e1]; rfl
      · refine ⟨V, C, S, A, E, K, out, out, iter_out ?_, iter_out law, .inr ⟨h6, rfl⟩, ho, by omega, hK⟩
        unfold m_impl_ran_L0
        simp only
        rw [decide_eq_false (by omega), cond_false, e1, Option.bind_some]
        simp only
        rw [decide_eq_false h6, cond_false, decide_eq_false h0]; rfl
theorem law_Steps {a b : List Int} (ka : kLa_u8 a) (kb : kLa_u8 b) : m_laws_FnSteps a b = some true := by
  unfold m_laws_FnSteps
  rcases long_cases a b with h | ⟨h, la, lb⟩
  · rw [h]; rfl
  obtain ⟨code, e1, hc⟩ := r8Code_ok (bytes ka) (by omega)
  obtain ⟨s, e2, hs⟩ := r8State_ok (bytes kb) (by omega)
  rw [h, Option.bind_some, cond_false, e1, Option.bind_some, e2, Option.bind_some]
  clear h e1 e2
  obtain ⟨ca, c1, c80⟩ := okCode_iff.1 hc
  obtain ⟨⟨_, v4⟩, ⟨_, c8⟩⟩ := okState_iff.1 hs
  obtain ⟨V, C, S, A, E, K, o, z, i1, i2, hz, ok, hE, hK⟩ := run_law hc 60 0 s.Vars s.Cells [] 0 [] (List.replicate code.length 0) rfl (by simp) (by simp)
    (okConfig_iff.2 ⟨by simp, hs, by simp, Int.le_refl 0, (by decide : (0 : Int) ≤ 80)⟩)
  have hr : m_impl_ran code s 60 = some (runs.mk ⟨⟨V, C⟩, S, A⟩ E K o, true) := by
    unfold m_impl_ran
    rw [impl_code, hc, Option.bind_some, Bool.not_true, cond_false, impl_state, hs, Option.bind_some, Bool.not_true, cond_false]
    rw [show m_impl_within (60 : Int) 0 2000 = some true from rfl, Option.bind_some, Bool.not_true, cond_false]
    unfold m_impl_State_own
    rw [impl_copy (by omega), Option.bind_some, impl_copy (by omega), Option.bind_some, Option.bind_some, makeI_some (by omega), Option.bind_some]
    unfold m_impl_ran_J0
    simp only
    have i1' : iter (m_impl_ran_L0 code) ((60 : Int), s.Vars, s.Cells, ([] : List Int), (0 : Int), ([] : List Int), List.replicate code.length (0 : Int)) = _ := i1
    rw [i1']; rfl
  have hR : m_impl_RunCode code s 60 = some (State.mk V C, E, o, true) := by unfold m_impl_RunCode; rw [hr]; rfl
  have hC : m_impl_CountCode code s 60 = some (K, true) := by unfold m_impl_CountCode; rw [hr]; rfl
  rw [hR, Option.bind_some, hC, Option.bind_some]
  simp only [Bool.not_true, Bool.false_or]
  rw [decide_eq_true (show (K.length : Int) = (code.length : Int) by omega), Bool.not_true, cond_false, makeI_some (by omega), Option.bind_some]
  have i2' : iter (m_laws_FnSteps_L0 code) (s.Vars, s.Cells, ([] : List Int), (0 : Int), ([] : List Int), List.replicate code.length (0 : Int), (0 : Int)) = _ := i2
  rw [i2', Option.bind_some]
  unfold m_laws_FnSteps_A0
  have fin : m_laws_FnSteps_J0 (State.mk V C, E, o, true) (K, true) (V, C, S, A, E, K, z) o = some true := by
    unfold m_laws_FnSteps_J0
    simp only
    rw [decide_true, cond_true, r8Same_ok (by omega), Option.bind_some, cond_true, r8Same_ok (by omega), Option.bind_some, cond_true, r8States_ok ok]; rfl
  simp only
  rcases hz with ⟨hz, ho⟩ | ⟨hz, ho⟩
  · rw [decide_eq_true hz, cond_true, ← ho]; exact fin
  · rw [decide_eq_false hz, cond_false]; rw [← ho]; rw [← ho] at fin; exact fin
end Go.Mod
