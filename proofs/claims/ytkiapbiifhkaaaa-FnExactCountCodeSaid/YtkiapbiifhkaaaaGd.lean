import Derived.Test.YtkiapbiifhkaaaaGc
namespace Go.Mod
open Go.AM
set_option linter.unusedVariables false
structure l00Src where
  code : List Int
  at_ : Int
  seed : Int
  deriving DecidableEq, Inhabited
structure Instr where
  Op : Int
  Arg : Int
  deriving DecidableEq, Inhabited
structure State where
  Vars : List Int
  Cells : List Int
  deriving DecidableEq, Inhabited
structure Config where
  State : State
  Stack : List Int
  At : Int
  deriving DecidableEq, Inhabited
structure runs where
  config : Config
  events : List Int
  counts : List Int
  out : Int
  deriving DecidableEq, Inhabited
structure Term where
  Const : Int
  Coeffs : List Int
  deriving DecidableEq, Inhabited
structure Point where
  At : Int
  Facts : List Term
  deriving DecidableEq, Inhabited
structure Annotated where
  Pre : List Term
  Post : List Term
  Code : List Instr
  Points : List Point
  deriving DecidableEq, Inhabited
structure Node where
  Kind : Int
  Fact : Int
  Term : Term
  Multipliers : List Int
  deriving DecidableEq, Inhabited
structure Package where
  Name : List UInt8
  Code : Annotated
  Proofs : List (List Node)
  deriving DecidableEq, Inhabited
def k_i64 (x : Int) : Prop := -9223372036854775808 ≤ x ∧ x ≤ 9223372036854775807
def k_Instr (x : Instr) : Prop := k_i64 x.Op ∧ k_i64 x.Arg
def kLa_Instr (x : List Instr) : Prop := x.length ≤ 9223372036854775807 ∧ ∀ y ∈ x, k_Instr y
def kLa_i64 (x : List Int) : Prop := x.length ≤ 9223372036854775807 ∧ ∀ y ∈ x, k_i64 y
def k_State (x : State) : Prop := kLa_i64 x.Vars ∧ kLa_i64 x.Cells
noncomputable def m_impl_size (p0 : Int) : Option Int :=
  some p0
noncomputable def m_impl_within (p0 : Int) (p1 : Int) (p2 : Int) : Option Bool :=
  some ((decide (p1 ≤ p0)) && (decide (p0 ≤ p2)))
noncomputable def m_impl_isCoeff (p0 : Int) : Option Bool :=
  (m_impl_within p0 (-1000000 : Int) (1000000 : Int)).bind fun (r4 : Bool) =>
  some r4
noncomputable def m_impl_isVar (p0 : Int) : Option Bool :=
  (m_impl_within p0 (0 : Int) (3 : Int)).bind fun (r4 : Bool) =>
  some r4
noncomputable def m_impl_isPlace (p0 : Int) : Option Bool :=
  (m_impl_within p0 (0 : Int) (79 : Int)).bind fun (r4 : Bool) =>
  some r4
noncomputable def m_impl_isEvent (p0 : Int) : Option Bool :=
  (m_impl_within p0 (0 : Int) (3 : Int)).bind fun (r4 : Bool) =>
  some r4
noncomputable def m_impl_ValidInstr_J3 (p0 : Instr) (j3 : Bool) : Option Bool :=
  bif j3 then
    some (decide (p0.Arg = (0 : Int)))
  else
    some false
noncomputable def m_impl_ValidInstr_J2 (p0 : Instr) (j2 : Bool) : Option Bool :=
  bif j2 then
    (m_impl_isPlace p0.Arg).bind fun (r22 : Bool) =>
    some r22
  else
    bif (decide (p0.Op = (9 : Int))) then
      (m_impl_isEvent p0.Arg).bind fun (r27 : Bool) =>
      some r27
    else
      bif (decide (p0.Op = (3 : Int))) then
        m_impl_ValidInstr_J3 p0 (decide (p0.Op = (3 : Int)))
      else
        bif (decide (p0.Op = (7 : Int))) then
          m_impl_ValidInstr_J3 p0 (decide (p0.Op = (7 : Int)))
        else
          bif (decide (p0.Op = (8 : Int))) then
            m_impl_ValidInstr_J3 p0 (decide (p0.Op = (8 : Int)))
          else
            bif (decide (p0.Op = (10 : Int))) then
              m_impl_ValidInstr_J3 p0 (decide (p0.Op = (10 : Int)))
            else
              m_impl_ValidInstr_J3 p0 (decide (p0.Op = (11 : Int)))
noncomputable def m_impl_ValidInstr_J1 (p0 : Instr) (j1 : Bool) : Option Bool :=
  bif j1 then
    (m_impl_isVar p0.Arg).bind fun (r16 : Bool) =>
    some r16
  else
    bif (decide (p0.Op = (5 : Int))) then
      m_impl_ValidInstr_J2 p0 (decide (p0.Op = (5 : Int)))
    else
      m_impl_ValidInstr_J2 p0 (decide (p0.Op = (6 : Int)))
noncomputable def m_impl_ValidInstr_J0 (p0 : Instr) (j0 : Bool) : Option Bool :=
  bif j0 then
    (m_impl_isCoeff p0.Arg).bind fun (r10 : Bool) =>
    some r10
  else
    bif (decide (p0.Op = (1 : Int))) then
      m_impl_ValidInstr_J1 p0 (decide (p0.Op = (1 : Int)))
    else
      m_impl_ValidInstr_J1 p0 (decide (p0.Op = (2 : Int)))
noncomputable def m_impl_ValidInstr (p0 : Instr) : Option Bool :=
  bif (decide (p0.Op = (0 : Int))) then
    m_impl_ValidInstr_J0 p0 (decide (p0.Op = (0 : Int)))
  else
    m_impl_ValidInstr_J0 p0 (decide (p0.Op = (4 : Int)))
noncomputable def m_impl_ValidCode_1 (p0 : Instr) : Option Bool :=
  (m_impl_ValidInstr p0).bind fun (r4 : Bool) =>
  some (!r4)
noncomputable def m_slices_IndexFunc_impl_Instr_impl_Instr_fValidCode_1_L0 (n0 : Nat) (x0 : Instr) (s0 : Unit) : Option (Ctl Unit (Unit ⊕ Int)) :=
  (m_impl_ValidCode_1 x0).bind fun (r16 : Bool) =>
  bif r16 then
    some (.out (.inr (n0 : Int)))
  else
    some (.next ())
noncomputable def m_slices_IndexFunc_impl_Instr_impl_Instr_fValidCode_1_A0 (u0 : Unit ⊕ Int) : Option Int :=
  match u0 with
  | .inl u0 =>
    some (-1 : Int)
  | .inr u0 =>
    some u0
noncomputable def m_slices_IndexFunc_impl_Instr_impl_Instr_fValidCode_1 (p0 : List Instr) : Option Int :=
  (forL (m_slices_IndexFunc_impl_Instr_impl_Instr_fValidCode_1_L0) (fun s0 => (.inl ())) 0 p0 ()).bind fun (u0 : Unit ⊕ Int) =>
  m_slices_IndexFunc_impl_Instr_impl_Instr_fValidCode_1_A0 u0
noncomputable def m_slices_ContainsFunc_impl_Instr_impl_Instr_fValidCode_1 (p0 : List Instr) : Option Bool :=
  (m_slices_IndexFunc_impl_Instr_impl_Instr_fValidCode_1 p0).bind fun (r7 : Int) =>
  some (decide ((0 : Int) ≤ r7))
noncomputable def m_impl_ValidCode (p0 : List Instr) : Option Bool :=
  (m_impl_size (p0.length : Int)).bind fun (r5 : Int) =>
  (m_impl_within r5 (1 : Int) (80 : Int)).bind fun (r6 : Bool) =>
  bif r6 then
    (m_slices_ContainsFunc_impl_Instr_impl_Instr_fValidCode_1 p0).bind fun (r9 : Bool) =>
    some (!r9)
  else
    some false
noncomputable def m_impl_allWithin_L0 (p1 : Int) (p2 : Int) (n0 : Nat) (x0 : Int) (s0 : Unit) : Option (Ctl Unit (Unit ⊕ Bool)) :=
  (m_impl_within x0 p1 p2).bind fun (r18 : Bool) =>
  bif (!r18) then
    some (.out (.inr false))
  else
    some (.next ())
noncomputable def m_impl_allWithin_A0 (u0 : Unit ⊕ Bool) : Option Bool :=
  match u0 with
  | .inl u0 =>
    some true
  | .inr u0 =>
    some u0
noncomputable def m_impl_allWithin (p0 : List Int) (p1 : Int) (p2 : Int) : Option Bool :=
  (forL (m_impl_allWithin_L0 p1 p2) (fun s0 => (.inl ())) 0 p0 ()).bind fun (u0 : Unit ⊕ Bool) =>
  m_impl_allWithin_A0 u0
noncomputable def m_impl_ValidState (p0 : State) : Option Bool :=
  bif ((decide ((p0.Vars.length : Int) = (4 : Int))) && (decide ((p0.Cells.length : Int) = (8 : Int)))) then
    (m_impl_allWithin p0.Vars (-1000000000 : Int) (1000000000 : Int)).bind fun (r16 : Bool) =>
    bif r16 then
      (m_impl_allWithin p0.Cells (-1000000000 : Int) (1000000000 : Int)).bind fun (r21 : Bool) =>
      some r21
    else
      some false
  else
    some false
noncomputable def m_impl_copyInts (p0 : List Int) : Option (List Int) :=
  (capI (([] : List Int).length + p0.length) 8).bind fun (q5 : Unit) =>
  some (([] : List Int) ++ p0)
noncomputable def m_impl_State_own (p0 : State) : Option State :=
  (m_impl_copyInts p0.Vars).bind fun (r5 : List Int) =>
  (m_impl_copyInts p0.Cells).bind fun (r8 : List Int) =>
  some (State.mk r5 r8)
noncomputable def m_impl_isIndex (p0 : Int) (p1 : Int) : Option Bool :=
  (m_impl_size p1).bind fun (r7 : Int) =>
  (m_impl_within p0 (0 : Int) (w64 (r7 - (1 : Int)))).bind fun (r9 : Bool) =>
  some r9
noncomputable def m_impl_Instr_moves_J2 (p0 : Instr) (j2 : Bool) : Option (Int × Int) :=
  bif j2 then
    some ((1 : Int), (1 : Int))
  else
    bif (decide (p0.Op = (8 : Int))) then
      some ((2 : Int), (0 : Int))
    else
      some ((0 : Int), (0 : Int))
noncomputable def m_impl_Instr_moves_J1 (p0 : Instr) (j1 : Bool) : Option (Int × Int) :=
  bif j1 then
    some ((1 : Int), (0 : Int))
  else
    bif (decide (p0.Op = (3 : Int))) then
      some ((2 : Int), (1 : Int))
    else
      bif (decide (p0.Op = (4 : Int))) then
        m_impl_Instr_moves_J2 p0 (decide (p0.Op = (4 : Int)))
      else
        m_impl_Instr_moves_J2 p0 (decide (p0.Op = (7 : Int)))
noncomputable def m_impl_Instr_moves_J0 (p0 : Instr) (j0 : Bool) : Option (Int × Int) :=
  bif j0 then
    some ((0 : Int), (1 : Int))
  else
    bif (decide (p0.Op = (2 : Int))) then
      m_impl_Instr_moves_J1 p0 (decide (p0.Op = (2 : Int)))
    else
      bif (decide (p0.Op = (6 : Int))) then
        m_impl_Instr_moves_J1 p0 (decide (p0.Op = (6 : Int)))
      else
        m_impl_Instr_moves_J1 p0 (decide (p0.Op = (10 : Int)))
noncomputable def m_impl_Instr_moves (p0 : Instr) : Option (Int × Int) :=
  bif (decide (p0.Op = (0 : Int))) then
    m_impl_Instr_moves_J0 p0 (decide (p0.Op = (0 : Int)))
  else
    m_impl_Instr_moves_J0 p0 (decide (p0.Op = (1 : Int)))
noncomputable def m_impl_isInt (p0 : Int) : Option Bool :=
  (m_impl_within p0 (-1000000000 : Int) (1000000000 : Int)).bind fun (r4 : Bool) =>
  some r4
noncomputable def m_impl_isWide (p0 : Int) : Option Bool :=
  (m_impl_within p0 (-10000000000000000 : Int) (10000000000000000 : Int)).bind fun (r4 : Bool) =>
  some r4
noncomputable def m_impl_absolute (p0 : Int) : Option Int :=
  some (max p0 (w64 (0 - p0)))
noncomputable def m_impl_scaled_J0 (p0 : Int) (p1 : Int) (j0 : Unit) : Option (Int × Bool) :=
  (m_impl_isWide (w64 (p0 * p1))).bind fun (r22 : Bool) =>
  some ((w64 (p0 * p1)), r22)
noncomputable def m_impl_scaled (p0 : Int) (p1 : Int) : Option (Int × Bool) :=
  bif (!decide (p0 = (0 : Int))) then
    (m_impl_absolute p1).bind fun (r10 : Int) =>
    (m_impl_absolute p0).bind fun (r12 : Int) =>
    (quoI (10000000000000000 : Int) r12).bind fun (q13 : Int) =>
    bif (decide (q13 < r10)) then
      some ((0 : Int), false)
    else
      m_impl_scaled_J0 p0 p1 ()
  else
    m_impl_scaled_J0 p0 p1 ()
noncomputable def m_impl_Config_step_J3 (j2 : (List Int) × (List Int) × Int × Int × Int × Bool) (j3 : List Int) : Option (Int × Int × Config) :=
  some ((0 : Int), j2.2.2.2.1, (Config.mk (State.mk j2.1 j2.2.1) j3 j2.2.2.1))
noncomputable def m_impl_Config_step_J2 (p0 : Config) (r33 : Int × Int) (j2 : (List Int) × (List Int) × Int × Int × Int × Bool) : Option (Int × Int × Config) :=
  bif (!j2.2.2.2.2.2) then
    some ((4 : Int), (-1 : Int), (Config.mk (State.mk j2.1 j2.2.1) p0.Stack p0.At))
  else
    (sliceI p0.Stack (0 : Int) (w64 ((p0.Stack.length : Int) - r33.1))).bind fun (y190 : List Int) =>
    bif (decide ((0 : Int) < r33.2)) then
      (capI (y190.length + [j2.2.2.2.2.1].length) 8).bind fun (q202 : Unit) =>
      m_impl_Config_step_J3 j2 (y190 ++ [j2.2.2.2.2.1])
    else
      m_impl_Config_step_J3 j2 y190
noncomputable def m_impl_Config_step_J1 (p0 : Config) (x29 : Instr) (r33 : Int × Int) (j1 : Bool) : Option (Int × Int × Config) :=
  bif j1 then
    (p0.Stack[(((w64 ((p0.Stack.length : Int) - r33.1))).toNat + 0)]?).bind fun (e141 : Int) =>
    (m_impl_within e141 (0 : Int) (7 : Int)).bind fun (r144 : Bool) =>
    bif (!r144) then
      some ((2 : Int), (-1 : Int), p0)
    else
      bif (decide (x29.Op = (7 : Int))) then
        (getI p0.State.Cells e141).bind fun (x155 : Int) =>
        m_impl_Config_step_J2 p0 r33 (p0.State.Vars, p0.State.Cells, (w64 (p0.At + (1 : Int))), (-1 : Int), x155, true)
      else
        (p0.Stack[(((w64 ((p0.Stack.length : Int) - r33.1))).toNat + 1)]?).bind fun (e158 : Int) =>
        (m_impl_isInt e158).bind fun (r160 : Bool) =>
        bif (!r160) then
          some ((4 : Int), (-1 : Int), p0)
        else
          (getI p0.State.Cells e141).bind fun (x171 : Int) =>
          m_impl_Config_step_J2 p0 r33 (p0.State.Vars, (p0.State.Cells.set ((e141).toNat) e158), (w64 (p0.At + (1 : Int))), (-1 : Int), (0 : Int), true)
  else
    bif (decide (x29.Op = (9 : Int))) then
      m_impl_Config_step_J2 p0 r33 (p0.State.Vars, p0.State.Cells, (w64 (p0.At + (1 : Int))), x29.Arg, (0 : Int), true)
    else
      bif (decide (x29.Op = (10 : Int))) then
        (p0.Stack[(((w64 ((p0.Stack.length : Int) - r33.1))).toNat + 0)]?).bind fun (e179 : Int) =>
        bif (decide (e179 < (0 : Int))) then
          some ((3 : Int), (-1 : Int), p0)
        else
          m_impl_Config_step_J2 p0 r33 (p0.State.Vars, p0.State.Cells, (w64 (p0.At + (1 : Int))), (-1 : Int), (0 : Int), true)
      else
        m_impl_Config_step_J2 p0 r33 (p0.State.Vars, p0.State.Cells, (w64 (p0.At + (1 : Int))), (-1 : Int), (0 : Int), true)
noncomputable def m_impl_Config_step_J0 (p0 : Config) (x29 : Instr) (r33 : Int × Int) (j0 : Unit) : Option (Int × Int × Config) :=
  (sliceI p0.Stack (w64 ((p0.Stack.length : Int) - r33.1)) (p0.Stack.length : Int)).bind fun (y60 : List Int) =>
  bif (decide (x29.Op = (11 : Int))) then
    some ((6 : Int), (-1 : Int), p0)
  else
    bif (decide (x29.Op = (0 : Int))) then
      m_impl_Config_step_J2 p0 r33 (p0.State.Vars, p0.State.Cells, (w64 (p0.At + (1 : Int))), (-1 : Int), x29.Arg, true)
    else
      bif (decide (x29.Op = (1 : Int))) then
        (getI p0.State.Vars x29.Arg).bind fun (x83 : Int) =>
        m_impl_Config_step_J2 p0 r33 (p0.State.Vars, p0.State.Cells, (w64 (p0.At + (1 : Int))), (-1 : Int), x83, true)
      else
        bif (decide (x29.Op = (2 : Int))) then
          (p0.Stack[(((w64 ((p0.Stack.length : Int) - r33.1))).toNat + 0)]?).bind fun (e88 : Int) =>
          (m_impl_isInt e88).bind fun (r90 : Bool) =>
          bif (!r90) then
            some ((4 : Int), (-1 : Int), p0)
          else
            (getI p0.State.Vars x29.Arg).bind fun (x102 : Int) =>
            m_impl_Config_step_J2 p0 r33 ((p0.State.Vars.set ((x29.Arg).toNat) e88), p0.State.Cells, (w64 (p0.At + (1 : Int))), (-1 : Int), (0 : Int), true)
        else
          bif (decide (x29.Op = (3 : Int))) then
            (p0.Stack[(((w64 ((p0.Stack.length : Int) - r33.1))).toNat + 0)]?).bind fun (e106 : Int) =>
            (p0.Stack[(((w64 ((p0.Stack.length : Int) - r33.1))).toNat + 1)]?).bind fun (e109 : Int) =>
            (m_impl_isWide (w64 (e106 + e109))).bind fun (r113 : Bool) =>
            m_impl_Config_step_J2 p0 r33 (p0.State.Vars, p0.State.Cells, (w64 (p0.At + (1 : Int))), (-1 : Int), (w64 (e106 + e109)), r113)
          else
            bif (decide (x29.Op = (4 : Int))) then
              (p0.Stack[(((w64 ((p0.Stack.length : Int) - r33.1))).toNat + 0)]?).bind fun (e118 : Int) =>
              (m_impl_scaled e118 x29.Arg).bind fun (r122 : Int × Bool) =>
              m_impl_Config_step_J2 p0 r33 (p0.State.Vars, p0.State.Cells, (w64 (p0.At + (1 : Int))), (-1 : Int), r122.1, r122.2)
            else
              bif (decide (x29.Op = (5 : Int))) then
                m_impl_Config_step_J2 p0 r33 (p0.State.Vars, p0.State.Cells, x29.Arg, (-1 : Int), (0 : Int), true)
              else
                bif (decide (x29.Op = (6 : Int))) then
                  (p0.Stack[(((w64 ((p0.Stack.length : Int) - r33.1))).toNat + 0)]?).bind fun (e132 : Int) =>
                  bif (decide (e132 < (0 : Int))) then
                    m_impl_Config_step_J2 p0 r33 (p0.State.Vars, p0.State.Cells, x29.Arg, (-1 : Int), (0 : Int), true)
                  else
                    m_impl_Config_step_J2 p0 r33 (p0.State.Vars, p0.State.Cells, (w64 (p0.At + (1 : Int))), (-1 : Int), (0 : Int), true)
                else
                  bif (decide (x29.Op = (7 : Int))) then
                    m_impl_Config_step_J1 p0 x29 r33 (decide (x29.Op = (7 : Int)))
                  else
                    m_impl_Config_step_J1 p0 x29 r33 (decide (x29.Op = (8 : Int)))
noncomputable def m_impl_Config_step (p0 : Config) (p1 : List Instr) : Option (Int × Int × Config) :=
  (m_impl_isIndex p0.At (p1.length : Int)).bind fun (r22 : Bool) =>
  bif (!r22) then
    some ((5 : Int), (-1 : Int), p0)
  else
    (getI p1 p0.At).bind fun (x29 : Instr) =>
    (m_impl_Instr_moves x29).bind fun (r33 : Int × Int) =>
    bif (decide ((w64 ((p0.Stack.length : Int) - r33.1)) < (0 : Int))) then
      some ((5 : Int), (-1 : Int), p0)
    else
      bif (decide ((0 : Int) < r33.2)) then
        bif (decide ((6 : Int) < (w64 ((w64 ((p0.Stack.length : Int) - r33.1)) + r33.2)))) then
          some ((5 : Int), (-1 : Int), p0)
        else
          m_impl_Config_step_J0 p0 x29 r33 ()
      else
        m_impl_Config_step_J0 p0 x29 r33 ()
noncomputable def m_impl_ran_L0 (p0 : List Instr) (s0 : Int × (List Int) × (List Int) × (List Int) × Int × (List Int) × (List Int)) : Option (Ctl (Int × (List Int) × (List Int) × (List Int) × Int × (List Int) × (List Int)) (((List Int) × (List Int) × (List Int) × Int × (List Int) × (List Int) × Int))) :=
  bif (decide (s0.1 = (0 : Int))) then
    some (.out (s0.2.1, s0.2.2.1, s0.2.2.2.1, s0.2.2.2.2.1, s0.2.2.2.2.2.1, s0.2.2.2.2.2.2, (1 : Int)))
  else
    (m_impl_Config_step (Config.mk (State.mk s0.2.1 s0.2.2.1) s0.2.2.2.1 s0.2.2.2.2.1) p0).bind fun (r51 : Int × Int × Config) =>
    bif (decide (r51.1 = (6 : Int))) then
      some (.out (r51.2.2.State.Vars, r51.2.2.State.Cells, r51.2.2.Stack, r51.2.2.At, s0.2.2.2.2.2.1, s0.2.2.2.2.2.2, (0 : Int)))
    else
      bif (!decide (r51.1 = (0 : Int))) then
        some (.out (r51.2.2.State.Vars, r51.2.2.State.Cells, r51.2.2.Stack, r51.2.2.At, s0.2.2.2.2.2.1, s0.2.2.2.2.2.2, r51.1))
      else
        (getI s0.2.2.2.2.2.2 s0.2.2.2.2.1).bind fun (x69 : Int) =>
        bif (decide ((0 : Int) ≤ r51.2.1)) then
          (capI (s0.2.2.2.2.2.1.length + [r51.2.1].length) 8).bind fun (q82 : Unit) =>
          some (.next ((w64 (s0.1 - (1 : Int))), r51.2.2.State.Vars, r51.2.2.State.Cells, r51.2.2.Stack, r51.2.2.At, (s0.2.2.2.2.2.1 ++ [r51.2.1]), (s0.2.2.2.2.2.2.set ((s0.2.2.2.2.1).toNat) (w64 (x69 + (1 : Int))))))
        else
          some (.next ((w64 (s0.1 - (1 : Int))), r51.2.2.State.Vars, r51.2.2.State.Cells, r51.2.2.Stack, r51.2.2.At, s0.2.2.2.2.2.1, (s0.2.2.2.2.2.2.set ((s0.2.2.2.2.1).toNat) (w64 (x69 + (1 : Int))))))
noncomputable def m_impl_ran_A0 (u0 : ((List Int) × (List Int) × (List Int) × Int × (List Int) × (List Int) × Int)) : Option (runs × Bool) :=
  some ((runs.mk (Config.mk (State.mk u0.1 u0.2.1) u0.2.2.1 u0.2.2.2.1) u0.2.2.2.2.1 u0.2.2.2.2.2.1 u0.2.2.2.2.2.2), true)
noncomputable def m_impl_ran_J0 (p0 : List Instr) (p2 : Int) (j0 : (List Int) × (List Int) × (List Int)) : Option (runs × Bool) :=
  (iter (m_impl_ran_L0 p0) (p2, j0.1, j0.2.1, ([] : List Int), (0 : Int), ([] : List Int), j0.2.2)).bind fun (u0 : ((List Int) × (List Int) × (List Int) × Int × (List Int) × (List Int) × Int)) =>
  m_impl_ran_A0 u0
noncomputable def m_impl_ran (p0 : List Instr) (p1 : State) (p2 : Int) : Option (runs × Bool) :=
  (m_impl_ValidCode p0).bind fun (r13 : Bool) =>
  bif (!r13) then
    some (default, false)
  else
    (m_impl_ValidState p1).bind fun (r17 : Bool) =>
    bif (!r17) then
      some (default, false)
    else
      (m_impl_within p2 (0 : Int) (2000 : Int)).bind fun (r22 : Bool) =>
      bif (!r22) then
        some (default, false)
      else
        (m_impl_State_own p1).bind fun (r26 : State) =>
        (makeI (p0.length : Int) 8).bind fun (k30 : Nat) =>
        m_impl_ran_J0 p0 p2 (r26.Vars, r26.Cells, (List.replicate k30 (0 : Int)))
noncomputable def m_impl_CountCode (p0 : List Instr) (p1 : State) (p2 : Int) : Option ((List Int) × Bool) :=
  (m_impl_ran p0 p1 p2).bind fun (r14 : runs × Bool) =>
  bif r14.2 then
    some (r14.1.counts, true)
  else
    some (([] : List Int), false)
noncomputable def m_laws_szInstrS (p0 : List Instr) (p1 : Int) : Option Int :=
  bif (decide ((w64 (p1 - (p0.length : Int))) < (0 : Int))) then
    some (-1 : Int)
  else
    some (w64 (p1 - (p0.length : Int)))
noncomputable def m_laws_szInt64S (p0 : List Int) (p1 : Int) : Option Int :=
  bif (decide ((w64 (p1 - (p0.length : Int))) < (0 : Int))) then
    some (-1 : Int)
  else
    some (w64 (p1 - (p0.length : Int)))
noncomputable def m_laws_szState (p0 : State) (p1 : Int) : Option Int :=
  (m_laws_szInt64S p0.Vars p1).bind fun (r8 : Int) =>
  bif (decide (r8 < (0 : Int))) then
    some (-1 : Int)
  else
    (m_laws_szInt64S p0.Cells r8).bind fun (r14 : Int) =>
    bif (decide (r14 < (0 : Int))) then
      some (-1 : Int)
    else
      some r14
noncomputable def m_laws_toInstr (p0 : Instr) : Option Instr :=
  some p0
noncomputable def m_laws_toInstrS_L0 (p0 : List Instr) (s0 : (List Instr) × Int) : Option (Ctl ((List Instr) × Int) ((List Instr))) :=
  bif (decide (s0.2 < (p0.length : Int))) then
    (getI p0 s0.2).bind fun (x18 : Instr) =>
    (m_laws_toInstr x18).bind fun (r20 : Instr) =>
    (getI s0.1 s0.2).bind fun (x21 : Instr) =>
    some (.next ((s0.1.set ((s0.2).toNat) r20), (w64 (s0.2 + (1 : Int)))))
  else
    some (.out s0.1)
noncomputable def m_laws_toInstrS_A0 (u0 : (List Instr)) : Option (List Instr) :=
  some u0
noncomputable def m_laws_toInstrS (p0 : List Instr) : Option (List Instr) :=
  (makeI (p0.length : Int) 16).bind fun (k7 : Nat) =>
  (iter (m_laws_toInstrS_L0 p0) ((List.replicate k7 (Instr.mk (0 : Int) (0 : Int))), (0 : Int))).bind fun (u0 : (List Instr)) =>
  m_laws_toInstrS_A0 u0
noncomputable def m_laws_toInt64S_L0 (p0 : List Int) (s0 : (List Int) × Int) : Option (Ctl ((List Int) × Int) ((List Int))) :=
  bif (decide (s0.2 < (p0.length : Int))) then
    (getI p0 s0.2).bind fun (x18 : Int) =>
    (getI s0.1 s0.2).bind fun (x20 : Int) =>
    some (.next ((s0.1.set ((s0.2).toNat) x18), (w64 (s0.2 + (1 : Int)))))
  else
    some (.out s0.1)
noncomputable def m_laws_toInt64S_A0 (u0 : (List Int)) : Option (List Int) :=
  some u0
noncomputable def m_laws_toInt64S (p0 : List Int) : Option (List Int) :=
  (makeI (p0.length : Int) 8).bind fun (k7 : Nat) =>
  (iter (m_laws_toInt64S_L0 p0) ((List.replicate k7 (0 : Int)), (0 : Int))).bind fun (u0 : (List Int)) =>
  m_laws_toInt64S_A0 u0
noncomputable def m_laws_toState (p0 : State) : Option State :=
  (m_laws_toInt64S p0.Vars).bind fun (r6 : List Int) =>
  (m_laws_toInt64S p0.Cells).bind fun (r10 : List Int) =>
  some (State.mk r6 r10)
noncomputable def m_spec_l00In (p0 : Int) (p1 : Int) (p2 : Int) : Option Bool :=
  some ((decide (p1 ≤ p0)) && (decide (p0 ≤ p2)))
noncomputable def m_spec_l02Number (p0 : Int) : Option Bool :=
  (m_spec_l00In p0 (-1000000 : Int) (1000000 : Int)).bind fun (r4 : Bool) =>
  some r4
noncomputable def m_spec_l07Instr_J3 (p0 : Instr) (j3 : Bool) : Option Bool :=
  bif j3 then
    some (decide (p0.Arg = (0 : Int)))
  else
    some false
noncomputable def m_spec_l07Instr_J2 (p0 : Instr) (j2 : Bool) : Option Bool :=
  bif j2 then
    (m_spec_l00In p0.Arg (0 : Int) (79 : Int)).bind fun (r22 : Bool) =>
    some r22
  else
    bif (decide (p0.Op = (9 : Int))) then
      (m_spec_l00In p0.Arg (0 : Int) (3 : Int)).bind fun (r27 : Bool) =>
      some r27
    else
      bif (decide (p0.Op = (3 : Int))) then
        m_spec_l07Instr_J3 p0 (decide (p0.Op = (3 : Int)))
      else
        bif (decide (p0.Op = (7 : Int))) then
          m_spec_l07Instr_J3 p0 (decide (p0.Op = (7 : Int)))
        else
          bif (decide (p0.Op = (8 : Int))) then
            m_spec_l07Instr_J3 p0 (decide (p0.Op = (8 : Int)))
          else
            bif (decide (p0.Op = (10 : Int))) then
              m_spec_l07Instr_J3 p0 (decide (p0.Op = (10 : Int)))
            else
              m_spec_l07Instr_J3 p0 (decide (p0.Op = (11 : Int)))
noncomputable def m_spec_l07Instr_J1 (p0 : Instr) (j1 : Bool) : Option Bool :=
  bif j1 then
    (m_spec_l00In p0.Arg (0 : Int) (3 : Int)).bind fun (r16 : Bool) =>
    some r16
  else
    bif (decide (p0.Op = (5 : Int))) then
      m_spec_l07Instr_J2 p0 (decide (p0.Op = (5 : Int)))
    else
      m_spec_l07Instr_J2 p0 (decide (p0.Op = (6 : Int)))
noncomputable def m_spec_l07Instr_J0 (p0 : Instr) (j0 : Bool) : Option Bool :=
  bif j0 then
    (m_spec_l02Number p0.Arg).bind fun (r10 : Bool) =>
    some r10
  else
    bif (decide (p0.Op = (1 : Int))) then
      m_spec_l07Instr_J1 p0 (decide (p0.Op = (1 : Int)))
    else
      m_spec_l07Instr_J1 p0 (decide (p0.Op = (2 : Int)))
noncomputable def m_spec_l07Instr (p0 : Instr) : Option Bool :=
  bif (decide (p0.Op = (0 : Int))) then
    m_spec_l07Instr_J0 p0 (decide (p0.Op = (0 : Int)))
  else
    m_spec_l07Instr_J0 p0 (decide (p0.Op = (4 : Int)))
noncomputable def m_spec_l07Is_L0 (p0 : List Instr) (s0 : Int) : Option (Ctl Int (Unit ⊕ Bool)) :=
  bif (decide (s0 < (p0.length : Int))) then
    (getI p0 s0).bind fun (x12 : Instr) =>
    (m_spec_l07Instr x12).bind fun (r14 : Bool) =>
    bif (!r14) then
      some (.out (.inr false))
    else
      some (.next (w64 (s0 + (1 : Int))))
  else
    some (.out (.inl ()))
noncomputable def m_spec_l07Is_A0 (p0 : List Instr) (u0 : Unit ⊕ Bool) : Option Bool :=
  match u0 with
  | .inl u0 =>
    (m_spec_l00In (p0.length : Int) (1 : Int) (80 : Int)).bind fun (r18 : Bool) =>
    some r18
  | .inr u0 =>
    some u0
noncomputable def m_spec_l07Is (p0 : List Instr) : Option Bool :=
  (iter (m_spec_l07Is_L0 p0) (0 : Int)).bind fun (u0 : Unit ⊕ Bool) =>
  m_spec_l07Is_A0 p0 u0
noncomputable def m_spec_l03Numbers_L0 (p0 : List Int) (s0 : Int) : Option (Ctl Int (Unit ⊕ Bool)) :=
  bif (decide (s0 < (p0.length : Int))) then
    (getI p0 s0).bind fun (x14 : Int) =>
    (m_spec_l00In x14 (-1000000000 : Int) (1000000000 : Int)).bind fun (r16 : Bool) =>
    bif (!r16) then
      some (.out (.inr false))
    else
      some (.next (w64 (s0 + (1 : Int))))
  else
    some (.out (.inl ()))
noncomputable def m_spec_l03Numbers_A0 (p0 : List Int) (p1 : Int) (u0 : Unit ⊕ Bool) : Option Bool :=
  match u0 with
  | .inl u0 =>
    some (decide ((p0.length : Int) = p1))
  | .inr u0 =>
    some u0
noncomputable def m_spec_l03Numbers (p0 : List Int) (p1 : Int) : Option Bool :=
  (iter (m_spec_l03Numbers_L0 p0) (0 : Int)).bind fun (u0 : Unit ⊕ Bool) =>
  m_spec_l03Numbers_A0 p0 p1 u0
noncomputable def m_spec_l03State (p0 : State) : Option Bool :=
  (m_spec_l03Numbers p0.Vars (4 : Int)).bind fun (r7 : Bool) =>
  bif r7 then
    (m_spec_l03Numbers p0.Cells (8 : Int)).bind fun (r13 : Bool) =>
    some r13
  else
    some false
noncomputable def m_spec_l03Fuel (p0 : Int) : Option Bool :=
  (m_spec_l00In p0 (0 : Int) (2000 : Int)).bind fun (r4 : Bool) =>
  some r4
noncomputable def m_spec_l00Own (p0 : List Int) : Option (List Int) :=
  (capI (([] : List Int).length + p0.length) 8).bind fun (q5 : Unit) =>
  some (([] : List Int) ++ p0)
noncomputable def m_spec_l03Own (p0 : State) : Option State :=
  (m_spec_l00Own p0.Vars).bind fun (r7 : List Int) =>
  (m_spec_l00Own p0.Cells).bind fun (r12 : List Int) =>
  some (State.mk r7 r12)
noncomputable def m_spec_l07Pops_J0 (p0 : Int) (j0 : Bool) : Option Int :=
  bif j0 then
    some (1 : Int)
  else
    bif (decide (p0 = (3 : Int))) then
      bif (decide (p0 = (3 : Int))) then
        some (2 : Int)
      else
        some (0 : Int)
    else
      bif (decide (p0 = (8 : Int))) then
        some (2 : Int)
      else
        some (0 : Int)
noncomputable def m_spec_l07Pops (p0 : Int) : Option Int :=
  bif (decide (p0 = (2 : Int))) then
    m_spec_l07Pops_J0 p0 (decide (p0 = (2 : Int)))
  else
    bif (decide (p0 = (4 : Int))) then
      m_spec_l07Pops_J0 p0 (decide (p0 = (4 : Int)))
    else
      bif (decide (p0 = (6 : Int))) then
        m_spec_l07Pops_J0 p0 (decide (p0 = (6 : Int)))
      else
        bif (decide (p0 = (7 : Int))) then
          m_spec_l07Pops_J0 p0 (decide (p0 = (7 : Int)))
        else
          m_spec_l07Pops_J0 p0 (decide (p0 = (10 : Int)))
noncomputable def m_spec_l07Pushes (p0 : Int) : Option Int :=
  bif (decide (p0 = (0 : Int))) then
    bif (decide (p0 = (0 : Int))) then
      some (1 : Int)
    else
      some (0 : Int)
  else
    bif (decide (p0 = (1 : Int))) then
      bif (decide (p0 = (1 : Int))) then
        some (1 : Int)
      else
        some (0 : Int)
    else
      bif (decide (p0 = (3 : Int))) then
        bif (decide (p0 = (3 : Int))) then
          some (1 : Int)
        else
          some (0 : Int)
      else
        bif (decide (p0 = (4 : Int))) then
          bif (decide (p0 = (4 : Int))) then
            some (1 : Int)
          else
            some (0 : Int)
        else
          bif (decide (p0 = (7 : Int))) then
            some (1 : Int)
          else
            some (0 : Int)
noncomputable def m_spec_l03Cell (p0 : Int) : Option Bool :=
  (m_spec_l00In p0 (0 : Int) (7 : Int)).bind fun (r4 : Bool) =>
  some r4
noncomputable def m_spec_l07Wide (p0 : Int) : Option Bool :=
  (m_spec_l00In p0 (-10000000000000000 : Int) (10000000000000000 : Int)).bind fun (r4 : Bool) =>
  some r4
noncomputable def m_spec_l00Max (p0 : Int) (p1 : Int) : Option Int :=
  bif (decide (p1 < p0)) then
    some p0
  else
    some p1
noncomputable def m_spec_l07Far (p0 : Int) (p1 : Int) : Option Bool :=
  bif (decide (p1 = (0 : Int))) then
    some false
  else
    (m_spec_l00Max p0 (w64 (0 - p0))).bind fun (r11 : Int) =>
    (m_spec_l00Max p1 (w64 (0 - p1))).bind fun (r16 : Int) =>
    (quoI (10000000000000000 : Int) r16).bind fun (q17 : Int) =>
    some (decide (q17 < r11))
noncomputable def m_spec_l03Int (p0 : Int) : Option Bool :=
  (m_spec_l00In p0 (-1000000000 : Int) (1000000000 : Int)).bind fun (r4 : Bool) =>
  some r4
noncomputable def m_spec_l07Next_J4 (p1 : Config) (j0 : (List Int) × (List Int) × (List Int)) (x39 : Instr) (r43 : Int) (j1 : Int) (j2 : Int) (j4 : Unit) : Option (Config × Int) :=
  bif ((decide (x39.Op = (10 : Int))) && (decide (j1 < (0 : Int)))) then
    some ((Config.mk (State.mk j0.1 j0.2.1) j0.2.2 p1.At), (3 : Int))
  else
    (sliceI p1.Stack (0 : Int) (w64 ((p1.Stack.length : Int) - r43))).bind fun (y158 : List Int) =>
    (m_spec_l00Own y158).bind fun (r159 : List Int) =>
    bif (decide (x39.Op = (0 : Int))) then
      (capI (r159.length + [x39.Arg].length) 8).bind fun (q176 : Unit) =>
      some ((Config.mk (State.mk j0.1 j0.2.1) (r159 ++ [x39.Arg]) (w64 (p1.At + (1 : Int)))), (0 : Int))
    else
      bif (decide (x39.Op = (1 : Int))) then
        (getI p1.State.Vars x39.Arg).bind fun (x189 : Int) =>
        (capI (r159.length + [x189].length) 8).bind fun (q192 : Unit) =>
        some ((Config.mk (State.mk j0.1 j0.2.1) (r159 ++ [x189]) (w64 (p1.At + (1 : Int)))), (0 : Int))
      else
        bif (decide (x39.Op = (2 : Int))) then
          (getI j0.1 x39.Arg).bind fun (x202 : Int) =>
          some ((Config.mk (State.mk (j0.1.set ((x39.Arg).toNat) j1) j0.2.1) r159 (w64 (p1.At + (1 : Int)))), (0 : Int))
        else
          bif (decide (x39.Op = (3 : Int))) then
            (capI (r159.length + [(w64 (j1 + j2))].length) 8).bind fun (q211 : Unit) =>
            some ((Config.mk (State.mk j0.1 j0.2.1) (r159 ++ [(w64 (j1 + j2))]) (w64 (p1.At + (1 : Int)))), (0 : Int))
          else
            bif (decide (x39.Op = (4 : Int))) then
              (capI (r159.length + [(w64 (j1 * x39.Arg))].length) 8).bind fun (q222 : Unit) =>
              some ((Config.mk (State.mk j0.1 j0.2.1) (r159 ++ [(w64 (j1 * x39.Arg))]) (w64 (p1.At + (1 : Int)))), (0 : Int))
            else
              bif (decide (x39.Op = (5 : Int))) then
                some ((Config.mk (State.mk j0.1 j0.2.1) r159 x39.Arg), (0 : Int))
              else
                bif (decide (x39.Op = (6 : Int))) then
                  bif (decide (j1 < (0 : Int))) then
                    some ((Config.mk (State.mk j0.1 j0.2.1) r159 x39.Arg), (0 : Int))
                  else
                    some ((Config.mk (State.mk j0.1 j0.2.1) r159 (w64 (p1.At + (1 : Int)))), (0 : Int))
                else
                  bif (decide (x39.Op = (7 : Int))) then
                    (getI p1.State.Cells j1).bind fun (x246 : Int) =>
                    (capI (r159.length + [x246].length) 8).bind fun (q249 : Unit) =>
                    some ((Config.mk (State.mk j0.1 j0.2.1) (r159 ++ [x246]) (w64 (p1.At + (1 : Int)))), (0 : Int))
                  else
                    bif (decide (x39.Op = (8 : Int))) then
                      (getI j0.2.1 j2).bind fun (x258 : Int) =>
                      some ((Config.mk (State.mk j0.1 (j0.2.1.set ((j2).toNat) j1)) r159 (w64 (p1.At + (1 : Int)))), (0 : Int))
                    else
                      some ((Config.mk (State.mk j0.1 j0.2.1) r159 (w64 (p1.At + (1 : Int)))), (0 : Int))
noncomputable def m_spec_l07Next_J3 (p1 : Config) (j0 : (List Int) × (List Int) × (List Int)) (x39 : Instr) (r43 : Int) (j1 : Int) (j2 : Int) (j3 : Unit) : Option (Config × Int) :=
  bif (decide (x39.Op = (3 : Int))) then
    (m_spec_l07Wide (w64 (j1 + j2))).bind fun (r115 : Bool) =>
    bif (!r115) then
      some ((Config.mk (State.mk j0.1 j0.2.1) j0.2.2 p1.At), (4 : Int))
    else
      bif (decide (x39.Op = (4 : Int))) then
        (m_spec_l07Far j1 x39.Arg).bind fun (r126 : Bool) =>
        bif r126 then
          some ((Config.mk (State.mk j0.1 j0.2.1) j0.2.2 p1.At), (4 : Int))
        else
          bif (decide (x39.Op = (2 : Int))) then
            (m_spec_l03Int j1).bind fun (r140 : Bool) =>
            bif (!r140) then
              some ((Config.mk (State.mk j0.1 j0.2.1) j0.2.2 p1.At), (4 : Int))
            else
              m_spec_l07Next_J4 p1 j0 x39 r43 j1 j2 ()
          else
            bif (decide (x39.Op = (8 : Int))) then
              (m_spec_l03Int j1).bind fun (r140 : Bool) =>
              bif (!r140) then
                some ((Config.mk (State.mk j0.1 j0.2.1) j0.2.2 p1.At), (4 : Int))
              else
                m_spec_l07Next_J4 p1 j0 x39 r43 j1 j2 ()
            else
              m_spec_l07Next_J4 p1 j0 x39 r43 j1 j2 ()
      else
        bif (decide (x39.Op = (2 : Int))) then
          (m_spec_l03Int j1).bind fun (r140 : Bool) =>
          bif (!r140) then
            some ((Config.mk (State.mk j0.1 j0.2.1) j0.2.2 p1.At), (4 : Int))
          else
            m_spec_l07Next_J4 p1 j0 x39 r43 j1 j2 ()
        else
          bif (decide (x39.Op = (8 : Int))) then
            (m_spec_l03Int j1).bind fun (r140 : Bool) =>
            bif (!r140) then
              some ((Config.mk (State.mk j0.1 j0.2.1) j0.2.2 p1.At), (4 : Int))
            else
              m_spec_l07Next_J4 p1 j0 x39 r43 j1 j2 ()
          else
            m_spec_l07Next_J4 p1 j0 x39 r43 j1 j2 ()
  else
    bif (decide (x39.Op = (4 : Int))) then
      (m_spec_l07Far j1 x39.Arg).bind fun (r126 : Bool) =>
      bif r126 then
        some ((Config.mk (State.mk j0.1 j0.2.1) j0.2.2 p1.At), (4 : Int))
      else
        bif (decide (x39.Op = (2 : Int))) then
          (m_spec_l03Int j1).bind fun (r140 : Bool) =>
          bif (!r140) then
            some ((Config.mk (State.mk j0.1 j0.2.1) j0.2.2 p1.At), (4 : Int))
          else
            m_spec_l07Next_J4 p1 j0 x39 r43 j1 j2 ()
        else
          bif (decide (x39.Op = (8 : Int))) then
            (m_spec_l03Int j1).bind fun (r140 : Bool) =>
            bif (!r140) then
              some ((Config.mk (State.mk j0.1 j0.2.1) j0.2.2 p1.At), (4 : Int))
            else
              m_spec_l07Next_J4 p1 j0 x39 r43 j1 j2 ()
          else
            m_spec_l07Next_J4 p1 j0 x39 r43 j1 j2 ()
    else
      bif (decide (x39.Op = (2 : Int))) then
        (m_spec_l03Int j1).bind fun (r140 : Bool) =>
        bif (!r140) then
          some ((Config.mk (State.mk j0.1 j0.2.1) j0.2.2 p1.At), (4 : Int))
        else
          m_spec_l07Next_J4 p1 j0 x39 r43 j1 j2 ()
      else
        bif (decide (x39.Op = (8 : Int))) then
          (m_spec_l03Int j1).bind fun (r140 : Bool) =>
          bif (!r140) then
            some ((Config.mk (State.mk j0.1 j0.2.1) j0.2.2 p1.At), (4 : Int))
          else
            m_spec_l07Next_J4 p1 j0 x39 r43 j1 j2 ()
        else
          m_spec_l07Next_J4 p1 j0 x39 r43 j1 j2 ()
noncomputable def m_spec_l07Next_J2 (p1 : Config) (j0 : (List Int) × (List Int) × (List Int)) (x39 : Instr) (r43 : Int) (j1 : Int) (j2 : Int) : Option (Config × Int) :=
  bif (decide (x39.Op = (7 : Int))) then
    (m_spec_l03Cell j1).bind fun (r94 : Bool) =>
    bif (!r94) then
      some ((Config.mk (State.mk j0.1 j0.2.1) j0.2.2 p1.At), (2 : Int))
    else
      bif (decide (x39.Op = (8 : Int))) then
        (m_spec_l03Cell j2).bind fun (r103 : Bool) =>
        bif (!r103) then
          some ((Config.mk (State.mk j0.1 j0.2.1) j0.2.2 p1.At), (2 : Int))
        else
          m_spec_l07Next_J3 p1 j0 x39 r43 j1 j2 ()
      else
        m_spec_l07Next_J3 p1 j0 x39 r43 j1 j2 ()
  else
    bif (decide (x39.Op = (8 : Int))) then
      (m_spec_l03Cell j2).bind fun (r103 : Bool) =>
      bif (!r103) then
        some ((Config.mk (State.mk j0.1 j0.2.1) j0.2.2 p1.At), (2 : Int))
      else
        m_spec_l07Next_J3 p1 j0 x39 r43 j1 j2 ()
    else
      m_spec_l07Next_J3 p1 j0 x39 r43 j1 j2 ()
noncomputable def m_spec_l07Next_J1 (p1 : Config) (j0 : (List Int) × (List Int) × (List Int)) (x39 : Instr) (r43 : Int) (j1 : Int) : Option (Config × Int) :=
  bif (decide ((1 : Int) < r43)) then
    (getI p1.Stack (w64 ((p1.Stack.length : Int) - r43))).bind fun (x87 : Int) =>
    m_spec_l07Next_J2 p1 j0 x39 r43 j1 x87
  else
    m_spec_l07Next_J2 p1 j0 x39 r43 j1 (0 : Int)
noncomputable def m_spec_l07Next_J0 (p0 : List Instr) (p1 : Config) (j0 : (List Int) × (List Int) × (List Int)) : Option (Config × Int) :=
  bif (decide ((p0.length : Int) ≤ p1.At)) then
    some ((Config.mk (State.mk j0.1 j0.2.1) j0.2.2 p1.At), (5 : Int))
  else
    (getI p0 p1.At).bind fun (x39 : Instr) =>
    (m_spec_l07Pops x39.Op).bind fun (r43 : Int) =>
    bif (decide ((w64 ((p1.Stack.length : Int) - r43)) < (0 : Int))) then
      some ((Config.mk (State.mk j0.1 j0.2.1) j0.2.2 p1.At), (5 : Int))
    else
      (m_spec_l07Pushes x39.Op).bind fun (r57 : Int) =>
      bif (decide ((6 : Int) < (w64 ((w64 ((p1.Stack.length : Int) - r43)) + r57)))) then
        some ((Config.mk (State.mk j0.1 j0.2.1) j0.2.2 p1.At), (5 : Int))
      else
        bif (decide (x39.Op = (11 : Int))) then
          some ((Config.mk (State.mk j0.1 j0.2.1) j0.2.2 p1.At), (6 : Int))
        else
          bif (decide ((0 : Int) < r43)) then
            (getI p1.Stack (w64 ((p1.Stack.length : Int) - (1 : Int)))).bind fun (x78 : Int) =>
            m_spec_l07Next_J1 p1 j0 x39 r43 x78
          else
            m_spec_l07Next_J1 p1 j0 x39 r43 (0 : Int)
noncomputable def m_spec_l07Next (p0 : List Instr) (p1 : Config) : Option (Config × Int) :=
  (m_spec_l03Own p1.State).bind fun (r15 : State) =>
  (m_spec_l00Own p1.Stack).bind fun (r20 : List Int) =>
  m_spec_l07Next_J0 p0 p1 (r15.Vars, r15.Cells, r20)
noncomputable def m_spec_l07Run_L0 (p0 : List Instr) (p2 : Int) (s0 : (List Int) × (List Int) × (List Int) × Int × (List Int) × (List Int) × Int) : Option (Ctl ((List Int) × (List Int) × (List Int) × Int × (List Int) × (List Int) × Int) (((List Int) × (List Int) × (List Int) × Int × (List Int)))) :=
  bif (decide (s0.2.2.2.2.2.2 = p2)) then
    some (.out (s0.1, s0.2.1, s0.2.2.2.2.1, (1 : Int), s0.2.2.2.2.2.1))
  else
    (m_spec_l07Next p0 (Config.mk (State.mk s0.1 s0.2.1) s0.2.2.1 s0.2.2.2.1)).bind fun (r35 : Config × Int) =>
    bif (decide (r35.2 = (6 : Int))) then
      some (.out (s0.1, s0.2.1, s0.2.2.2.2.1, (0 : Int), s0.2.2.2.2.2.1))
    else
      bif (!decide (r35.2 = (0 : Int))) then
        some (.out (s0.1, s0.2.1, s0.2.2.2.2.1, r35.2, s0.2.2.2.2.2.1))
      else
        (getI s0.2.2.2.2.2.1 s0.2.2.2.1).bind fun (x54 : Int) =>
        (getI p0 s0.2.2.2.1).bind fun (x61 : Instr) =>
        bif (decide (x61.Op = (9 : Int))) then
          (capI (s0.2.2.2.2.1.length + [x61.Arg].length) 8).bind fun (q73 : Unit) =>
          some (.next (r35.1.State.Vars, r35.1.State.Cells, r35.1.Stack, r35.1.At, (s0.2.2.2.2.1 ++ [x61.Arg]), (s0.2.2.2.2.2.1.set ((s0.2.2.2.1).toNat) (w64 (x54 + (1 : Int)))), (w64 (s0.2.2.2.2.2.2 + (1 : Int)))))
        else
          some (.next (r35.1.State.Vars, r35.1.State.Cells, r35.1.Stack, r35.1.At, s0.2.2.2.2.1, (s0.2.2.2.2.2.1.set ((s0.2.2.2.1).toNat) (w64 (x54 + (1 : Int)))), (w64 (s0.2.2.2.2.2.2 + (1 : Int)))))
noncomputable def m_spec_l07Run_A0 (u0 : ((List Int) × (List Int) × (List Int) × Int × (List Int))) : Option (State × (List Int) × Int × (List Int)) :=
  some ((State.mk u0.1 u0.2.1), u0.2.2.1, u0.2.2.2.1, u0.2.2.2.2)
noncomputable def m_spec_l07Run (p0 : List Instr) (p1 : State) (p2 : Int) : Option (State × (List Int) × Int × (List Int)) :=
  (m_spec_l03Own p1).bind fun (r17 : State) =>
  (makeI (p0.length : Int) 8).bind fun (k23 : Nat) =>
  (iter (m_spec_l07Run_L0 p0 p2) (r17.Vars, r17.Cells, ([] : List Int), (0 : Int), ([] : List Int), (List.replicate k23 (0 : Int)), (0 : Int))).bind fun (u0 : ((List Int) × (List Int) × (List Int) × Int × (List Int))) =>
  m_spec_l07Run_A0 u0
noncomputable def m_spec_CountCode (p0 : List Instr) (p1 : State) (p2 : Int) : Option ((List Int) × Bool) :=
  (m_spec_l07Is p0).bind fun (r13 : Bool) =>
  bif (!r13) then
    some (([] : List Int), false)
  else
    (m_spec_l03State p1).bind fun (r16 : Bool) =>
    bif (!r16) then
      some (([] : List Int), false)
    else
      (m_spec_l03Fuel p2).bind fun (r21 : Bool) =>
      bif (!r21) then
        some (([] : List Int), false)
      else
        (m_spec_l07Run p0 p1 p2).bind fun (r27 : State × (List Int) × Int × (List Int)) =>
        some (r27.2.2.2, true)
noncomputable def m_laws_eqInt64S_L0 (p0 : List Int) (p1 : List Int) (s0 : Int) : Option (Ctl Int (Unit ⊕ Bool)) :=
  bif (decide (s0 < (p0.length : Int))) then
    (getI p0 s0).bind fun (x19 : Int) =>
    (getI p1 s0).bind fun (x23 : Int) =>
    bif (!decide (x19 = x23)) then
      some (.out (.inr false))
    else
      some (.next (w64 (s0 + (1 : Int))))
  else
    some (.out (.inl ()))
noncomputable def m_laws_eqInt64S_A0 (u0 : Unit ⊕ Bool) : Option Bool :=
  match u0 with
  | .inl u0 =>
    some true
  | .inr u0 =>
    some u0
noncomputable def m_laws_eqInt64S (p0 : List Int) (p1 : List Int) : Option Bool :=
  bif (!decide ((p0.length : Int) = (p1.length : Int))) then
    some false
  else
    (iter (m_laws_eqInt64S_L0 p0 p1) (0 : Int)).bind fun (u0 : Unit ⊕ Bool) =>
    m_laws_eqInt64S_A0 u0
noncomputable def m_laws_eqInstr (p0 : Instr) (p1 : Instr) : Option Bool :=
  bif (!decide (p0.Op = p1.Op)) then
    some false
  else
    bif (!decide (p0.Arg = p1.Arg)) then
      some false
    else
      some true
noncomputable def m_laws_eqInstrS_L0 (p0 : List Instr) (p1 : List Instr) (s0 : Int) : Option (Ctl Int (Unit ⊕ Bool)) :=
  bif (decide (s0 < (p0.length : Int))) then
    (getI p0 s0).bind fun (x19 : Instr) =>
    (getI p1 s0).bind fun (x23 : Instr) =>
    (m_laws_eqInstr x19 x23).bind fun (r25 : Bool) =>
    bif (!r25) then
      some (.out (.inr false))
    else
      some (.next (w64 (s0 + (1 : Int))))
  else
    some (.out (.inl ()))
noncomputable def m_laws_eqInstrS_A0 (u0 : Unit ⊕ Bool) : Option Bool :=
  match u0 with
  | .inl u0 =>
    some true
  | .inr u0 =>
    some u0
noncomputable def m_laws_eqInstrS (p0 : List Instr) (p1 : List Instr) : Option Bool :=
  bif (!decide ((p0.length : Int) = (p1.length : Int))) then
    some false
  else
    (iter (m_laws_eqInstrS_L0 p0 p1) (0 : Int)).bind fun (u0 : Unit ⊕ Bool) =>
    m_laws_eqInstrS_A0 u0
noncomputable def m_laws_eqState (p0 : State) (p1 : State) : Option Bool :=
  (m_laws_eqInt64S p0.Vars p1.Vars).bind fun (r9 : Bool) =>
  bif (!r9) then
    some false
  else
    (m_laws_eqInt64S p0.Cells p1.Cells).bind fun (r15 : Bool) =>
    bif (!r15) then
      some false
    else
      some true
noncomputable def m_laws_markInstrS_L0 (s0 : (List Instr) × Int × Int) : Option (Ctl ((List Instr) × Int × Int) ((Int × (List Instr)))) :=
  bif (decide (s0.2.2 < (s0.1.length : Int))) then
    (getI s0.1 s0.2.2).bind fun (x15 : Instr) =>
    (getI (s0.1.set ((s0.2.2).toNat) (Instr.mk s0.2.1 x15.Arg)) s0.2.2).bind fun (x22 : Instr) =>
    some (.next (((s0.1.set ((s0.2.2).toNat) (Instr.mk s0.2.1 x15.Arg)).set ((s0.2.2).toNat) (Instr.mk x22.Op (w64 (s0.2.1 + (1 : Int))))), (w64 ((w64 (s0.2.1 + (1 : Int))) + (1 : Int))), (w64 (s0.2.2 + (1 : Int)))))
  else
    some (.out (s0.2.1, s0.1))
noncomputable def m_laws_markInstrS_A0 (u0 : (Int × (List Instr))) : Option (Int × (List Instr)) :=
  some (u0.1, u0.2)
noncomputable def m_laws_markInstrS (p0 : List Instr) (p1 : Int) : Option (Int × (List Instr)) :=
  (iter (m_laws_markInstrS_L0) (p0, p1, (0 : Int))).bind fun (u0 : (Int × (List Instr))) =>
  m_laws_markInstrS_A0 u0
noncomputable def m_laws_markInt64S_L0 (s0 : (List Int) × Int × Int) : Option (Ctl ((List Int) × Int × Int) ((Int × (List Int)))) :=
  bif (decide (s0.2.2 < (s0.1.length : Int))) then
    (getI s0.1 s0.2.2).bind fun (x15 : Int) =>
    some (.next ((s0.1.set ((s0.2.2).toNat) s0.2.1), (w64 (s0.2.1 + (1 : Int))), (w64 (s0.2.2 + (1 : Int)))))
  else
    some (.out (s0.2.1, s0.1))
noncomputable def m_laws_markInt64S_A0 (u0 : (Int × (List Int))) : Option (Int × (List Int)) :=
  some (u0.1, u0.2)
noncomputable def m_laws_markInt64S (p0 : List Int) (p1 : Int) : Option (Int × (List Int)) :=
  (iter (m_laws_markInt64S_L0) (p0, p1, (0 : Int))).bind fun (u0 : (Int × (List Int))) =>
  m_laws_markInt64S_A0 u0
noncomputable def m_laws_markState (p0 : State) (p1 : Int) : Option (Int × (List Int) × (List Int)) :=
  (m_laws_markInt64S p0.Vars p1).bind fun (r8 : Int × (List Int)) =>
  (m_laws_markInt64S p0.Cells r8.1).bind fun (r12 : Int × (List Int)) =>
  some (r12.1, r8.2, r12.2)
noncomputable def m_laws_heldInt64S_L0 (p0 : List Int) (s0 : Int × Int) : Option (Ctl (Int × Int) (Int ⊕ Int)) :=
  bif (decide (s0.2 < (p0.length : Int))) then
    (getI p0 s0.2).bind fun (x14 : Int) =>
    bif (!decide (x14 = s0.1)) then
      some (.out (.inr (-1 : Int)))
    else
      some (.next ((w64 (s0.1 + (1 : Int))), (w64 (s0.2 + (1 : Int)))))
  else
    some (.out (.inl s0.1))
noncomputable def m_laws_heldInt64S_A0 (u0 : Int ⊕ Int) : Option Int :=
  match u0 with
  | .inl u0 =>
    some u0
  | .inr u0 =>
    some u0
noncomputable def m_laws_heldInt64S (p0 : List Int) (p1 : Int) : Option Int :=
  (iter (m_laws_heldInt64S_L0 p0) (p1, (0 : Int))).bind fun (u0 : Int ⊕ Int) =>
  m_laws_heldInt64S_A0 u0
noncomputable def m_laws_FnExactCountCode (p0 : List Instr) (p1 : State) (p2 : Int) : Option Bool :=
  (m_laws_szInstrS p0 (1048576 : Int)).bind fun (r21 : Int) =>
  bif (decide (r21 < (0 : Int))) then
    some true
  else
    (m_laws_szState p1 r21).bind fun (r26 : Int) =>
    bif (decide (r26 < (0 : Int))) then
      some true
    else
      (m_laws_toInstrS p0).bind fun (r31 : List Instr) =>
      (m_laws_toState p1).bind fun (r33 : State) =>
      (m_spec_CountCode r31 r33 p2).bind fun (r35 : (List Int) × Bool) =>
      (m_laws_toInstrS p0).bind fun (r39 : List Instr) =>
      (m_laws_toState p1).bind fun (r41 : State) =>
      (m_impl_CountCode r39 r41 p2).bind fun (r46 : (List Int) × Bool) =>
      (m_laws_eqInt64S r46.1 r35.1).bind fun (r51 : Bool) =>
      bif ((!r51) || (!(r46.2 == r35.2))) then
        some false
      else
        (m_laws_toInstrS p0).bind fun (r60 : List Instr) =>
        (m_laws_eqInstrS r39 r60).bind fun (r61 : Bool) =>
        bif (!r61) then
          some false
        else
          (m_laws_toState p1).bind fun (r65 : State) =>
          (m_laws_eqState r41 r65).bind fun (r66 : Bool) =>
          bif (!r66) then
            some false
          else
            (m_laws_markInstrS r39 (1 : Int)).bind fun (r70 : Int × (List Instr)) =>
            (m_laws_markState r41 r70.1).bind fun (r73 : Int × (List Int) × (List Int)) =>
            bif (decide (r73.1 < (0 : Int))) then
              some false
            else
              (m_laws_eqInt64S r46.1 r35.1).bind fun (r79 : Bool) =>
              bif ((!r79) || (!(r46.2 == r35.2))) then
                some false
              else
                (m_laws_markInt64S r46.1 (1 : Int)).bind fun (r89 : Int × (List Int)) =>
                (m_laws_heldInt64S r89.2 (1 : Int)).bind fun (r92 : Int) =>
                bif (decide (r92 < (0 : Int))) then
                  some false
                else
                  bif (!decide (r92 = r89.1)) then
                    some false
                  else
                    (m_laws_toInstrS p0).bind fun (r100 : List Instr) =>
                    (m_laws_toState p1).bind fun (r102 : State) =>
                    (m_impl_CountCode r100 r102 p2).bind fun (r104 : (List Int) × Bool) =>
                    (m_laws_eqInt64S r104.1 r35.1).bind fun (r109 : Bool) =>
                    bif ((!r109) || (!(r104.2 == r35.2))) then
                      some false
                    else
                      (m_laws_heldInt64S r89.2 (1 : Int)).bind fun (r118 : Int) =>
                      bif (decide (r118 < (0 : Int))) then
                        some false
                      else
                        bif (!decide (r118 = r89.1)) then
                          some false
                        else
                          some true
noncomputable def m_laws_heldState (p0 : State) (p1 : Int) : Option Int :=
  (m_laws_heldInt64S p0.Vars p1).bind fun (r8 : Int) =>
  bif (decide (r8 < (0 : Int))) then
    some (-1 : Int)
  else
    (m_laws_heldInt64S p0.Cells r8).bind fun (r14 : Int) =>
    bif (decide (r14 < (0 : Int))) then
      some (-1 : Int)
    else
      some r14
noncomputable def m_laws_heldInstrS_L0 (p0 : List Instr) (s0 : Int × Int) : Option (Ctl (Int × Int) (Int ⊕ Int)) :=
  bif (decide (s0.2 < (p0.length : Int))) then
    (getI p0 s0.2).bind fun (x14 : Instr) =>
    bif (!decide (x14.Op = s0.1)) then
      some (.out (.inr (-1 : Int)))
    else
      bif (!decide (x14.Arg = (w64 (s0.1 + (1 : Int))))) then
        some (.out (.inr (-1 : Int)))
      else
        some (.next ((w64 ((w64 (s0.1 + (1 : Int))) + (1 : Int))), (w64 (s0.2 + (1 : Int)))))
  else
    some (.out (.inl s0.1))
noncomputable def m_laws_heldInstrS_A0 (u0 : Int ⊕ Int) : Option Int :=
  match u0 with
  | .inl u0 =>
    some u0
  | .inr u0 =>
    some u0
noncomputable def m_laws_heldInstrS (p0 : List Instr) (p1 : Int) : Option Int :=
  (iter (m_laws_heldInstrS_L0 p0) (p1, (0 : Int))).bind fun (u0 : Int ⊕ Int) =>
  m_laws_heldInstrS_A0 u0
end Go.Mod

namespace Go.Mod
open Go.AM
set_option linter.unusedVariables false
set_option linter.unusedSimpArgs false
theorem pl_sum_len {α : Type} {q : α → Nat} {xs : List α} (h : ∀ x, q x ≤ 8 + 8 * 0) : (xs.map q).sum ≤ 8 * xs.length := by
  induction xs with
  | nil => simp
  | cons y r ih => have := h y; simp only [List.map_cons, List.sum_cons, List.length_cons]; omega
theorem pl_szB {m : Option Int} {c d b : Nat} {F : Int → Option Int} (h : m = some (szOut c b)) (g : c ≤ b → F ((b - c : Nat) : Int) = some (szOut d (b - c))) :
    (m.bind fun r => bif decide (r < 0) then some (-1) else F r) = some (szOut (c + d) b) := by
  rw [h, Option.bind_some]
  by_cases hc : c ≤ b
  · rw [szOut_ok hc, decide_eq_false (by omega), cond_false, g hc]
    unfold szOut
    by_cases h2 : d ≤ b - c
    · rw [if_pos h2, if_pos (by omega)]; congr 2; omega
    · rw [if_neg h2, if_neg (by omega)]
  · rw [szOut_no hc, szOut_no (by omega)]; rfl
theorem pl_szL {m : Option Int} {c b : Nat} (h : m = some (szOut c b)) : (m.bind fun r => bif decide (r < 0) then some (-1) else some r) = some (szOut c b) := by
  have := pl_szB (d := 0) (F := fun r => some r) h (fun hc => by rw [szOut_ok (Nat.zero_le _)]; rfl)
  simpa using this
theorem pl_eqB {p q : Prop} [Decidable p] [Decidable q] {F : Option Bool} (h : F = some (decide q)) : (bif !decide p then some false else F) = some (decide (p ∧ q)) := by
  by_cases hp : p <;> by_cases hq : q <;> simp [h, hp, hq]
theorem pl_eqL {p : Prop} [Decidable p] : (bif !decide p then some false else some true) = some (decide p) := by
  by_cases hp : p <;> simp [hp]
theorem pl_eqM {m : Option Bool} {p q : Prop} [Decidable p] [Decidable q] {F : Option Bool} (hm : m = some (decide p)) (h : F = some (decide q)) : (m.bind fun r => bif !r then some false else F) = some (decide (p ∧ q)) := by
  rw [hm, Option.bind_some]; exact pl_eqB h
theorem pl_eqML {m : Option Bool} {p : Prop} [Decidable p] (hm : m = some (decide p)) : (m.bind fun r => bif !r then some false else some true) = some (decide p) := by
  rw [hm, Option.bind_some]; exact pl_eqL
theorem pl_neg1 : decide ((-1 : Int) < 0) = true := rfl
theorem pl_condB {α β : Type} {b : Bool} {x y : Option α} {f : α → Option β} : (cond b x y).bind f = cond b (x.bind f) (y.bind f) := by cases b <;> rfl
theorem pl_cond2 {α : Type} {b : Bool} {x y z : α} : cond b x (cond b y z) = cond b x z := by cases b <;> rfl
section
variable {α : Type} {ys : List α} {n : Nat} {a b c d e f g : α} (h : n < ys.length)
include h
theorem pl_get_set : getI (ys.set n a) (n : Int) = some a := getI_some (by rw [List.getElem?_set_self h])
theorem pl_get_set2 : getI ((ys.set n a).set n b) (n : Int) = some b := getI_some (by rw [List.set_set, List.getElem?_set_self h])
theorem pl_get_set3 : getI (((ys.set n a).set n b).set n c) (n : Int) = some c := getI_some (by rw [List.set_set, List.set_set, List.getElem?_set_self h])
theorem pl_get_set4 : getI ((((ys.set n a).set n b).set n c).set n d) (n : Int) = some d := getI_some (by simp only [List.set_set]; rw [List.getElem?_set_self h])
theorem pl_get_set5 : getI (((((ys.set n a).set n b).set n c).set n d).set n e) (n : Int) = some e := getI_some (by simp only [List.set_set]; rw [List.getElem?_set_self h])
theorem pl_get_set6 : getI ((((((ys.set n a).set n b).set n c).set n d).set n e).set n f) (n : Int) = some f := getI_some (by simp only [List.set_set]; rw [List.getElem?_set_self h])
theorem pl_get_set7 : getI (((((((ys.set n a).set n b).set n c).set n d).set n e).set n f).set n g) (n : Int) = some g := getI_some (by simp only [List.set_set]; rw [List.getElem?_set_self h])
end
def pc_Int64S (xs : List Int) : Nat := xs.length
theorem pc_Int64S_len {xs : List Int} : xs.length ≤ pc_Int64S xs := by unfold pc_Int64S; omega
theorem pz_Int64S {xs : List Int} (k : kLa_i64 xs) : SzP m_laws_szInt64S pc_Int64S xs := fun _ hb => sz_flat k.1 hb
theorem pt_Int64S {xs : List Int} (hl : pc_Int64S xs ≤ 1048576) : m_laws_toInt64S xs = some xs := by
  have hlen : xs.length ≤ 1048576 := Nat.le_trans pc_Int64S_len hl
  unfold m_laws_toInt64S
  rw [makeI_some (by omega), Option.bind_some, iter_to (xs := xs) (z := (0 : Int)) (cp := some)
    (fun n x ys hx => by unfold m_laws_toInt64S_L0; rw [dec_lt (get_lt hx), cond_true, getI_some hx]; rfl)
    (fun ys => by unfold m_laws_toInt64S_L0; rw [dec_self]; rfl) hlen (fun x hx => rfl)]
  rfl
theorem pe_Int64S {xs ys : List Int} (hl : pc_Int64S xs ≤ 1048576) : m_laws_eqInt64S xs ys = some (decide (xs = ys)) := by
  have hlen : xs.length ≤ 1048576 := Nat.le_trans pc_Int64S_len hl
  unfold m_laws_eqInt64S
  by_cases h : xs.length = ys.length
  · rw [decide_eq_true (by omega), Bool.not_true, cond_false, iter_eq (xs := xs) (ys := ys) (eq := fun x y => some (decide (x = y)))
      (fun n x y hx hy => by unfold m_laws_eqInt64S_L0; rw [dec_lt (get_lt hx), cond_true, getI_some hx, getI_some hy]; rfl)
      (by unfold m_laws_eqInt64S_L0; rw [dec_self]; rfl) (by omega) h (fun x hx y => rfl)]
    by_cases e : xs = ys
    · rw [if_pos e, decide_eq_true e]; rfl
    · rw [if_neg e, decide_eq_false e]; rfl
  · rw [decide_eq_false (by omega), decide_eq_false (fun e => h (by rw [e]))]; rfl
def pqE_Int64S (x : Int) : Nat := 1
def pq_Int64S (xs : List Int) : Nat := (xs.map pqE_Int64S).sum
theorem pqE_Int64S_le (x : Int) : pqE_Int64S x ≤ 8 + 8 * 0 := by
  unfold pqE_Int64S
  omega
theorem pq_Int64S_le (xs : List Int) : pq_Int64S xs ≤ 8 * pc_Int64S xs := by
  unfold pq_Int64S pc_Int64S
  exact pl_sum_len (fun x => pqE_Int64S_le x)
noncomputable def pmk_Int64S (x : Int) (k : Int) : Option (Int × Int) := some ((w64 (k + 1)), k)
noncomputable def phe_Int64S (x : Int) (k : Int) : Option Int := bif !decide (x = k) then some (-1) else some (w64 (k + 1))
theorem pmE_Int64S (x : Int) : ∀ k : Nat, k + pqE_Int64S x ≤ 4611686018427387904 → ∃ x', pmk_Int64S x k = some (((k + pqE_Int64S x : Nat) : Int), x') ∧ phe_Int64S x' k = some ((k + pqE_Int64S x : Nat) : Int) := fun k hk => by
  unfold pqE_Int64S at hk ⊢
  have w0 : w64 (((k : Nat) : Int) + 1) = ((k + 1 : Nat) : Int) := w64_succ (by omega)
  have tot : ((k + 1 : Nat) : Int) = ((k + (1) : Nat) : Int) := by omega
  refine ⟨((k : Nat) : Int), ?_, ?_⟩
  · unfold pmk_Int64S; simp only [w0, Option.bind_some] <;> rw [← tot]
  · unfold phe_Int64S; simp only [w0, Option.bind_some, decide_true, Bool.not_true, cond_false] <;> rw [← tot]
theorem pm_Int64S {xs : List Int} (hl : pc_Int64S xs ≤ 1048576) {k : Nat} (hk : k + pq_Int64S xs ≤ 4611686018427387904) : ∃ xs', m_laws_markInt64S xs k = some (((k + pq_Int64S xs : Nat) : Int), xs') ∧ m_laws_heldInt64S xs' k = some ((k + pq_Int64S xs : Nat) : Int) := by
  obtain ⟨xs', h1, h2, h3⟩ := iter_mark (xs := xs) (m := pqE_Int64S) (mk := pmk_Int64S) (held := phe_Int64S) (step := m_laws_markInt64S_L0) (hstep := m_laws_heldInt64S_L0)
    (fun n ys x k hk hx => by
      have hn := get_lt hx
      unfold m_laws_markInt64S_L0 pmk_Int64S
      simp only [dec_lt hn, cond_true, getI_some hx, Option.bind_some, Int.toNat_natCast, pl_get_set hn, pl_get_set2 hn, pl_get_set3 hn, pl_get_set4 hn, pl_get_set5 hn, pl_get_set6 hn, pl_get_set7 hn, List.set_set, Option.bind_assoc])
    (fun ys k => by unfold m_laws_markInt64S_L0; rw [dec_self]; rfl)
    (fun n ys x k hk hx => by
      unfold m_laws_heldInt64S_L0 phe_Int64S
      rw [dec_lt (get_lt hx), cond_true, getI_some hx]
      have w0 : w64 (((k : Nat) : Int) + 1) = ((k + 1 : Nat) : Int) := w64_succ (by omega)
      simp only [Option.bind_some, pl_condB, pl_cond2, Option.bind_assoc, pl_neg1, cond_true, cond_false, dec_neg, w0])
    (fun ys k => by unfold m_laws_heldInt64S_L0; rw [dec_self]; rfl)
    (by have := pc_Int64S_len (xs := xs); omega) (fun x hx => pmE_Int64S x) (k := k) hk
  exact ⟨xs', by unfold m_laws_markInt64S; rw [h1]; rfl, by unfold m_laws_heldInt64S; rw [h3]; rfl⟩
def pc_Instr (x : Instr) : Nat := 0
theorem pi_Instr (x y : Instr) : (x.Op = y.Op ∧ x.Arg = y.Arg) ↔ x = y := by cases x; cases y; simp
theorem pt_Instr {x : Instr} (hl : pc_Instr x ≤ 1048576) : m_laws_toInstr x = some x := by
  unfold pc_Instr at hl
  unfold m_laws_toInstr
  rfl
theorem pe_Instr {x y : Instr} (hl : pc_Instr x ≤ 1048576) : m_laws_eqInstr x y = some (decide (x = y)) := by
  unfold pc_Instr at hl
  unfold m_laws_eqInstr
  rw [← decide_eq_decide.2 (pi_Instr x y)]
  exact pl_eqB (pl_eqL)
def pc_InstrS (xs : List Instr) : Nat := xs.length
theorem pc_InstrS_len {xs : List Instr} : xs.length ≤ pc_InstrS xs := by unfold pc_InstrS; omega
theorem pz_InstrS {xs : List Instr} (k : kLa_Instr xs) : SzP m_laws_szInstrS pc_InstrS xs := fun _ hb => sz_flat k.1 hb
theorem pt_InstrS {xs : List Instr} (hl : pc_InstrS xs ≤ 1048576) : m_laws_toInstrS xs = some xs := by
  have hlen : xs.length ≤ 1048576 := Nat.le_trans pc_InstrS_len hl
  unfold m_laws_toInstrS
  rw [makeI_some (by omega), Option.bind_some, iter_to (xs := xs) (z := (Instr.mk (0 : Int) (0 : Int))) (cp := m_laws_toInstr)
    (fun n x ys hx => by unfold m_laws_toInstrS_L0; rw [dec_lt (get_lt hx), cond_true, getI_some hx]; rfl)
    (fun ys => by unfold m_laws_toInstrS_L0; rw [dec_self]; rfl) hlen (fun x hx => pt_Instr (by unfold pc_Instr; omega))]
  rfl
theorem pe_InstrS {xs ys : List Instr} (hl : pc_InstrS xs ≤ 1048576) : m_laws_eqInstrS xs ys = some (decide (xs = ys)) := by
  have hlen : xs.length ≤ 1048576 := Nat.le_trans pc_InstrS_len hl
  unfold m_laws_eqInstrS
  by_cases h : xs.length = ys.length
  · rw [decide_eq_true (by omega), Bool.not_true, cond_false, iter_eq (xs := xs) (ys := ys) (eq := m_laws_eqInstr)
      (fun n x y hx hy => by unfold m_laws_eqInstrS_L0; rw [dec_lt (get_lt hx), cond_true, getI_some hx, getI_some hy]; rfl)
      (by unfold m_laws_eqInstrS_L0; rw [dec_self]; rfl) (by omega) h (fun x hx y => pe_Instr (by unfold pc_Instr; omega))]
    by_cases e : xs = ys
    · rw [if_pos e, decide_eq_true e]; rfl
    · rw [if_neg e, decide_eq_false e]; rfl
  · rw [decide_eq_false (by omega), decide_eq_false (fun e => h (by rw [e]))]; rfl
def pqE_InstrS (x : Instr) : Nat := 2
def pq_InstrS (xs : List Instr) : Nat := (xs.map pqE_InstrS).sum
theorem pqE_InstrS_le (x : Instr) : pqE_InstrS x ≤ 8 + 8 * 0 := by
  unfold pqE_InstrS
  omega
theorem pq_InstrS_le (xs : List Instr) : pq_InstrS xs ≤ 8 * pc_InstrS xs := by
  unfold pq_InstrS pc_InstrS
  exact pl_sum_len (fun x => pqE_InstrS_le x)
noncomputable def pmk_InstrS (x : Instr) (k : Int) : Option (Int × Instr) := some ((w64 ((w64 (k + 1)) + 1)), (Instr.mk k (w64 (k + 1))))
noncomputable def phe_InstrS (x : Instr) (k : Int) : Option Int := bif !decide (x.Op = k) then some (-1) else bif !decide (x.Arg = (w64 (k + 1))) then some (-1) else some (w64 ((w64 (k + 1)) + 1))
theorem pmE_InstrS (x : Instr) : ∀ k : Nat, k + pqE_InstrS x ≤ 4611686018427387904 → ∃ x', pmk_InstrS x k = some (((k + pqE_InstrS x : Nat) : Int), x') ∧ phe_InstrS x' k = some ((k + pqE_InstrS x : Nat) : Int) := fun k hk => by
  unfold pqE_InstrS at hk ⊢
  have w0 : w64 (((k : Nat) : Int) + 1) = ((k + 1 : Nat) : Int) := w64_succ (by omega)
  have w1 : w64 (((k + 1 : Nat) : Int) + 1) = ((k + 1 + 1 : Nat) : Int) := w64_succ (by omega)
  have tot : ((k + 1 + 1 : Nat) : Int) = ((k + (2) : Nat) : Int) := by omega
  refine ⟨(Instr.mk ((k : Nat) : Int) ((k + 1 : Nat) : Int)), ?_, ?_⟩
  · unfold pmk_InstrS; simp only [w0, w1, Option.bind_some] <;> rw [← tot]
  · unfold phe_InstrS; simp only [w0, w1, Option.bind_some, decide_true, Bool.not_true, cond_false] <;> rw [← tot]
theorem pm_InstrS {xs : List Instr} (hl : pc_InstrS xs ≤ 1048576) {k : Nat} (hk : k + pq_InstrS xs ≤ 4611686018427387904) : ∃ xs', m_laws_markInstrS xs k = some (((k + pq_InstrS xs : Nat) : Int), xs') ∧ m_laws_heldInstrS xs' k = some ((k + pq_InstrS xs : Nat) : Int) := by
  obtain ⟨xs', h1, h2, h3⟩ := iter_mark (xs := xs) (m := pqE_InstrS) (mk := pmk_InstrS) (held := phe_InstrS) (step := m_laws_markInstrS_L0) (hstep := m_laws_heldInstrS_L0)
    (fun n ys x k hk hx => by
      have hn := get_lt hx
      unfold m_laws_markInstrS_L0 pmk_InstrS
      simp only [dec_lt hn, cond_true, getI_some hx, Option.bind_some, Int.toNat_natCast, pl_get_set hn, pl_get_set2 hn, pl_get_set3 hn, pl_get_set4 hn, pl_get_set5 hn, pl_get_set6 hn, pl_get_set7 hn, List.set_set, Option.bind_assoc])
    (fun ys k => by unfold m_laws_markInstrS_L0; rw [dec_self]; rfl)
    (fun n ys x k hk hx => by
      unfold m_laws_heldInstrS_L0 phe_InstrS
      rw [dec_lt (get_lt hx), cond_true, getI_some hx]
      have w0 : w64 (((k : Nat) : Int) + 1) = ((k + 1 : Nat) : Int) := w64_succ (by omega)
      have w1 : w64 (((k + 1 : Nat) : Int) + 1) = ((k + 1 + 1 : Nat) : Int) := w64_succ (by omega)
      simp only [Option.bind_some, pl_condB, pl_cond2, Option.bind_assoc, pl_neg1, cond_true, cond_false, dec_neg, w0, w1])
    (fun ys k => by unfold m_laws_heldInstrS_L0; rw [dec_self]; rfl)
    (by have := pc_InstrS_len (xs := xs); omega) (fun x hx => pmE_InstrS x) (k := k) hk
  exact ⟨xs', by unfold m_laws_markInstrS; rw [h1]; rfl, by unfold m_laws_heldInstrS; rw [h3]; rfl⟩
def pc_State (x : State) : Nat := pc_Int64S x.Vars + pc_Int64S x.Cells
theorem pi_State (x y : State) : (x.Vars = y.Vars ∧ x.Cells = y.Cells) ↔ x = y := by cases x; cases y; simp
theorem pz_State {x : State} (k : k_State x) : SzP m_laws_szState pc_State x := fun b hb => by
  unfold m_laws_szState pc_State
  rw [show pc_Int64S x.Vars + pc_Int64S x.Cells = pc_Int64S x.Vars + (pc_Int64S x.Cells) by omega]
  exact pl_szB (pz_Int64S k.1 (b) (by omega)) fun h0 => pl_szL (pz_Int64S k.2 (b - pc_Int64S x.Vars) (by omega))
theorem pt_State {x : State} (hl : pc_State x ≤ 1048576) : m_laws_toState x = some x := by
  unfold pc_State at hl
  unfold m_laws_toState
  simp only [pt_Int64S (xs := x.Vars) (by omega), pt_Int64S (xs := x.Cells) (by omega), Option.bind_some]
theorem pe_State {x y : State} (hl : pc_State x ≤ 1048576) : m_laws_eqState x y = some (decide (x = y)) := by
  unfold pc_State at hl
  unfold m_laws_eqState
  rw [← decide_eq_decide.2 (pi_State x y)]
  exact pl_eqM (pe_Int64S (by omega)) (pl_eqML (pe_Int64S (by omega)))
def pq_State (x : State) : Nat := pq_Int64S x.Vars + pq_Int64S x.Cells
theorem pq_State_le (x : State) : pq_State x ≤ 8 * pc_State x := by
  unfold pq_State pc_State
  have h0 := pq_Int64S_le x.Vars
  have h1 := pq_Int64S_le x.Cells
  omega
theorem pm_State {x : State} (hl : pc_State x ≤ 1048576) {k : Nat} (hk : k + pq_State x ≤ 4611686018427387904) : ∃ (a0 : (List Int)) (a1 : (List Int)), m_laws_markState x k = some (((k + pq_State x : Nat) : Int), a0, a1) ∧ m_laws_heldState (State.mk a0 a1) k = some ((k + pq_State x : Nat) : Int) := by
  unfold pq_State at hk ⊢
  unfold pc_State at hl
  have l0 : x.Vars.length ≤ pc_Int64S x.Vars := pc_Int64S_len
  have l1 : x.Cells.length ≤ pc_Int64S x.Cells := pc_Int64S_len
  obtain ⟨a0, m0, g0⟩ := pm_Int64S (xs := x.Vars) (by omega) (k := k) (by omega)
  have n0 : decide ((((k) + pq_Int64S x.Vars : Nat) : Int) < 0) = false := decide_eq_false (by omega)
  obtain ⟨a1, m1, g1⟩ := pm_Int64S (xs := x.Cells) (by omega) (k := k + pq_Int64S x.Vars) (by omega)
  have n1 : decide ((((k + pq_Int64S x.Vars) + pq_Int64S x.Cells : Nat) : Int) < 0) = false := decide_eq_false (by omega)
  have tot : ((k + pq_Int64S x.Vars + pq_Int64S x.Cells : Nat) : Int) = ((k + (pq_Int64S x.Vars + pq_Int64S x.Cells) : Nat) : Int) := by omega
  refine ⟨a0, a1, ?_, ?_⟩
  · unfold m_laws_markState; simp only [m0, m1, Option.bind_some] <;> rw [← tot]
  · unfold m_laws_heldState; simp only [g0, g1, n0, n1, Option.bind_some, cond_false] <;> rw [← tot]
end Go.Mod

namespace Go.Mod
open Go.AM
set_option linter.unusedVariables false
set_option linter.unusedSimpArgs false
def inR (c : Int) : Bool := decide (-1000000 ≤ c) && decide (c ≤ 1000000)
def lastOK (xs : List Int) : Bool := match xs.getLast? with | none => true | some x => !decide (x = 0)
def vT (t : Term) : Bool := inR t.Const && decide (t.Coeffs.length ≤ 10) && lastOK t.Coeffs && t.Coeffs.all inR
theorem impl_all {xs : List Int} {a b : Int} : m_impl_allWithin xs a b = some (xs.all fun x => decide (a ≤ x) && decide (x ≤ b)) := by
  unfold m_impl_allWithin
  rw [forL_all (fun x => decide (a ≤ x) && decide (x ≤ b)) (f := .inr false) xs 0 (fun n x _ => by
    unfold m_impl_allWithin_L0 m_impl_within
    rw [Option.bind_some]
    cases (decide (a ≤ x) && decide (x ≤ b)) <;> rfl), Option.bind_some]
  cases xs.all fun x => decide (a ≤ x) && decide (x ≤ b) <;> rfl
theorem spec_own {xs : List Int} (h : xs.length ≤ 1048576) : m_spec_l00Own xs = some xs := by
  unfold m_spec_l00Own; rw [capI_some (by simp; omega)]; simp
theorem impl_copy {xs : List Int} (h : xs.length ≤ 1048576) : m_impl_copyInts xs = some xs := by
  unfold m_impl_copyInts; rw [capI_some (by simp; omega)]; simp
def coef (xs : List Int) (i : Nat) : Int := xs[i]?.getD 0
def sumN (f : Nat → Int) : Nat → Int
  | 0 => 0
  | n + 1 => sumN f n + f n
def tAt (ts : List Term) (k : Nat) : Term := ts[k]?.getD ⟨0, []⟩
def lin (ts : List Term) (ms : List Int) (g : Term → Int) (n : Nat) : Int := sumN (fun k => coef ms k * g (tAt ts k)) n
def Src (s : l00Src) (k : Nat) : Prop := (∀ x ∈ s.code, 0 ≤ x ∧ x ≤ 255) ∧ s.code.length ≤ 1048576 ∧ 0 ≤ s.at_ ∧ s.at_ ≤ k
theorem Src.mono {s : l00Src} {k k' : Nat} (h : Src s k) (hk : k ≤ k') : Src s k' := ⟨h.1, h.2.1, h.2.2.1, by have := h.2.2.2; omega⟩
def val (t : Term) (v : List Int) : Int := t.Const + sumN (fun i => coef t.Coeffs i * coef v i) 10
def Vals (v : List Int) : Prop := v.length = 10 ∧ ∀ x ∈ v, -6 ≤ x ∧ x ≤ 6
theorem Vals.coef {v : List Int} (h : Vals v) (i : Nat) : -6 ≤ coef v i ∧ coef v i ≤ 6 := by
  unfold Mod.coef
  cases hx : v[i]? with
  | none => simp
  | some x => exact h.2 x (List.mem_of_getElem? hx)
structure Small (t : Term) : Prop where
  v : vT t = true
  c : -7 ≤ t.Const ∧ t.Const ≤ 7
  f : ∀ i, -4 ≤ coef t.Coeffs i ∧ coef t.Coeffs i ≤ 4
structure Fact (t : Term) (c : Nat) : Prop where
  v : vT t = true
  c : -(c : Int) ≤ t.Const ∧ t.Const ≤ c
  f : ∀ i, -3 ≤ coef t.Coeffs i ∧ coef t.Coeffs i ≤ 3
theorem Fact.mono {t : Term} {c c' : Nat} (h : Fact t c) (hc : c ≤ c') : Fact t c' := ⟨h.v, by have := h.c; omega, h.f⟩
end Go.Mod

namespace Go.Mod
open Go.AM
set_option linter.unusedVariables false
set_option linter.unusedSimpArgs false
def rng (a b x : Int) : Bool := decide (a ≤ x) && decide (x ≤ b)
theorem rng_iff {a b x : Int} : rng a b x = true ↔ a ≤ x ∧ x ≤ b := by simp [rng]
def okInstr (x : Instr) : Bool :=
  bif decide (x.Op = 0) || decide (x.Op = 4) then rng (-1000000) 1000000 x.Arg
  else bif decide (x.Op = 1) || decide (x.Op = 2) then rng 0 3 x.Arg
  else bif decide (x.Op = 5) || decide (x.Op = 6) then rng 0 79 x.Arg
  else bif decide (x.Op = 9) then rng 0 3 x.Arg
  else bif decide (x.Op = 3) || decide (x.Op = 7) || decide (x.Op = 8) || decide (x.Op = 10) || decide (x.Op = 11) then decide (x.Arg = 0) else false
theorem impl_instr (x : Instr) : m_impl_ValidInstr x = some (okInstr x) := by
  unfold m_impl_ValidInstr m_impl_ValidInstr_J0 m_impl_ValidInstr_J1 m_impl_ValidInstr_J2 m_impl_ValidInstr_J3 okInstr
  unfold m_impl_isCoeff m_impl_isVar m_impl_isPlace m_impl_isEvent m_impl_within rng
  cases decide (x.Op = 0) with
  | true => rfl
  | false =>
    cases decide (x.Op = 4) with
    | true => rfl
    | false =>
      cases decide (x.Op = 1) with
      | true => rfl
      | false =>
        cases decide (x.Op = 2) with
        | true => rfl
        | false =>
          cases decide (x.Op = 5) with
          | true => rfl
          | false =>
            cases decide (x.Op = 6) with
            | true => rfl
            | false =>
              cases decide (x.Op = 9) with
              | true => rfl
              | false =>
                cases decide (x.Op = 3) with
                | true => rfl
                | false =>
                  cases decide (x.Op = 7) with
                  | true => rfl
                  | false =>
                    cases decide (x.Op = 8) with
                    | true => rfl
                    | false =>
                      cases decide (x.Op = 10) with
                      | true => rfl
                      | false =>
                        cases decide (x.Op = 11) with
                        | true => rfl
                        | false =>
                          rfl
theorem spec_instr (x : Instr) : m_spec_l07Instr x = some (okInstr x) := by
  unfold m_spec_l07Instr m_spec_l07Instr_J0 m_spec_l07Instr_J1 m_spec_l07Instr_J2 m_spec_l07Instr_J3 okInstr
  unfold m_spec_l02Number m_spec_l00In rng
  cases decide (x.Op = 0) with
  | true => rfl
  | false =>
    cases decide (x.Op = 4) with
    | true => rfl
    | false =>
      cases decide (x.Op = 1) with
      | true => rfl
      | false =>
        cases decide (x.Op = 2) with
        | true => rfl
        | false =>
          cases decide (x.Op = 5) with
          | true => rfl
          | false =>
            cases decide (x.Op = 6) with
            | true => rfl
            | false =>
              cases decide (x.Op = 9) with
              | true => rfl
              | false =>
                cases decide (x.Op = 3) with
                | true => rfl
                | false =>
                  cases decide (x.Op = 7) with
                  | true => rfl
                  | false =>
                    cases decide (x.Op = 8) with
                    | true => rfl
                    | false =>
                      cases decide (x.Op = 10) with
                      | true => rfl
                      | false =>
                        cases decide (x.Op = 11) with
                        | true => rfl
                        | false =>
                          rfl
def okCode (code : List Instr) : Bool := code.all okInstr && rng 1 80 (code.length : Int)
theorem spec_code {code : List Instr} (hl : code.length ≤ 1048576) : m_spec_l07Is code = some (okCode code) := by
  have h := iter_for (step := m_spec_l07Is_L0 code) code (fun n (_ : Unit) => (n : Int)) (fun _ x _ => bif okInstr x then some (.next ()) else some (.out (.inr false))) (fun _ => .inl ())
    (fun n x r hx => by
      unfold m_spec_l07Is_L0
      rw [dec_lt (get_lt hx), cond_true, getI_some hx, Option.bind_some, spec_instr, Option.bind_some]
      cases okInstr x with
      | false => rfl
      | true => rw [w64_succ (by have := get_lt hx; omega)]; rfl)
    (fun r => by unfold m_spec_l07Is_L0; rw [dec_self]; rfl) ()
  rw [forL_all okInstr _ _ (fun n x _ => rfl)] at h
  unfold m_spec_l07Is
  rw [show iter (m_spec_l07Is_L0 code) 0 = _ from h, Option.bind_some]
  unfold okCode
  cases code.all okInstr <;> rfl
theorem bad_index : ∀ (code : List Instr) (m : Nat), ∃ u, forL m_slices_IndexFunc_impl_Instr_impl_Instr_fValidCode_1_L0 (fun s0 => (.inl ())) m code () = some u ∧
    (code.all okInstr = false → ∃ n : Nat, u = .inr (n : Int)) ∧ (code.all okInstr = true → u = .inl ()) := by
  intro code
  induction code with
  | nil => intro m; exact ⟨.inl (), rfl, ⟨fun h => by simp at h, fun _ => rfl⟩⟩
  | cons x r ih =>
    intro m
    have hs : m_slices_IndexFunc_impl_Instr_impl_Instr_fValidCode_1_L0 m x () = bif !okInstr x then some (.out (.inr (m : Int))) else some (.next ()) := by
      unfold m_slices_IndexFunc_impl_Instr_impl_Instr_fValidCode_1_L0 m_impl_ValidCode_1
      rw [impl_instr, Option.bind_some, Option.bind_some]
    obtain ⟨u, hu, h1, h2⟩ := ih (m + 1)
    unfold forL
    rw [hs, List.all_cons]
    cases hc : okInstr x with
    | false => exact ⟨.inr (m : Int), rfl, fun _ => ⟨m, rfl⟩, fun h => by cases h⟩
    | true => exact ⟨u, hu, fun h => h1 h, fun h => h2 h⟩
theorem impl_code (code : List Instr) : m_impl_ValidCode code = some (okCode code) := by
  unfold m_impl_ValidCode okCode
  rw [show m_impl_size (code.length : Int) = some (code.length : Int) from rfl, Option.bind_some, show m_impl_within (code.length : Int) 1 80 = some (rng 1 80 (code.length : Int)) from rfl, Option.bind_some]
  cases rng 1 80 (code.length : Int) with
  | false => rw [cond_false, Bool.and_false]
  | true =>
    rw [cond_true, Bool.and_true]
    unfold m_slices_ContainsFunc_impl_Instr_impl_Instr_fValidCode_1 m_slices_IndexFunc_impl_Instr_impl_Instr_fValidCode_1
    obtain ⟨u, hu, h1, h2⟩ := bad_index code 0
    rw [hu, Option.bind_some]
    unfold m_slices_IndexFunc_impl_Instr_impl_Instr_fValidCode_1_A0
    cases hs : code.all okInstr with
    | false => obtain ⟨n, rfl⟩ := h1 hs; simp only [Option.bind_some]; rw [decide_eq_true (by omega)]; rfl
    | true => rw [h2 hs]; rfl
def okInts (xs : List Int) (n : Nat) : Bool := xs.all (rng (-1000000000) 1000000000) && decide (xs.length = n)
def okState (s : State) : Bool := okInts s.Vars 4 && okInts s.Cells 8
theorem spec_ints {xs : List Int} {n : Nat} (hl : xs.length ≤ 1048576) : m_spec_l03Numbers xs (n : Int) = some (okInts xs n) := by
  have h := iter_for (step := m_spec_l03Numbers_L0 xs) xs (fun n (_ : Unit) => (n : Int)) (fun _ x _ => bif rng (-1000000000) 1000000000 x then some (.next ()) else some (.out (.inr false))) (fun _ => .inl ())
    (fun n x r hx => by
      unfold m_spec_l03Numbers_L0
      rw [dec_lt (get_lt hx), cond_true, getI_some hx, Option.bind_some, show m_spec_l00In x (-1000000000) 1000000000 = some (rng (-1000000000) 1000000000 x) from rfl, Option.bind_some]
      cases rng (-1000000000) 1000000000 x with
      | false => rfl
      | true => rw [w64_succ (by have := get_lt hx; omega)]; rfl)
    (fun r => by unfold m_spec_l03Numbers_L0; rw [dec_self]; rfl) ()
  rw [forL_all (rng (-1000000000) 1000000000) _ _ (fun n x _ => rfl)] at h
  unfold m_spec_l03Numbers
  rw [show iter (m_spec_l03Numbers_L0 xs) 0 = _ from h, Option.bind_some]
  unfold okInts
  cases xs.all (rng (-1000000000) 1000000000) with
  | false => rfl
  | true =>
    unfold m_spec_l03Numbers_A0
    simp only [cond_true, Bool.true_and]
    congr 1
    by_cases h : xs.length = n <;> simp [h]; omega
theorem spec_state {s : State} (h1 : s.Vars.length ≤ 1048576) (h2 : s.Cells.length ≤ 1048576) : m_spec_l03State s = some (okState s) := by
  unfold m_spec_l03State okState
  rw [show (4 : Int) = ((4 : Nat) : Int) from rfl, spec_ints h1, Option.bind_some, show (8 : Int) = ((8 : Nat) : Int) from rfl, spec_ints h2]
  cases okInts s.Vars 4 <;> rfl
theorem dec_cast {a b : Nat} : decide ((a : Int) = (b : Int)) = decide (a = b) := by
  by_cases h : a = b
  · rw [decide_eq_true h, decide_eq_true (by omega)]
  · rw [decide_eq_false h, decide_eq_false (by omega)]
theorem impl_state (s : State) : m_impl_ValidState s = some (okState s) := by
  unfold m_impl_ValidState okState okInts
  rw [show (4 : Int) = ((4 : Nat) : Int) from rfl, show (8 : Int) = ((8 : Nat) : Int) from rfl, dec_cast, dec_cast, impl_all, impl_all]
  rw [show (s.Vars.all fun x => decide (-1000000000 ≤ x) && decide (x ≤ 1000000000)) = s.Vars.all (rng (-1000000000) 1000000000) from rfl, show (s.Cells.all fun x => decide (-1000000000 ≤ x) && decide (x ≤ 1000000000)) = s.Cells.all (rng (-1000000000) 1000000000) from rfl]
  cases decide (s.Vars.length = 4) <;> cases decide (s.Cells.length = 8) <;> cases s.Vars.all (rng (-1000000000) 1000000000) <;> cases s.Cells.all (rng (-1000000000) 1000000000) <;> rfl
def W : Int := 10000000000000000
def okConfig (c : Config) : Bool := c.Stack.all (rng (-10000000000000000) 10000000000000000) && (okState c.State && decide (c.Stack.length ≤ 6) && rng 0 80 c.At)
end Go.Mod

namespace Go.Mod
open Go.AM
set_option linter.unusedVariables false
set_option linter.unusedSimpArgs false
theorem okConfig_iff {c : Config} : okConfig c = true ↔ (∀ x ∈ c.Stack, -10000000000000000 ≤ x ∧ x ≤ 10000000000000000) ∧ okState c.State = true ∧ c.Stack.length ≤ 6 ∧ 0 ≤ c.At ∧ c.At ≤ 80 := by
  unfold okConfig
  simp only [Bool.and_eq_true, List.all_eq_true, rng_iff, decide_eq_true_eq]
  exact ⟨fun ⟨a, ⟨b, c⟩, d⟩ => ⟨a, b, c, d⟩, fun ⟨a, b, c, d⟩ => ⟨a, ⟨b, c⟩, d⟩⟩
theorem okState_iff {s : State} : okState s = true ↔ ((∀ x ∈ s.Vars, -1000000000 ≤ x ∧ x ≤ 1000000000) ∧ s.Vars.length = 4) ∧ ((∀ x ∈ s.Cells, -1000000000 ≤ x ∧ x ≤ 1000000000) ∧ s.Cells.length = 8) := by
  unfold okState okInts
  simp only [Bool.and_eq_true, List.all_eq_true, rng_iff, decide_eq_true_eq]
theorem getI_in {xs : List Int} {i : Int} (h0 : 0 ≤ i) (h1 : i < xs.length) : ∃ x, getI xs i = some x ∧ x ∈ xs := by
  obtain ⟨n, rfl⟩ := Int.eq_ofNat_of_zero_le h0
  have hn : n < xs.length := by omega
  exact ⟨xs[n], getI_some (List.getElem?_eq_getElem hn), List.getElem_mem hn⟩
theorem set_ok {xs : List Int} {n : Nat} {i : Nat} {v : Int} (h : (∀ x ∈ xs, -1000000000 ≤ x ∧ x ≤ 1000000000) ∧ xs.length = n) (hv : -1000000000 ≤ v ∧ v ≤ 1000000000) : (∀ x ∈ xs.set i v, -1000000000 ≤ x ∧ x ≤ 1000000000) ∧ (xs.set i v).length = n :=
  ⟨fun x hx => by rcases List.mem_or_eq_of_mem_set hx with hx | rfl; exact h.1 x hx; exact hv, by simpa using h.2⟩
theorem wpop {st : List Int} {p : Nat} (hl : st.length ≤ 6) (hp : p ≤ st.length) : w64 ((st.length : Int) - (p : Int)) = ((st.length - p : Nat) : Int) := by rw [w64_eq (by omega)]; omega
theorem front {st : List Int} {p : Nat} : sliceI st 0 ((st.length - p : Nat) : Int) = some (st.take (st.length - p)) := by
  have := sliceI_some (xs := st) (l := 0) (u := st.length - p) (by omega) (by omega)
  simpa using this
def Alike (code : List Instr) (c : Config) : Prop := ∃ out ev c', m_impl_Config_step c code = some (out, ev, c') ∧ m_spec_l07Next code c = some (c', out) ∧ okConfig c' = true ∧
  (out = 0 → ∃ x, getI code c.At = some x ∧ ev = if x.Op = 9 then x.Arg else -1) ∧ (out ≠ 0 → c' = c)
section
variable {code : List Instr} {c : Config} {x : Instr} {op arg : Int}
theorem J2_no {r : Int × Int} {vars cells : List Int} {next ev p : Int} : m_impl_Config_step_J2 c r (vars, cells, next, ev, p, false) = some (4, -1, Config.mk (State.mk vars cells) c.Stack c.At) := rfl
theorem J2_push {r : Int × Int} {pop : Nat} {vars cells : List Int} {next ev p : Int} (h1 : r.1 = (pop : Int)) (h2 : r.2 = 1) (hl : c.Stack.length ≤ 6) (hp : pop ≤ c.Stack.length) :
    m_impl_Config_step_J2 c r (vars, cells, next, ev, p, true) = some (0, ev, Config.mk (State.mk vars cells) (c.Stack.take (c.Stack.length - pop) ++ [p]) next) := by
  unfold m_impl_Config_step_J2 m_impl_Config_step_J3
  rw [h1, h2, wpop hl hp, front]
  simp only [Bool.not_true, cond_false, Option.bind_some]
  rw [decide_eq_true (by decide), cond_true, capI_some (by simp; omega), Option.bind_some]
theorem J2_none {r : Int × Int} {pop : Nat} {vars cells : List Int} {next ev p : Int} (h1 : r.1 = (pop : Int)) (h2 : r.2 = 0) (hl : c.Stack.length ≤ 6) (hp : pop ≤ c.Stack.length) :
    m_impl_Config_step_J2 c r (vars, cells, next, ev, p, true) = some (0, ev, Config.mk (State.mk vars cells) (c.Stack.take (c.Stack.length - pop)) next) := by
  unfold m_impl_Config_step_J2 m_impl_Config_step_J3
  rw [h1, h2, wpop hl hp, front]
  simp only [Bool.not_true, cond_false, Option.bind_some]
  rw [decide_eq_false (by decide), cond_false]
theorem impl_pre {pop : Nat} {push : Int} (hl : c.Stack.length ≤ 6) (hat : 0 ≤ c.At) (hlt : c.At < code.length) (hcl : code.length ≤ 80) (hx : getI code c.At = some x) (hm : m_impl_Instr_moves x = some ((pop : Int), push)) (hpush : push = 0 ∨ push = 1) (hp2 : pop ≤ 2) :
    m_impl_Config_step c code = bif decide (c.Stack.length < pop) || (decide (push = 1) && decide (6 < (c.Stack.length : Int) - pop + 1)) then some (5, -1, c) else m_impl_Config_step_J0 c x ((pop : Int), push) () := by
  unfold m_impl_Config_step
  have hidx : m_impl_isIndex c.At (code.length : Int) = some true := by
    unfold m_impl_isIndex m_impl_within m_impl_size
    simp only [Option.bind_some]
    rw [w64_eq (by omega), decide_eq_true hat, decide_eq_true (by omega)]; rfl
  rw [hidx, Option.bind_some, Bool.not_true, cond_false, hx, Option.bind_some, hm, Option.bind_some]
  by_cases h1 : c.Stack.length < pop
  · simp only
    rw [decide_eq_true h1, w64_eq (n := (c.Stack.length : Int) - pop) (by omega), decide_eq_true (by omega)]; rfl
  · simp only
    rw [decide_eq_false h1, wpop hl (by omega), decide_eq_false (by omega), cond_false, Bool.false_or]
    rcases hpush with rfl | rfl
    · rw [decide_eq_false (show ¬ (0 : Int) < 0 by decide), cond_false, decide_eq_false (show ¬ (0 : Int) = 1 by decide), Bool.false_and, cond_false]
    · rw [decide_eq_true (show (0 : Int) < 1 by decide), cond_true, w64_eq (by omega), decide_eq_true (show (1 : Int) = 1 from rfl), Bool.true_and]
      rw [show (((c.Stack.length - pop : Nat) : Int) + 1) = (c.Stack.length : Int) - pop + 1 by omega]
theorem spec_pre {pop : Nat} {push : Int} (hs : okConfig c = true) (hlt : c.At < code.length) (hx : getI code c.At = some x) (hm : m_spec_l07Pops x.Op = some (pop : Int)) (hm2 : m_spec_l07Pushes x.Op = some push) (hpush : push = 0 ∨ push = 1) (hp2 : pop ≤ 2) :
    m_spec_l07Next code c = bif decide (c.Stack.length < pop) || (decide (push = 1) && decide (6 < (c.Stack.length : Int) - pop + 1)) then some (c, 5) else
      bif decide (x.Op = 11) then some (c, 6) else bif decide ((0 : Int) < (pop : Int)) then (getI c.Stack (w64 ((c.Stack.length : Int) - 1))).bind fun t => m_spec_l07Next_J1 c (c.State.Vars, c.State.Cells, c.Stack) x (pop : Int) t else m_spec_l07Next_J1 c (c.State.Vars, c.State.Cells, c.Stack) x (pop : Int) 0 := by
  obtain ⟨w, ho, hl, ha1, ha2⟩ := okConfig_iff.1 hs
  obtain ⟨⟨_, v4⟩, ⟨_, c8⟩⟩ := okState_iff.1 ho
  unfold m_spec_l07Next m_spec_l03Own
  rw [spec_own (by omega), Option.bind_some, spec_own (by omega), Option.bind_some, Option.bind_some, spec_own (by omega), Option.bind_some]
  unfold m_spec_l07Next_J0
  rw [decide_eq_false (by omega), cond_false, hx, Option.bind_some, hm, Option.bind_some]
  by_cases h1 : c.Stack.length < pop
  · rw [decide_eq_true h1, w64_eq (n := (c.Stack.length : Int) - pop) (by omega), decide_eq_true (by omega)]; rfl
  · rw [decide_eq_false h1, wpop hl (by omega), decide_eq_false (by omega), cond_false, hm2, Option.bind_some, Bool.false_or]
    rcases hpush with rfl | rfl
    · rw [w64_eq (by omega), decide_eq_false (by omega), cond_false, decide_eq_false (show ¬ (0 : Int) = 1 by decide), Bool.false_and, cond_false]
    · rw [w64_eq (by omega), decide_eq_true (show (1 : Int) = 1 from rfl), Bool.true_and]
      rw [show (((c.Stack.length - pop : Nat) : Int) + 1) = (c.Stack.length : Int) - pop + 1 by omega]
end
end Go.Mod

namespace Go.Mod
open Go.AM
set_option linter.unusedVariables false
set_option linter.unusedSimpArgs false
theorem frontOwn {α : Type} {st : List Int} {p : Nat} {F : List Int → Option α} (hl : st.length ≤ 6) (hp : p ≤ st.length) :
    ((sliceI st 0 (w64 ((st.length : Int) - (p : Int)))).bind fun y => (m_spec_l00Own y).bind F) = F (st.take (st.length - p)) := by
  rw [wpop hl hp, front, Option.bind_some, spec_own (by simp; omega), Option.bind_some]
theorem backI {st : List Int} {p : Nat} (hl : st.length ≤ 6) (hp : p ≤ st.length) : ∃ b, sliceI st (w64 ((st.length : Int) - (p : Int))) (st.length : Int) = some b := by
  rw [wpop hl hp]; exact ⟨_, sliceI_some (by omega) (Nat.le_refl _)⟩
theorem topI {st : List Int} {t : Int} (hl : st.length ≤ 6) (h : st[st.length - 1]? = some t) : getI st (w64 ((st.length : Int) - 1)) = some t := by
  have := get_lt h
  rw [show ((st.length : Int) - 1) = (st.length : Int) - ((1 : Nat) : Int) from rfl, wpop hl (by omega)]; exact getI_some h
theorem wide_ok {st : List Int} {st' : List Int} (h : ∀ x ∈ st, -10000000000000000 ≤ x ∧ x ≤ 10000000000000000) {n : Nat} {p : Int} (hp : -10000000000000000 ≤ p ∧ p ≤ 10000000000000000) : ∀ x ∈ st.take n ++ [p], -10000000000000000 ≤ x ∧ x ≤ 10000000000000000 := by
  intro x hx
  rcases List.mem_append.1 hx with hx | hx
  · exact h x (List.mem_of_mem_take hx)
  · rw [List.mem_singleton.1 hx]; exact hp
theorem scale_ok {t arg : Int} (ht : -10000000000000000 ≤ t ∧ t ≤ 10000000000000000) (ha : -1000000 ≤ arg ∧ arg ≤ 1000000) :
    ∃ n f, m_impl_scaled t arg = some (n, f) ∧ m_spec_l07Far t arg = some (!f) ∧ (f = true → w64 (t * arg) = n ∧ -10000000000000000 ≤ n ∧ n ≤ 10000000000000000) := by
  have key : ∀ a b : Nat, 0 < a → 0 < b → (10000000000000000 / a < b ↔ 10000000000000000 < a * b) := fun a b ha hb => by rw [Nat.div_lt_iff_lt_mul ha, Nat.mul_comm b a]
  have hmul : (t * arg).natAbs = t.natAbs * arg.natAbs := Int.natAbs_mul t arg
  have quo : ∀ a : Nat, 0 < a → quoI 10000000000000000 (a : Int) = some ((10000000000000000 / a : Nat) : Int) := fun a ha => by
    unfold quoI
    have h1 : (10000000000000000 : Int).tdiv (a : Int) = ((10000000000000000 / a : Nat) : Int) := rfl
    have h2 := Nat.div_le_self 10000000000000000 a
    rw [decide_eq_false (by omega), cond_false, h1]
    generalize 10000000000000000 / a = q at h2
    rw [w64_eq (by omega)]
  have habs : ∀ x : Int, -10000000000000000 ≤ x ∧ x ≤ 10000000000000000 → m_impl_absolute x = some (x.natAbs : Int) := fun x hx => by
    unfold m_impl_absolute
    rw [w64_eq (by omega), show max x (0 - x) = (x.natAbs : Int) by omega]
  have hmax : ∀ x : Int, -10000000000000000 ≤ x ∧ x ≤ 10000000000000000 → m_spec_l00Max x (w64 (0 - x)) = some (x.natAbs : Int) := fun x hx => by
    unfold m_spec_l00Max
    rw [w64_eq (by omega)]
    by_cases h : 0 - x < x
    · rw [decide_eq_true h, cond_true, show ((x.natAbs : Nat) : Int) = x by omega]
    · rw [decide_eq_false h, cond_false, show ((x.natAbs : Nat) : Int) = 0 - x by omega]
  by_cases h0 : t = 0
  · subst h0
    refine ⟨0, true, ?_, ?_, fun _ => ⟨by rw [Int.zero_mul]; rfl, by omega, by omega⟩⟩
    · unfold m_impl_scaled m_impl_scaled_J0
      rw [Int.zero_mul]; rfl
    · unfold m_spec_l07Far
      by_cases h1 : arg = 0
      · rw [decide_eq_true h1]; rfl
      · rw [decide_eq_false h1, cond_false, hmax 0 (by omega), Option.bind_some, hmax arg (by omega), Option.bind_some, quo _ (by omega), Option.bind_some, show ((Int.natAbs 0 : Nat) : Int) = 0 from rfl, decide_eq_false (Int.not_lt.2 (Int.natCast_nonneg _))]; rfl
  · by_cases h1 : arg = 0
    · subst h1
      refine ⟨0, true, ?_, ?_, fun _ => ⟨by rw [Int.mul_zero]; rfl, by omega, by omega⟩⟩
      · unfold m_impl_scaled m_impl_scaled_J0
        rw [decide_eq_false h0, Bool.not_false, cond_true, habs 0 (by omega), Option.bind_some, habs t ht, Option.bind_some, quo _ (by omega), Option.bind_some, show ((Int.natAbs 0 : Nat) : Int) = 0 from rfl, decide_eq_false (Int.not_lt.2 (Int.natCast_nonneg _)), cond_false, Int.mul_zero]; rfl
      · unfold m_spec_l07Far; rfl
    · have k1 := key t.natAbs arg.natAbs (by omega) (by omega)
      have k2 := key arg.natAbs t.natAbs (by omega) (by omega)
      by_cases hbig : 10000000000000000 < t.natAbs * arg.natAbs
      · refine ⟨0, false, ?_, ?_, fun h => by cases h⟩
        · have := k1.2 hbig
          unfold m_impl_scaled
          rw [decide_eq_false h0, Bool.not_false, cond_true, habs arg (by omega), Option.bind_some, habs t ht, Option.bind_some, quo _ (by omega), Option.bind_some, decide_eq_true (Int.ofNat_lt.2 this), cond_true]
        · have := k2.2 (by rw [Nat.mul_comm]; exact hbig)
          unfold m_spec_l07Far
          rw [decide_eq_false h1, cond_false, hmax t ht, Option.bind_some, hmax arg (by omega), Option.bind_some, quo _ (by omega), Option.bind_some, decide_eq_true (Int.ofNat_lt.2 this)]; rfl
      · have g1 : ¬ 10000000000000000 / t.natAbs < arg.natAbs := fun h => hbig (k1.1 h)
        have g2 : ¬ 10000000000000000 / arg.natAbs < t.natAbs := fun h => hbig (by rw [Nat.mul_comm]; exact k2.1 h)
        have hp : -10000000000000000 ≤ t * arg ∧ t * arg ≤ 10000000000000000 := by omega
        refine ⟨t * arg, true, ?_, ?_, fun _ => ⟨w64_eq (by omega), hp⟩⟩
        · unfold m_impl_scaled m_impl_scaled_J0
          rw [decide_eq_false h0, Bool.not_false, cond_true, habs arg (by omega), Option.bind_some, habs t ht, Option.bind_some, quo _ (by omega), Option.bind_some, decide_eq_false (fun h => g1 (Int.ofNat_lt.1 h)), cond_false, w64_eq (by omega)]
          rw [show m_impl_isWide (t * arg) = some (rng (-10000000000000000) 10000000000000000 (t * arg)) from rfl, rng_iff.2 hp]; rfl
        · unfold m_spec_l07Far
          rw [decide_eq_false h1, cond_false, hmax t ht, Option.bind_some, hmax arg (by omega), Option.bind_some, quo _ (by omega), Option.bind_some, decide_eq_false (fun h => g2 (Int.ofNat_lt.1 h))]; rfl
section
variable {code : List Instr} {c : Config} {arg : Int}
theorem alike_0 (hs : okConfig c = true) (hcl : code.length ≤ 80) (hlt : c.At < code.length) (hx : getI code c.At = some (Instr.mk 0 arg)) (ha : -1000000 ≤ arg ∧ arg ≤ 1000000) : Alike code c := by
  obtain ⟨pop, hpop⟩ : ∃ p : Nat, p = 0 := ⟨0, rfl⟩
  obtain ⟨w, ho, hl, ha1, ha2⟩ := okConfig_iff.1 hs
  obtain ⟨hV, hC⟩ := okState_iff.1 ho
  have hI := impl_pre (pop := pop) (push := 1) hl ha1 hlt hcl hx (by rw [hpop]; rfl) (by decide) (by omega)
  have hS := spec_pre (pop := pop) (push := 1) hs hlt hx (by rw [hpop]; rfl) rfl (by decide) (by omega)
  have hw : w64 (c.At + 1) = c.At + 1 := w64_eq (by omega)
  unfold Alike
  rw [hI, hS]
  cases hb : decide (c.Stack.length < pop) || (decide ((1 : Int) = 1) && decide (6 < (c.Stack.length : Int) - (pop : Int) + 1)) with
  | true => exact ⟨5, -1, c, rfl, rfl, hs, ⟨fun h => absurd h (by decide), fun _ => rfl⟩⟩
  | false =>
    rw [Bool.or_eq_false_iff] at hb
    have hp : pop ≤ c.Stack.length := Nat.le_of_not_lt (of_decide_eq_false hb.1)
    have hq : (c.Stack.length : Int) - (pop : Int) + 1 ≤ 6 := by have := hb.2; rw [decide_eq_true (show (1 : Int) = 1 from rfl), Bool.true_and] at this; exact Int.not_lt.1 (of_decide_eq_false this)
    rw [cond_false, cond_false]
    obtain ⟨bk, hbk⟩ := backI (p := pop) hl hp
    refine ⟨0, -1, Config.mk c.State (c.Stack.take (c.Stack.length - pop) ++ [arg]) (c.At + 1), ?_, ?_, okConfig_iff.2 ⟨wide_ok (st' := []) w (by omega), ho, by simp; omega, by simp only; omega, by simp only; omega⟩, ⟨fun _ => ⟨_, hx, rfl⟩, fun h => absurd rfl h⟩⟩
    · rw [show m_impl_Config_step_J0 c (Instr.mk 0 arg) ((pop : Int), 1) () = (sliceI c.Stack (w64 ((c.Stack.length : Int) - (pop : Int))) (c.Stack.length : Int)).bind fun _ => m_impl_Config_step_J2 c ((pop : Int), 1) (c.State.Vars, c.State.Cells, w64 (c.At + 1), -1, arg, true) from rfl, hbk, Option.bind_some]; rw [J2_push (r := ((pop : Int), 1)) (pop := pop) rfl rfl hl hp, hw]
    · rw [show decide ((Instr.mk 0 arg).Op = 11) = false from rfl, cond_false, show decide ((0 : Int) < (pop : Int)) = false by rw [hpop]; rfl, cond_false]; unfold m_spec_l07Next_J1; rw [show decide ((1 : Int) < (pop : Int)) = false by rw [hpop]; rfl, cond_false]; unfold m_spec_l07Next_J2 m_spec_l07Next_J3; simp only [Int.reduceEq, Int.reduceLT, decide_false, decide_true, cond_true, cond_false, Option.bind_some, Bool.not_true, Bool.not_false, Bool.false_and, Bool.true_and]; unfold m_spec_l07Next_J4; simp only [Int.reduceEq, Int.reduceLT, decide_false, decide_true, cond_true, cond_false, Option.bind_some, Bool.not_true, Bool.not_false, Bool.false_and, Bool.true_and]; rw [frontOwn (p := pop) hl hp]; rw [capI_some (by simp; omega), Option.bind_some]; rw [hw]
theorem alike_1 (hs : okConfig c = true) (hcl : code.length ≤ 80) (hlt : c.At < code.length) (hx : getI code c.At = some (Instr.mk 1 arg)) (ha : 0 ≤ arg ∧ arg ≤ 3) : Alike code c := by
  obtain ⟨pop, hpop⟩ : ∃ p : Nat, p = 0 := ⟨0, rfl⟩
  obtain ⟨w, ho, hl, ha1, ha2⟩ := okConfig_iff.1 hs
  obtain ⟨hV, hC⟩ := okState_iff.1 ho
  have hI := impl_pre (pop := pop) (push := 1) hl ha1 hlt hcl hx (by rw [hpop]; rfl) (by decide) (by omega)
  have hS := spec_pre (pop := pop) (push := 1) hs hlt hx (by rw [hpop]; rfl) rfl (by decide) (by omega)
  have hw : w64 (c.At + 1) = c.At + 1 := w64_eq (by omega)
  unfold Alike
  rw [hI, hS]
  cases hb : decide (c.Stack.length < pop) || (decide ((1 : Int) = 1) && decide (6 < (c.Stack.length : Int) - (pop : Int) + 1)) with
  | true => exact ⟨5, -1, c, rfl, rfl, hs, ⟨fun h => absurd h (by decide), fun _ => rfl⟩⟩
  | false =>
    rw [Bool.or_eq_false_iff] at hb
    have hp : pop ≤ c.Stack.length := Nat.le_of_not_lt (of_decide_eq_false hb.1)
    have hq : (c.Stack.length : Int) - (pop : Int) + 1 ≤ 6 := by have := hb.2; rw [decide_eq_true (show (1 : Int) = 1 from rfl), Bool.true_and] at this; exact Int.not_lt.1 (of_decide_eq_false this)
    rw [cond_false, cond_false]
    obtain ⟨bk, hbk⟩ := backI (p := pop) hl hp
    obtain ⟨y, hy, hym⟩ := getI_in (xs := c.State.Vars) ha.1 (by have := hV.2; omega)
    have hyr := hV.1 y hym
    refine ⟨0, -1, Config.mk c.State (c.Stack.take (c.Stack.length - pop) ++ [y]) (c.At + 1), ?_, ?_, okConfig_iff.2 ⟨wide_ok (st' := []) w (by omega), ho, by simp; omega, by simp only; omega, by simp only; omega⟩, ⟨fun _ => ⟨_, hx, rfl⟩, fun h => absurd rfl h⟩⟩
    · rw [show m_impl_Config_step_J0 c (Instr.mk 1 arg) ((pop : Int), 1) () = (sliceI c.Stack (w64 ((c.Stack.length : Int) - (pop : Int))) (c.Stack.length : Int)).bind fun _ => (getI c.State.Vars arg).bind fun x83 => m_impl_Config_step_J2 c ((pop : Int), 1) (c.State.Vars, c.State.Cells, w64 (c.At + 1), -1, x83, true) from rfl, hbk, Option.bind_some]; rw [hy, Option.bind_some, J2_push (r := ((pop : Int), 1)) (pop := pop) rfl rfl hl hp, hw]
    · rw [show decide ((Instr.mk 1 arg).Op = 11) = false from rfl, cond_false, show decide ((0 : Int) < (pop : Int)) = false by rw [hpop]; rfl, cond_false]; unfold m_spec_l07Next_J1; rw [show decide ((1 : Int) < (pop : Int)) = false by rw [hpop]; rfl, cond_false]; unfold m_spec_l07Next_J2 m_spec_l07Next_J3; simp only [Int.reduceEq, Int.reduceLT, decide_false, decide_true, cond_true, cond_false, Option.bind_some, Bool.not_true, Bool.not_false, Bool.false_and, Bool.true_and]; unfold m_spec_l07Next_J4; simp only [Int.reduceEq, Int.reduceLT, decide_false, decide_true, cond_true, cond_false, Option.bind_some, Bool.not_true, Bool.not_false, Bool.false_and, Bool.true_and]; rw [frontOwn (p := pop) hl hp]; rw [hy, Option.bind_some]; rw [capI_some (by simp; omega), Option.bind_some]; rw [hw]
theorem alike_2 (hs : okConfig c = true) (hcl : code.length ≤ 80) (hlt : c.At < code.length) (hx : getI code c.At = some (Instr.mk 2 arg)) (ha : 0 ≤ arg ∧ arg ≤ 3) : Alike code c := by
  obtain ⟨w, ho, hl, ha1, ha2⟩ := okConfig_iff.1 hs
  obtain ⟨hV, hC⟩ := okState_iff.1 ho
  have hI := impl_pre (pop := 1) (push := 0) hl ha1 hlt hcl hx rfl (by decide) (by decide)
  have hS := spec_pre (pop := 1) (push := 0) hs hlt hx rfl rfl (by decide) (by decide)
  have hw : w64 (c.At + 1) = c.At + 1 := w64_eq (by omega)
  unfold Alike
  rw [hI, hS]
  cases hb : decide (c.Stack.length < 1) || (decide ((0 : Int) = 1) && decide (6 < (c.Stack.length : Int) - ((1 : Nat) : Int) + 1)) with
  | true => exact ⟨5, -1, c, rfl, rfl, hs, ⟨fun h => absurd h (by decide), fun _ => rfl⟩⟩
  | false =>
    rw [Bool.or_eq_false_iff] at hb
    have hp : 1 ≤ c.Stack.length := Nat.le_of_not_lt (of_decide_eq_false hb.1)
    rw [cond_false, cond_false]
    obtain ⟨bk, hbk⟩ := backI (p := 1) hl hp
    obtain ⟨t, ht⟩ : ∃ t, c.Stack[c.Stack.length - 1]? = some t := ⟨_, List.getElem?_eq_getElem (by omega)⟩
    have htw := w t (List.mem_of_getElem? ht)
    have htop := topI hl ht
    have ht0 : c.Stack[(w64 ((c.Stack.length : Int) - ((1 : Nat) : Int))).toNat + 0]? = some t := by rw [wpop hl hp, Int.toNat_natCast, show c.Stack.length - 1 + 0 = c.Stack.length - 1 by omega]; exact ht
    obtain ⟨y, hy, hym⟩ := getI_in (xs := c.State.Vars) ha.1 (by have := hV.2; omega)
    have hInt : m_impl_isInt t = some (rng (-1000000000) 1000000000 t) := rfl
    have hInt2 : m_spec_l03Int t = some (rng (-1000000000) 1000000000 t) := rfl
    cases hr : rng (-1000000000) 1000000000 t with
    | false =>
      refine ⟨4, -1, c, ?_, ?_, hs, ⟨fun h => absurd h (by decide), fun _ => rfl⟩⟩
      · unfold m_impl_Config_step_J0; simp only; rw [hbk, Option.bind_some]; simp only [Int.reduceEq, Int.reduceLT, decide_false, decide_true, cond_true, cond_false, Option.bind_some, Bool.not_true, Bool.not_false, Bool.false_and, Bool.true_and]; rw [ht0, Option.bind_some, hInt, hr, Option.bind_some, Bool.not_false, cond_true]
      · rw [show decide ((Instr.mk 2 arg).Op = 11) = false from rfl, cond_false, show decide ((0 : Int) < ((1 : Nat) : Int)) = true from rfl, cond_true, htop, Option.bind_some]; unfold m_spec_l07Next_J1; rw [show decide ((1 : Int) < ((1 : Nat) : Int)) = false from rfl, cond_false]; unfold m_spec_l07Next_J2 m_spec_l07Next_J3; simp only [Int.reduceEq, Int.reduceLT, decide_false, decide_true, cond_true, cond_false, Option.bind_some, Bool.not_true, Bool.not_false, Bool.false_and, Bool.true_and]; rw [hInt2, hr, Option.bind_some, Bool.not_false, cond_true]
    | true =>
      have htr := rng_iff.1 hr
      refine ⟨0, -1, Config.mk (State.mk (c.State.Vars.set arg.toNat t) c.State.Cells) (c.Stack.take (c.Stack.length - 1)) (c.At + 1), ?_, ?_, okConfig_iff.2 ⟨fun x hx => w x (List.mem_of_mem_take hx), okState_iff.2 ⟨set_ok hV htr, hC⟩, by simp; omega, by simp only; omega, by simp only; omega⟩, ⟨fun _ => ⟨_, hx, rfl⟩, fun h => absurd rfl h⟩⟩
      · unfold m_impl_Config_step_J0; simp only; rw [hbk, Option.bind_some]; simp only [Int.reduceEq, Int.reduceLT, decide_false, decide_true, cond_true, cond_false, Option.bind_some, Bool.not_true, Bool.not_false, Bool.false_and, Bool.true_and]; rw [ht0, Option.bind_some, hInt, hr, Option.bind_some, Bool.not_true, cond_false, hy, Option.bind_some, J2_none (r := (((1 : Nat) : Int), 0)) (pop := 1) rfl rfl hl hp, hw]
      · rw [show decide ((Instr.mk 2 arg).Op = 11) = false from rfl, cond_false, show decide ((0 : Int) < ((1 : Nat) : Int)) = true from rfl, cond_true, htop, Option.bind_some]; unfold m_spec_l07Next_J1; rw [show decide ((1 : Int) < ((1 : Nat) : Int)) = false from rfl, cond_false]; unfold m_spec_l07Next_J2 m_spec_l07Next_J3; simp only [Int.reduceEq, Int.reduceLT, decide_false, decide_true, cond_true, cond_false, Option.bind_some, Bool.not_true, Bool.not_false, Bool.false_and, Bool.true_and]; rw [hInt2, hr, Option.bind_some, Bool.not_true, cond_false]; unfold m_spec_l07Next_J4; simp only [Int.reduceEq, Int.reduceLT, decide_false, decide_true, cond_true, cond_false, Option.bind_some, Bool.not_true, Bool.not_false, Bool.false_and, Bool.true_and]; rw [frontOwn (p := 1) hl hp]; rw [hy, Option.bind_some, hw]
theorem alike_3 (hs : okConfig c = true) (hcl : code.length ≤ 80) (hlt : c.At < code.length) (hx : getI code c.At = some (Instr.mk 3 arg)) (ha : arg = 0) : Alike code c := by
  obtain ⟨w, ho, hl, ha1, ha2⟩ := okConfig_iff.1 hs
  obtain ⟨hV, hC⟩ := okState_iff.1 ho
  have hI := impl_pre (pop := 2) (push := 1) hl ha1 hlt hcl hx rfl (by decide) (by decide)
  have hS := spec_pre (pop := 2) (push := 1) hs hlt hx rfl rfl (by decide) (by decide)
  have hw : w64 (c.At + 1) = c.At + 1 := w64_eq (by omega)
  unfold Alike
  rw [hI, hS]
  cases hb : decide (c.Stack.length < 2) || (decide ((1 : Int) = 1) && decide (6 < (c.Stack.length : Int) - ((2 : Nat) : Int) + 1)) with
  | true => exact ⟨5, -1, c, rfl, rfl, hs, ⟨fun h => absurd h (by decide), fun _ => rfl⟩⟩
  | false =>
    rw [Bool.or_eq_false_iff] at hb
    have hp : 2 ≤ c.Stack.length := Nat.le_of_not_lt (of_decide_eq_false hb.1)
    have hq : (c.Stack.length : Int) - ((2 : Nat) : Int) + 1 ≤ 6 := by have := hb.2; rw [decide_eq_true (show (1 : Int) = 1 from rfl), Bool.true_and] at this; exact Int.not_lt.1 (of_decide_eq_false this)
    rw [cond_false, cond_false]
    obtain ⟨bk, hbk⟩ := backI (p := 2) hl hp
    obtain ⟨t, ht⟩ : ∃ t, c.Stack[c.Stack.length - 1]? = some t := ⟨_, List.getElem?_eq_getElem (by omega)⟩
    have htw := w t (List.mem_of_getElem? ht)
    have htop := topI hl ht
    have ht0 : c.Stack[(w64 ((c.Stack.length : Int) - ((2 : Nat) : Int))).toNat + 1]? = some t := by rw [wpop hl hp, Int.toNat_natCast, show c.Stack.length - 2 + 1 = c.Stack.length - 1 by omega]; exact ht
    obtain ⟨u, hu⟩ : ∃ u, c.Stack[c.Stack.length - 2]? = some u := ⟨_, List.getElem?_eq_getElem (by omega)⟩
    have huw := w u (List.mem_of_getElem? hu)
    have hund : getI c.Stack (w64 ((c.Stack.length : Int) - ((2 : Nat) : Int))) = some u := by rw [wpop hl hp]; exact getI_some hu
    have hu0 : c.Stack[(w64 ((c.Stack.length : Int) - ((2 : Nat) : Int))).toNat + 0]? = some u := by rw [wpop hl hp, Int.toNat_natCast]; exact hu
    have hsum : w64 (t + u) = t + u := w64_eq (by omega)
    have hsum2 : w64 (u + t) = t + u := by rw [Int.add_comm]; exact hsum
    have hW : m_impl_isWide (t + u) = some (rng (-10000000000000000) 10000000000000000 (t + u)) := rfl
    have hW2 : m_spec_l07Wide (t + u) = some (rng (-10000000000000000) 10000000000000000 (t + u)) := rfl
    cases hr : rng (-10000000000000000) 10000000000000000 (t + u) with
    | false =>
      refine ⟨4, -1, c, ?_, ?_, hs, ⟨fun h => absurd h (by decide), fun _ => rfl⟩⟩
      · unfold m_impl_Config_step_J0; simp only; rw [hbk, Option.bind_some]; simp only [Int.reduceEq, Int.reduceLT, decide_false, decide_true, cond_true, cond_false, Option.bind_some, Bool.not_true, Bool.not_false, Bool.false_and, Bool.true_and]; rw [hu0, Option.bind_some, ht0, Option.bind_some, hsum2, hW, hr, Option.bind_some, J2_no]
      · rw [show decide ((Instr.mk 3 arg).Op = 11) = false from rfl, cond_false, show decide ((0 : Int) < ((2 : Nat) : Int)) = true from rfl, cond_true, htop, Option.bind_some]; unfold m_spec_l07Next_J1; rw [show decide ((1 : Int) < ((2 : Nat) : Int)) = true from rfl, cond_true, hund, Option.bind_some]; unfold m_spec_l07Next_J2 m_spec_l07Next_J3; simp only [Int.reduceEq, Int.reduceLT, decide_false, decide_true, cond_true, cond_false, Option.bind_some, Bool.not_true, Bool.not_false, Bool.false_and, Bool.true_and]; rw [hsum, hW2, hr, Option.bind_some, Bool.not_false, cond_true]
    | true =>
      refine ⟨0, -1, Config.mk c.State (c.Stack.take (c.Stack.length - 2) ++ [(t + u)]) (c.At + 1), ?_, ?_, okConfig_iff.2 ⟨wide_ok (st' := []) w (rng_iff.1 hr), ho, by simp; omega, by simp only; omega, by simp only; omega⟩, ⟨fun _ => ⟨_, hx, rfl⟩, fun h => absurd rfl h⟩⟩
      · unfold m_impl_Config_step_J0; simp only; rw [hbk, Option.bind_some]; simp only [Int.reduceEq, Int.reduceLT, decide_false, decide_true, cond_true, cond_false, Option.bind_some, Bool.not_true, Bool.not_false, Bool.false_and, Bool.true_and]; rw [hu0, Option.bind_some, ht0, Option.bind_some, hsum2, hW, hr, Option.bind_some, J2_push (r := (((2 : Nat) : Int), 1)) (pop := 2) rfl rfl hl hp, hw]
      · rw [show decide ((Instr.mk 3 arg).Op = 11) = false from rfl, cond_false, show decide ((0 : Int) < ((2 : Nat) : Int)) = true from rfl, cond_true, htop, Option.bind_some]; unfold m_spec_l07Next_J1; rw [show decide ((1 : Int) < ((2 : Nat) : Int)) = true from rfl, cond_true, hund, Option.bind_some]; unfold m_spec_l07Next_J2 m_spec_l07Next_J3; simp only [Int.reduceEq, Int.reduceLT, decide_false, decide_true, cond_true, cond_false, Option.bind_some, Bool.not_true, Bool.not_false, Bool.false_and, Bool.true_and]; rw [hsum, hW2, hr, Option.bind_some, Bool.not_true, cond_false]; unfold m_spec_l07Next_J4; simp only [Int.reduceEq, Int.reduceLT, decide_false, decide_true, cond_true, cond_false, Option.bind_some, Bool.not_true, Bool.not_false, Bool.false_and, Bool.true_and]; rw [frontOwn (p := 2) hl hp]; rw [hsum]; rw [capI_some (by simp; omega), Option.bind_some]; rw [hw]
theorem alike_4 (hs : okConfig c = true) (hcl : code.length ≤ 80) (hlt : c.At < code.length) (hx : getI code c.At = some (Instr.mk 4 arg)) (ha : -1000000 ≤ arg ∧ arg ≤ 1000000) : Alike code c := by
  obtain ⟨w, ho, hl, ha1, ha2⟩ := okConfig_iff.1 hs
  obtain ⟨hV, hC⟩ := okState_iff.1 ho
  have hI := impl_pre (pop := 1) (push := 1) hl ha1 hlt hcl hx rfl (by decide) (by decide)
  have hS := spec_pre (pop := 1) (push := 1) hs hlt hx rfl rfl (by decide) (by decide)
  have hw : w64 (c.At + 1) = c.At + 1 := w64_eq (by omega)
  unfold Alike
  rw [hI, hS]
  cases hb : decide (c.Stack.length < 1) || (decide ((1 : Int) = 1) && decide (6 < (c.Stack.length : Int) - ((1 : Nat) : Int) + 1)) with
  | true => exact ⟨5, -1, c, rfl, rfl, hs, ⟨fun h => absurd h (by decide), fun _ => rfl⟩⟩
  | false =>
    rw [Bool.or_eq_false_iff] at hb
    have hp : 1 ≤ c.Stack.length := Nat.le_of_not_lt (of_decide_eq_false hb.1)
    have hq : (c.Stack.length : Int) - ((1 : Nat) : Int) + 1 ≤ 6 := by have := hb.2; rw [decide_eq_true (show (1 : Int) = 1 from rfl), Bool.true_and] at this; exact Int.not_lt.1 (of_decide_eq_false this)
    rw [cond_false, cond_false]
    obtain ⟨bk, hbk⟩ := backI (p := 1) hl hp
    obtain ⟨t, ht⟩ : ∃ t, c.Stack[c.Stack.length - 1]? = some t := ⟨_, List.getElem?_eq_getElem (by omega)⟩
    have htw := w t (List.mem_of_getElem? ht)
    have htop := topI hl ht
    have ht0 : c.Stack[(w64 ((c.Stack.length : Int) - ((1 : Nat) : Int))).toNat + 0]? = some t := by rw [wpop hl hp, Int.toNat_natCast, show c.Stack.length - 1 + 0 = c.Stack.length - 1 by omega]; exact ht
    obtain ⟨n, f, e1, e2, e3⟩ := scale_ok htw ha
    cases f with
    | false =>
      refine ⟨4, -1, c, ?_, ?_, hs, ⟨fun h => absurd h (by decide), fun _ => rfl⟩⟩
      · unfold m_impl_Config_step_J0; simp only; rw [hbk, Option.bind_some]; simp only [Int.reduceEq, Int.reduceLT, decide_false, decide_true, cond_true, cond_false, Option.bind_some, Bool.not_true, Bool.not_false, Bool.false_and, Bool.true_and]; rw [ht0, Option.bind_some, e1, Option.bind_some, J2_no]
      · rw [show decide ((Instr.mk 4 arg).Op = 11) = false from rfl, cond_false, show decide ((0 : Int) < ((1 : Nat) : Int)) = true from rfl, cond_true, htop, Option.bind_some]; unfold m_spec_l07Next_J1; rw [show decide ((1 : Int) < ((1 : Nat) : Int)) = false from rfl, cond_false]; unfold m_spec_l07Next_J2 m_spec_l07Next_J3; simp only [Int.reduceEq, Int.reduceLT, decide_false, decide_true, cond_true, cond_false, Option.bind_some, Bool.not_true, Bool.not_false, Bool.false_and, Bool.true_and]; rw [e2, Option.bind_some, Bool.not_false, cond_true]
    | true =>
      obtain ⟨g1, g2⟩ := e3 rfl
      refine ⟨0, -1, Config.mk c.State (c.Stack.take (c.Stack.length - 1) ++ [n]) (c.At + 1), ?_, ?_, okConfig_iff.2 ⟨wide_ok (st' := []) w g2, ho, by simp; omega, by simp only; omega, by simp only; omega⟩, ⟨fun _ => ⟨_, hx, rfl⟩, fun h => absurd rfl h⟩⟩
      · unfold m_impl_Config_step_J0; simp only; rw [hbk, Option.bind_some]; simp only [Int.reduceEq, Int.reduceLT, decide_false, decide_true, cond_true, cond_false, Option.bind_some, Bool.not_true, Bool.not_false, Bool.false_and, Bool.true_and]; rw [ht0, Option.bind_some, e1, Option.bind_some, J2_push (r := (((1 : Nat) : Int), 1)) (pop := 1) rfl rfl hl hp, hw]
      · rw [show decide ((Instr.mk 4 arg).Op = 11) = false from rfl, cond_false, show decide ((0 : Int) < ((1 : Nat) : Int)) = true from rfl, cond_true, htop, Option.bind_some]; unfold m_spec_l07Next_J1; rw [show decide ((1 : Int) < ((1 : Nat) : Int)) = false from rfl, cond_false]; unfold m_spec_l07Next_J2 m_spec_l07Next_J3; simp only [Int.reduceEq, Int.reduceLT, decide_false, decide_true, cond_true, cond_false, Option.bind_some, Bool.not_true, Bool.not_false, Bool.false_and, Bool.true_and]; rw [e2, Option.bind_some, Bool.not_true, cond_false]; unfold m_spec_l07Next_J4; simp only [Int.reduceEq, Int.reduceLT, decide_false, decide_true, cond_true, cond_false, Option.bind_some, Bool.not_true, Bool.not_false, Bool.false_and, Bool.true_and]; rw [frontOwn (p := 1) hl hp]; rw [g1]; rw [capI_some (by simp; omega), Option.bind_some]; rw [hw]
theorem alike_5 (hs : okConfig c = true) (hcl : code.length ≤ 80) (hlt : c.At < code.length) (hx : getI code c.At = some (Instr.mk 5 arg)) (ha : 0 ≤ arg ∧ arg ≤ 79) : Alike code c := by
  obtain ⟨pop, hpop⟩ : ∃ p : Nat, p = 0 := ⟨0, rfl⟩
  obtain ⟨w, ho, hl, ha1, ha2⟩ := okConfig_iff.1 hs
  obtain ⟨hV, hC⟩ := okState_iff.1 ho
  have hI := impl_pre (pop := pop) (push := 0) hl ha1 hlt hcl hx (by rw [hpop]; rfl) (by decide) (by omega)
  have hS := spec_pre (pop := pop) (push := 0) hs hlt hx (by rw [hpop]; rfl) rfl (by decide) (by omega)
  have hw : w64 (c.At + 1) = c.At + 1 := w64_eq (by omega)
  unfold Alike
  rw [hI, hS]
  cases hb : decide (c.Stack.length < pop) || (decide ((0 : Int) = 1) && decide (6 < (c.Stack.length : Int) - (pop : Int) + 1)) with
  | true => exact ⟨5, -1, c, rfl, rfl, hs, ⟨fun h => absurd h (by decide), fun _ => rfl⟩⟩
  | false =>
    rw [Bool.or_eq_false_iff] at hb
    have hp : pop ≤ c.Stack.length := Nat.le_of_not_lt (of_decide_eq_false hb.1)
    rw [cond_false, cond_false]
    obtain ⟨bk, hbk⟩ := backI (p := pop) hl hp
    refine ⟨0, -1, Config.mk c.State (c.Stack.take (c.Stack.length - pop)) (arg), ?_, ?_, okConfig_iff.2 ⟨fun x hx => w x (List.mem_of_mem_take hx), ho, by simp; omega, by simp only; omega, by simp only; omega⟩, ⟨fun _ => ⟨_, hx, rfl⟩, fun h => absurd rfl h⟩⟩
    · rw [show m_impl_Config_step_J0 c (Instr.mk 5 arg) ((pop : Int), 0) () = (sliceI c.Stack (w64 ((c.Stack.length : Int) - (pop : Int))) (c.Stack.length : Int)).bind fun _ => m_impl_Config_step_J2 c ((pop : Int), 0) (c.State.Vars, c.State.Cells, arg, -1, 0, true) from rfl, hbk, Option.bind_some]; rw [J2_none (r := ((pop : Int), 0)) (pop := pop) rfl rfl hl hp]
    · rw [show decide ((Instr.mk 5 arg).Op = 11) = false from rfl, cond_false, show decide ((0 : Int) < (pop : Int)) = false by rw [hpop]; rfl, cond_false]; unfold m_spec_l07Next_J1; rw [show decide ((1 : Int) < (pop : Int)) = false by rw [hpop]; rfl, cond_false]; unfold m_spec_l07Next_J2 m_spec_l07Next_J3; simp only [Int.reduceEq, Int.reduceLT, decide_false, decide_true, cond_true, cond_false, Option.bind_some, Bool.not_true, Bool.not_false, Bool.false_and, Bool.true_and]; unfold m_spec_l07Next_J4; simp only [Int.reduceEq, Int.reduceLT, decide_false, decide_true, cond_true, cond_false, Option.bind_some, Bool.not_true, Bool.not_false, Bool.false_and, Bool.true_and]; rw [frontOwn (p := pop) hl hp]
theorem alike_6 (hs : okConfig c = true) (hcl : code.length ≤ 80) (hlt : c.At < code.length) (hx : getI code c.At = some (Instr.mk 6 arg)) (ha : 0 ≤ arg ∧ arg ≤ 79) : Alike code c := by
  obtain ⟨w, ho, hl, ha1, ha2⟩ := okConfig_iff.1 hs
  obtain ⟨hV, hC⟩ := okState_iff.1 ho
  have hI := impl_pre (pop := 1) (push := 0) hl ha1 hlt hcl hx rfl (by decide) (by decide)
  have hS := spec_pre (pop := 1) (push := 0) hs hlt hx rfl rfl (by decide) (by decide)
  have hw : w64 (c.At + 1) = c.At + 1 := w64_eq (by omega)
  unfold Alike
  rw [hI, hS]
  cases hb : decide (c.Stack.length < 1) || (decide ((0 : Int) = 1) && decide (6 < (c.Stack.length : Int) - ((1 : Nat) : Int) + 1)) with
  | true => exact ⟨5, -1, c, rfl, rfl, hs, ⟨fun h => absurd h (by decide), fun _ => rfl⟩⟩
  | false =>
    rw [Bool.or_eq_false_iff] at hb
    have hp : 1 ≤ c.Stack.length := Nat.le_of_not_lt (of_decide_eq_false hb.1)
    rw [cond_false, cond_false]
    obtain ⟨bk, hbk⟩ := backI (p := 1) hl hp
    obtain ⟨t, ht⟩ : ∃ t, c.Stack[c.Stack.length - 1]? = some t := ⟨_, List.getElem?_eq_getElem (by omega)⟩
    have htw := w t (List.mem_of_getElem? ht)
    have htop := topI hl ht
    have ht0 : c.Stack[(w64 ((c.Stack.length : Int) - ((1 : Nat) : Int))).toNat + 0]? = some t := by rw [wpop hl hp, Int.toNat_natCast, show c.Stack.length - 1 + 0 = c.Stack.length - 1 by omega]; exact ht
    by_cases hneg : t < 0
    · refine ⟨0, -1, Config.mk c.State (c.Stack.take (c.Stack.length - 1)) (arg), ?_, ?_, okConfig_iff.2 ⟨fun x hx => w x (List.mem_of_mem_take hx), ho, by simp; omega, by simp only; omega, by simp only; omega⟩, ⟨fun _ => ⟨_, hx, rfl⟩, fun h => absurd rfl h⟩⟩
      · unfold m_impl_Config_step_J0; simp only; rw [hbk, Option.bind_some]; simp only [Int.reduceEq, Int.reduceLT, decide_false, decide_true, cond_true, cond_false, Option.bind_some, Bool.not_true, Bool.not_false, Bool.false_and, Bool.true_and]; rw [ht0, Option.bind_some, decide_eq_true hneg, cond_true, J2_none (r := (((1 : Nat) : Int), 0)) (pop := 1) rfl rfl hl hp]
      · rw [show decide ((Instr.mk 6 arg).Op = 11) = false from rfl, cond_false, show decide ((0 : Int) < ((1 : Nat) : Int)) = true from rfl, cond_true, htop, Option.bind_some]; unfold m_spec_l07Next_J1; rw [show decide ((1 : Int) < ((1 : Nat) : Int)) = false from rfl, cond_false]; unfold m_spec_l07Next_J2 m_spec_l07Next_J3; simp only [Int.reduceEq, Int.reduceLT, decide_false, decide_true, cond_true, cond_false, Option.bind_some, Bool.not_true, Bool.not_false, Bool.false_and, Bool.true_and]; unfold m_spec_l07Next_J4; simp only [Int.reduceEq, Int.reduceLT, decide_false, decide_true, cond_true, cond_false, Option.bind_some, Bool.not_true, Bool.not_false, Bool.false_and, Bool.true_and]; rw [frontOwn (p := 1) hl hp]; rw [decide_eq_true hneg, cond_true]
    · refine ⟨0, -1, Config.mk c.State (c.Stack.take (c.Stack.length - 1)) (c.At + 1), ?_, ?_, okConfig_iff.2 ⟨fun x hx => w x (List.mem_of_mem_take hx), ho, by simp; omega, by simp only; omega, by simp only; omega⟩, ⟨fun _ => ⟨_, hx, rfl⟩, fun h => absurd rfl h⟩⟩
      · unfold m_impl_Config_step_J0; simp only; rw [hbk, Option.bind_some]; simp only [Int.reduceEq, Int.reduceLT, decide_false, decide_true, cond_true, cond_false, Option.bind_some, Bool.not_true, Bool.not_false, Bool.false_and, Bool.true_and]; rw [ht0, Option.bind_some, decide_eq_false hneg, cond_false, J2_none (r := (((1 : Nat) : Int), 0)) (pop := 1) rfl rfl hl hp, hw]
      · rw [show decide ((Instr.mk 6 arg).Op = 11) = false from rfl, cond_false, show decide ((0 : Int) < ((1 : Nat) : Int)) = true from rfl, cond_true, htop, Option.bind_some]; unfold m_spec_l07Next_J1; rw [show decide ((1 : Int) < ((1 : Nat) : Int)) = false from rfl, cond_false]; unfold m_spec_l07Next_J2 m_spec_l07Next_J3; simp only [Int.reduceEq, Int.reduceLT, decide_false, decide_true, cond_true, cond_false, Option.bind_some, Bool.not_true, Bool.not_false, Bool.false_and, Bool.true_and]; unfold m_spec_l07Next_J4; simp only [Int.reduceEq, Int.reduceLT, decide_false, decide_true, cond_true, cond_false, Option.bind_some, Bool.not_true, Bool.not_false, Bool.false_and, Bool.true_and]; rw [frontOwn (p := 1) hl hp]; rw [decide_eq_false hneg, cond_false, hw]
theorem alike_7 (hs : okConfig c = true) (hcl : code.length ≤ 80) (hlt : c.At < code.length) (hx : getI code c.At = some (Instr.mk 7 arg)) (ha : arg = 0) : Alike code c := by
  obtain ⟨w, ho, hl, ha1, ha2⟩ := okConfig_iff.1 hs
  obtain ⟨hV, hC⟩ := okState_iff.1 ho
  have hI := impl_pre (pop := 1) (push := 1) hl ha1 hlt hcl hx rfl (by decide) (by decide)
  have hS := spec_pre (pop := 1) (push := 1) hs hlt hx rfl rfl (by decide) (by decide)
  have hw : w64 (c.At + 1) = c.At + 1 := w64_eq (by omega)
  unfold Alike
  rw [hI, hS]
  cases hb : decide (c.Stack.length < 1) || (decide ((1 : Int) = 1) && decide (6 < (c.Stack.length : Int) - ((1 : Nat) : Int) + 1)) with
  | true => exact ⟨5, -1, c, rfl, rfl, hs, ⟨fun h => absurd h (by decide), fun _ => rfl⟩⟩
  | false =>
    rw [Bool.or_eq_false_iff] at hb
    have hp : 1 ≤ c.Stack.length := Nat.le_of_not_lt (of_decide_eq_false hb.1)
    have hq : (c.Stack.length : Int) - ((1 : Nat) : Int) + 1 ≤ 6 := by have := hb.2; rw [decide_eq_true (show (1 : Int) = 1 from rfl), Bool.true_and] at this; exact Int.not_lt.1 (of_decide_eq_false this)
    rw [cond_false, cond_false]
    obtain ⟨bk, hbk⟩ := backI (p := 1) hl hp
    obtain ⟨t, ht⟩ : ∃ t, c.Stack[c.Stack.length - 1]? = some t := ⟨_, List.getElem?_eq_getElem (by omega)⟩
    have htw := w t (List.mem_of_getElem? ht)
    have htop := topI hl ht
    have ht0 : c.Stack[(w64 ((c.Stack.length : Int) - ((1 : Nat) : Int))).toNat + 0]? = some t := by rw [wpop hl hp, Int.toNat_natCast, show c.Stack.length - 1 + 0 = c.Stack.length - 1 by omega]; exact ht
    have hCe : m_impl_within t 0 7 = some (rng 0 7 t) := rfl
    have hCe2 : m_spec_l03Cell t = some (rng 0 7 t) := rfl
    cases hr : rng 0 7 t with
    | false =>
      refine ⟨2, -1, c, ?_, ?_, hs, ⟨fun h => absurd h (by decide), fun _ => rfl⟩⟩
      · unfold m_impl_Config_step_J0; simp only; rw [hbk, Option.bind_some]; simp only [Int.reduceEq, Int.reduceLT, decide_false, decide_true, cond_true, cond_false, Option.bind_some, Bool.not_true, Bool.not_false, Bool.false_and, Bool.true_and]; unfold m_impl_Config_step_J1; simp only [Int.reduceEq, Int.reduceLT, decide_false, decide_true, cond_true, cond_false, Option.bind_some, Bool.not_true, Bool.not_false, Bool.false_and, Bool.true_and]; rw [ht0, Option.bind_some, hCe, hr, Option.bind_some, Bool.not_false, cond_true]
      · rw [show decide ((Instr.mk 7 arg).Op = 11) = false from rfl, cond_false, show decide ((0 : Int) < ((1 : Nat) : Int)) = true from rfl, cond_true, htop, Option.bind_some]; unfold m_spec_l07Next_J1; rw [show decide ((1 : Int) < ((1 : Nat) : Int)) = false from rfl, cond_false]; unfold m_spec_l07Next_J2 m_spec_l07Next_J3; simp only [Int.reduceEq, Int.reduceLT, decide_false, decide_true, cond_true, cond_false, Option.bind_some, Bool.not_true, Bool.not_false, Bool.false_and, Bool.true_and]; rw [hCe2, hr, Option.bind_some, Bool.not_false, cond_true]
    | true =>
      have htr := rng_iff.1 hr
      obtain ⟨y, hy, hym⟩ := getI_in (xs := c.State.Cells) htr.1 (by have := hC.2; omega)
      have hyr := hC.1 y hym
      refine ⟨0, -1, Config.mk c.State (c.Stack.take (c.Stack.length - 1) ++ [y]) (c.At + 1), ?_, ?_, okConfig_iff.2 ⟨wide_ok (st' := []) w (by omega), ho, by simp; omega, by simp only; omega, by simp only; omega⟩, ⟨fun _ => ⟨_, hx, rfl⟩, fun h => absurd rfl h⟩⟩
      · unfold m_impl_Config_step_J0; simp only; rw [hbk, Option.bind_some]; simp only [Int.reduceEq, Int.reduceLT, decide_false, decide_true, cond_true, cond_false, Option.bind_some, Bool.not_true, Bool.not_false, Bool.false_and, Bool.true_and]; unfold m_impl_Config_step_J1; simp only [Int.reduceEq, Int.reduceLT, decide_false, decide_true, cond_true, cond_false, Option.bind_some, Bool.not_true, Bool.not_false, Bool.false_and, Bool.true_and]; rw [ht0, Option.bind_some, hCe, hr, Option.bind_some, Bool.not_true, cond_false, hy, Option.bind_some, J2_push (r := (((1 : Nat) : Int), 1)) (pop := 1) rfl rfl hl hp, hw]
      · rw [show decide ((Instr.mk 7 arg).Op = 11) = false from rfl, cond_false, show decide ((0 : Int) < ((1 : Nat) : Int)) = true from rfl, cond_true, htop, Option.bind_some]; unfold m_spec_l07Next_J1; rw [show decide ((1 : Int) < ((1 : Nat) : Int)) = false from rfl, cond_false]; unfold m_spec_l07Next_J2 m_spec_l07Next_J3; simp only [Int.reduceEq, Int.reduceLT, decide_false, decide_true, cond_true, cond_false, Option.bind_some, Bool.not_true, Bool.not_false, Bool.false_and, Bool.true_and]; rw [hCe2, hr, Option.bind_some, Bool.not_true, cond_false]; unfold m_spec_l07Next_J4; simp only [Int.reduceEq, Int.reduceLT, decide_false, decide_true, cond_true, cond_false, Option.bind_some, Bool.not_true, Bool.not_false, Bool.false_and, Bool.true_and]; rw [frontOwn (p := 1) hl hp]; rw [hy, Option.bind_some]; rw [capI_some (by simp; omega), Option.bind_some]; rw [hw]
theorem alike_8 (hs : okConfig c = true) (hcl : code.length ≤ 80) (hlt : c.At < code.length) (hx : getI code c.At = some (Instr.mk 8 arg)) (ha : arg = 0) : Alike code c := by
  obtain ⟨w, ho, hl, ha1, ha2⟩ := okConfig_iff.1 hs
  obtain ⟨hV, hC⟩ := okState_iff.1 ho
  have hI := impl_pre (pop := 2) (push := 0) hl ha1 hlt hcl hx rfl (by decide) (by decide)
  have hS := spec_pre (pop := 2) (push := 0) hs hlt hx rfl rfl (by decide) (by decide)
  have hw : w64 (c.At + 1) = c.At + 1 := w64_eq (by omega)
  unfold Alike
  rw [hI, hS]
  cases hb : decide (c.Stack.length < 2) || (decide ((0 : Int) = 1) && decide (6 < (c.Stack.length : Int) - ((2 : Nat) : Int) + 1)) with
  | true => exact ⟨5, -1, c, rfl, rfl, hs, ⟨fun h => absurd h (by decide), fun _ => rfl⟩⟩
  | false =>
    rw [Bool.or_eq_false_iff] at hb
    have hp : 2 ≤ c.Stack.length := Nat.le_of_not_lt (of_decide_eq_false hb.1)
    rw [cond_false, cond_false]
    obtain ⟨bk, hbk⟩ := backI (p := 2) hl hp
    obtain ⟨t, ht⟩ : ∃ t, c.Stack[c.Stack.length - 1]? = some t := ⟨_, List.getElem?_eq_getElem (by omega)⟩
    have htw := w t (List.mem_of_getElem? ht)
    have htop := topI hl ht
    have ht0 : c.Stack[(w64 ((c.Stack.length : Int) - ((2 : Nat) : Int))).toNat + 1]? = some t := by rw [wpop hl hp, Int.toNat_natCast, show c.Stack.length - 2 + 1 = c.Stack.length - 1 by omega]; exact ht
    obtain ⟨u, hu⟩ : ∃ u, c.Stack[c.Stack.length - 2]? = some u := ⟨_, List.getElem?_eq_getElem (by omega)⟩
    have huw := w u (List.mem_of_getElem? hu)
    have hund : getI c.Stack (w64 ((c.Stack.length : Int) - ((2 : Nat) : Int))) = some u := by rw [wpop hl hp]; exact getI_some hu
    have hu0 : c.Stack[(w64 ((c.Stack.length : Int) - ((2 : Nat) : Int))).toNat + 0]? = some u := by rw [wpop hl hp, Int.toNat_natCast]; exact hu
    have hCe : m_impl_within u 0 7 = some (rng 0 7 u) := rfl
    have hCe2 : m_spec_l03Cell u = some (rng 0 7 u) := rfl
    have hInt : m_impl_isInt t = some (rng (-1000000000) 1000000000 t) := rfl
    have hInt2 : m_spec_l03Int t = some (rng (-1000000000) 1000000000 t) := rfl
    cases hr : rng 0 7 u with
    | false =>
      refine ⟨2, -1, c, ?_, ?_, hs, ⟨fun h => absurd h (by decide), fun _ => rfl⟩⟩
      · unfold m_impl_Config_step_J0; simp only; rw [hbk, Option.bind_some]; simp only [Int.reduceEq, Int.reduceLT, decide_false, decide_true, cond_true, cond_false, Option.bind_some, Bool.not_true, Bool.not_false, Bool.false_and, Bool.true_and]; unfold m_impl_Config_step_J1; simp only [Int.reduceEq, Int.reduceLT, decide_false, decide_true, cond_true, cond_false, Option.bind_some, Bool.not_true, Bool.not_false, Bool.false_and, Bool.true_and]; rw [hu0, Option.bind_some, hCe, hr, Option.bind_some, Bool.not_false, cond_true]
      · rw [show decide ((Instr.mk 8 arg).Op = 11) = false from rfl, cond_false, show decide ((0 : Int) < ((2 : Nat) : Int)) = true from rfl, cond_true, htop, Option.bind_some]; unfold m_spec_l07Next_J1; rw [show decide ((1 : Int) < ((2 : Nat) : Int)) = true from rfl, cond_true, hund, Option.bind_some]; unfold m_spec_l07Next_J2 m_spec_l07Next_J3; simp only [Int.reduceEq, Int.reduceLT, decide_false, decide_true, cond_true, cond_false, Option.bind_some, Bool.not_true, Bool.not_false, Bool.false_and, Bool.true_and]; rw [hCe2, hr, Option.bind_some, Bool.not_false, cond_true]
    | true =>
      have htr := rng_iff.1 hr
      obtain ⟨y, hy, hym⟩ := getI_in (xs := c.State.Cells) htr.1 (by have := hC.2; omega)
      cases hr2 : rng (-1000000000) 1000000000 t with
      | false =>
        refine ⟨4, -1, c, ?_, ?_, hs, ⟨fun h => absurd h (by decide), fun _ => rfl⟩⟩
        · unfold m_impl_Config_step_J0; simp only; rw [hbk, Option.bind_some]; simp only [Int.reduceEq, Int.reduceLT, decide_false, decide_true, cond_true, cond_false, Option.bind_some, Bool.not_true, Bool.not_false, Bool.false_and, Bool.true_and]; unfold m_impl_Config_step_J1; simp only [Int.reduceEq, Int.reduceLT, decide_false, decide_true, cond_true, cond_false, Option.bind_some, Bool.not_true, Bool.not_false, Bool.false_and, Bool.true_and]; rw [hu0, Option.bind_some, hCe, hr, Option.bind_some, Bool.not_true, cond_false, ht0, Option.bind_some, hInt, hr2, Option.bind_some, Bool.not_false, cond_true]
        · rw [show decide ((Instr.mk 8 arg).Op = 11) = false from rfl, cond_false, show decide ((0 : Int) < ((2 : Nat) : Int)) = true from rfl, cond_true, htop, Option.bind_some]; unfold m_spec_l07Next_J1; rw [show decide ((1 : Int) < ((2 : Nat) : Int)) = true from rfl, cond_true, hund, Option.bind_some]; unfold m_spec_l07Next_J2 m_spec_l07Next_J3; simp only [Int.reduceEq, Int.reduceLT, decide_false, decide_true, cond_true, cond_false, Option.bind_some, Bool.not_true, Bool.not_false, Bool.false_and, Bool.true_and]; rw [hCe2, hr, Option.bind_some, Bool.not_true, cond_false, hInt2, hr2, Option.bind_some, Bool.not_false, cond_true]
      | true =>
        refine ⟨0, -1, Config.mk (State.mk c.State.Vars (c.State.Cells.set u.toNat t)) (c.Stack.take (c.Stack.length - 2)) (c.At + 1), ?_, ?_, okConfig_iff.2 ⟨fun x hx => w x (List.mem_of_mem_take hx), okState_iff.2 ⟨hV, set_ok hC (rng_iff.1 hr2)⟩, by simp; omega, by simp only; omega, by simp only; omega⟩, ⟨fun _ => ⟨_, hx, rfl⟩, fun h => absurd rfl h⟩⟩
        · unfold m_impl_Config_step_J0; simp only; rw [hbk, Option.bind_some]; simp only [Int.reduceEq, Int.reduceLT, decide_false, decide_true, cond_true, cond_false, Option.bind_some, Bool.not_true, Bool.not_false, Bool.false_and, Bool.true_and]; unfold m_impl_Config_step_J1; simp only [Int.reduceEq, Int.reduceLT, decide_false, decide_true, cond_true, cond_false, Option.bind_some, Bool.not_true, Bool.not_false, Bool.false_and, Bool.true_and]; rw [hu0, Option.bind_some, hCe, hr, Option.bind_some, Bool.not_true, cond_false, ht0, Option.bind_some, hInt, hr2, Option.bind_some, Bool.not_true, cond_false, hy, Option.bind_some, J2_none (r := (((2 : Nat) : Int), 0)) (pop := 2) rfl rfl hl hp, hw]
        · rw [show decide ((Instr.mk 8 arg).Op = 11) = false from rfl, cond_false, show decide ((0 : Int) < ((2 : Nat) : Int)) = true from rfl, cond_true, htop, Option.bind_some]; unfold m_spec_l07Next_J1; rw [show decide ((1 : Int) < ((2 : Nat) : Int)) = true from rfl, cond_true, hund, Option.bind_some]; unfold m_spec_l07Next_J2 m_spec_l07Next_J3; simp only [Int.reduceEq, Int.reduceLT, decide_false, decide_true, cond_true, cond_false, Option.bind_some, Bool.not_true, Bool.not_false, Bool.false_and, Bool.true_and]; rw [hCe2, hr, Option.bind_some, Bool.not_true, cond_false, hInt2, hr2, Option.bind_some, Bool.not_true, cond_false]; unfold m_spec_l07Next_J4; simp only [Int.reduceEq, Int.reduceLT, decide_false, decide_true, cond_true, cond_false, Option.bind_some, Bool.not_true, Bool.not_false, Bool.false_and, Bool.true_and]; rw [frontOwn (p := 2) hl hp]; rw [hy, Option.bind_some, hw]
theorem alike_9 (hs : okConfig c = true) (hcl : code.length ≤ 80) (hlt : c.At < code.length) (hx : getI code c.At = some (Instr.mk 9 arg)) (ha : 0 ≤ arg ∧ arg ≤ 3) : Alike code c := by
  obtain ⟨pop, hpop⟩ : ∃ p : Nat, p = 0 := ⟨0, rfl⟩
  obtain ⟨w, ho, hl, ha1, ha2⟩ := okConfig_iff.1 hs
  obtain ⟨hV, hC⟩ := okState_iff.1 ho
  have hI := impl_pre (pop := pop) (push := 0) hl ha1 hlt hcl hx (by rw [hpop]; rfl) (by decide) (by omega)
  have hS := spec_pre (pop := pop) (push := 0) hs hlt hx (by rw [hpop]; rfl) rfl (by decide) (by omega)
  have hw : w64 (c.At + 1) = c.At + 1 := w64_eq (by omega)
  unfold Alike
  rw [hI, hS]
  cases hb : decide (c.Stack.length < pop) || (decide ((0 : Int) = 1) && decide (6 < (c.Stack.length : Int) - (pop : Int) + 1)) with
  | true => exact ⟨5, -1, c, rfl, rfl, hs, ⟨fun h => absurd h (by decide), fun _ => rfl⟩⟩
  | false =>
    rw [Bool.or_eq_false_iff] at hb
    have hp : pop ≤ c.Stack.length := Nat.le_of_not_lt (of_decide_eq_false hb.1)
    rw [cond_false, cond_false]
    obtain ⟨bk, hbk⟩ := backI (p := pop) hl hp
    refine ⟨0, arg, Config.mk c.State (c.Stack.take (c.Stack.length - pop)) (c.At + 1), ?_, ?_, okConfig_iff.2 ⟨fun x hx => w x (List.mem_of_mem_take hx), ho, by simp; omega, by simp only; omega, by simp only; omega⟩, ⟨fun _ => ⟨_, hx, rfl⟩, fun h => absurd rfl h⟩⟩
    · rw [show m_impl_Config_step_J0 c (Instr.mk 9 arg) ((pop : Int), 0) () = (sliceI c.Stack (w64 ((c.Stack.length : Int) - (pop : Int))) (c.Stack.length : Int)).bind fun _ => m_impl_Config_step_J2 c ((pop : Int), 0) (c.State.Vars, c.State.Cells, w64 (c.At + 1), arg, 0, true) from rfl, hbk, Option.bind_some]; rw [J2_none (r := ((pop : Int), 0)) (pop := pop) rfl rfl hl hp, hw]
    · rw [show decide ((Instr.mk 9 arg).Op = 11) = false from rfl, cond_false, show decide ((0 : Int) < (pop : Int)) = false by rw [hpop]; rfl, cond_false]; unfold m_spec_l07Next_J1; rw [show decide ((1 : Int) < (pop : Int)) = false by rw [hpop]; rfl, cond_false]; unfold m_spec_l07Next_J2 m_spec_l07Next_J3; simp only [Int.reduceEq, Int.reduceLT, decide_false, decide_true, cond_true, cond_false, Option.bind_some, Bool.not_true, Bool.not_false, Bool.false_and, Bool.true_and]; unfold m_spec_l07Next_J4; simp only [Int.reduceEq, Int.reduceLT, decide_false, decide_true, cond_true, cond_false, Option.bind_some, Bool.not_true, Bool.not_false, Bool.false_and, Bool.true_and]; rw [frontOwn (p := pop) hl hp]; rw [hw]
theorem alike_10 (hs : okConfig c = true) (hcl : code.length ≤ 80) (hlt : c.At < code.length) (hx : getI code c.At = some (Instr.mk 10 arg)) (ha : arg = 0) : Alike code c := by
  obtain ⟨w, ho, hl, ha1, ha2⟩ := okConfig_iff.1 hs
  obtain ⟨hV, hC⟩ := okState_iff.1 ho
  have hI := impl_pre (pop := 1) (push := 0) hl ha1 hlt hcl hx rfl (by decide) (by decide)
  have hS := spec_pre (pop := 1) (push := 0) hs hlt hx rfl rfl (by decide) (by decide)
  have hw : w64 (c.At + 1) = c.At + 1 := w64_eq (by omega)
  unfold Alike
  rw [hI, hS]
  cases hb : decide (c.Stack.length < 1) || (decide ((0 : Int) = 1) && decide (6 < (c.Stack.length : Int) - ((1 : Nat) : Int) + 1)) with
  | true => exact ⟨5, -1, c, rfl, rfl, hs, ⟨fun h => absurd h (by decide), fun _ => rfl⟩⟩
  | false =>
    rw [Bool.or_eq_false_iff] at hb
    have hp : 1 ≤ c.Stack.length := Nat.le_of_not_lt (of_decide_eq_false hb.1)
    rw [cond_false, cond_false]
    obtain ⟨bk, hbk⟩ := backI (p := 1) hl hp
    obtain ⟨t, ht⟩ : ∃ t, c.Stack[c.Stack.length - 1]? = some t := ⟨_, List.getElem?_eq_getElem (by omega)⟩
    have htw := w t (List.mem_of_getElem? ht)
    have htop := topI hl ht
    have ht0 : c.Stack[(w64 ((c.Stack.length : Int) - ((1 : Nat) : Int))).toNat + 0]? = some t := by rw [wpop hl hp, Int.toNat_natCast, show c.Stack.length - 1 + 0 = c.Stack.length - 1 by omega]; exact ht
    by_cases hneg : t < 0
    · refine ⟨3, -1, c, ?_, ?_, hs, ⟨fun h => absurd h (by decide), fun _ => rfl⟩⟩
      · unfold m_impl_Config_step_J0; simp only; rw [hbk, Option.bind_some]; simp only [Int.reduceEq, Int.reduceLT, decide_false, decide_true, cond_true, cond_false, Option.bind_some, Bool.not_true, Bool.not_false, Bool.false_and, Bool.true_and]; unfold m_impl_Config_step_J1; simp only [Int.reduceEq, Int.reduceLT, decide_false, decide_true, cond_true, cond_false, Option.bind_some, Bool.not_true, Bool.not_false, Bool.false_and, Bool.true_and]; rw [ht0, Option.bind_some, decide_eq_true hneg, cond_true]
      · rw [show decide ((Instr.mk 10 arg).Op = 11) = false from rfl, cond_false, show decide ((0 : Int) < ((1 : Nat) : Int)) = true from rfl, cond_true, htop, Option.bind_some]; unfold m_spec_l07Next_J1; rw [show decide ((1 : Int) < ((1 : Nat) : Int)) = false from rfl, cond_false]; unfold m_spec_l07Next_J2 m_spec_l07Next_J3; simp only [Int.reduceEq, Int.reduceLT, decide_false, decide_true, cond_true, cond_false, Option.bind_some, Bool.not_true, Bool.not_false, Bool.false_and, Bool.true_and]; unfold m_spec_l07Next_J4; simp only [Int.reduceEq, Int.reduceLT, decide_false, decide_true, cond_true, cond_false, Option.bind_some, Bool.not_true, Bool.not_false, Bool.false_and, Bool.true_and]; rw [decide_eq_true hneg, cond_true]
    · refine ⟨0, -1, Config.mk c.State (c.Stack.take (c.Stack.length - 1)) (c.At + 1), ?_, ?_, okConfig_iff.2 ⟨fun x hx => w x (List.mem_of_mem_take hx), ho, by simp; omega, by simp only; omega, by simp only; omega⟩, ⟨fun _ => ⟨_, hx, rfl⟩, fun h => absurd rfl h⟩⟩
      · unfold m_impl_Config_step_J0; simp only; rw [hbk, Option.bind_some]; simp only [Int.reduceEq, Int.reduceLT, decide_false, decide_true, cond_true, cond_false, Option.bind_some, Bool.not_true, Bool.not_false, Bool.false_and, Bool.true_and]; unfold m_impl_Config_step_J1; simp only [Int.reduceEq, Int.reduceLT, decide_false, decide_true, cond_true, cond_false, Option.bind_some, Bool.not_true, Bool.not_false, Bool.false_and, Bool.true_and]; rw [ht0, Option.bind_some, decide_eq_false hneg, cond_false, J2_none (r := (((1 : Nat) : Int), 0)) (pop := 1) rfl rfl hl hp, hw]
      · rw [show decide ((Instr.mk 10 arg).Op = 11) = false from rfl, cond_false, show decide ((0 : Int) < ((1 : Nat) : Int)) = true from rfl, cond_true, htop, Option.bind_some]; unfold m_spec_l07Next_J1; rw [show decide ((1 : Int) < ((1 : Nat) : Int)) = false from rfl, cond_false]; unfold m_spec_l07Next_J2 m_spec_l07Next_J3; simp only [Int.reduceEq, Int.reduceLT, decide_false, decide_true, cond_true, cond_false, Option.bind_some, Bool.not_true, Bool.not_false, Bool.false_and, Bool.true_and]; unfold m_spec_l07Next_J4; simp only [Int.reduceEq, Int.reduceLT, decide_false, decide_true, cond_true, cond_false, Option.bind_some, Bool.not_true, Bool.not_false, Bool.false_and, Bool.true_and]; rw [decide_eq_false hneg, cond_false, frontOwn (p := 1) hl hp, hw]
theorem alike_11 (hs : okConfig c = true) (hcl : code.length ≤ 80) (hlt : c.At < code.length) (hx : getI code c.At = some (Instr.mk 11 arg)) (ha : arg = 0) : Alike code c := by
  obtain ⟨pop, hpop⟩ : ∃ p : Nat, p = 0 := ⟨0, rfl⟩
  obtain ⟨w, ho, hl, ha1, ha2⟩ := okConfig_iff.1 hs
  obtain ⟨hV, hC⟩ := okState_iff.1 ho
  have hI := impl_pre (pop := pop) (push := 0) hl ha1 hlt hcl hx (by rw [hpop]; rfl) (by decide) (by omega)
  have hS := spec_pre (pop := pop) (push := 0) hs hlt hx (by rw [hpop]; rfl) rfl (by decide) (by omega)
  have hw : w64 (c.At + 1) = c.At + 1 := w64_eq (by omega)
  unfold Alike
  rw [hI, hS]
  cases hb : decide (c.Stack.length < pop) || (decide ((0 : Int) = 1) && decide (6 < (c.Stack.length : Int) - (pop : Int) + 1)) with
  | true => exact ⟨5, -1, c, rfl, rfl, hs, ⟨fun h => absurd h (by decide), fun _ => rfl⟩⟩
  | false =>
    rw [Bool.or_eq_false_iff] at hb
    have hp : pop ≤ c.Stack.length := Nat.le_of_not_lt (of_decide_eq_false hb.1)
    rw [cond_false, cond_false]
    obtain ⟨bk, hbk⟩ := backI (p := pop) hl hp
    refine ⟨6, -1, c, ?_, ?_, hs, ⟨fun h => absurd h (by decide), fun _ => rfl⟩⟩
    · unfold m_impl_Config_step_J0; simp only; rw [hbk, Option.bind_some]; simp only [Int.reduceEq, Int.reduceLT, decide_false, decide_true, cond_true, cond_false, Option.bind_some, Bool.not_true, Bool.not_false, Bool.false_and, Bool.true_and]
    · rw [show decide ((Instr.mk 11 arg).Op = 11) = true from rfl, cond_true]
end
end Go.Mod

namespace Go.Mod
open Go.AM
set_option linter.unusedVariables false
set_option linter.unusedSimpArgs false
theorem okInstr_cases {x : Instr} (h : okInstr x = true) :
    (x.Op = 0 ∧ -1000000 ≤ x.Arg ∧ x.Arg ≤ 1000000) ∨ (x.Op = 1 ∧ 0 ≤ x.Arg ∧ x.Arg ≤ 3) ∨ (x.Op = 2 ∧ 0 ≤ x.Arg ∧ x.Arg ≤ 3) ∨ (x.Op = 3 ∧ x.Arg = 0) ∨ (x.Op = 4 ∧ -1000000 ≤ x.Arg ∧ x.Arg ≤ 1000000) ∨
    (x.Op = 5 ∧ 0 ≤ x.Arg ∧ x.Arg ≤ 79) ∨ (x.Op = 6 ∧ 0 ≤ x.Arg ∧ x.Arg ≤ 79) ∨ (x.Op = 7 ∧ x.Arg = 0) ∨ (x.Op = 8 ∧ x.Arg = 0) ∨ (x.Op = 9 ∧ 0 ≤ x.Arg ∧ x.Arg ≤ 3) ∨ (x.Op = 10 ∧ x.Arg = 0) ∨ (x.Op = 11 ∧ x.Arg = 0) := by
  unfold okInstr at h
  cases h1 : (decide (x.Op = 0) || decide (x.Op = 4)) with
  | true =>
    rw [h1, cond_true, rng_iff] at h; simp only [Bool.or_eq_true, decide_eq_true_eq] at h1
    rcases h1 with g | g
    · exact .inl ⟨g, h⟩
    · exact .inr (.inr (.inr (.inr (.inl ⟨g, h⟩))))
  | false =>
    rw [h1, cond_false] at h
    cases h2 : (decide (x.Op = 1) || decide (x.Op = 2)) with
    | true =>
      rw [h2, cond_true, rng_iff] at h; simp only [Bool.or_eq_true, decide_eq_true_eq] at h2
      rcases h2 with g | g
      · exact .inr (.inl ⟨g, h⟩)
      · exact .inr (.inr (.inl ⟨g, h⟩))
    | false =>
      rw [h2, cond_false] at h
      cases h3 : (decide (x.Op = 5) || decide (x.Op = 6)) with
      | true =>
        rw [h3, cond_true, rng_iff] at h; simp only [Bool.or_eq_true, decide_eq_true_eq] at h3
        rcases h3 with g | g
        · exact .inr (.inr (.inr (.inr (.inr (.inl ⟨g, h⟩)))))
        · exact .inr (.inr (.inr (.inr (.inr (.inr (.inl ⟨g, h⟩))))))
      | false =>
        rw [h3, cond_false] at h
        cases h4 : decide (x.Op = 9) with
        | true => rw [h4, cond_true, rng_iff] at h; have g := of_decide_eq_true h4; exact .inr (.inr (.inr (.inr (.inr (.inr (.inr (.inr (.inr (.inl ⟨g, h⟩)))))))))
        | false =>
          rw [h4, cond_false] at h
          cases h5 : (decide (x.Op = 3) || decide (x.Op = 7) || decide (x.Op = 8) || decide (x.Op = 10) || decide (x.Op = 11)) with
          | true =>
            rw [h5, cond_true] at h; simp only [Bool.or_eq_true, decide_eq_true_eq] at h5 h
            rcases h5 with (((g | g) | g) | g) | g
            · exact .inr (.inr (.inr (.inl ⟨g, h⟩)))
            · exact .inr (.inr (.inr (.inr (.inr (.inr (.inr (.inl ⟨g, h⟩)))))))
            · exact .inr (.inr (.inr (.inr (.inr (.inr (.inr (.inr (.inl ⟨g, h⟩))))))))
            · exact .inr (.inr (.inr (.inr (.inr (.inr (.inr (.inr (.inr (.inr (.inl ⟨g, h⟩))))))))))
            · exact .inr (.inr (.inr (.inr (.inr (.inr (.inr (.inr (.inr (.inr (.inr (⟨g, h⟩)))))))))))
          | false => rw [h5] at h; cases h
theorem okCode_iff {code : List Instr} : okCode code = true ↔ (∀ x ∈ code, okInstr x = true) ∧ 1 ≤ code.length ∧ code.length ≤ 80 := by
  unfold okCode
  simp only [Bool.and_eq_true, List.all_eq_true, rng_iff]
  exact ⟨fun ⟨a, b, c⟩ => ⟨a, by omega, by omega⟩, fun ⟨a, b, c⟩ => ⟨a, by omega, by omega⟩⟩
theorem getI_in' {α : Type} {xs : List α} {i : Int} (h0 : 0 ≤ i) (h1 : i < xs.length) : ∃ x, getI xs i = some x ∧ x ∈ xs := by
  obtain ⟨n, rfl⟩ := Int.eq_ofNat_of_zero_le h0
  have hn : n < xs.length := by omega
  exact ⟨xs[n], getI_some (List.getElem?_eq_getElem hn), List.getElem_mem hn⟩
theorem step_alike {code : List Instr} {c : Config} (hc : okCode code = true) (hs : okConfig c = true) : Alike code c := by
  obtain ⟨ca, c1, c80⟩ := okCode_iff.1 hc
  obtain ⟨w, ho, hl, ha1, ha2⟩ := okConfig_iff.1 hs
  by_cases hlt : c.At < code.length
  · obtain ⟨⟨op, arg⟩, hx, hm⟩ := getI_in' ha1 hlt
    have hop := okInstr_cases (ca _ hm)
    simp only at hop
    rcases hop with ⟨rfl, h⟩ | ⟨rfl, h⟩ | ⟨rfl, h⟩ | ⟨rfl, h⟩ | ⟨rfl, h⟩ | ⟨rfl, h⟩ | ⟨rfl, h⟩ | ⟨rfl, h⟩ | ⟨rfl, h⟩ | ⟨rfl, h⟩ | ⟨rfl, h⟩ | ⟨rfl, h⟩
    · exact alike_0 hs c80 hlt hx h
    · exact alike_1 hs c80 hlt hx h
    · exact alike_2 hs c80 hlt hx h
    · exact alike_3 hs c80 hlt hx h
    · exact alike_4 hs c80 hlt hx h
    · exact alike_5 hs c80 hlt hx h
    · exact alike_6 hs c80 hlt hx h
    · exact alike_7 hs c80 hlt hx h
    · exact alike_8 hs c80 hlt hx h
    · exact alike_9 hs c80 hlt hx h
    · exact alike_10 hs c80 hlt hx h
    · exact alike_11 hs c80 hlt hx h
  · obtain ⟨⟨_, v4⟩, ⟨_, c8⟩⟩ := okState_iff.1 ho
    refine ⟨5, -1, c, ?_, ?_, hs, fun h => absurd h (by decide), fun _ => rfl⟩
    · unfold m_impl_Config_step
      have hidx : m_impl_isIndex c.At (code.length : Int) = some false := by
        unfold m_impl_isIndex m_impl_within m_impl_size
        simp only [Option.bind_some]
        rw [w64_eq (by omega), decide_eq_true ha1, decide_eq_false (by omega)]; rfl
      rw [hidx]; rfl
    · unfold m_spec_l07Next m_spec_l03Own
      rw [spec_own (by omega), Option.bind_some, spec_own (by omega), Option.bind_some, Option.bind_some, spec_own (by omega), Option.bind_some]
      unfold m_spec_l07Next_J0
      rw [decide_eq_true (by omega)]; rfl
theorem w64_decN {n : Nat} (h : n ≤ 2000) : w64 (((n + 1 : Nat) : Int) - 1) = (n : Int) := by rw [w64_eq (by omega)]; omega
theorem run_alike {code : List Instr} (hc : okCode code = true) : ∀ (n i : Nat) (V C S : List Int) (A : Int) (E K : List Int), n + i ≤ 2000 → E.length ≤ i → K.length = code.length →
    okConfig (Config.mk (State.mk V C) S A) = true →
    ∃ V' C' S' A' E' K' o, iter (m_impl_ran_L0 code) ((n : Int), V, C, S, A, E, K) = some (V', C', S', A', E', K', o) ∧
      iter (m_spec_l07Run_L0 code ((n + i : Nat) : Int)) (V, C, S, A, E, K, (i : Int)) = some (V', C', E', o, K') ∧ V'.length = 4 ∧ C'.length = 8 ∧ E'.length ≤ 2000 ∧ K'.length = code.length := by
  obtain ⟨ca, c1, c80⟩ := okCode_iff.1 hc
  intro n
  induction n with
  | zero =>
    intro i V C S A E K hn hE hK hs
    obtain ⟨w, ho, hl, ha1, ha2⟩ := okConfig_iff.1 hs
    obtain ⟨⟨_, v4⟩, ⟨_, c8⟩⟩ := okState_iff.1 ho
    refine ⟨V, C, S, A, E, K, 1, iter_out ?_, iter_out ?_, v4, c8, by omega, hK⟩
    · unfold m_impl_ran_L0; rfl
    · unfold m_spec_l07Run_L0; rw [Nat.zero_add, decide_eq_true rfl]; rfl
  | succ n ih =>
    intro i V C S A E K hn hE hK hs
    obtain ⟨out, ev, c', e1, e2, e3, e4, e5⟩ := step_alike hc hs
    by_cases h0 : out = 0
    · subst h0
      obtain ⟨x, hx, hev⟩ := e4 rfl
      obtain ⟨w, ho, hl, ha1, ha2⟩ := okConfig_iff.1 hs
      simp only at hx ha1
      have hlt := getI_lt hx
      obtain ⟨a, rfl⟩ := Int.eq_ofNat_of_zero_le ha1
      rw [Int.toNat_natCast] at hlt
      have hxa := List.getElem?_eq_getElem (l := K) (i := a) (by omega)
      have hxm : x ∈ code := List.mem_of_getElem? (getI_spec hx).2
      have hI : ∀ E', m_impl_ran_L0 code (((n + 1 : Nat) : Int), V, C, S, (a : Int), E, K) = some (.next ((n : Int), c'.State.Vars, c'.State.Cells, c'.Stack, c'.At, E', K.set a (w64 (K[a]'(by omega) + 1)))) ∧
          m_spec_l07Run_L0 code ((n + 1 + i : Nat) : Int) (V, C, S, (a : Int), E, K, (i : Int)) = some (.next (c'.State.Vars, c'.State.Cells, c'.Stack, c'.At, E', K.set a (w64 (K[a]'(by omega) + 1)), ((i + 1 : Nat) : Int))) → E'.length ≤ i + 1 →
          ∃ V' C' S' A' E' K' o, iter (m_impl_ran_L0 code) (((n + 1 : Nat) : Int), V, C, S, (a : Int), E, K) = some (V', C', S', A', E', K', o) ∧
            iter (m_spec_l07Run_L0 code ((n + 1 + i : Nat) : Int)) (V, C, S, (a : Int), E, K, (i : Int)) = some (V', C', E', o, K') ∧ V'.length = 4 ∧ C'.length = 8 ∧ E'.length ≤ 2000 ∧ K'.length = code.length := by
        rintro E' ⟨g1, g2⟩ hE'
        rw [iter_next g1, iter_next g2, show n + 1 + i = n + (i + 1) by omega]
        exact ih (i + 1) _ _ _ _ _ _ (by omega) hE' (by simpa using hK) e3
      by_cases h9 : x.Op = 9
      · rw [if_pos h9] at hev
        have h03 : 0 ≤ x.Arg := by
          have := okInstr_cases (ca _ hxm)
          omega
        refine hI (E ++ [x.Arg]) ⟨?_, ?_⟩ (by simp; omega)
        · unfold m_impl_ran_L0
          simp only
          rw [decide_eq_false (by omega), cond_false, e1, Option.bind_some]
          simp only
          rw [show decide ((0 : Int) = 6) = false from rfl, cond_false, decide_true, Bool.not_true, cond_false, getI_some hxa, Option.bind_some, hev, decide_eq_true h03, cond_true, capI_some (by simp; omega), Option.bind_some]; simp only [w64_decN (show n ≤ 2000 by omega), Int.toNat_natCast]
        · unfold m_spec_l07Run_L0
          simp only
          rw [decide_eq_false (by omega), cond_false, e2, Option.bind_some]
          simp only
          rw [show decide ((0 : Int) = 6) = false from rfl, cond_false, decide_true, Bool.not_true, cond_false, getI_some hxa, Option.bind_some, hx, Option.bind_some, decide_eq_true h9, cond_true, capI_some (by simp; omega), Option.bind_some]; simp only [w64_succ (show i < 9223372036854775807 by omega), Int.toNat_natCast]
      · rw [if_neg h9] at hev
        refine hI E ⟨?_, ?_⟩ (by omega)
        · unfold m_impl_ran_L0
          simp only
          rw [decide_eq_false (by omega), cond_false, e1, Option.bind_some]
          simp only
          rw [show decide ((0 : Int) = 6) = false from rfl, cond_false, decide_true, Bool.not_true, cond_false, getI_some hxa, Option.bind_some, hev, show decide ((0 : Int) ≤ -1) = false from rfl, cond_false]; simp only [w64_decN (show n ≤ 2000 by omega), Int.toNat_natCast]
        · unfold m_spec_l07Run_L0
          simp only
          rw [decide_eq_false (by omega), cond_false, e2, Option.bind_some]
          simp only
          rw [show decide ((0 : Int) = 6) = false from rfl, cond_false, decide_true, Bool.not_true, cond_false, getI_some hxa, Option.bind_some, hx, Option.bind_some, decide_eq_false h9, cond_false]; simp only [w64_succ (show i < 9223372036854775807 by omega), Int.toNat_natCast]
    · obtain rfl := e5 h0
      obtain ⟨w, ho, hl, ha1, ha2⟩ := okConfig_iff.1 hs
      obtain ⟨⟨_, v4⟩, ⟨_, c8⟩⟩ := okState_iff.1 ho
      by_cases h6 : out = 6
      · subst h6
        refine ⟨V, C, S, A, E, K, 0, iter_out ?_, iter_out ?_, v4, c8, by omega, hK⟩
        · unfold m_impl_ran_L0
          simp only
          rw [decide_eq_false (by omega), cond_false, e1]; rfl
        · unfold m_spec_l07Run_L0
          simp only
          rw [decide_eq_false (by omega), cond_false, e2]; rfl
      · refine ⟨V, C, S, A, E, K, out, iter_out ?_, iter_out ?_, v4, c8, by omega, hK⟩
        · unfold m_impl_ran_L0
          simp only
          rw [decide_eq_false (by omega), cond_false, e1, Option.bind_some]
          simp only
          rw [decide_eq_false h6, cond_false, decide_eq_false h0]; rfl
        · unfold m_spec_l07Run_L0
          simp only
          rw [decide_eq_false (by omega), cond_false, e2, Option.bind_some]
          simp only
          rw [decide_eq_false h6, cond_false, decide_eq_false h0]; rfl
theorem runs_alike {code : List Instr} {s : State} {f : Int} (hc : okCode code = true) (hs : okState s = true) (hf : 0 ≤ f ∧ f ≤ 2000) :
    ∃ c E K o, m_impl_ran code s f = some (runs.mk c E K o, true) ∧ m_spec_l07Run code s f = some (c.State, E, o, K) ∧ c.State.Vars.length = 4 ∧ c.State.Cells.length = 8 ∧ E.length ≤ 2000 ∧ K.length ≤ 80 := by
  obtain ⟨ca, c1, c80⟩ := okCode_iff.1 hc
  obtain ⟨⟨_, v4⟩, ⟨_, c8⟩⟩ := okState_iff.1 hs
  obtain ⟨n, rfl⟩ := Int.eq_ofNat_of_zero_le hf.1
  obtain ⟨V, C, S, A, E, K, o, e1, e2, b1, b2, b3, b4⟩ := run_alike hc n 0 s.Vars s.Cells [] 0 [] (List.replicate code.length 0) (by omega) (by simp) (by simp)
    (okConfig_iff.2 ⟨by simp, hs, by simp, Int.le_refl 0, (by decide : (0 : Int) ≤ 80)⟩)
  refine ⟨⟨⟨V, C⟩, S, A⟩, E, K, o, ?_, ?_, b1, b2, b3, by omega⟩
  · unfold m_impl_ran
    rw [impl_code, hc, Option.bind_some, Bool.not_true, cond_false, impl_state, hs, Option.bind_some, Bool.not_true, cond_false]
    rw [show m_impl_within (n : Int) 0 2000 = some (rng 0 2000 n) from rfl, rng_iff.2 hf, Option.bind_some, Bool.not_true, cond_false]
    unfold m_impl_State_own
    rw [impl_copy (by omega), Option.bind_some, impl_copy (by omega), Option.bind_some, Option.bind_some, makeI_some (by omega), Option.bind_some]
    unfold m_impl_ran_J0
    simp only
    rw [e1]; rfl
  · unfold m_spec_l07Run m_spec_l03Own
    rw [spec_own (by omega), Option.bind_some, spec_own (by omega), Option.bind_some, Option.bind_some, makeI_some (by omega), Option.bind_some]
    simp only
    rw [show ((0 : Int)) = ((0 : Nat) : Int) from rfl]
    rw [show (n : Int) = ((n + 0 : Nat) : Int) from rfl]
    simp only [Nat.add_zero] at e2 ⊢
    rw [show ((0 : Nat) : Int) = (0 : Int) from rfl] at e2 ⊢
    rw [e2]; rfl
theorem spec_fuel (f : Int) : m_spec_l03Fuel f = some (rng 0 2000 f) := rfl
theorem same_CountCode (p0 : List Instr) (p1 : State) (p2 : Int) (k0 : kLa_Instr p0) (k1 : k_State p1) (k2 : k_i64 p2) (h0 : pc_InstrS p0 ≤ 1048576) (h1 : pc_State p1 ≤ 1048576) :
    ∃ r, m_spec_CountCode p0 p1 p2 = some r ∧ m_impl_CountCode p0 p1 p2 = some r ∧ pc_Int64S r.1 ≤ 1048576 := by
  have l0 : p0.length ≤ 1048576 := h0
  have l1 : p1.Vars.length + p1.Cells.length ≤ 1048576 := h1
  unfold m_spec_CountCode m_impl_CountCode
  rw [spec_code l0, Option.bind_some]
  cases hc : okCode p0 with
  | false => exact ⟨_, rfl, by unfold m_impl_ran; rw [impl_code, hc]; rfl, by decide⟩
  | true =>
    rw [Bool.not_true, cond_false, spec_state (by omega) (by omega), Option.bind_some]
    cases hs : okState p1 with
    | false => exact ⟨_, rfl, by unfold m_impl_ran; rw [impl_code, hc, impl_state, hs]; rfl, by decide⟩
    | true =>
      rw [Bool.not_true, cond_false, spec_fuel, Option.bind_some]
      cases hf : rng 0 2000 p2 with
      | false => exact ⟨_, rfl, by unfold m_impl_ran; rw [impl_code, hc, impl_state, hs, show m_impl_within p2 0 2000 = some (rng 0 2000 p2) from rfl, hf]; rfl, by decide⟩
      | true =>
        obtain ⟨c, E, K, o, e1, e2, b1, b2, b3, b4⟩ := runs_alike hc hs (rng_iff.1 hf)
        refine ⟨(K, true), ?_, ?_, ?_⟩
        · rw [Bool.not_true, cond_false, e2]; rfl
        · rw [e1]; rfl
        · unfold pc_Int64S; simp only; omega
end Go.Mod

namespace Go.Mod
open Go.AM
set_option linter.unusedVariables false
set_option linter.unusedSimpArgs false
theorem law_CountCode {p0 : List Instr} {p1 : State} {p2 : Int} (k0 : kLa_Instr p0) (k1 : k_State p1) (k2 : k_i64 p2) : m_laws_FnExactCountCode p0 p1 p2 = some true := by
  unfold m_laws_FnExactCountCode
  rw [show (1048576 : Int) = ((1048576 : Nat) : Int) from rfl]
  rw [pz_InstrS k0 _ (by omega), Option.bind_some]
  by_cases h0 : pc_InstrS p0 ≤ 1048576
  · rw [szOut_ok h0, dec_neg, cond_false]
    rw [pz_State k1 _ (by omega), Option.bind_some]
    by_cases h1 : pc_State p1 ≤ 1048576 - pc_InstrS p0
    · rw [szOut_ok h1, dec_neg, cond_false]
      obtain ⟨⟨r0_, r1_⟩, e1, e2, b0⟩ := same_CountCode p0 p1 p2 k0 k1 k2 (show pc_InstrS p0 ≤ 1048576 by omega) (show pc_State p1 ≤ 1048576 by omega)
      have q0 := pq_InstrS_le p0
      have q1 := pq_State_le p1
      have qr0 := pq_Int64S_le r0_
      try simp only at b0 qr0
      obtain ⟨am0_0, m0, -⟩ := pm_InstrS (show pc_InstrS p0 ≤ 1048576 by omega) (k := 1) (by omega)
      replace m0 : m_laws_markInstrS p0 1 = _ := m0
      obtain ⟨am1_0, am1_1, m1, -⟩ := pm_State (show pc_State p1 ≤ 1048576 by omega) (k := 1 + pq_InstrS p0) (by omega)
      obtain ⟨rm0_0, mr0, gr0⟩ := pm_Int64S (show pc_Int64S r0_ ≤ 1048576 by omega) (k := 1) (by omega)
      replace mr0 : m_laws_markInt64S r0_ 1 = _ := mr0
      replace gr0 : m_laws_heldInt64S _ 1 = _ := gr0
      simp only [Option.bind_some, cond_false, cond_true, dec_neg, e1, e2, decide_true, bool_beq, Bool.not_true, Bool.or_false, Bool.false_eq_true, pt_InstrS (show pc_InstrS p0 ≤ 1048576 by omega), pe_InstrS (show pc_InstrS p0 ≤ 1048576 by omega), pt_State (show pc_State p1 ≤ 1048576 by omega), pe_State (show pc_State p1 ≤ 1048576 by omega), m0, m1, pe_Int64S (show pc_Int64S r0_ ≤ 1048576 by omega), mr0, gr0]
    · rw [szOut_no h1]; rfl
  · rw [szOut_no h0]; rfl
end Go.Mod
