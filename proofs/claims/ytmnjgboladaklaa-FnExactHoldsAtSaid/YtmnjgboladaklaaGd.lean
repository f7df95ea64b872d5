import Derived.Test.YtmnjgboladaklaaGc
namespace Go.Mod
open Go.AM
set_option linter.unusedVariables false
structure Term where
  Const : Int
  Coeffs : List Int
  deriving DecidableEq, Inhabited
structure Stmt where
  Kind : Int
  Var : Int
  Event : Int
  Sum : Term
  Index : Term
  Facts : List Term
  deriving DecidableEq, Inhabited
structure Program where
  Pre : List Term
  Body : List Stmt
  Post : List Term
  deriving DecidableEq, Inhabited
inductive Ptree where
  | nil
  | mk (f0 : Stmt) (f1 : Int) (f2 : List Ptree)
instance : Inhabited Ptree := ⟨.nil⟩
structure tree where
  Stmt : Stmt
  at_ : Int
  kids : List Ptree
  deriving Inhabited
def un_tree : Ptree → Option tree
  | .nil => none
  | .mk f0 f1 f2 => some ⟨f0, f1, f2⟩
def re_tree (t : tree) : Ptree := .mk t.Stmt t.at_ t.kids
structure Path where
  From : Int
  To : Int
  Facts : List Term
  Ends : List Term
  Events : List Int
  deriving DecidableEq, Inhabited
structure Sequent where
  Facts : List Term
  Goal : Term
  deriving DecidableEq, Inhabited
structure gather where
  post : List Term
  starts : List (List Term)
  paths : List Path
  conds : List Sequent
  failed : Bool
  deriving DecidableEq, Inhabited
inductive Prest where
  | nil
  | mk (f0 : Ptree) (f1 : Int) (f2 : Prest)
instance : Inhabited Prest := ⟨.nil⟩
structure rest where
  node : Ptree
  loop : Int
  next : Prest
  deriving Inhabited
def un_rest : Prest → Option rest
  | .nil => none
  | .mk f0 f1 f2 => some ⟨f0, f1, f2⟩
def re_rest (t : rest) : Prest := .mk t.node t.loop t.next
structure plan where
  gather : gather
  body : Ptree
  loops : List Ptree
  behind : List Prest
  number : List (Int × Int)
  deriving Inhabited
structure State where
  Vars : List Int
  Cells : List Int
  deriving DecidableEq, Inhabited
structure l00Src where
  code : List Int
  at_ : Int
  seed : Int
  deriving DecidableEq, Inhabited
structure Instr where
  Op : Int
  Arg : Int
  deriving DecidableEq, Inhabited
structure Point where
  At : Int
  Facts : List Term
  deriving DecidableEq, Inhabited
structure compiling where
  code : List Instr
  points : List Point
  from_ : List Int
  to : List Int
  deriving DecidableEq, Inhabited
structure Annotated where
  Pre : List Term
  Post : List Term
  Code : List Instr
  Points : List Point
  deriving DecidableEq, Inhabited
structure l09Maker where
  body : List Stmt
  code : List Instr
  begin : List Int
  end_ : List Int
  heads : List Point
  deriving DecidableEq, Inhabited
def k_i64 (x : Int) : Prop := -9223372036854775808 ≤ x ∧ x ≤ 9223372036854775807
def kLa_i64 (x : List Int) : Prop := x.length ≤ 9223372036854775807 ∧ ∀ y ∈ x, k_i64 y
def k_Term (x : Term) : Prop := k_i64 x.Const ∧ kLa_i64 x.Coeffs
def kLa_Term (x : List Term) : Prop := x.length ≤ 9223372036854775807 ∧ ∀ y ∈ x, k_Term y
def k_Stmt (x : Stmt) : Prop := k_i64 x.Kind ∧ k_i64 x.Var ∧ k_i64 x.Event ∧ k_Term x.Sum ∧ k_Term x.Index ∧ kLa_Term x.Facts
def kLa_Stmt (x : List Stmt) : Prop := x.length ≤ 9223372036854775807 ∧ ∀ y ∈ x, k_Stmt y
def k_Program (x : Program) : Prop := kLa_Term x.Pre ∧ kLa_Stmt x.Body ∧ kLa_Term x.Post
def k_State (x : State) : Prop := kLa_i64 x.Vars ∧ kLa_i64 x.Cells
noncomputable def m_laws_szInt64S (p0 : List Int) (p1 : Int) : Option Int :=
  bif (decide ((w64 (p1 - (p0.length : Int))) < (0 : Int))) then
    some (-1 : Int)
  else
    some (w64 (p1 - (p0.length : Int)))
noncomputable def m_laws_szTerm (p0 : Term) (p1 : Int) : Option Int :=
  (m_laws_szInt64S p0.Coeffs p1).bind fun (r8 : Int) =>
  bif (decide (r8 < (0 : Int))) then
    some (-1 : Int)
  else
    some r8
noncomputable def m_laws_szTermS_L0 (p0 : List Term) (s0 : Int × Int) : Option (Ctl (Int × Int) (Int ⊕ Int)) :=
  bif (decide (s0.2 < (p0.length : Int))) then
    (getI p0 s0.2).bind fun (x20 : Term) =>
    (m_laws_szTerm x20 s0.1).bind fun (r23 : Int) =>
    bif (decide (r23 < (0 : Int))) then
      some (.out (.inr (-1 : Int)))
    else
      some (.next (r23, (w64 (s0.2 + (1 : Int)))))
  else
    some (.out (.inl s0.1))
noncomputable def m_laws_szTermS_A0 (u0 : Int ⊕ Int) : Option Int :=
  match u0 with
  | .inl u0 =>
    some u0
  | .inr u0 =>
    some u0
noncomputable def m_laws_szTermS (p0 : List Term) (p1 : Int) : Option Int :=
  bif (decide ((w64 (p1 - (p0.length : Int))) < (0 : Int))) then
    some (-1 : Int)
  else
    (iter (m_laws_szTermS_L0 p0) ((w64 (p1 - (p0.length : Int))), (0 : Int))).bind fun (u0 : Int ⊕ Int) =>
    m_laws_szTermS_A0 u0
noncomputable def m_laws_szStmt (p0 : Stmt) (p1 : Int) : Option Int :=
  (m_laws_szTerm p0.Sum p1).bind fun (r8 : Int) =>
  bif (decide (r8 < (0 : Int))) then
    some (-1 : Int)
  else
    (m_laws_szTerm p0.Index r8).bind fun (r14 : Int) =>
    bif (decide (r14 < (0 : Int))) then
      some (-1 : Int)
    else
      (m_laws_szTermS p0.Facts r14).bind fun (r20 : Int) =>
      bif (decide (r20 < (0 : Int))) then
        some (-1 : Int)
      else
        some r20
noncomputable def m_laws_szStmtS_L0 (p0 : List Stmt) (s0 : Int × Int) : Option (Ctl (Int × Int) (Int ⊕ Int)) :=
  bif (decide (s0.2 < (p0.length : Int))) then
    (getI p0 s0.2).bind fun (x20 : Stmt) =>
    (m_laws_szStmt x20 s0.1).bind fun (r23 : Int) =>
    bif (decide (r23 < (0 : Int))) then
      some (.out (.inr (-1 : Int)))
    else
      some (.next (r23, (w64 (s0.2 + (1 : Int)))))
  else
    some (.out (.inl s0.1))
noncomputable def m_laws_szStmtS_A0 (u0 : Int ⊕ Int) : Option Int :=
  match u0 with
  | .inl u0 =>
    some u0
  | .inr u0 =>
    some u0
noncomputable def m_laws_szStmtS (p0 : List Stmt) (p1 : Int) : Option Int :=
  bif (decide ((w64 (p1 - (p0.length : Int))) < (0 : Int))) then
    some (-1 : Int)
  else
    (iter (m_laws_szStmtS_L0 p0) ((w64 (p1 - (p0.length : Int))), (0 : Int))).bind fun (u0 : Int ⊕ Int) =>
    m_laws_szStmtS_A0 u0
noncomputable def m_laws_szProgram (p0 : Program) (p1 : Int) : Option Int :=
  (m_laws_szTermS p0.Pre p1).bind fun (r8 : Int) =>
  bif (decide (r8 < (0 : Int))) then
    some (-1 : Int)
  else
    (m_laws_szStmtS p0.Body r8).bind fun (r14 : Int) =>
    bif (decide (r14 < (0 : Int))) then
      some (-1 : Int)
    else
      (m_laws_szTermS p0.Post r14).bind fun (r20 : Int) =>
      bif (decide (r20 < (0 : Int))) then
        some (-1 : Int)
      else
        some r20
noncomputable def m_laws_toInt64S_L0 (p0 : List Int) (s0 : (List Int) × Int) : Option (Ctl ((List Int) × Int) ((List Int))) :=
  bif (decide (s0.2 < (p0.length : Int))) then
    (getI p0 s0.2).bind fun (x18 : Int) =>
    (getI s0.1 s0.2).bind fun (x20 : Int) =>
    some (.next ((s0.1.set ((s0.2).toNat) x18), (w64 (s0.2 + (1 : Int)))))
  else
    some (.out s0.1)
noncomputable def m_laws_toInt64S_A0 (u0 : (List Int)) : Option (List Int) :=
  some u0
noncomputable def m_laws_toInt64S (p0 : List Int) : Option (List Int) :=
  (makeI (p0.length : Int) 8).bind fun (k7 : Nat) =>
  (iter (m_laws_toInt64S_L0 p0) ((List.replicate k7 (0 : Int)), (0 : Int))).bind fun (u0 : (List Int)) =>
  m_laws_toInt64S_A0 u0
noncomputable def m_laws_toTerm (p0 : Term) : Option Term :=
  (m_laws_toInt64S p0.Coeffs).bind fun (r9 : List Int) =>
  some (Term.mk p0.Const r9)
noncomputable def m_laws_toTermS_L0 (p0 : List Term) (s0 : (List Term) × Int) : Option (Ctl ((List Term) × Int) ((List Term))) :=
  bif (decide (s0.2 < (p0.length : Int))) then
    (getI p0 s0.2).bind fun (x18 : Term) =>
    (m_laws_toTerm x18).bind fun (r20 : Term) =>
    (getI s0.1 s0.2).bind fun (x21 : Term) =>
    some (.next ((s0.1.set ((s0.2).toNat) r20), (w64 (s0.2 + (1 : Int)))))
  else
    some (.out s0.1)
noncomputable def m_laws_toTermS_A0 (u0 : (List Term)) : Option (List Term) :=
  some u0
noncomputable def m_laws_toTermS (p0 : List Term) : Option (List Term) :=
  (makeI (p0.length : Int) 32).bind fun (k7 : Nat) =>
  (iter (m_laws_toTermS_L0 p0) ((List.replicate k7 (Term.mk (0 : Int) ([] : List Int))), (0 : Int))).bind fun (u0 : (List Term)) =>
  m_laws_toTermS_A0 u0
noncomputable def m_laws_toStmt (p0 : Stmt) : Option Stmt :=
  (m_laws_toTerm p0.Sum).bind fun (r15 : Term) =>
  (m_laws_toTerm p0.Index).bind fun (r19 : Term) =>
  (m_laws_toTermS p0.Facts).bind fun (r23 : List Term) =>
  some (Stmt.mk p0.Kind p0.Var p0.Event r15 r19 r23)
noncomputable def m_laws_toStmtS_L0 (p0 : List Stmt) (s0 : (List Stmt) × Int) : Option (Ctl ((List Stmt) × Int) ((List Stmt))) :=
  bif (decide (s0.2 < (p0.length : Int))) then
    (getI p0 s0.2).bind fun (x18 : Stmt) =>
    (m_laws_toStmt x18).bind fun (r20 : Stmt) =>
    (getI s0.1 s0.2).bind fun (x21 : Stmt) =>
    some (.next ((s0.1.set ((s0.2).toNat) r20), (w64 (s0.2 + (1 : Int)))))
  else
    some (.out s0.1)
noncomputable def m_laws_toStmtS_A0 (u0 : (List Stmt)) : Option (List Stmt) :=
  some u0
noncomputable def m_laws_toStmtS (p0 : List Stmt) : Option (List Stmt) :=
  (makeI (p0.length : Int) 112).bind fun (k7 : Nat) =>
  (iter (m_laws_toStmtS_L0 p0) ((List.replicate k7 (Stmt.mk (0 : Int) (0 : Int) (0 : Int) (Term.mk (0 : Int) ([] : List Int)) (Term.mk (0 : Int) ([] : List Int)) ([] : List Term))), (0 : Int))).bind fun (u0 : (List Stmt)) =>
  m_laws_toStmtS_A0 u0
noncomputable def m_laws_toProgram (p0 : Program) : Option Program :=
  (m_laws_toTermS p0.Pre).bind fun (r6 : List Term) =>
  (m_laws_toStmtS p0.Body).bind fun (r10 : List Stmt) =>
  (m_laws_toTermS p0.Post).bind fun (r14 : List Term) =>
  some (Program.mk r6 r10 r14)
noncomputable def m_spec_l00In (p0 : Int) (p1 : Int) (p2 : Int) : Option Bool :=
  some ((decide (p1 ≤ p0)) && (decide (p0 ≤ p2)))
noncomputable def m_spec_l02Number (p0 : Int) : Option Bool :=
  (m_spec_l00In p0 (-1000000 : Int) (1000000 : Int)).bind fun (r4 : Bool) =>
  some r4
noncomputable def m_spec_l02Is_L0 (p0 : Term) (s0 : Int) : Option (Ctl Int (Unit ⊕ Bool)) :=
  bif (decide (s0 < (p0.Coeffs.length : Int))) then
    (getI p0.Coeffs s0).bind fun (x45 : Int) =>
    (m_spec_l02Number x45).bind fun (r47 : Bool) =>
    bif (!r47) then
      some (.out (.inr false))
    else
      some (.next (w64 (s0 + (1 : Int))))
  else
    some (.out (.inl ()))
noncomputable def m_spec_l02Is_A0 (u0 : Unit ⊕ Bool) : Option Bool :=
  match u0 with
  | .inl u0 =>
    some true
  | .inr u0 =>
    some u0
noncomputable def m_spec_l02Is_J0 (p0 : Term) (j0 : Unit) : Option Bool :=
  (iter (m_spec_l02Is_L0 p0) (0 : Int)).bind fun (u0 : Unit ⊕ Bool) =>
  m_spec_l02Is_A0 u0
noncomputable def m_spec_l02Is (p0 : Term) : Option Bool :=
  (m_spec_l02Number p0.Const).bind fun (r14 : Bool) =>
  bif ((!r14) || (decide ((10 : Int) < (p0.Coeffs.length : Int)))) then
    some false
  else
    bif (decide ((0 : Int) < (p0.Coeffs.length : Int))) then
      (getI p0.Coeffs (w64 ((p0.Coeffs.length : Int) - (1 : Int)))).bind fun (x30 : Int) =>
      bif (decide (x30 = (0 : Int))) then
        some false
      else
        m_spec_l02Is_J0 p0 ()
    else
      m_spec_l02Is_J0 p0 ()
noncomputable def m_spec_l03Term (p0 : Term) : Option Bool :=
  (m_spec_l02Is p0).bind fun (r4 : Bool) =>
  some (r4 && (decide ((p0.Coeffs.length : Int) ≤ (4 : Int))))
noncomputable def m_spec_l03Terms_L0 (p0 : List Term) (s0 : Int) : Option (Ctl Int (Unit ⊕ Bool)) :=
  bif (decide (s0 < (p0.length : Int))) then
    (getI p0 s0).bind fun (x14 : Term) =>
    (m_spec_l03Term x14).bind fun (r15 : Bool) =>
    bif (!r15) then
      some (.out (.inr false))
    else
      some (.next (w64 (s0 + (1 : Int))))
  else
    some (.out (.inl ()))
noncomputable def m_spec_l03Terms_A0 (p0 : List Term) (p1 : Int) (u0 : Unit ⊕ Bool) : Option Bool :=
  match u0 with
  | .inl u0 =>
    some (decide ((p0.length : Int) ≤ p1))
  | .inr u0 =>
    some u0
noncomputable def m_spec_l03Terms (p0 : List Term) (p1 : Int) : Option Bool :=
  (iter (m_spec_l03Terms_L0 p0) (0 : Int)).bind fun (u0 : Unit ⊕ Bool) =>
  m_spec_l03Terms_A0 p0 p1 u0
noncomputable def m_spec_l05Zero (p0 : Term) : Option Bool :=
  some ((decide (p0.Const = (0 : Int))) && (decide ((p0.Coeffs.length : Int) = (0 : Int))))
noncomputable def m_spec_l03Stmt_J1 (p0 : Stmt) (j1 : Unit) : Option Bool :=
  bif (decide (p0.Kind = (5 : Int))) then
    (m_spec_l00In p0.Event (0 : Int) (3 : Int)).bind fun (r155 : Bool) =>
    some r155
  else
    some (decide (p0.Event = (0 : Int)))
noncomputable def m_spec_l03Stmt_J0 (p0 : Stmt) (j0 : Unit) : Option Bool :=
  bif ((decide (p0.Kind = (2 : Int))) || (decide (p0.Kind = (3 : Int)))) then
    (m_spec_l00In p0.Var (0 : Int) (3 : Int)).bind fun (r132 : Bool) =>
    bif (!r132) then
      some false
    else
      bif (!((decide (p0.Kind = (2 : Int))) || (decide (p0.Kind = (3 : Int))))) then
        bif (!decide (p0.Var = (0 : Int))) then
          some false
        else
          m_spec_l03Stmt_J1 p0 ()
      else
        m_spec_l03Stmt_J1 p0 ()
  else
    bif (!((decide (p0.Kind = (2 : Int))) || (decide (p0.Kind = (3 : Int))))) then
      bif (!decide (p0.Var = (0 : Int))) then
        some false
      else
        m_spec_l03Stmt_J1 p0 ()
    else
      m_spec_l03Stmt_J1 p0 ()
noncomputable def m_spec_l03Stmt (p0 : Stmt) : Option Bool :=
  (m_spec_l00In p0.Kind (0 : Int) (8 : Int)).bind fun (r67 : Bool) =>
  bif (!r67) then
    some false
  else
    (m_spec_l03Term p0.Sum).bind fun (r73 : Bool) =>
    bif (!r73) then
      some false
    else
      (m_spec_l03Term p0.Index).bind fun (r80 : Bool) =>
      bif (!r80) then
        some false
      else
        (m_spec_l03Terms p0.Facts (6 : Int)).bind fun (r88 : Bool) =>
        bif (!r88) then
          some false
        else
          bif (!(((((decide (p0.Kind = (2 : Int))) || (decide (p0.Kind = (4 : Int)))) || (decide (p0.Kind = (6 : Int)))) || (decide (p0.Kind = (7 : Int)))) || (decide (p0.Kind = (8 : Int))))) then
            (m_spec_l05Zero p0.Sum).bind fun (r97 : Bool) =>
            bif (!r97) then
              some false
            else
              bif (!((decide (p0.Kind = (3 : Int))) || (decide (p0.Kind = (4 : Int))))) then
                (m_spec_l05Zero p0.Index).bind fun (r107 : Bool) =>
                bif (!r107) then
                  some false
                else
                  bif (!decide (p0.Kind = (8 : Int))) then
                    bif (decide ((0 : Int) < (p0.Facts.length : Int))) then
                      some false
                    else
                      m_spec_l03Stmt_J0 p0 ()
                  else
                    m_spec_l03Stmt_J0 p0 ()
              else
                bif (!decide (p0.Kind = (8 : Int))) then
                  bif (decide ((0 : Int) < (p0.Facts.length : Int))) then
                    some false
                  else
                    m_spec_l03Stmt_J0 p0 ()
                else
                  m_spec_l03Stmt_J0 p0 ()
          else
            bif (!((decide (p0.Kind = (3 : Int))) || (decide (p0.Kind = (4 : Int))))) then
              (m_spec_l05Zero p0.Index).bind fun (r107 : Bool) =>
              bif (!r107) then
                some false
              else
                bif (!decide (p0.Kind = (8 : Int))) then
                  bif (decide ((0 : Int) < (p0.Facts.length : Int))) then
                    some false
                  else
                    m_spec_l03Stmt_J0 p0 ()
                else
                  m_spec_l03Stmt_J0 p0 ()
            else
              bif (!decide (p0.Kind = (8 : Int))) then
                bif (decide ((0 : Int) < (p0.Facts.length : Int))) then
                  some false
                else
                  m_spec_l03Stmt_J0 p0 ()
              else
                m_spec_l03Stmt_J0 p0 ()
noncomputable def m_spec_l03Below_J0 (p0 : Int) (j0 : Bool) : Option Int :=
  bif j0 then
    some (2 : Int)
  else
    bif (decide (p0 = (8 : Int))) then
      some (1 : Int)
    else
      some (0 : Int)
noncomputable def m_spec_l03Below (p0 : Int) : Option Int :=
  bif (decide (p0 = (1 : Int))) then
    m_spec_l03Below_J0 p0 (decide (p0 = (1 : Int)))
  else
    m_spec_l03Below_J0 p0 (decide (p0 = (7 : Int)))
noncomputable def m_spec_l03End_L0 (p0 : List Stmt) (s0 : Int × Int) : Option (Ctl (Int × Int) (Int ⊕ Int)) :=
  bif (decide ((0 : Int) < s0.2)) then
    bif (decide (s0.1 = (p0.length : Int))) then
      some (.out (.inr (-1 : Int)))
    else
      (getI p0 s0.1).bind fun (x15 : Stmt) =>
      (m_spec_l03Below x15.Kind).bind fun (r18 : Int) =>
      some (.next ((w64 (s0.1 + (1 : Int))), (w64 (s0.2 + (w64 (r18 - (1 : Int)))))))
  else
    some (.out (.inl s0.1))
noncomputable def m_spec_l03End_A0 (u0 : Int ⊕ Int) : Option Int :=
  match u0 with
  | .inl u0 =>
    some u0
  | .inr u0 =>
    some u0
noncomputable def m_spec_l03End (p0 : List Stmt) (p1 : Int) : Option Int :=
  (iter (m_spec_l03End_L0 p0) (p1, (1 : Int))).bind fun (u0 : Int ⊕ Int) =>
  m_spec_l03End_A0 u0
noncomputable def m_spec_l03Body_L0 (p0 : List Stmt) (s0 : Int) : Option (Ctl Int (Unit ⊕ Bool)) :=
  bif (decide (s0 < (p0.length : Int))) then
    (getI p0 s0).bind fun (x16 : Stmt) =>
    (m_spec_l03Stmt x16).bind fun (r17 : Bool) =>
    bif (!r17) then
      some (.out (.inr false))
    else
      some (.next (w64 (s0 + (1 : Int))))
  else
    some (.out (.inl ()))
noncomputable def m_spec_l03Body_A0 (p0 : List Stmt) (u0 : Unit ⊕ Bool) : Option Bool :=
  match u0 with
  | .inl u0 =>
    (m_spec_l03End p0 (0 : Int)).bind fun (r20 : Int) =>
    some (decide (r20 = (p0.length : Int)))
  | .inr u0 =>
    some u0
noncomputable def m_spec_l03Body (p0 : List Stmt) : Option Bool :=
  (m_spec_l00In (p0.length : Int) (1 : Int) (30 : Int)).bind fun (r6 : Bool) =>
  bif (!r6) then
    some false
  else
    (iter (m_spec_l03Body_L0 p0) (0 : Int)).bind fun (u0 : Unit ⊕ Bool) =>
    m_spec_l03Body_A0 p0 u0
noncomputable def m_spec_l03Is (p0 : Program) : Option Bool :=
  (m_spec_l03Terms p0.Pre (6 : Int)).bind fun (r7 : Bool) =>
  bif r7 then
    (m_spec_l03Body p0.Body).bind fun (r13 : Bool) =>
    bif r13 then
      (m_spec_l03Terms p0.Post (6 : Int)).bind fun (r20 : Bool) =>
      some r20
    else
      some false
  else
    some false
noncomputable def m_spec_l04Loops_L0 (p0 : Program) (s0 : (List Int) × Int) : Option (Ctl ((List Int) × Int) ((List Int))) :=
  bif (decide (s0.2 < (p0.Body.length : Int))) then
    (getI p0.Body s0.2).bind fun (x20 : Stmt) =>
    bif (decide (x20.Kind = (8 : Int))) then
      (capI (s0.1.length + [s0.2].length) 8).bind fun (q27 : Unit) =>
      some (.next ((s0.1 ++ [s0.2]), (w64 (s0.2 + (1 : Int)))))
    else
      some (.next (s0.1, (w64 (s0.2 + (1 : Int)))))
  else
    some (.out s0.1)
noncomputable def m_spec_l04Loops_A0 (u0 : (List Int)) : Option (List Int) :=
  some u0
noncomputable def m_spec_l04Loops (p0 : Program) : Option (List Int) :=
  (iter (m_spec_l04Loops_L0 p0) (([] : List Int), (0 : Int))).bind fun (u0 : (List Int)) =>
  m_spec_l04Loops_A0 u0
noncomputable def m_impl_Term_isZero (p0 : Term) : Option Bool :=
  some ((decide (p0.Const = (0 : Int))) && (decide ((p0.Coeffs.length : Int) = (0 : Int))))
noncomputable def m_impl_within (p0 : Int) (p1 : Int) (p2 : Int) : Option Bool :=
  some ((decide (p1 ≤ p0)) && (decide (p0 ≤ p2)))
noncomputable def m_impl_isVar (p0 : Int) : Option Bool :=
  (m_impl_within p0 (0 : Int) (3 : Int)).bind fun (r4 : Bool) =>
  some r4
noncomputable def m_impl_isCoeff (p0 : Int) : Option Bool :=
  (m_impl_within p0 (-1000000 : Int) (1000000 : Int)).bind fun (r4 : Bool) =>
  some r4
noncomputable def m_impl_allWithin_L0 (p1 : Int) (p2 : Int) (n0 : Nat) (x0 : Int) (s0 : Unit) : Option (Ctl Unit (Unit ⊕ Bool)) :=
  (m_impl_within x0 p1 p2).bind fun (r18 : Bool) =>
  bif (!r18) then
    some (.out (.inr false))
  else
    some (.next ())
noncomputable def m_impl_allWithin_A0 (u0 : Unit ⊕ Bool) : Option Bool :=
  match u0 with
  | .inl u0 =>
    some true
  | .inr u0 =>
    some u0
noncomputable def m_impl_allWithin (p0 : List Int) (p1 : Int) (p2 : Int) : Option Bool :=
  (forL (m_impl_allWithin_L0 p1 p2) (fun s0 => (.inl ())) 0 p0 ()).bind fun (u0 : Unit ⊕ Bool) =>
  m_impl_allWithin_A0 u0
noncomputable def m_impl_ValidTerm (p0 : Term) : Option Bool :=
  bif (decide ((p0.Coeffs.length : Int) ≤ (10 : Int))) then
    (m_impl_isCoeff p0.Const).bind fun (r12 : Bool) =>
    bif r12 then
      (m_impl_allWithin p0.Coeffs (-1000000 : Int) (1000000 : Int)).bind fun (r17 : Bool) =>
      bif r17 then
        bif (decide ((p0.Coeffs.length : Int) = (0 : Int))) then
          some true
        else
          (getI p0.Coeffs (w64 ((p0.Coeffs.length : Int) - (1 : Int)))).bind fun (x27 : Int) =>
          some (!decide (x27 = (0 : Int)))
      else
        some false
    else
      some false
  else
    some false
noncomputable def m_impl_isOver (p0 : Term) : Option Bool :=
  (m_impl_ValidTerm p0).bind fun (r4 : Bool) =>
  some (r4 && (decide ((p0.Coeffs.length : Int) ≤ (4 : Int))))
noncomputable def m_impl_isEvent (p0 : Int) : Option Bool :=
  (m_impl_within p0 (0 : Int) (3 : Int)).bind fun (r4 : Bool) =>
  some r4
noncomputable def m_impl_areOver_1 (p0 : Term) : Option Bool :=
  (m_impl_isOver p0).bind fun (r4 : Bool) =>
  some (!r4)
noncomputable def m_slices_IndexFunc_impl_Term_impl_Term_fareOver_1_L0 (n0 : Nat) (x0 : Term) (s0 : Unit) : Option (Ctl Unit (Unit ⊕ Int)) :=
  (m_impl_areOver_1 x0).bind fun (r16 : Bool) =>
  bif r16 then
    some (.out (.inr (n0 : Int)))
  else
    some (.next ())
noncomputable def m_slices_IndexFunc_impl_Term_impl_Term_fareOver_1_A0 (u0 : Unit ⊕ Int) : Option Int :=
  match u0 with
  | .inl u0 =>
    some (-1 : Int)
  | .inr u0 =>
    some u0
noncomputable def m_slices_IndexFunc_impl_Term_impl_Term_fareOver_1 (p0 : List Term) : Option Int :=
  (forL (m_slices_IndexFunc_impl_Term_impl_Term_fareOver_1_L0) (fun s0 => (.inl ())) 0 p0 ()).bind fun (u0 : Unit ⊕ Int) =>
  m_slices_IndexFunc_impl_Term_impl_Term_fareOver_1_A0 u0
noncomputable def m_slices_ContainsFunc_impl_Term_impl_Term_fareOver_1 (p0 : List Term) : Option Bool :=
  (m_slices_IndexFunc_impl_Term_impl_Term_fareOver_1 p0).bind fun (r7 : Int) =>
  some (decide ((0 : Int) ≤ r7))
noncomputable def m_impl_areOver (p0 : List Term) (p1 : Int) : Option Bool :=
  bif (decide ((p0.length : Int) ≤ p1)) then
    (m_slices_ContainsFunc_impl_Term_impl_Term_fareOver_1 p0).bind fun (r11 : Bool) =>
    some (!r11)
  else
    some false
noncomputable def m_impl_kidsOf (p0 : Stmt) : Option Int :=
  (m_impl_Term_isZero p0.Sum).bind fun (r17 : Bool) =>
  (m_impl_Term_isZero p0.Index).bind fun (r20 : Bool) =>
  bif (decide (p0.Kind = (0 : Int))) then
    bif (((((decide (p0.Var = (0 : Int))) && (decide (p0.Event = (0 : Int)))) && r17) && r20) && (decide ((p0.Facts.length : Int) = (0 : Int)))) then
      some (0 : Int)
    else
      some (-1 : Int)
  else
    bif (decide (p0.Kind = (1 : Int))) then
      bif (((((decide (p0.Var = (0 : Int))) && (decide (p0.Event = (0 : Int)))) && r17) && r20) && (decide ((p0.Facts.length : Int) = (0 : Int)))) then
        some (2 : Int)
      else
        some (-1 : Int)
    else
      bif (decide (p0.Kind = (2 : Int))) then
        (m_impl_isVar p0.Var).bind fun (r61 : Bool) =>
        bif (r61 && (decide (p0.Event = (0 : Int)))) then
          (m_impl_isOver p0.Sum).bind fun (r68 : Bool) =>
          bif ((r68 && r20) && (decide ((p0.Facts.length : Int) = (0 : Int)))) then
            some (0 : Int)
          else
            some (-1 : Int)
        else
          some (-1 : Int)
      else
        bif (decide (p0.Kind = (3 : Int))) then
          (m_impl_isVar p0.Var).bind fun (r80 : Bool) =>
          bif ((r80 && (decide (p0.Event = (0 : Int)))) && r17) then
            (m_impl_isOver p0.Index).bind fun (r90 : Bool) =>
            bif (r90 && (decide ((p0.Facts.length : Int) = (0 : Int)))) then
              some (0 : Int)
            else
              some (-1 : Int)
          else
            some (-1 : Int)
        else
          bif (decide (p0.Kind = (4 : Int))) then
            bif ((decide (p0.Var = (0 : Int))) && (decide (p0.Event = (0 : Int)))) then
              (m_impl_isOver p0.Sum).bind fun (r104 : Bool) =>
              bif r104 then
                (m_impl_isOver p0.Index).bind fun (r109 : Bool) =>
                bif (r109 && (decide ((p0.Facts.length : Int) = (0 : Int)))) then
                  some (0 : Int)
                else
                  some (-1 : Int)
              else
                some (-1 : Int)
            else
              some (-1 : Int)
          else
            bif (decide (p0.Kind = (5 : Int))) then
              bif (decide (p0.Var = (0 : Int))) then
                (m_impl_isEvent p0.Event).bind fun (r120 : Bool) =>
                bif (((r120 && r17) && r20) && (decide ((p0.Facts.length : Int) = (0 : Int)))) then
                  some (0 : Int)
                else
                  some (-1 : Int)
              else
                some (-1 : Int)
            else
              bif (decide (p0.Kind = (6 : Int))) then
                bif ((decide (p0.Var = (0 : Int))) && (decide (p0.Event = (0 : Int)))) then
                  (m_impl_isOver p0.Sum).bind fun (r140 : Bool) =>
                  bif ((r140 && r20) && (decide ((p0.Facts.length : Int) = (0 : Int)))) then
                    some (0 : Int)
                  else
                    some (-1 : Int)
                else
                  some (-1 : Int)
              else
                bif (decide (p0.Kind = (7 : Int))) then
                  bif ((decide (p0.Var = (0 : Int))) && (decide (p0.Event = (0 : Int)))) then
                    (m_impl_isOver p0.Sum).bind fun (r157 : Bool) =>
                    bif ((r157 && r20) && (decide ((p0.Facts.length : Int) = (0 : Int)))) then
                      some (2 : Int)
                    else
                      some (-1 : Int)
                  else
                    some (-1 : Int)
                else
                  bif (decide (p0.Kind = (8 : Int))) then
                    bif ((decide (p0.Var = (0 : Int))) && (decide (p0.Event = (0 : Int)))) then
                      (m_impl_isOver p0.Sum).bind fun (r174 : Bool) =>
                      bif (r174 && r20) then
                        (m_impl_areOver p0.Facts (6 : Int)).bind fun (r182 : Bool) =>
                        bif r182 then
                          some (1 : Int)
                        else
                          some (-1 : Int)
                      else
                        some (-1 : Int)
                    else
                      some (-1 : Int)
                  else
                    some (-1 : Int)
noncomputable def m_impl_treeAt_F_L0 (rec_impl_treeAt : (List Stmt) → Int → Option (Ptree × Int × Bool)) (p0 : List Stmt) (s0 : Int × Int × (List Ptree)) : Option (Ctl (Int × Int × (List Ptree)) ((Int × (List Ptree)) ⊕ (Ptree × Int × Bool))) :=
  bif (decide ((0 : Int) < s0.2.1)) then
    (rec_impl_treeAt p0 s0.1).bind fun (r39 : Ptree × Int × Bool) =>
    bif (!r39.2.2) then
      some (.out (.inr ((.nil : Ptree), (0 : Int), false)))
    else
      (capI (s0.2.2.length + [r39.1].length) 8).bind fun (q52 : Unit) =>
      some (.next (r39.2.1, (w64 (s0.2.1 - (1 : Int))), (s0.2.2 ++ [r39.1])))
  else
    some (.out (.inl (s0.1, s0.2.2)))
noncomputable def m_impl_treeAt_F_A0 (p1 : Int) (x18 : Stmt) (u0 : (Int × (List Ptree)) ⊕ (Ptree × Int × Bool)) : Option (Ptree × Int × Bool) :=
  match u0 with
  | .inl u0 =>
    some ((re_tree (tree.mk x18 p1 u0.2)), u0.1, true)
  | .inr u0 =>
    some (u0.1, u0.2.1, u0.2.2)
noncomputable def m_impl_treeAt_F (rec_impl_treeAt : (List Stmt) → Int → Option (Ptree × Int × Bool)) (p0 : List Stmt) (p1 : Int) : Option (Ptree × Int × Bool) :=
  bif (decide ((p0.length : Int) ≤ p1)) then
    some ((.nil : Ptree), (0 : Int), false)
  else
    (getI p0 p1).bind fun (x18 : Stmt) =>
    (m_impl_kidsOf x18).bind fun (r20 : Int) =>
    bif (decide (r20 < (0 : Int))) then
      some ((.nil : Ptree), (0 : Int), false)
    else
      (iter (m_impl_treeAt_F_L0 rec_impl_treeAt p0) ((w64 (p1 + (1 : Int))), r20, ([] : List Ptree))).bind fun (u0 : (Int × (List Ptree)) ⊕ (Ptree × Int × Bool)) =>
      m_impl_treeAt_F_A0 p1 x18 u0
noncomputable def m_impl_treeAt : Nat → (List Stmt) → Int → Option (Ptree × Int × Bool)
  | 0, _, _ => none
  | n + 1, p0, p1 => m_impl_treeAt_F (m_impl_treeAt n) p0 p1
noncomputable def m_impl_treeOf (p0 : List Stmt) : Option (Ptree × Bool) :=
  bif (decide ((30 : Int) < (p0.length : Int))) then
    some ((.nil : Ptree), false)
  else
    (m_impl_treeAt 1000 p0 (0 : Int)).bind fun (r12 : Ptree × Int × Bool) =>
    some (r12.1, (r12.2.2 && (decide (r12.2.1 = (p0.length : Int)))))
noncomputable def m_impl_IsBody (p0 : List Stmt) : Option Bool :=
  (m_impl_treeOf p0).bind fun (r7 : Ptree × Bool) =>
  some r7.2
noncomputable def m_impl_ValidProgram (p0 : Program) : Option Bool :=
  (m_impl_IsBody p0.Body).bind fun (r5 : Bool) =>
  bif r5 then
    (m_impl_areOver p0.Pre (6 : Int)).bind fun (r9 : Bool) =>
    bif r9 then
      (m_impl_areOver p0.Post (6 : Int)).bind fun (r14 : Bool) =>
      some r14
    else
      some false
  else
    some false
noncomputable def m_impl_size (p0 : Int) : Option Int :=
  some p0
noncomputable def m_impl_plan_find_F_J0 (rec_impl_plan_find : plan → Ptree → Prest → Option plan) (p2 : Prest) (o7 : tree) (j0 : (List Term) × (List (List Term)) × (List Path) × (List Sequent) × Bool × Ptree × (List Ptree) × (List Prest) × (List (Int × Int))) : Option plan :=
  (getI o7.kids (1 : Int)).bind fun (x36 : Ptree) =>
  (rec_impl_plan_find (plan.mk (gather.mk j0.1 j0.2.1 j0.2.2.1 j0.2.2.2.1 j0.2.2.2.2.1) j0.2.2.2.2.2.1 j0.2.2.2.2.2.2.1 j0.2.2.2.2.2.2.2.1 j0.2.2.2.2.2.2.2.2) x36 p2).bind fun (r39 : plan) =>
  some r39
noncomputable def m_impl_plan_find_F_J1 (rec_impl_plan_find : plan → Ptree → Prest → Option plan) (p0 : plan) (p1 : Ptree) (p2 : Prest) (o7 : tree) (r67 : Int) (j1 : Unit) : Option plan :=
  (getI o7.kids (0 : Int)).bind fun (x118 : Ptree) =>
  (rec_impl_plan_find (plan.mk (gather.mk p0.gather.post (p0.gather.starts ++ [o7.Stmt.Facts]) p0.gather.paths p0.gather.conds p0.gather.failed) p0.body (p0.loops ++ [p1]) (p0.behind ++ [p2]) (mput p0.number o7.at_ r67)) x118 (re_rest (rest.mk (.nil : Ptree) r67 (.nil : Prest)))).bind fun (r123 : plan) =>
  some r123
noncomputable def m_impl_plan_find_F (rec_impl_plan_find : plan → Ptree → Prest → Option plan) (p0 : plan) (p1 : Ptree) (p2 : Prest) : Option plan :=
  (un_tree p1).bind fun (o7 : tree) =>
  bif (decide (o7.Stmt.Kind = (1 : Int))) then
    (getI o7.kids (0 : Int)).bind fun (x19 : Ptree) =>
    (getI o7.kids (1 : Int)).bind fun (x25 : Ptree) =>
    (rec_impl_plan_find p0 x19 (re_rest (rest.mk x25 (0 : Int) p2))).bind fun (r30 : plan) =>
    m_impl_plan_find_F_J0 rec_impl_plan_find p2 o7 (r30.gather.post, r30.gather.starts, r30.gather.paths, r30.gather.conds, r30.gather.failed, r30.body, r30.loops, r30.behind, r30.number)
  else
    bif (decide (o7.Stmt.Kind = (7 : Int))) then
      (getI o7.kids (0 : Int)).bind fun (x47 : Ptree) =>
      (rec_impl_plan_find p0 x47 p2).bind fun (r50 : plan) =>
      (getI o7.kids (1 : Int)).bind fun (x56 : Ptree) =>
      (rec_impl_plan_find r50 x56 p2).bind fun (r59 : plan) =>
      some r59
    else
      bif (decide (o7.Stmt.Kind = (8 : Int))) then
        (m_impl_size (p0.loops.length : Int)).bind fun (r67 : Int) =>
        (capI (p0.loops.length + [p1].length) 8).bind fun (q84 : Unit) =>
        (capI (p0.behind.length + [p2].length) 8).bind fun (q94 : Unit) =>
        (capI (p0.gather.starts.length + [o7.Stmt.Facts].length) 24).bind fun (q109 : Unit) =>
        m_impl_plan_find_F_J1 rec_impl_plan_find p0 p1 p2 o7 r67 ()
      else
        some p0
noncomputable def m_impl_plan_find : Nat → plan → Ptree → Prest → Option plan
  | 0, _, _, _ => none
  | n + 1, p0, p1, p2 => m_impl_plan_find_F (m_impl_plan_find n) p0 p1 p2
noncomputable def m_impl_planOf (p0 : Program) : Option (plan × Bool) :=
  (m_impl_ValidProgram p0).bind fun (r8 : Bool) =>
  bif (!r8) then
    some (default, false)
  else
    (m_impl_treeOf p0.Body).bind fun (r13 : Ptree × Bool) =>
    (m_impl_plan_find 1000 (plan.mk (gather.mk p0.Post [p0.Pre] ([] : List Path) ([] : List Sequent) false) r13.1 ([] : List Ptree) ([] : List Prest) ([] : List (Int × Int))) r13.1 (.nil : Prest)).bind fun (r28 : plan) =>
    some (r28, true)
noncomputable def m_laws_eqInt64S_L0 (p0 : List Int) (p1 : List Int) (s0 : Int) : Option (Ctl Int (Unit ⊕ Bool)) :=
  bif (decide (s0 < (p0.length : Int))) then
    (getI p0 s0).bind fun (x19 : Int) =>
    (getI p1 s0).bind fun (x23 : Int) =>
    bif (!decide (x19 = x23)) then
      some (.out (.inr false))
    else
      some (.next (w64 (s0 + (1 : Int))))
  else
    some (.out (.inl ()))
noncomputable def m_laws_eqInt64S_A0 (u0 : Unit ⊕ Bool) : Option Bool :=
  match u0 with
  | .inl u0 =>
    some true
  | .inr u0 =>
    some u0
noncomputable def m_laws_eqInt64S (p0 : List Int) (p1 : List Int) : Option Bool :=
  bif (!decide ((p0.length : Int) = (p1.length : Int))) then
    some false
  else
    (iter (m_laws_eqInt64S_L0 p0 p1) (0 : Int)).bind fun (u0 : Unit ⊕ Bool) =>
    m_laws_eqInt64S_A0 u0
noncomputable def m_laws_eqTerm (p0 : Term) (p1 : Term) : Option Bool :=
  bif (!decide (p0.Const = p1.Const)) then
    some false
  else
    (m_laws_eqInt64S p0.Coeffs p1.Coeffs).bind fun (r14 : Bool) =>
    bif (!r14) then
      some false
    else
      some true
noncomputable def m_laws_eqTermS_L0 (p0 : List Term) (p1 : List Term) (s0 : Int) : Option (Ctl Int (Unit ⊕ Bool)) :=
  bif (decide (s0 < (p0.length : Int))) then
    (getI p0 s0).bind fun (x19 : Term) =>
    (getI p1 s0).bind fun (x23 : Term) =>
    (m_laws_eqTerm x19 x23).bind fun (r25 : Bool) =>
    bif (!r25) then
      some (.out (.inr false))
    else
      some (.next (w64 (s0 + (1 : Int))))
  else
    some (.out (.inl ()))
noncomputable def m_laws_eqTermS_A0 (u0 : Unit ⊕ Bool) : Option Bool :=
  match u0 with
  | .inl u0 =>
    some true
  | .inr u0 =>
    some u0
noncomputable def m_laws_eqTermS (p0 : List Term) (p1 : List Term) : Option Bool :=
  bif (!decide ((p0.length : Int) = (p1.length : Int))) then
    some false
  else
    (iter (m_laws_eqTermS_L0 p0 p1) (0 : Int)).bind fun (u0 : Unit ⊕ Bool) =>
    m_laws_eqTermS_A0 u0
noncomputable def m_laws_eqStmt (p0 : Stmt) (p1 : Stmt) : Option Bool :=
  bif (!decide (p0.Kind = p1.Kind)) then
    some false
  else
    bif (!decide (p0.Var = p1.Var)) then
      some false
    else
      bif (!decide (p0.Event = p1.Event)) then
        some false
      else
        (m_laws_eqTerm p0.Sum p1.Sum).bind fun (r24 : Bool) =>
        bif (!r24) then
          some false
        else
          (m_laws_eqTerm p0.Index p1.Index).bind fun (r30 : Bool) =>
          bif (!r30) then
            some false
          else
            (m_laws_eqTermS p0.Facts p1.Facts).bind fun (r36 : Bool) =>
            bif (!r36) then
              some false
            else
              some true
noncomputable def m_laws_eqStmtS_L0 (p0 : List Stmt) (p1 : List Stmt) (s0 : Int) : Option (Ctl Int (Unit ⊕ Bool)) :=
  bif (decide (s0 < (p0.length : Int))) then
    (getI p0 s0).bind fun (x19 : Stmt) =>
    (getI p1 s0).bind fun (x23 : Stmt) =>
    (m_laws_eqStmt x19 x23).bind fun (r25 : Bool) =>
    bif (!r25) then
      some (.out (.inr false))
    else
      some (.next (w64 (s0 + (1 : Int))))
  else
    some (.out (.inl ()))
noncomputable def m_laws_eqStmtS_A0 (u0 : Unit ⊕ Bool) : Option Bool :=
  match u0 with
  | .inl u0 =>
    some true
  | .inr u0 =>
    some u0
noncomputable def m_laws_eqStmtS (p0 : List Stmt) (p1 : List Stmt) : Option Bool :=
  bif (!decide ((p0.length : Int) = (p1.length : Int))) then
    some false
  else
    (iter (m_laws_eqStmtS_L0 p0 p1) (0 : Int)).bind fun (u0 : Unit ⊕ Bool) =>
    m_laws_eqStmtS_A0 u0
noncomputable def m_laws_eqProgram (p0 : Program) (p1 : Program) : Option Bool :=
  (m_laws_eqTermS p0.Pre p1.Pre).bind fun (r9 : Bool) =>
  bif (!r9) then
    some false
  else
    (m_laws_eqStmtS p0.Body p1.Body).bind fun (r15 : Bool) =>
    bif (!r15) then
      some false
    else
      (m_laws_eqTermS p0.Post p1.Post).bind fun (r21 : Bool) =>
      bif (!r21) then
        some false
      else
        some true
noncomputable def m_laws_markInt64S_L0 (s0 : (List Int) × Int × Int) : Option (Ctl ((List Int) × Int × Int) ((Int × (List Int)))) :=
  bif (decide (s0.2.2 < (s0.1.length : Int))) then
    (getI s0.1 s0.2.2).bind fun (x15 : Int) =>
    some (.next ((s0.1.set ((s0.2.2).toNat) s0.2.1), (w64 (s0.2.1 + (1 : Int))), (w64 (s0.2.2 + (1 : Int)))))
  else
    some (.out (s0.2.1, s0.1))
noncomputable def m_laws_markInt64S_A0 (u0 : (Int × (List Int))) : Option (Int × (List Int)) :=
  some (u0.1, u0.2)
noncomputable def m_laws_markInt64S (p0 : List Int) (p1 : Int) : Option (Int × (List Int)) :=
  (iter (m_laws_markInt64S_L0) (p0, p1, (0 : Int))).bind fun (u0 : (Int × (List Int))) =>
  m_laws_markInt64S_A0 u0
noncomputable def m_laws_markTermS_L0 (s0 : (List Term) × Int × Int) : Option (Ctl ((List Term) × Int × Int) ((Int × (List Term)))) :=
  bif (decide (s0.2.2 < (s0.1.length : Int))) then
    (getI s0.1 s0.2.2).bind fun (x15 : Term) =>
    (getI (s0.1.set ((s0.2.2).toNat) (Term.mk s0.2.1 x15.Coeffs)) s0.2.2).bind fun (x21 : Term) =>
    (m_laws_markInt64S x21.Coeffs (w64 (s0.2.1 + (1 : Int)))).bind fun (r25 : Int × (List Int)) =>
    some (.next (((s0.1.set ((s0.2.2).toNat) (Term.mk s0.2.1 x15.Coeffs)).set ((s0.2.2).toNat) (Term.mk x21.Const r25.2)), r25.1, (w64 (s0.2.2 + (1 : Int)))))
  else
    some (.out (s0.2.1, s0.1))
noncomputable def m_laws_markTermS_A0 (u0 : (Int × (List Term))) : Option (Int × (List Term)) :=
  some (u0.1, u0.2)
noncomputable def m_laws_markTermS (p0 : List Term) (p1 : Int) : Option (Int × (List Term)) :=
  (iter (m_laws_markTermS_L0) (p0, p1, (0 : Int))).bind fun (u0 : (Int × (List Term))) =>
  m_laws_markTermS_A0 u0
noncomputable def m_laws_markStmtS_L0 (s0 : (List Stmt) × Int × Int) : Option (Ctl ((List Stmt) × Int × Int) ((Int × (List Stmt)))) :=
  bif (decide (s0.2.2 < (s0.1.length : Int))) then
    (getI s0.1 s0.2.2).bind fun (x15 : Stmt) =>
    (getI (s0.1.set ((s0.2.2).toNat) (Stmt.mk s0.2.1 x15.Var x15.Event x15.Sum x15.Index x15.Facts)) s0.2.2).bind fun (x22 : Stmt) =>
    (getI ((s0.1.set ((s0.2.2).toNat) (Stmt.mk s0.2.1 x15.Var x15.Event x15.Sum x15.Index x15.Facts)).set ((s0.2.2).toNat) (Stmt.mk x22.Kind (w64 (s0.2.1 + (1 : Int))) x22.Event x22.Sum x22.Index x22.Facts)) s0.2.2).bind fun (x29 : Stmt) =>
    (getI (((s0.1.set ((s0.2.2).toNat) (Stmt.mk s0.2.1 x15.Var x15.Event x15.Sum x15.Index x15.Facts)).set ((s0.2.2).toNat) (Stmt.mk x22.Kind (w64 (s0.2.1 + (1 : Int))) x22.Event x22.Sum x22.Index x22.Facts)).set ((s0.2.2).toNat) (Stmt.mk x29.Kind x29.Var (w64 ((w64 (s0.2.1 + (1 : Int))) + (1 : Int))) x29.Sum x29.Index x29.Facts)) s0.2.2).bind fun (x36 : Stmt) =>
    (getI ((((s0.1.set ((s0.2.2).toNat) (Stmt.mk s0.2.1 x15.Var x15.Event x15.Sum x15.Index x15.Facts)).set ((s0.2.2).toNat) (Stmt.mk x22.Kind (w64 (s0.2.1 + (1 : Int))) x22.Event x22.Sum x22.Index x22.Facts)).set ((s0.2.2).toNat) (Stmt.mk x29.Kind x29.Var (w64 ((w64 (s0.2.1 + (1 : Int))) + (1 : Int))) x29.Sum x29.Index x29.Facts)).set ((s0.2.2).toNat) (Stmt.mk x36.Kind x36.Var x36.Event (Term.mk (w64 ((w64 ((w64 (s0.2.1 + (1 : Int))) + (1 : Int))) + (1 : Int))) x36.Sum.Coeffs) x36.Index x36.Facts)) s0.2.2).bind fun (x43 : Stmt) =>
    (m_laws_markInt64S x43.Sum.Coeffs (w64 ((w64 ((w64 ((w64 (s0.2.1 + (1 : Int))) + (1 : Int))) + (1 : Int))) + (1 : Int)))).bind fun (r48 : Int × (List Int)) =>
    (getI (((((s0.1.set ((s0.2.2).toNat) (Stmt.mk s0.2.1 x15.Var x15.Event x15.Sum x15.Index x15.Facts)).set ((s0.2.2).toNat) (Stmt.mk x22.Kind (w64 (s0.2.1 + (1 : Int))) x22.Event x22.Sum x22.Index x22.Facts)).set ((s0.2.2).toNat) (Stmt.mk x29.Kind x29.Var (w64 ((w64 (s0.2.1 + (1 : Int))) + (1 : Int))) x29.Sum x29.Index x29.Facts)).set ((s0.2.2).toNat) (Stmt.mk x36.Kind x36.Var x36.Event (Term.mk (w64 ((w64 ((w64 (s0.2.1 + (1 : Int))) + (1 : Int))) + (1 : Int))) x36.Sum.Coeffs) x36.Index x36.Facts)).set ((s0.2.2).toNat) (Stmt.mk x43.Kind x43.Var x43.Event (Term.mk x43.Sum.Const r48.2) x43.Index x43.Facts)) s0.2.2).bind fun (x52 : Stmt) =>
    (getI ((((((s0.1.set ((s0.2.2).toNat) (Stmt.mk s0.2.1 x15.Var x15.Event x15.Sum x15.Index x15.Facts)).set ((s0.2.2).toNat) (Stmt.mk x22.Kind (w64 (s0.2.1 + (1 : Int))) x22.Event x22.Sum x22.Index x22.Facts)).set ((s0.2.2).toNat) (Stmt.mk x29.Kind x29.Var (w64 ((w64 (s0.2.1 + (1 : Int))) + (1 : Int))) x29.Sum x29.Index x29.Facts)).set ((s0.2.2).toNat) (Stmt.mk x36.Kind x36.Var x36.Event (Term.mk (w64 ((w64 ((w64 (s0.2.1 + (1 : Int))) + (1 : Int))) + (1 : Int))) x36.Sum.Coeffs) x36.Index x36.Facts)).set ((s0.2.2).toNat) (Stmt.mk x43.Kind x43.Var x43.Event (Term.mk x43.Sum.Const r48.2) x43.Index x43.Facts)).set ((s0.2.2).toNat) (Stmt.mk x52.Kind x52.Var x52.Event x52.Sum (Term.mk r48.1 x52.Index.Coeffs) x52.Facts)) s0.2.2).bind fun (x59 : Stmt) =>
    (m_laws_markInt64S x59.Index.Coeffs (w64 (r48.1 + (1 : Int)))).bind fun (r64 : Int × (List Int)) =>
    (getI (((((((s0.1.set ((s0.2.2).toNat) (Stmt.mk s0.2.1 x15.Var x15.Event x15.Sum x15.Index x15.Facts)).set ((s0.2.2).toNat) (Stmt.mk x22.Kind (w64 (s0.2.1 + (1 : Int))) x22.Event x22.Sum x22.Index x22.Facts)).set ((s0.2.2).toNat) (Stmt.mk x29.Kind x29.Var (w64 ((w64 (s0.2.1 + (1 : Int))) + (1 : Int))) x29.Sum x29.Index x29.Facts)).set ((s0.2.2).toNat) (Stmt.mk x36.Kind x36.Var x36.Event (Term.mk (w64 ((w64 ((w64 (s0.2.1 + (1 : Int))) + (1 : Int))) + (1 : Int))) x36.Sum.Coeffs) x36.Index x36.Facts)).set ((s0.2.2).toNat) (Stmt.mk x43.Kind x43.Var x43.Event (Term.mk x43.Sum.Const r48.2) x43.Index x43.Facts)).set ((s0.2.2).toNat) (Stmt.mk x52.Kind x52.Var x52.Event x52.Sum (Term.mk r48.1 x52.Index.Coeffs) x52.Facts)).set ((s0.2.2).toNat) (Stmt.mk x59.Kind x59.Var x59.Event x59.Sum (Term.mk x59.Index.Const r64.2) x59.Facts)) s0.2.2).bind fun (x67 : Stmt) =>
    (m_laws_markTermS x67.Facts r64.1).bind fun (r71 : Int × (List Term)) =>
    some (.next (((((((((s0.1.set ((s0.2.2).toNat) (Stmt.mk s0.2.1 x15.Var x15.Event x15.Sum x15.Index x15.Facts)).set ((s0.2.2).toNat) (Stmt.mk x22.Kind (w64 (s0.2.1 + (1 : Int))) x22.Event x22.Sum x22.Index x22.Facts)).set ((s0.2.2).toNat) (Stmt.mk x29.Kind x29.Var (w64 ((w64 (s0.2.1 + (1 : Int))) + (1 : Int))) x29.Sum x29.Index x29.Facts)).set ((s0.2.2).toNat) (Stmt.mk x36.Kind x36.Var x36.Event (Term.mk (w64 ((w64 ((w64 (s0.2.1 + (1 : Int))) + (1 : Int))) + (1 : Int))) x36.Sum.Coeffs) x36.Index x36.Facts)).set ((s0.2.2).toNat) (Stmt.mk x43.Kind x43.Var x43.Event (Term.mk x43.Sum.Const r48.2) x43.Index x43.Facts)).set ((s0.2.2).toNat) (Stmt.mk x52.Kind x52.Var x52.Event x52.Sum (Term.mk r48.1 x52.Index.Coeffs) x52.Facts)).set ((s0.2.2).toNat) (Stmt.mk x59.Kind x59.Var x59.Event x59.Sum (Term.mk x59.Index.Const r64.2) x59.Facts)).set ((s0.2.2).toNat) (Stmt.mk x67.Kind x67.Var x67.Event x67.Sum x67.Index r71.2)), r71.1, (w64 (s0.2.2 + (1 : Int)))))
  else
    some (.out (s0.2.1, s0.1))
noncomputable def m_laws_markStmtS_A0 (u0 : (Int × (List Stmt))) : Option (Int × (List Stmt)) :=
  some (u0.1, u0.2)
noncomputable def m_laws_markStmtS (p0 : List Stmt) (p1 : Int) : Option (Int × (List Stmt)) :=
  (iter (m_laws_markStmtS_L0) (p0, p1, (0 : Int))).bind fun (u0 : (Int × (List Stmt))) =>
  m_laws_markStmtS_A0 u0
noncomputable def m_laws_markProgram (p0 : Program) (p1 : Int) : Option (Int × (List Term) × (List Stmt) × (List Term)) :=
  (m_laws_markTermS p0.Pre p1).bind fun (r8 : Int × (List Term)) =>
  (m_laws_markStmtS p0.Body r8.1).bind fun (r12 : Int × (List Stmt)) =>
  (m_laws_markTermS p0.Post r12.1).bind fun (r16 : Int × (List Term)) =>
  some (r16.1, r8.2, r12.2, r16.2)
noncomputable def m_laws_heldInt64S_L0 (p0 : List Int) (s0 : Int × Int) : Option (Ctl (Int × Int) (Int ⊕ Int)) :=
  bif (decide (s0.2 < (p0.length : Int))) then
    (getI p0 s0.2).bind fun (x14 : Int) =>
    bif (!decide (x14 = s0.1)) then
      some (.out (.inr (-1 : Int)))
    else
      some (.next ((w64 (s0.1 + (1 : Int))), (w64 (s0.2 + (1 : Int)))))
  else
    some (.out (.inl s0.1))
noncomputable def m_laws_heldInt64S_A0 (u0 : Int ⊕ Int) : Option Int :=
  match u0 with
  | .inl u0 =>
    some u0
  | .inr u0 =>
    some u0
noncomputable def m_laws_heldInt64S (p0 : List Int) (p1 : Int) : Option Int :=
  (iter (m_laws_heldInt64S_L0 p0) (p1, (0 : Int))).bind fun (u0 : Int ⊕ Int) =>
  m_laws_heldInt64S_A0 u0
noncomputable def m_spec_l04Start (p0 : Program) (p1 : Int) : Option Bool :=
  (m_spec_l04Loops p0).bind fun (r7 : List Int) =>
  (m_spec_l00In p1 (-1 : Int) (w64 ((r7.length : Int) - (1 : Int)))).bind fun (r10 : Bool) =>
  some r10
noncomputable def m_spec_l00Own (p0 : List Int) : Option (List Int) :=
  (capI (([] : List Int).length + p0.length) 8).bind fun (q5 : Unit) =>
  some (([] : List Int) ++ p0)
noncomputable def m_spec_l02Own (p0 : Term) : Option Term :=
  (m_spec_l00Own p0.Coeffs).bind fun (r11 : List Int) =>
  some (Term.mk p0.Const r11)
noncomputable def m_spec_l02OwnAll_L0 (p0 : List Term) (s0 : (List Term) × Int) : Option (Ctl ((List Term) × Int) ((List Term))) :=
  bif (decide (s0.2 < (p0.length : Int))) then
    (getI p0 s0.2).bind fun (x15 : Term) =>
    (m_spec_l02Own x15).bind fun (r16 : Term) =>
    (capI (s0.1.length + [r16].length) 32).bind fun (q18 : Unit) =>
    some (.next ((s0.1 ++ [r16]), (w64 (s0.2 + (1 : Int)))))
  else
    some (.out s0.1)
noncomputable def m_spec_l02OwnAll_A0 (u0 : (List Term)) : Option (List Term) :=
  some u0
noncomputable def m_spec_l02OwnAll (p0 : List Term) : Option (List Term) :=
  (iter (m_spec_l02OwnAll_L0 p0) (([] : List Term), (0 : Int))).bind fun (u0 : (List Term)) =>
  m_spec_l02OwnAll_A0 u0
noncomputable def m_spec_l04Facts (p0 : Program) (p1 : Int) : Option (List Term) :=
  bif (decide (p1 < (0 : Int))) then
    (m_spec_l02OwnAll p0.Pre).bind fun (r11 : List Term) =>
    some r11
  else
    (m_spec_l04Loops p0).bind fun (r17 : List Int) =>
    (getI r17 p1).bind fun (x19 : Int) =>
    (getI p0.Body x19).bind fun (x21 : Stmt) =>
    (m_spec_l02OwnAll x21.Facts).bind fun (r24 : List Term) =>
    some r24
noncomputable def m_impl_gather_isStart (p0 : gather) (p1 : Int) : Option Bool :=
  (m_impl_size (p0.starts.length : Int)).bind fun (r11 : Int) =>
  (m_impl_within p1 (-1 : Int) (w64 (r11 - (2 : Int)))).bind fun (r13 : Bool) =>
  some r13
noncomputable def m_impl_copyInts (p0 : List Int) : Option (List Int) :=
  (capI (([] : List Int).length + p0.length) 8).bind fun (q5 : Unit) =>
  some (([] : List Int) ++ p0)
noncomputable def m_impl_Term_own (p0 : Term) : Option Term :=
  (m_impl_copyInts p0.Coeffs).bind fun (r7 : List Int) =>
  some (Term.mk p0.Const r7)
noncomputable def m_impl_ownTerms_L0 (n0 : Nat) (x0 : Term) (s0 : List Term) : Option (Ctl (List Term) ((List Term))) :=
  (m_impl_Term_own x0).bind fun (r14 : Term) =>
  (capI (s0.length + [r14].length) 32).bind fun (q16 : Unit) =>
  some (.next (s0 ++ [r14]))
noncomputable def m_impl_ownTerms_A0 (u0 : (List Term)) : Option (List Term) :=
  some u0
noncomputable def m_impl_ownTerms (p0 : List Term) : Option (List Term) :=
  (forL (m_impl_ownTerms_L0) (fun s0 => s0) 0 p0 ([] : List Term)).bind fun (u0 : (List Term)) =>
  m_impl_ownTerms_A0 u0
noncomputable def m_impl_StartFacts (p0 : Program) (p1 : Int) : Option ((List Term) × Bool) :=
  (m_impl_planOf p0).bind fun (r10 : plan × Bool) =>
  bif r10.2 then
    (m_impl_gather_isStart r10.1.gather p1).bind fun (r20 : Bool) =>
    bif (!r20) then
      some (([] : List Term), false)
    else
      (getI r10.1.gather.starts (w64 (p1 + (1 : Int)))).bind fun (x30 : List Term) =>
      (m_impl_ownTerms x30).bind fun (r32 : List Term) =>
      some (r32, true)
  else
    some (([] : List Term), false)
noncomputable def m_laws_heldTermS_L0 (p0 : List Term) (s0 : Int × Int) : Option (Ctl (Int × Int) (Int ⊕ Int)) :=
  bif (decide (s0.2 < (p0.length : Int))) then
    (getI p0 s0.2).bind fun (x14 : Term) =>
    bif (!decide (x14.Const = s0.1)) then
      some (.out (.inr (-1 : Int)))
    else
      (m_laws_heldInt64S x14.Coeffs (w64 (s0.1 + (1 : Int)))).bind fun (r27 : Int) =>
      bif (decide (r27 < (0 : Int))) then
        some (.out (.inr (-1 : Int)))
      else
        some (.next (r27, (w64 (s0.2 + (1 : Int)))))
  else
    some (.out (.inl s0.1))
noncomputable def m_laws_heldTermS_A0 (u0 : Int ⊕ Int) : Option Int :=
  match u0 with
  | .inl u0 =>
    some u0
  | .inr u0 =>
    some u0
noncomputable def m_laws_heldTermS (p0 : List Term) (p1 : Int) : Option Int :=
  (iter (m_laws_heldTermS_L0 p0) (p1, (0 : Int))).bind fun (u0 : Int ⊕ Int) =>
  m_laws_heldTermS_A0 u0
noncomputable def m_laws_szState (p0 : State) (p1 : Int) : Option Int :=
  (m_laws_szInt64S p0.Vars p1).bind fun (r8 : Int) =>
  bif (decide (r8 < (0 : Int))) then
    some (-1 : Int)
  else
    (m_laws_szInt64S p0.Cells r8).bind fun (r14 : Int) =>
    bif (decide (r14 < (0 : Int))) then
      some (-1 : Int)
    else
      some r14
noncomputable def m_laws_toState (p0 : State) : Option State :=
  (m_laws_toInt64S p0.Vars).bind fun (r6 : List Int) =>
  (m_laws_toInt64S p0.Cells).bind fun (r10 : List Int) =>
  some (State.mk r6 r10)
noncomputable def m_spec_l03Numbers_L0 (p0 : List Int) (s0 : Int) : Option (Ctl Int (Unit ⊕ Bool)) :=
  bif (decide (s0 < (p0.length : Int))) then
    (getI p0 s0).bind fun (x14 : Int) =>
    (m_spec_l00In x14 (-1000000000 : Int) (1000000000 : Int)).bind fun (r16 : Bool) =>
    bif (!r16) then
      some (.out (.inr false))
    else
      some (.next (w64 (s0 + (1 : Int))))
  else
    some (.out (.inl ()))
noncomputable def m_spec_l03Numbers_A0 (p0 : List Int) (p1 : Int) (u0 : Unit ⊕ Bool) : Option Bool :=
  match u0 with
  | .inl u0 =>
    some (decide ((p0.length : Int) = p1))
  | .inr u0 =>
    some u0
noncomputable def m_spec_l03Numbers (p0 : List Int) (p1 : Int) : Option Bool :=
  (iter (m_spec_l03Numbers_L0 p0) (0 : Int)).bind fun (u0 : Unit ⊕ Bool) =>
  m_spec_l03Numbers_A0 p0 p1 u0
noncomputable def m_spec_l03State (p0 : State) : Option Bool :=
  (m_spec_l03Numbers p0.Vars (4 : Int)).bind fun (r7 : Bool) =>
  bif r7 then
    (m_spec_l03Numbers p0.Cells (8 : Int)).bind fun (r13 : Bool) =>
    some r13
  else
    some false
noncomputable def m_spec_l02Eval_L0 (p0 : Term) (p1 : List Int) (s0 : Int × Int) : Option (Ctl (Int × Int) Int) :=
  bif (decide (s0.2 < (p0.Coeffs.length : Int))) then
    (getI p0.Coeffs s0.2).bind fun (x26 : Int) =>
    (getI p1 s0.2).bind fun (x30 : Int) =>
    some (.next ((w64 (s0.1 + (w64 (x26 * x30)))), (w64 (s0.2 + (1 : Int)))))
  else
    some (.out s0.1)
noncomputable def m_spec_l02Eval_A0 (u0 : Int) : Option Int :=
  some u0
noncomputable def m_spec_l02Eval (p0 : Term) (p1 : List Int) : Option Int :=
  (iter (m_spec_l02Eval_L0 p0 p1) (p0.Const, (0 : Int))).bind fun (u0 : Int) =>
  m_spec_l02Eval_A0 u0
noncomputable def m_spec_l04Hold_L0 (p1 : List Int) (s0 : (List Int) × Int) : Option (Ctl ((List Int) × Int) ((List Int))) :=
  bif (decide (s0.2 < (p1.length : Int))) then
    (getI p1 s0.2).bind fun (x19 : Int) =>
    (getI s0.1 s0.2).bind fun (x21 : Int) =>
    some (.next ((s0.1.set ((s0.2).toNat) x19), (w64 (s0.2 + (1 : Int)))))
  else
    some (.out s0.1)
noncomputable def m_spec_l04Hold_L1 (p0 : List Term) (u0 : List Int) (s1 : Int) : Option (Ctl Int (Unit ⊕ Bool)) :=
  bif (decide (s1 < (p0.length : Int))) then
    (getI p0 s1).bind fun (x30 : Term) =>
    (m_spec_l02Eval x30 u0).bind fun (r32 : Int) =>
    bif (decide (r32 < (0 : Int))) then
      some (.out (.inr false))
    else
      some (.next (w64 (s1 + (1 : Int))))
  else
    some (.out (.inl ()))
noncomputable def m_spec_l04Hold_A1 (u1 : Unit ⊕ Bool) : Option Bool :=
  match u1 with
  | .inl u1 =>
    some true
  | .inr u1 =>
    some u1
noncomputable def m_spec_l04Hold_A0 (p0 : List Term) (u0 : (List Int)) : Option Bool :=
  (iter (m_spec_l04Hold_L1 p0 u0) (0 : Int)).bind fun (u1 : Unit ⊕ Bool) =>
  m_spec_l04Hold_A1 u1
noncomputable def m_spec_l04Hold (p0 : List Term) (p1 : List Int) : Option Bool :=
  (makeI (10 : Int) 8).bind fun (k8 : Nat) =>
  (iter (m_spec_l04Hold_L0 p1) ((List.replicate k8 (0 : Int)), (0 : Int))).bind fun (u0 : (List Int)) =>
  m_spec_l04Hold_A0 p0 u0
noncomputable def m_spec_HoldsAt (p0 : Program) (p1 : Int) (p2 : State) : Option (Bool × Bool) :=
  (m_spec_l03Is p0).bind fun (r8 : Bool) =>
  bif (!r8) then
    some (false, false)
  else
    (m_spec_l04Start p0 p1).bind fun (r12 : Bool) =>
    bif (!r12) then
      some (false, false)
    else
      (m_spec_l03State p2).bind fun (r16 : Bool) =>
      bif (!r16) then
        some (false, false)
      else
        (m_spec_l04Facts p0 p1).bind fun (r20 : List Term) =>
        (m_spec_l04Hold r20 p2.Vars).bind fun (r23 : Bool) =>
        some (r23, true)
noncomputable def m_impl_ValidState (p0 : State) : Option Bool :=
  bif ((decide ((p0.Vars.length : Int) = (4 : Int))) && (decide ((p0.Cells.length : Int) = (8 : Int)))) then
    (m_impl_allWithin p0.Vars (-1000000000 : Int) (1000000000 : Int)).bind fun (r16 : Bool) =>
    bif r16 then
      (m_impl_allWithin p0.Cells (-1000000000 : Int) (1000000000 : Int)).bind fun (r21 : Bool) =>
      some r21
    else
      some false
  else
    some false
noncomputable def m_impl_Term_eval_L0 (p1 : List Int) (n0 : Nat) (x0 : Int) (s0 : Int) : Option (Ctl Int Int) :=
  (getI p1 (n0 : Int)).bind fun (x22 : Int) =>
  some (.next (w64 (s0 + (w64 (x0 * x22)))))
noncomputable def m_impl_Term_eval_A0 (u0 : Int) : Option Int :=
  some u0
noncomputable def m_impl_Term_eval (p0 : Term) (p1 : List Int) : Option Int :=
  (forL (m_impl_Term_eval_L0 p1) (fun s0 => s0) 0 p0.Coeffs p0.Const).bind fun (u0 : Int) =>
  m_impl_Term_eval_A0 u0
noncomputable def m_impl_hold_L0 (p1 : List Int) (n0 : Nat) (x0 : Term) (s0 : Unit) : Option (Ctl Unit (Unit ⊕ Bool)) :=
  (m_impl_Term_eval x0 p1).bind fun (r15 : Int) =>
  bif (decide (r15 < (0 : Int))) then
    some (.out (.inr false))
  else
    some (.next ())
noncomputable def m_impl_hold_A0 (u0 : Unit ⊕ Bool) : Option Bool :=
  match u0 with
  | .inl u0 =>
    some true
  | .inr u0 =>
    some u0
noncomputable def m_impl_hold (p0 : List Term) (p1 : List Int) : Option Bool :=
  (forL (m_impl_hold_L0 p1) (fun s0 => (.inl ())) 0 p0 ()).bind fun (u0 : Unit ⊕ Bool) =>
  m_impl_hold_A0 u0
noncomputable def m_impl_HoldsIn (p0 : List Term) (p1 : State) : Option (Bool × Bool) :=
  (m_impl_areOver p0 (14 : Int)).bind fun (r7 : Bool) =>
  bif (!r7) then
    some (false, false)
  else
    (m_impl_ValidState p1).bind fun (r11 : Bool) =>
    bif (!r11) then
      some (false, false)
    else
      (m_impl_hold p0 p1.Vars).bind fun (r17 : Bool) =>
      some (r17, true)
noncomputable def m_impl_HoldsAt (p0 : Program) (p1 : Int) (p2 : State) : Option (Bool × Bool) :=
  (m_impl_StartFacts p0 p1).bind fun (r13 : (List Term) × Bool) =>
  bif (!r13.2) then
    some (false, false)
  else
    (m_impl_HoldsIn r13.1 p2).bind fun (r20 : Bool × Bool) =>
    some (r20.1, r20.2)
noncomputable def m_laws_eqState (p0 : State) (p1 : State) : Option Bool :=
  (m_laws_eqInt64S p0.Vars p1.Vars).bind fun (r9 : Bool) =>
  bif (!r9) then
    some false
  else
    (m_laws_eqInt64S p0.Cells p1.Cells).bind fun (r15 : Bool) =>
    bif (!r15) then
      some false
    else
      some true
noncomputable def m_laws_FnExactHoldsAt (p0 : Program) (p1 : Int) (p2 : State) : Option Bool :=
  (m_laws_szProgram p0 (1048576 : Int)).bind fun (r16 : Int) =>
  bif (decide (r16 < (0 : Int))) then
    some true
  else
    (m_laws_szState p2 r16).bind fun (r21 : Int) =>
    bif (decide (r21 < (0 : Int))) then
      some true
    else
      (m_laws_toProgram p0).bind fun (r26 : Program) =>
      (m_laws_toState p2).bind fun (r29 : State) =>
      (m_spec_HoldsAt r26 p1 r29).bind fun (r30 : Bool × Bool) =>
      (m_laws_toProgram p0).bind fun (r34 : Program) =>
      (m_laws_toState p2).bind fun (r36 : State) =>
      (m_impl_HoldsAt r34 p1 r36).bind fun (r41 : Bool × Bool) =>
      bif ((!(r41.1 == r30.1)) || (!(r41.2 == r30.2))) then
        some false
      else
        (m_laws_toProgram p0).bind fun (r54 : Program) =>
        (m_laws_eqProgram r34 r54).bind fun (r55 : Bool) =>
        bif (!r55) then
          some false
        else
          (m_laws_toState p2).bind fun (r59 : State) =>
          (m_laws_eqState r36 r59).bind fun (r60 : Bool) =>
          bif (!r60) then
            some false
          else
            some true
end Go.Mod

namespace Go.Mod
open Go.AM
set_option linter.unusedVariables false
set_option linter.unusedSimpArgs false
theorem pl_mem_sum {α : Type} {c : α → Nat} {xs : List α} {x : α} (h : x ∈ xs) : c x ≤ (xs.map c).sum := by
  induction xs with
  | nil => cases h
  | cons y r ih =>
    simp only [List.map_cons, List.sum_cons]
    rcases List.mem_cons.1 h with rfl | h
    · omega
    · have := ih h; omega
theorem pl_sum_len {α : Type} {q : α → Nat} {xs : List α} (h : ∀ x, q x ≤ 8 + 8 * 0) : (xs.map q).sum ≤ 8 * xs.length := by
  induction xs with
  | nil => simp
  | cons y r ih => have := h y; simp only [List.map_cons, List.sum_cons, List.length_cons]; omega
theorem pl_sum_le {α : Type} {q c : α → Nat} {xs : List α} (h : ∀ x, q x ≤ 8 + 8 * c x) : (xs.map q).sum ≤ 8 * (xs.length + (xs.map c).sum) := by
  induction xs with
  | nil => simp
  | cons y r ih => have := h y; simp only [List.map_cons, List.sum_cons, List.length_cons]; omega
theorem pl_szB {m : Option Int} {c d b : Nat} {F : Int → Option Int} (h : m = some (szOut c b)) (g : c ≤ b → F ((b - c : Nat) : Int) = some (szOut d (b - c))) :
    (m.bind fun r => bif decide (r < 0) then some (-1) else F r) = some (szOut (c + d) b) := by
  rw [h, Option.bind_some]
  by_cases hc : c ≤ b
  · rw [szOut_ok hc, decide_eq_false (by omega), cond_false, g hc]
    unfold szOut
    by_cases h2 : d ≤ b - c
    · rw [if_pos h2, if_pos (by omega)]; congr 2; omega
    · rw [if_neg h2, if_neg (by omega)]
  · rw [szOut_no hc, szOut_no (by omega)]; rfl
theorem pl_szL {m : Option Int} {c b : Nat} (h : m = some (szOut c b)) : (m.bind fun r => bif decide (r < 0) then some (-1) else some r) = some (szOut c b) := by
  have := pl_szB (d := 0) (F := fun r => some r) h (fun hc => by rw [szOut_ok (Nat.zero_le _)]; rfl)
  simpa using this
theorem pl_eqB {p q : Prop} [Decidable p] [Decidable q] {F : Option Bool} (h : F = some (decide q)) : (bif !decide p then some false else F) = some (decide (p ∧ q)) := by
  by_cases hp : p <;> by_cases hq : q <;> simp [h, hp, hq]
theorem pl_eqL {p : Prop} [Decidable p] : (bif !decide p then some false else some true) = some (decide p) := by
  by_cases hp : p <;> simp [hp]
theorem pl_eqM {m : Option Bool} {p q : Prop} [Decidable p] [Decidable q] {F : Option Bool} (hm : m = some (decide p)) (h : F = some (decide q)) : (m.bind fun r => bif !r then some false else F) = some (decide (p ∧ q)) := by
  rw [hm, Option.bind_some]; exact pl_eqB h
theorem pl_eqML {m : Option Bool} {p : Prop} [Decidable p] (hm : m = some (decide p)) : (m.bind fun r => bif !r then some false else some true) = some (decide p) := by
  rw [hm, Option.bind_some]; exact pl_eqL
theorem pl_neg1 : decide ((-1 : Int) < 0) = true := rfl
theorem pl_condB {α β : Type} {b : Bool} {x y : Option α} {f : α → Option β} : (cond b x y).bind f = cond b (x.bind f) (y.bind f) := by cases b <;> rfl
theorem pl_cond2 {α : Type} {b : Bool} {x y z : α} : cond b x (cond b y z) = cond b x z := by cases b <;> rfl
section
variable {α : Type} {ys : List α} {n : Nat} {a b c d e f g : α} (h : n < ys.length)
include h
theorem pl_get_set : getI (ys.set n a) (n : Int) = some a := getI_some (by rw [List.getElem?_set_self h])
theorem pl_get_set2 : getI ((ys.set n a).set n b) (n : Int) = some b := getI_some (by rw [List.set_set, List.getElem?_set_self h])
theorem pl_get_set3 : getI (((ys.set n a).set n b).set n c) (n : Int) = some c := getI_some (by rw [List.set_set, List.set_set, List.getElem?_set_self h])
theorem pl_get_set4 : getI ((((ys.set n a).set n b).set n c).set n d) (n : Int) = some d := getI_some (by simp only [List.set_set]; rw [List.getElem?_set_self h])
theorem pl_get_set5 : getI (((((ys.set n a).set n b).set n c).set n d).set n e) (n : Int) = some e := getI_some (by simp only [List.set_set]; rw [List.getElem?_set_self h])
theorem pl_get_set6 : getI ((((((ys.set n a).set n b).set n c).set n d).set n e).set n f) (n : Int) = some f := getI_some (by simp only [List.set_set]; rw [List.getElem?_set_self h])
theorem pl_get_set7 : getI (((((((ys.set n a).set n b).set n c).set n d).set n e).set n f).set n g) (n : Int) = some g := getI_some (by simp only [List.set_set]; rw [List.getElem?_set_self h])
end
theorem pl_mark0 {α : Type} {xs : List α} {m : α → Nat} {mk : α → Int → Option (Int × α)} {step : List α × Int × Int → Option (Ctl (List α × Int × Int) (Int × List α))}
    (hs : ∀ (n : Nat) ys x (k : Nat), k ≤ 4611686018427387904 → ys[n]? = some x → step (ys, (k : Int), (n : Int)) = (mk x k).bind fun r => some (.next (ys.set n r.2, r.1, w64 ((n : Int) + 1))))
    (he : ∀ ys k, step (ys, k, (ys.length : Int)) = some (.out (k, ys))) (hl : xs.length ≤ 9223372036854775807)
    (hm : ∀ x ∈ xs, ∀ k : Nat, k + m x ≤ 4611686018427387904 → ∃ x', mk x k = some (((k + m x : Nat) : Int), x')) {k : Nat} (hk : k + (xs.map m).sum ≤ 4611686018427387904) :
    ∃ xs', iter step (xs, (k : Int), 0) = some (((k + (xs.map m).sum : Nat) : Int), xs') := by
  have key : ∀ (q n : Nat) (ys : List α) (k : Nat), n + q = xs.length → ys.length = xs.length → ys.drop n = xs.drop n → k + ((xs.drop n).map m).sum ≤ 4611686018427387904 →
      ∃ xs', iter step (ys, (k : Int), (n : Int)) = some (((k + ((xs.drop n).map m).sum : Nat) : Int), xs') := by
    intro q
    induction q with
    | zero =>
      intro n ys k hn hy _ hk
      obtain rfl : n = xs.length := by omega
      have h1 := he ys k
      rw [hy] at h1
      exact ⟨ys, by rw [iter_out h1]; simp⟩
    | succ q ih =>
      intro n ys k hn hy hd hk
      have hlt : n < xs.length := by omega
      have hyn : ys[n]? = some xs[n] := by
        have := congrArg (fun l => l[0]?) hd
        simpa [List.getElem?_drop, hlt] using this
      rw [List.drop_eq_getElem_cons hlt] at hk ⊢
      simp only [List.map_cons, List.sum_cons] at hk ⊢
      obtain ⟨x', m1⟩ := hm _ (List.getElem_mem hlt) k (by omega)
      have h := hs n ys _ k (by omega) hyn
      rw [m1, Option.bind_some, w64_succ (by omega)] at h
      obtain ⟨xs', e1⟩ := ih (n + 1) (ys.set n x') (k + m xs[n]) (by omega) (by simpa using hy)
        (by
          have := congrArg (fun l => l.drop 1) hd
          simp only [List.drop_drop] at this
          rw [List.drop_set_of_lt (by omega)]; exact this) (by omega)
      exact ⟨xs', by rw [iter_next h, e1]; congr 2; omega⟩
  obtain ⟨xs', e1⟩ := key xs.length 0 xs k (by omega) rfl rfl (by simpa using hk)
  exact ⟨xs', by simpa using e1⟩
def pc_Int64S (xs : List Int) : Nat := xs.length
theorem pc_Int64S_len {xs : List Int} : xs.length ≤ pc_Int64S xs := by unfold pc_Int64S; omega
theorem pz_Int64S {xs : List Int} (k : kLa_i64 xs) : SzP m_laws_szInt64S pc_Int64S xs := fun _ hb => sz_flat k.1 hb
theorem pt_Int64S {xs : List Int} (hl : pc_Int64S xs ≤ 1048576) : m_laws_toInt64S xs = some xs := by
  have hlen : xs.length ≤ 1048576 := Nat.le_trans pc_Int64S_len hl
  unfold m_laws_toInt64S
  rw [makeI_some (by omega), Option.bind_some, iter_to (xs := xs) (z := (0 : Int)) (cp := some)
    (fun n x ys hx => by unfold m_laws_toInt64S_L0; rw [dec_lt (get_lt hx), cond_true, getI_some hx]; rfl)
    (fun ys => by unfold m_laws_toInt64S_L0; rw [dec_self]; rfl) hlen (fun x hx => rfl)]
  rfl
theorem pe_Int64S {xs ys : List Int} (hl : pc_Int64S xs ≤ 1048576) : m_laws_eqInt64S xs ys = some (decide (xs = ys)) := by
  have hlen : xs.length ≤ 1048576 := Nat.le_trans pc_Int64S_len hl
  unfold m_laws_eqInt64S
  by_cases h : xs.length = ys.length
  · rw [decide_eq_true (by omega), Bool.not_true, cond_false, iter_eq (xs := xs) (ys := ys) (eq := fun x y => some (decide (x = y)))
      (fun n x y hx hy => by unfold m_laws_eqInt64S_L0; rw [dec_lt (get_lt hx), cond_true, getI_some hx, getI_some hy]; rfl)
      (by unfold m_laws_eqInt64S_L0; rw [dec_self]; rfl) (by omega) h (fun x hx y => rfl)]
    by_cases e : xs = ys
    · rw [if_pos e, decide_eq_true e]; rfl
    · rw [if_neg e, decide_eq_false e]; rfl
  · rw [decide_eq_false (by omega), decide_eq_false (fun e => h (by rw [e]))]; rfl
def pqE_Int64S (x : Int) : Nat := 1
def pq_Int64S (xs : List Int) : Nat := (xs.map pqE_Int64S).sum
theorem pqE_Int64S_le (x : Int) : pqE_Int64S x ≤ 8 + 8 * 0 := by
  unfold pqE_Int64S
  omega
theorem pq_Int64S_le (xs : List Int) : pq_Int64S xs ≤ 8 * pc_Int64S xs := by
  unfold pq_Int64S pc_Int64S
  exact pl_sum_len (fun x => pqE_Int64S_le x)
noncomputable def pmk_Int64S (x : Int) (k : Int) : Option (Int × Int) := some ((w64 (k + 1)), k)
noncomputable def phe_Int64S (x : Int) (k : Int) : Option Int := bif !decide (x = k) then some (-1) else some (w64 (k + 1))
theorem pmE_Int64S (x : Int) : ∀ k : Nat, k + pqE_Int64S x ≤ 4611686018427387904 → ∃ x', pmk_Int64S x k = some (((k + pqE_Int64S x : Nat) : Int), x') ∧ phe_Int64S x' k = some ((k + pqE_Int64S x : Nat) : Int) := fun k hk => by
  unfold pqE_Int64S at hk ⊢
  have tot : ((k + 1 : Nat) : Int) = ((k + (1) : Nat) : Int) := by omega
  have w0 : w64 (((k : Nat) : Int) + 1) = ((k + 1 : Nat) : Int) := w64_succ (by omega)
  refine ⟨((k : Nat) : Int), ?_, ?_⟩
  · unfold pmk_Int64S; simp only [w0, Option.bind_some] <;> rw [← tot]
  · unfold phe_Int64S; simp only [w0, Option.bind_some, decide_true, Bool.not_true, cond_false] <;> rw [← tot]
theorem pm_Int64S {xs : List Int} (hl : pc_Int64S xs ≤ 1048576) {k : Nat} (hk : k + pq_Int64S xs ≤ 4611686018427387904) : ∃ xs', m_laws_markInt64S xs k = some (((k + pq_Int64S xs : Nat) : Int), xs') ∧ m_laws_heldInt64S xs' k = some ((k + pq_Int64S xs : Nat) : Int) := by
  obtain ⟨xs', h1, h2, h3⟩ := iter_mark (xs := xs) (m := pqE_Int64S) (mk := pmk_Int64S) (held := phe_Int64S) (step := m_laws_markInt64S_L0) (hstep := m_laws_heldInt64S_L0)
    (fun n ys x k hk hx => by
      have hn := get_lt hx
      have gen : ∀ k1 : Int, w64 ((k : Int) + 1) = k1 → m_laws_markInt64S_L0 (ys, (k : Int), (n : Int)) = (pmk_Int64S x k).bind fun r => some (.next (ys.set n r.2, r.1, w64 ((n : Int) + 1))) := by
        intro k1 h1
        unfold m_laws_markInt64S_L0 pmk_Int64S
        simp only [h1, dec_lt hn, cond_true, getI_some hx, Option.bind_some, Int.toNat_natCast, pl_get_set hn, pl_get_set2 hn, pl_get_set3 hn, pl_get_set4 hn, pl_get_set5 hn, pl_get_set6 hn, pl_get_set7 hn, List.set_set, Option.bind_assoc]
      exact gen _ rfl)
    (fun ys k => by unfold m_laws_markInt64S_L0; rw [dec_self]; rfl)
    (fun n ys x k hk hx => by
      unfold m_laws_heldInt64S_L0 phe_Int64S
      rw [dec_lt (get_lt hx), cond_true, getI_some hx]
      have w0 : w64 (((k : Nat) : Int) + 1) = ((k + 1 : Nat) : Int) := w64_succ (by omega)
      simp only [Option.bind_some, pl_condB, pl_cond2, Option.bind_assoc, pl_neg1, cond_true, cond_false, dec_neg, w0])
    (fun ys k => by unfold m_laws_heldInt64S_L0; rw [dec_self]; rfl)
    (by have := pc_Int64S_len (xs := xs); omega) (fun x hx => pmE_Int64S x) (k := k) hk
  exact ⟨xs', by unfold m_laws_markInt64S; rw [h1]; rfl, by unfold m_laws_heldInt64S; rw [h3]; rfl⟩
def pc_Term (x : Term) : Nat := pc_Int64S x.Coeffs
theorem pi_Term (x y : Term) : (x.Const = y.Const ∧ x.Coeffs = y.Coeffs) ↔ x = y := by cases x; cases y; simp
theorem pz_Term {x : Term} (k : k_Term x) : SzP m_laws_szTerm pc_Term x := fun b hb => by
  unfold m_laws_szTerm pc_Term
  rw [show pc_Int64S x.Coeffs = pc_Int64S x.Coeffs by omega]
  exact pl_szL (pz_Int64S k.2 (b) (by omega))
theorem pt_Term {x : Term} (hl : pc_Term x ≤ 1048576) : m_laws_toTerm x = some x := by
  unfold pc_Term at hl
  unfold m_laws_toTerm
  simp only [pt_Int64S (xs := x.Coeffs) (by omega), Option.bind_some]
theorem pe_Term {x y : Term} (hl : pc_Term x ≤ 1048576) : m_laws_eqTerm x y = some (decide (x = y)) := by
  unfold pc_Term at hl
  unfold m_laws_eqTerm
  rw [← decide_eq_decide.2 (pi_Term x y)]
  exact pl_eqB (pl_eqML (pe_Int64S (by omega)))
def pc_TermS (xs : List Term) : Nat := xs.length + (xs.map pc_Term).sum
theorem pc_TermS_mem {xs : List Term} {x : Term} (h : x ∈ xs) : pc_Term x ≤ pc_TermS xs := by have := pl_mem_sum (c := pc_Term) h; unfold pc_TermS; omega
theorem pc_TermS_len {xs : List Term} : xs.length ≤ pc_TermS xs := by unfold pc_TermS; omega
theorem pz_TermS {xs : List Term} (k : kLa_Term xs) : SzP m_laws_szTermS pc_TermS xs := fun b hb => by
  unfold m_laws_szTermS pc_TermS
  rw [szW k.1 hb]
  by_cases h : xs.length ≤ b
  · rw [decide_eq_false (by omega), cond_false, show (b : Int) - (xs.length : Int) = ((b - xs.length : Nat) : Int) by omega,
      iter_sz (xs := xs) (c := pc_Term) (sz := m_laws_szTerm)
        (fun n x b hx => by unfold m_laws_szTermS_L0; rw [dec_lt (get_lt hx), cond_true, getI_some hx]; rfl)
        (fun b => by unfold m_laws_szTermS_L0; rw [dec_self]; rfl) k.1 (fun x hx => pz_Term (k.2 x hx)) (by omega), Option.bind_some]
    by_cases h2 : (xs.map pc_Term).sum ≤ b - xs.length
    · rw [if_pos h2, szOut_ok (by omega)]
      unfold m_laws_szTermS_A0; simp only; congr 2; omega
    · rw [if_neg h2, szOut_no (by omega)]; rfl
  · rw [decide_eq_true (by omega), szOut_no (by omega)]; rfl
theorem pt_TermS {xs : List Term} (hl : pc_TermS xs ≤ 1048576) : m_laws_toTermS xs = some xs := by
  have hlen : xs.length ≤ 1048576 := Nat.le_trans pc_TermS_len hl
  unfold m_laws_toTermS
  rw [makeI_some (by omega), Option.bind_some, iter_to (xs := xs) (z := (Term.mk (0 : Int) ([] : List Int))) (cp := m_laws_toTerm)
    (fun n x ys hx => by unfold m_laws_toTermS_L0; rw [dec_lt (get_lt hx), cond_true, getI_some hx]; rfl)
    (fun ys => by unfold m_laws_toTermS_L0; rw [dec_self]; rfl) hlen (fun x hx => pt_Term (by have := pc_TermS_mem hx; omega))]
  rfl
theorem pe_TermS {xs ys : List Term} (hl : pc_TermS xs ≤ 1048576) : m_laws_eqTermS xs ys = some (decide (xs = ys)) := by
  have hlen : xs.length ≤ 1048576 := Nat.le_trans pc_TermS_len hl
  unfold m_laws_eqTermS
  by_cases h : xs.length = ys.length
  · rw [decide_eq_true (by omega), Bool.not_true, cond_false, iter_eq (xs := xs) (ys := ys) (eq := m_laws_eqTerm)
      (fun n x y hx hy => by unfold m_laws_eqTermS_L0; rw [dec_lt (get_lt hx), cond_true, getI_some hx, getI_some hy]; rfl)
      (by unfold m_laws_eqTermS_L0; rw [dec_self]; rfl) (by omega) h (fun x hx y => pe_Term (by have := pc_TermS_mem hx; omega))]
    by_cases e : xs = ys
    · rw [if_pos e, decide_eq_true e]; rfl
    · rw [if_neg e, decide_eq_false e]; rfl
  · rw [decide_eq_false (by omega), decide_eq_false (fun e => h (by rw [e]))]; rfl
def pqE_TermS (x : Term) : Nat := 1 + pq_Int64S x.Coeffs
def pq_TermS (xs : List Term) : Nat := (xs.map pqE_TermS).sum
theorem pqE_TermS_le (x : Term) : pqE_TermS x ≤ 8 + 8 * pc_Term x := by
  unfold pqE_TermS
  have h0 := pq_Int64S_le x.Coeffs
  unfold pc_Term
  omega
theorem pq_TermS_le (xs : List Term) : pq_TermS xs ≤ 8 * pc_TermS xs := by
  unfold pq_TermS pc_TermS
  exact pl_sum_le (fun x => pqE_TermS_le x)
noncomputable def pmk_TermS (x : Term) (k : Int) : Option (Int × Term) := (m_laws_markInt64S x.Coeffs (w64 (k + 1))).bind fun r0 => some (r0.1, (Term.mk k r0.2))
noncomputable def phe_TermS (x : Term) (k : Int) : Option Int := bif !decide (x.Const = k) then some (-1) else (m_laws_heldInt64S x.Coeffs (w64 (k + 1))).bind fun r1 => bif decide (r1 < 0) then some (-1) else some r1
theorem pmE_TermS (x : Term) (hc : pc_Term x ≤ 1048576) : ∀ k : Nat, k + pqE_TermS x ≤ 4611686018427387904 → ∃ x', pmk_TermS x k = some (((k + pqE_TermS x : Nat) : Int), x') ∧ phe_TermS x' k = some ((k + pqE_TermS x : Nat) : Int) := fun k hk => by
  unfold pqE_TermS at hk ⊢
  unfold pc_Term at hc
  obtain ⟨a0, m0, g0⟩ := pm_Int64S (xs := x.Coeffs) (by omega) (k := k + 1) (by omega)
  have n0 : decide ((((k + 1) + pq_Int64S x.Coeffs : Nat) : Int) < 0) = false := decide_eq_false (by omega)
  have tot : ((k + 1 + pq_Int64S x.Coeffs : Nat) : Int) = ((k + (1 + pq_Int64S x.Coeffs) : Nat) : Int) := by omega
  have w0 : w64 (((k : Nat) : Int) + 1) = ((k + 1 : Nat) : Int) := w64_succ (by omega)
  refine ⟨(Term.mk ((k : Nat) : Int) a0), ?_, ?_⟩
  · unfold pmk_TermS; simp only [w0, m0, Option.bind_some] <;> rw [← tot]
  · unfold phe_TermS; simp only [w0, g0, n0, Option.bind_some, decide_true, Bool.not_true, cond_false] <;> rw [← tot]
theorem pm_TermS {xs : List Term} (hl : pc_TermS xs ≤ 1048576) {k : Nat} (hk : k + pq_TermS xs ≤ 4611686018427387904) : ∃ xs', m_laws_markTermS xs k = some (((k + pq_TermS xs : Nat) : Int), xs') ∧ m_laws_heldTermS xs' k = some ((k + pq_TermS xs : Nat) : Int) := by
  obtain ⟨xs', h1, h2, h3⟩ := iter_mark (xs := xs) (m := pqE_TermS) (mk := pmk_TermS) (held := phe_TermS) (step := m_laws_markTermS_L0) (hstep := m_laws_heldTermS_L0)
    (fun n ys x k hk hx => by
      have hn := get_lt hx
      have gen : ∀ k1 : Int, w64 ((k : Int) + 1) = k1 → m_laws_markTermS_L0 (ys, (k : Int), (n : Int)) = (pmk_TermS x k).bind fun r => some (.next (ys.set n r.2, r.1, w64 ((n : Int) + 1))) := by
        intro k1 h1
        unfold m_laws_markTermS_L0 pmk_TermS
        simp only [h1, dec_lt hn, cond_true, getI_some hx, Option.bind_some, Int.toNat_natCast, pl_get_set hn, pl_get_set2 hn, pl_get_set3 hn, pl_get_set4 hn, pl_get_set5 hn, pl_get_set6 hn, pl_get_set7 hn, List.set_set, Option.bind_assoc]
      exact gen _ rfl)
    (fun ys k => by unfold m_laws_markTermS_L0; rw [dec_self]; rfl)
    (fun n ys x k hk hx => by
      unfold m_laws_heldTermS_L0 phe_TermS
      rw [dec_lt (get_lt hx), cond_true, getI_some hx]
      have w0 : w64 (((k : Nat) : Int) + 1) = ((k + 1 : Nat) : Int) := w64_succ (by omega)
      simp only [Option.bind_some, pl_condB, pl_cond2, Option.bind_assoc, pl_neg1, cond_true, cond_false, dec_neg, w0])
    (fun ys k => by unfold m_laws_heldTermS_L0; rw [dec_self]; rfl)
    (by have := pc_TermS_len (xs := xs); omega) (fun x hx => pmE_TermS x (by have := pc_TermS_mem hx; omega)) (k := k) hk
  exact ⟨xs', by unfold m_laws_markTermS; rw [h1]; rfl, by unfold m_laws_heldTermS; rw [h3]; rfl⟩
def pc_Stmt (x : Stmt) : Nat := pc_Term x.Sum + pc_Term x.Index + pc_TermS x.Facts
theorem pi_Stmt (x y : Stmt) : (x.Kind = y.Kind ∧ x.Var = y.Var ∧ x.Event = y.Event ∧ x.Sum = y.Sum ∧ x.Index = y.Index ∧ x.Facts = y.Facts) ↔ x = y := by cases x; cases y; simp
theorem pz_Stmt {x : Stmt} (k : k_Stmt x) : SzP m_laws_szStmt pc_Stmt x := fun b hb => by
  unfold m_laws_szStmt pc_Stmt
  rw [show pc_Term x.Sum + pc_Term x.Index + pc_TermS x.Facts = pc_Term x.Sum + (pc_Term x.Index + (pc_TermS x.Facts)) by omega]
  exact pl_szB (pz_Term k.2.2.2.1 (b) (by omega)) fun h0 => pl_szB (pz_Term k.2.2.2.2.1 (b - pc_Term x.Sum) (by omega)) fun h1 => pl_szL (pz_TermS k.2.2.2.2.2 (b - pc_Term x.Sum - pc_Term x.Index) (by omega))
theorem pt_Stmt {x : Stmt} (hl : pc_Stmt x ≤ 1048576) : m_laws_toStmt x = some x := by
  unfold pc_Stmt at hl
  unfold m_laws_toStmt
  simp only [pt_Term (x := x.Sum) (by omega), pt_Term (x := x.Index) (by omega), pt_TermS (xs := x.Facts) (by omega), Option.bind_some]
theorem pe_Stmt {x y : Stmt} (hl : pc_Stmt x ≤ 1048576) : m_laws_eqStmt x y = some (decide (x = y)) := by
  unfold pc_Stmt at hl
  unfold m_laws_eqStmt
  rw [← decide_eq_decide.2 (pi_Stmt x y)]
  exact pl_eqB (pl_eqB (pl_eqB (pl_eqM (pe_Term (by omega)) (pl_eqM (pe_Term (by omega)) (pl_eqML (pe_TermS (by omega)))))))
def pc_StmtS (xs : List Stmt) : Nat := xs.length + (xs.map pc_Stmt).sum
theorem pc_StmtS_mem {xs : List Stmt} {x : Stmt} (h : x ∈ xs) : pc_Stmt x ≤ pc_StmtS xs := by have := pl_mem_sum (c := pc_Stmt) h; unfold pc_StmtS; omega
theorem pc_StmtS_len {xs : List Stmt} : xs.length ≤ pc_StmtS xs := by unfold pc_StmtS; omega
theorem pz_StmtS {xs : List Stmt} (k : kLa_Stmt xs) : SzP m_laws_szStmtS pc_StmtS xs := fun b hb => by
  unfold m_laws_szStmtS pc_StmtS
  rw [szW k.1 hb]
  by_cases h : xs.length ≤ b
  · rw [decide_eq_false (by omega), cond_false, show (b : Int) - (xs.length : Int) = ((b - xs.length : Nat) : Int) by omega,
      iter_sz (xs := xs) (c := pc_Stmt) (sz := m_laws_szStmt)
        (fun n x b hx => by unfold m_laws_szStmtS_L0; rw [dec_lt (get_lt hx), cond_true, getI_some hx]; rfl)
        (fun b => by unfold m_laws_szStmtS_L0; rw [dec_self]; rfl) k.1 (fun x hx => pz_Stmt (k.2 x hx)) (by omega), Option.bind_some]
    by_cases h2 : (xs.map pc_Stmt).sum ≤ b - xs.length
    · rw [if_pos h2, szOut_ok (by omega)]
      unfold m_laws_szStmtS_A0; simp only; congr 2; omega
    · rw [if_neg h2, szOut_no (by omega)]; rfl
  · rw [decide_eq_true (by omega), szOut_no (by omega)]; rfl
theorem pt_StmtS {xs : List Stmt} (hl : pc_StmtS xs ≤ 1048576) : m_laws_toStmtS xs = some xs := by
  have hlen : xs.length ≤ 1048576 := Nat.le_trans pc_StmtS_len hl
  unfold m_laws_toStmtS
  rw [makeI_some (by omega), Option.bind_some, iter_to (xs := xs) (z := (Stmt.mk (0 : Int) (0 : Int) (0 : Int) (Term.mk (0 : Int) ([] : List Int)) (Term.mk (0 : Int) ([] : List Int)) ([] : List Term))) (cp := m_laws_toStmt)
    (fun n x ys hx => by unfold m_laws_toStmtS_L0; rw [dec_lt (get_lt hx), cond_true, getI_some hx]; rfl)
    (fun ys => by unfold m_laws_toStmtS_L0; rw [dec_self]; rfl) hlen (fun x hx => pt_Stmt (by have := pc_StmtS_mem hx; omega))]
  rfl
theorem pe_StmtS {xs ys : List Stmt} (hl : pc_StmtS xs ≤ 1048576) : m_laws_eqStmtS xs ys = some (decide (xs = ys)) := by
  have hlen : xs.length ≤ 1048576 := Nat.le_trans pc_StmtS_len hl
  unfold m_laws_eqStmtS
  by_cases h : xs.length = ys.length
  · rw [decide_eq_true (by omega), Bool.not_true, cond_false, iter_eq (xs := xs) (ys := ys) (eq := m_laws_eqStmt)
      (fun n x y hx hy => by unfold m_laws_eqStmtS_L0; rw [dec_lt (get_lt hx), cond_true, getI_some hx, getI_some hy]; rfl)
      (by unfold m_laws_eqStmtS_L0; rw [dec_self]; rfl) (by omega) h (fun x hx y => pe_Stmt (by have := pc_StmtS_mem hx; omega))]
    by_cases e : xs = ys
    · rw [if_pos e, decide_eq_true e]; rfl
    · rw [if_neg e, decide_eq_false e]; rfl
  · rw [decide_eq_false (by omega), decide_eq_false (fun e => h (by rw [e]))]; rfl
def pqE_StmtS (x : Stmt) : Nat := 5 + pq_Int64S x.Sum.Coeffs + pq_Int64S x.Index.Coeffs + pq_TermS x.Facts
def pq_StmtS (xs : List Stmt) : Nat := (xs.map pqE_StmtS).sum
theorem pqE_StmtS_le (x : Stmt) : pqE_StmtS x ≤ 8 + 8 * pc_Stmt x := by
  unfold pqE_StmtS
  have h0 := pq_Int64S_le x.Sum.Coeffs
  have h1 := pq_Int64S_le x.Index.Coeffs
  have h2 := pq_TermS_le x.Facts
  unfold pc_Stmt
  unfold pc_Term
  omega
theorem pq_StmtS_le (xs : List Stmt) : pq_StmtS xs ≤ 8 * pc_StmtS xs := by
  unfold pq_StmtS pc_StmtS
  exact pl_sum_le (fun x => pqE_StmtS_le x)
noncomputable def pmk_StmtS (x : Stmt) (k : Int) : Option (Int × Stmt) := (m_laws_markInt64S x.Sum.Coeffs (w64 ((w64 ((w64 ((w64 (k + 1)) + 1)) + 1)) + 1))).bind fun r0 => (m_laws_markInt64S x.Index.Coeffs (w64 (r0.1 + 1))).bind fun r1 => (m_laws_markTermS x.Facts r1.1).bind fun r2 => some (r2.1, (Stmt.mk k (w64 (k + 1)) (w64 ((w64 (k + 1)) + 1)) (Term.mk (w64 ((w64 ((w64 (k + 1)) + 1)) + 1)) r0.2) (Term.mk r0.1 r1.2) r2.2))
theorem pmE_StmtS (x : Stmt) (hc : pc_Stmt x ≤ 1048576) : ∀ k : Nat, k + pqE_StmtS x ≤ 4611686018427387904 → ∃ x', pmk_StmtS x k = some (((k + pqE_StmtS x : Nat) : Int), x') := fun k hk => by
  unfold pqE_StmtS at hk ⊢
  unfold pc_Stmt at hc
  unfold pc_Term at hc
  obtain ⟨a0, m0, g0⟩ := pm_Int64S (xs := x.Sum.Coeffs) (by omega) (k := k + 1 + 1 + 1 + 1) (by omega)
  have n0 : decide ((((k + 1 + 1 + 1 + 1) + pq_Int64S x.Sum.Coeffs : Nat) : Int) < 0) = false := decide_eq_false (by omega)
  obtain ⟨a1, m1, g1⟩ := pm_Int64S (xs := x.Index.Coeffs) (by omega) (k := k + 1 + 1 + 1 + 1 + pq_Int64S x.Sum.Coeffs + 1) (by omega)
  have n1 : decide ((((k + 1 + 1 + 1 + 1 + pq_Int64S x.Sum.Coeffs + 1) + pq_Int64S x.Index.Coeffs : Nat) : Int) < 0) = false := decide_eq_false (by omega)
  obtain ⟨a2, m2, g2⟩ := pm_TermS (xs := x.Facts) (by omega) (k := k + 1 + 1 + 1 + 1 + pq_Int64S x.Sum.Coeffs + 1 + pq_Int64S x.Index.Coeffs) (by omega)
  have n2 : decide ((((k + 1 + 1 + 1 + 1 + pq_Int64S x.Sum.Coeffs + 1 + pq_Int64S x.Index.Coeffs) + pq_TermS x.Facts : Nat) : Int) < 0) = false := decide_eq_false (by omega)
  have tot : ((k + 1 + 1 + 1 + 1 + pq_Int64S x.Sum.Coeffs + 1 + pq_Int64S x.Index.Coeffs + pq_TermS x.Facts : Nat) : Int) = ((k + (5 + pq_Int64S x.Sum.Coeffs + pq_Int64S x.Index.Coeffs + pq_TermS x.Facts) : Nat) : Int) := by omega
  obtain ⟨w0, w1, w2, w3, w4⟩ : w64 (((k : Nat) : Int) + 1) = ((k + 1 : Nat) : Int) ∧ w64 (((k + 1 : Nat) : Int) + 1) = ((k + 1 + 1 : Nat) : Int) ∧ w64 (((k + 1 + 1 : Nat) : Int) + 1) = ((k + 1 + 1 + 1 : Nat) : Int) ∧ w64 (((k + 1 + 1 + 1 : Nat) : Int) + 1) = ((k + 1 + 1 + 1 + 1 : Nat) : Int) ∧ w64 (((k + 1 + 1 + 1 + 1 + pq_Int64S x.Sum.Coeffs : Nat) : Int) + 1) = ((k + 1 + 1 + 1 + 1 + pq_Int64S x.Sum.Coeffs + 1 : Nat) : Int) := ⟨w64_succ (by omega), w64_succ (by omega), w64_succ (by omega), w64_succ (by omega), w64_succ (by omega)⟩
  refine ⟨(Stmt.mk ((k : Nat) : Int) ((k + 1 : Nat) : Int) ((k + 1 + 1 : Nat) : Int) (Term.mk ((k + 1 + 1 + 1 : Nat) : Int) a0) (Term.mk ((k + 1 + 1 + 1 + 1 + pq_Int64S x.Sum.Coeffs : Nat) : Int) a1) a2), ?_⟩
  unfold pmk_StmtS; simp only [w0, w1, w2, w3, w4, m0, m1, m2, Option.bind_some] <;> rw [← tot]
theorem pm_StmtS {xs : List Stmt} (hl : pc_StmtS xs ≤ 1048576) {k : Nat} (hk : k + pq_StmtS xs ≤ 4611686018427387904) : ∃ xs', m_laws_markStmtS xs k = some (((k + pq_StmtS xs : Nat) : Int), xs') ∧ True := by
  obtain ⟨xs', h1⟩ := pl_mark0 (xs := xs) (m := pqE_StmtS) (mk := pmk_StmtS) (step := m_laws_markStmtS_L0)
    (fun n ys x k hk hx => by
      have hn := get_lt hx
      have gen : ∀ k1 k2 k3 k4 : Int, w64 ((k : Int) + 1) = k1 → w64 (k1 + 1) = k2 → w64 (k2 + 1) = k3 → w64 (k3 + 1) = k4 → m_laws_markStmtS_L0 (ys, (k : Int), (n : Int)) = (pmk_StmtS x k).bind fun r => some (.next (ys.set n r.2, r.1, w64 ((n : Int) + 1))) := by
        intro k1 k2 k3 k4 h1 h2 h3 h4
        unfold m_laws_markStmtS_L0 pmk_StmtS
        simp only [h1, h2, h3, h4, dec_lt hn, cond_true, getI_some hx, Option.bind_some, Int.toNat_natCast, pl_get_set hn, pl_get_set2 hn, pl_get_set3 hn, pl_get_set4 hn, pl_get_set5 hn, pl_get_set6 hn, pl_get_set7 hn, List.set_set, Option.bind_assoc]
      exact gen _ _ _ _ rfl rfl rfl rfl)
    (fun ys k => by unfold m_laws_markStmtS_L0; rw [dec_self]; rfl)
    (by have := pc_StmtS_len (xs := xs); omega) (fun x hx => pmE_StmtS x (by have := pc_StmtS_mem hx; omega)) (k := k) hk
  exact ⟨xs', by unfold m_laws_markStmtS; rw [h1]; rfl, trivial⟩
def pc_Program (x : Program) : Nat := pc_TermS x.Pre + pc_StmtS x.Body + pc_TermS x.Post
theorem pi_Program (x y : Program) : (x.Pre = y.Pre ∧ x.Body = y.Body ∧ x.Post = y.Post) ↔ x = y := by cases x; cases y; simp
theorem pz_Program {x : Program} (k : k_Program x) : SzP m_laws_szProgram pc_Program x := fun b hb => by
  unfold m_laws_szProgram pc_Program
  rw [show pc_TermS x.Pre + pc_StmtS x.Body + pc_TermS x.Post = pc_TermS x.Pre + (pc_StmtS x.Body + (pc_TermS x.Post)) by omega]
  exact pl_szB (pz_TermS k.1 (b) (by omega)) fun h0 => pl_szB (pz_StmtS k.2.1 (b - pc_TermS x.Pre) (by omega)) fun h1 => pl_szL (pz_TermS k.2.2 (b - pc_TermS x.Pre - pc_StmtS x.Body) (by omega))
theorem pt_Program {x : Program} (hl : pc_Program x ≤ 1048576) : m_laws_toProgram x = some x := by
  unfold pc_Program at hl
  unfold m_laws_toProgram
  simp only [pt_TermS (xs := x.Pre) (by omega), pt_StmtS (xs := x.Body) (by omega), pt_TermS (xs := x.Post) (by omega), Option.bind_some]
theorem pe_Program {x y : Program} (hl : pc_Program x ≤ 1048576) : m_laws_eqProgram x y = some (decide (x = y)) := by
  unfold pc_Program at hl
  unfold m_laws_eqProgram
  rw [← decide_eq_decide.2 (pi_Program x y)]
  exact pl_eqM (pe_TermS (by omega)) (pl_eqM (pe_StmtS (by omega)) (pl_eqML (pe_TermS (by omega))))
def pq_Program (x : Program) : Nat := pq_TermS x.Pre + pq_StmtS x.Body + pq_TermS x.Post
theorem pq_Program_le (x : Program) : pq_Program x ≤ 8 * pc_Program x := by
  unfold pq_Program pc_Program
  have h0 := pq_TermS_le x.Pre
  have h1 := pq_StmtS_le x.Body
  have h2 := pq_TermS_le x.Post
  omega
theorem pm_Program {x : Program} (hl : pc_Program x ≤ 1048576) {k : Nat} (hk : k + pq_Program x ≤ 4611686018427387904) : ∃ (a0 : (List Term)) (a1 : (List Stmt)) (a2 : (List Term)), m_laws_markProgram x k = some (((k + pq_Program x : Nat) : Int), a0, a1, a2) ∧ True := by
  unfold pq_Program at hk ⊢
  unfold pc_Program at hl
  have l0 : x.Pre.length ≤ pc_TermS x.Pre := pc_TermS_len
  have l1 : x.Body.length ≤ pc_StmtS x.Body := pc_StmtS_len
  have l2 : x.Post.length ≤ pc_TermS x.Post := pc_TermS_len
  obtain ⟨a0, m0, g0⟩ := pm_TermS (xs := x.Pre) (by omega) (k := k) (by omega)
  have n0 : decide ((((k) + pq_TermS x.Pre : Nat) : Int) < 0) = false := decide_eq_false (by omega)
  obtain ⟨a1, m1, g1⟩ := pm_StmtS (xs := x.Body) (by omega) (k := k + pq_TermS x.Pre) (by omega)
  have n1 : decide ((((k + pq_TermS x.Pre) + pq_StmtS x.Body : Nat) : Int) < 0) = false := decide_eq_false (by omega)
  obtain ⟨a2, m2, g2⟩ := pm_TermS (xs := x.Post) (by omega) (k := k + pq_TermS x.Pre + pq_StmtS x.Body) (by omega)
  have n2 : decide ((((k + pq_TermS x.Pre + pq_StmtS x.Body) + pq_TermS x.Post : Nat) : Int) < 0) = false := decide_eq_false (by omega)
  have tot : ((k + pq_TermS x.Pre + pq_StmtS x.Body + pq_TermS x.Post : Nat) : Int) = ((k + (pq_TermS x.Pre + pq_StmtS x.Body + pq_TermS x.Post) : Nat) : Int) := by omega
  refine ⟨a0, a1, a2, ?_, trivial⟩
  · unfold m_laws_markProgram; simp only [m0, m1, m2, Option.bind_some] <;> rw [← tot]
def pc_State (x : State) : Nat := pc_Int64S x.Vars + pc_Int64S x.Cells
theorem pi_State (x y : State) : (x.Vars = y.Vars ∧ x.Cells = y.Cells) ↔ x = y := by cases x; cases y; simp
theorem pz_State {x : State} (k : k_State x) : SzP m_laws_szState pc_State x := fun b hb => by
  unfold m_laws_szState pc_State
  rw [show pc_Int64S x.Vars + pc_Int64S x.Cells = pc_Int64S x.Vars + (pc_Int64S x.Cells) by omega]
  exact pl_szB (pz_Int64S k.1 (b) (by omega)) fun h0 => pl_szL (pz_Int64S k.2 (b - pc_Int64S x.Vars) (by omega))
theorem pt_State {x : State} (hl : pc_State x ≤ 1048576) : m_laws_toState x = some x := by
  unfold pc_State at hl
  unfold m_laws_toState
  simp only [pt_Int64S (xs := x.Vars) (by omega), pt_Int64S (xs := x.Cells) (by omega), Option.bind_some]
theorem pe_State {x y : State} (hl : pc_State x ≤ 1048576) : m_laws_eqState x y = some (decide (x = y)) := by
  unfold pc_State at hl
  unfold m_laws_eqState
  rw [← decide_eq_decide.2 (pi_State x y)]
  exact pl_eqM (pe_Int64S (by omega)) (pl_eqML (pe_Int64S (by omega)))
end Go.Mod

namespace Go.Mod
open Go.AM
set_option linter.unusedVariables false
set_option linter.unusedSimpArgs false
def cTerm (t : Term) : Nat := t.Coeffs.length
def inR (c : Int) : Bool := decide (-1000000 ≤ c) && decide (c ≤ 1000000)
def lastOK (xs : List Int) : Bool := match xs.getLast? with | none => true | some x => !decide (x = 0)
def vT (t : Term) : Bool := inR t.Const && decide (t.Coeffs.length ≤ 10) && lastOK t.Coeffs && t.Coeffs.all inR
theorem getI_last {xs : List Int} (h0 : 0 < xs.length) (hl : xs.length ≤ 9223372036854775807) : getI xs (w64 ((xs.length : Int) - 1)) = xs.getLast? := by
  rw [w64_pred h0 hl, getI_nat, List.getLast?_eq_getElem?]
theorem spec_number (c : Int) : m_spec_l02Number c = some (inR c) := rfl
theorem spec_is_loop {t : Term} (hl : t.Coeffs.length ≤ 1048576) : iter (m_spec_l02Is_L0 t) 0 = some (bif t.Coeffs.all inR then .inl () else .inr false) := by
  have h := iter_for (step := m_spec_l02Is_L0 t) t.Coeffs (fun n (_ : Unit) => (n : Int)) (fun _ x _ => bif inR x then some (.next ()) else some (.out (.inr false))) (fun _ => .inl ())
    (fun n x r hx => by
      unfold m_spec_l02Is_L0
      rw [dec_lt (get_lt hx), cond_true, getI_some hx, Option.bind_some, spec_number, Option.bind_some]
      have hw : w64 ((n : Int) + 1) = ((n + 1 : Nat) : Int) := w64_succ (by have := get_lt hx; omega)
      cases inR x
      · rfl
      · rw [hw]; rfl)
    (fun r => by unfold m_spec_l02Is_L0; rw [dec_self]; rfl) ()
  rw [forL_all inR _ _ (fun n x _ => rfl)] at h
  exact h
theorem spec_is {t : Term} (hl : cTerm t ≤ 1048576) : m_spec_l02Is t = some (vT t) := by
  unfold cTerm at hl
  have hJ : m_spec_l02Is_J0 t () = some (t.Coeffs.all inR) := by
    unfold m_spec_l02Is_J0
    rw [spec_is_loop hl, Option.bind_some]
    cases t.Coeffs.all inR <;> rfl
  unfold m_spec_l02Is
  rw [spec_number, Option.bind_some]
  unfold vT
  cases h1 : inR t.Const with
  | false => rfl
  | true =>
    by_cases h2 : t.Coeffs.length ≤ 10
    · rw [decide_eq_true h2, decide_eq_false (show ¬ (10 : Int) < (t.Coeffs.length : Int) by omega)]
      simp only [Bool.not_true, Bool.false_or, cond_false, Bool.true_and]
      by_cases h3 : 0 < t.Coeffs.length
      · rw [decide_eq_true (show (0 : Int) < (t.Coeffs.length : Int) by omega), cond_true, getI_last h3 (by omega)]
        unfold lastOK
        cases h4 : t.Coeffs.getLast? with
        | none => rw [List.getLast?_eq_none_iff] at h4; rw [h4] at h3; exact absurd h3 (by simp)
        | some x =>
          simp only [Option.bind_some]
          by_cases h5 : x = 0
          · rw [decide_eq_true h5]; rfl
          · rw [decide_eq_false h5, cond_false, hJ]; rfl
      · rw [decide_eq_false (show ¬ (0 : Int) < (t.Coeffs.length : Int) by omega), cond_false, hJ]
        have : t.Coeffs = [] := List.length_eq_zero_iff.1 (by omega)
        rw [this]; rfl
    · rw [decide_eq_false h2, decide_eq_true (show (10 : Int) < (t.Coeffs.length : Int) by omega)]; rfl
theorem impl_all {xs : List Int} {a b : Int} : m_impl_allWithin xs a b = some (xs.all fun x => decide (a ≤ x) && decide (x ≤ b)) := by
  unfold m_impl_allWithin
  rw [forL_all (fun x => decide (a ≤ x) && decide (x ≤ b)) (f := .inr false) xs 0 (fun n x _ => by
    unfold m_impl_allWithin_L0 m_impl_within
    rw [Option.bind_some]
    cases (decide (a ≤ x) && decide (x ≤ b)) <;> rfl), Option.bind_some]
  cases xs.all fun x => decide (a ≤ x) && decide (x ≤ b) <;> rfl
theorem impl_valid (t : Term) : m_impl_ValidTerm t = some (vT t) := by
  unfold m_impl_ValidTerm vT
  by_cases h2 : t.Coeffs.length ≤ 10
  · rw [decide_eq_true h2, decide_eq_true (show (t.Coeffs.length : Int) ≤ (10 : Int) by omega), cond_true]
    rw [show m_impl_isCoeff t.Const = some (inR t.Const) from rfl, Option.bind_some]
    cases h1 : inR t.Const with
    | false => rfl
    | true =>
      rw [cond_true, impl_all, Option.bind_some]
      change (bif t.Coeffs.all inR then _ else _) = _
      cases h3 : t.Coeffs.all inR with
      | false => simp
      | true =>
        rw [cond_true]
        by_cases h4 : t.Coeffs.length = 0
        · rw [decide_eq_true (by omega), cond_true]
          rw [List.length_eq_zero_iff.1 h4]; rfl
        · rw [decide_eq_false (by omega), cond_false, getI_last (by omega) (by omega)]
          unfold lastOK
          cases h5 : t.Coeffs.getLast? with
          | none => rw [List.getLast?_eq_none_iff] at h5; rw [h5] at h4; exact absurd rfl h4
          | some x => simp
  · rw [decide_eq_false h2, decide_eq_false (show ¬ (t.Coeffs.length : Int) ≤ (10 : Int) by omega)]; simp
def chk (t : Term) : Term × Bool := bif vT t then (t, true) else (Term.mk 0 [], false)
theorem spec_own {xs : List Int} (h : xs.length ≤ 1048576) : m_spec_l00Own xs = some xs := by
  unfold m_spec_l00Own; rw [capI_some (by simp; omega)]; simp
theorem impl_copy {xs : List Int} (h : xs.length ≤ 1048576) : m_impl_copyInts xs = some xs := by
  unfold m_impl_copyInts; rw [capI_some (by simp; omega)]; simp
theorem impl_own {t : Term} (h : t.Coeffs.length ≤ 1048576) : m_impl_Term_own t = some t := by
  unfold m_impl_Term_own; rw [impl_copy h]; rfl
def coef (xs : List Int) (i : Nat) : Int := xs[i]?.getD 0
def sumN (f : Nat → Int) : Nat → Int
  | 0 => 0
  | n + 1 => sumN f n + f n
def tAt (ts : List Term) (k : Nat) : Term := ts[k]?.getD ⟨0, []⟩
def lin (ts : List Term) (ms : List Int) (g : Term → Int) (n : Nat) : Int := sumN (fun k => coef ms k * g (tAt ts k)) n
def cTermS (ts : List Term) : Nat := ts.length + (ts.map cTerm).sum
theorem mem_sum {α : Type} {c : α → Nat} {xs : List α} {x : α} (h : x ∈ xs) : c x ≤ (xs.map c).sum := by
  induction xs with
  | nil => cases h
  | cons y r ih =>
    simp only [List.map_cons, List.sum_cons]
    rcases List.mem_cons.1 h with rfl | h
    · omega
    · have := ih h; omega
theorem cTermS_mem {ts : List Term} {t : Term} (h : t ∈ ts) : cTerm t ≤ cTermS ts := by have := mem_sum (c := cTerm) h; unfold cTermS; omega
theorem foldl_snoc {α : Type} (xs s : List α) : xs.foldl (fun s x => s ++ [x]) s = s ++ xs := by
  induction xs generalizing s with
  | nil => simp
  | cons x r ih => simp [ih]
theorem impl_ownTerms {ts : List Term} (hl : cTermS ts ≤ 1048576) : m_impl_ownTerms ts = some ts := by
  have hlen : ts.length ≤ 1048576 := by unfold cTermS at hl; omega
  unfold m_impl_ownTerms
  rw [forL_fold (fun s x => s ++ [x]) (fun k s => s.length = k) ts 0 [] rfl (fun n x s hx hs => by
    have := get_lt hx
    unfold m_impl_ownTerms_L0
    rw [impl_own (by have := cTermS_mem (List.mem_of_getElem? hx); unfold cTerm at this; omega), Option.bind_some, capI_some (by simp; omega), Option.bind_some]
    exact ⟨rfl, by simp [hs]⟩), Option.bind_some, foldl_snoc]
  rfl
theorem spec_ownAll {ts : List Term} (hl : cTermS ts ≤ 1048576) : m_spec_l02OwnAll ts = some ts := by
  have hlen : ts.length ≤ 1048576 := by unfold cTermS at hl; omega
  have h := iter_for (step := m_spec_l02OwnAll_L0 ts) ts (fun n (s : List Term) => (s, (n : Int))) m_impl_ownTerms_L0 (fun s0 => s0)
    (fun n x r hx => by
      unfold m_spec_l02OwnAll_L0 m_impl_ownTerms_L0 m_spec_l02Own
      have hc := cTermS_mem (List.mem_of_getElem? hx)
      unfold cTerm at hc
      simp only
      rw [dec_lt (get_lt hx), cond_true, getI_some hx, Option.bind_some, spec_own (by omega), Option.bind_some, Option.bind_some, impl_own (by omega), Option.bind_some]
      simp only [List.length_cons, List.length_nil, Nat.zero_add]
      cases capI (r.length + 1) 32 with
      | none => rfl
      | some u => simp only [Option.bind_some]; rw [w64_succ (by have := get_lt hx; omega)]; rfl)
    (fun r => by unfold m_spec_l02OwnAll_L0; simp only; rw [dec_self]; rfl) ([] : List Term)
  have h2 := impl_ownTerms hl
  unfold m_impl_ownTerms at h2
  unfold m_spec_l02OwnAll
  rw [show (0 : Int) = ((0 : Nat) : Int) from rfl, h]
  exact h2
def Src (s : l00Src) (k : Nat) : Prop := (∀ x ∈ s.code, 0 ≤ x ∧ x ≤ 255) ∧ s.code.length ≤ 1048576 ∧ 0 ≤ s.at_ ∧ s.at_ ≤ k
theorem Src.mono {s : l00Src} {k k' : Nat} (h : Src s k) (hk : k ≤ k') : Src s k' := ⟨h.1, h.2.1, h.2.2.1, by have := h.2.2.2; omega⟩
def val (t : Term) (v : List Int) : Int := t.Const + sumN (fun i => coef t.Coeffs i * coef v i) 10
def Vals (v : List Int) : Prop := v.length = 10 ∧ ∀ x ∈ v, -6 ≤ x ∧ x ≤ 6
theorem Vals.coef {v : List Int} (h : Vals v) (i : Nat) : -6 ≤ coef v i ∧ coef v i ≤ 6 := by
  unfold Mod.coef
  cases hx : v[i]? with
  | none => simp
  | some x => exact h.2 x (List.mem_of_getElem? hx)
structure Small (t : Term) : Prop where
  v : vT t = true
  c : -7 ≤ t.Const ∧ t.Const ≤ 7
  f : ∀ i, -4 ≤ coef t.Coeffs i ∧ coef t.Coeffs i ≤ 4
structure Fact (t : Term) (c : Nat) : Prop where
  v : vT t = true
  c : -(c : Int) ≤ t.Const ∧ t.Const ≤ c
  f : ∀ i, -3 ≤ coef t.Coeffs i ∧ coef t.Coeffs i ≤ 3
theorem Fact.mono {t : Term} {c c' : Nat} (h : Fact t c) (hc : c ≤ c') : Fact t c' := ⟨h.v, by have := h.c; omega, h.f⟩
theorem any_index {α : Type} {L0 : Nat → α → Unit → Option (Ctl Unit (Unit ⊕ Int))} (p : α → Bool) : ∀ (xs : List α) (m : Nat), (∀ n, ∀ x ∈ xs, L0 n x () = bif !p x then some (.out (.inr (n : Int))) else some (.next ())) →
    ∃ u, forL L0 (fun s0 => (.inl ())) m xs () = some u ∧ (xs.all p = false → ∃ n : Nat, u = .inr (n : Int)) ∧ (xs.all p = true → u = .inl ()) := by
  intro xs
  induction xs with
  | nil => intro m _; exact ⟨.inl (), rfl, ⟨fun h => by simp at h, fun _ => rfl⟩⟩
  | cons x r ih =>
    intro m h
    obtain ⟨u, hu, h1, h2⟩ := ih (m + 1) (fun n y hy => h n y (List.mem_cons_of_mem _ hy))
    unfold forL
    rw [h m x (by simp), List.all_cons]
    cases hc : p x with
    | false => exact ⟨.inr (m : Int), rfl, fun _ => ⟨m, rfl⟩, fun h => by cases h⟩
    | true => exact ⟨u, hu, fun h => h1 h, fun h => h2 h⟩
theorem dec_nat0 (n : Nat) : decide ((0 : Int) ≤ (n : Int)) = true := decide_eq_true (by omega)
def over (t : Term) : Bool := vT t && decide (t.Coeffs.length ≤ 4)
theorem dec_leC {a c : Nat} : decide ((a : Int) ≤ (c : Int)) = decide (a ≤ c) := by
  by_cases h : a ≤ c
  · rw [decide_eq_true h, decide_eq_true (by omega)]
  · rw [decide_eq_false h, decide_eq_false (by omega)]
theorem impl_over (t : Term) : m_impl_isOver t = some (over t) := by
  unfold m_impl_isOver over
  rw [impl_valid, Option.bind_some, show (4 : Int) = ((4 : Nat) : Int) from rfl, dec_leC]
theorem impl_areOver (ts : List Term) (m : Nat) : m_impl_areOver ts (m : Int) = some (ts.all over && decide (ts.length ≤ m)) := by
  unfold m_impl_areOver
  rw [dec_leC]
  cases decide (ts.length ≤ m) with
  | false => rw [cond_false, Bool.and_false]
  | true =>
    rw [cond_true, Bool.and_true]
    unfold m_slices_ContainsFunc_impl_Term_impl_Term_fareOver_1 m_slices_IndexFunc_impl_Term_impl_Term_fareOver_1
    obtain ⟨u, hu, h1, h2⟩ := any_index (L0 := m_slices_IndexFunc_impl_Term_impl_Term_fareOver_1_L0) over ts 0 (fun n x _ => by
      unfold m_slices_IndexFunc_impl_Term_impl_Term_fareOver_1_L0 m_impl_areOver_1
      rw [impl_over, Option.bind_some, Option.bind_some])
    rw [hu, Option.bind_some]
    unfold m_slices_IndexFunc_impl_Term_impl_Term_fareOver_1_A0
    cases hs : ts.all over with
    | false => obtain ⟨n, rfl⟩ := h1 hs; simp only [Option.bind_some]; rw [dec_nat0]; rfl
    | true => rw [h2 hs]; rfl
end Go.Mod

namespace Go.Mod
open Go.AM
set_option linter.unusedVariables false
set_option linter.unusedSimpArgs false
def zT (t : Term) : Bool := decide (t.Const = 0) && decide (t.Coeffs.length = 0)
def okGiven (ts : List Term) : Bool := ts.all over && decide (ts.length ≤ 6)
def i4 (x : Int) : Bool := decide (0 ≤ x) && decide (x ≤ 3)
def arS (x : Stmt) : Option Nat :=
  bif decide (x.Kind = 0) then (bif decide (x.Var = 0) && decide (x.Event = 0) && zT x.Sum && zT x.Index && decide (x.Facts.length = 0) then some 0 else none)
  else bif decide (x.Kind = 1) then (bif decide (x.Var = 0) && decide (x.Event = 0) && zT x.Sum && zT x.Index && decide (x.Facts.length = 0) then some 2 else none)
  else bif decide (x.Kind = 2) then (bif i4 x.Var && decide (x.Event = 0) && over x.Sum && zT x.Index && decide (x.Facts.length = 0) then some 0 else none)
  else bif decide (x.Kind = 3) then (bif i4 x.Var && decide (x.Event = 0) && zT x.Sum && over x.Index && decide (x.Facts.length = 0) then some 0 else none)
  else bif decide (x.Kind = 4) then (bif decide (x.Var = 0) && decide (x.Event = 0) && over x.Sum && over x.Index && decide (x.Facts.length = 0) then some 0 else none)
  else bif decide (x.Kind = 5) then (bif decide (x.Var = 0) && i4 x.Event && zT x.Sum && zT x.Index && decide (x.Facts.length = 0) then some 0 else none)
  else bif decide (x.Kind = 6) then (bif decide (x.Var = 0) && decide (x.Event = 0) && over x.Sum && zT x.Index && decide (x.Facts.length = 0) then some 0 else none)
  else bif decide (x.Kind = 7) then (bif decide (x.Var = 0) && decide (x.Event = 0) && over x.Sum && zT x.Index && decide (x.Facts.length = 0) then some 2 else none)
  else bif decide (x.Kind = 8) then (bif decide (x.Var = 0) && decide (x.Event = 0) && over x.Sum && zT x.Index && okGiven x.Facts then some 1 else none)
  else none
def arI : Option Nat → Int
  | some n => n
  | none => -1
theorem dec_len0 {α : Type} (xs : List α) : decide ((xs.length : Int) = 0) = decide (xs.length = 0) := by
  by_cases h : xs.length = 0
  · rw [decide_eq_true h, decide_eq_true (by omega)]
  · rw [decide_eq_false h, decide_eq_false (by omega)]
theorem dec_pos0 {α : Type} (xs : List α) : decide ((0 : Int) < (xs.length : Int)) = !decide (xs.length = 0) := by
  by_cases h : xs.length = 0
  · rw [decide_eq_true h, decide_eq_false (by omega)]; rfl
  · rw [decide_eq_false h, decide_eq_true (by omega)]; rfl
theorem impl_zero (t : Term) : m_impl_Term_isZero t = some (zT t) := by unfold m_impl_Term_isZero zT; rw [dec_len0]
theorem spec_zero (t : Term) : m_spec_l05Zero t = some (zT t) := by unfold m_spec_l05Zero zT; rw [dec_len0]
theorem zT_over {t : Term} (h : zT t = true) : over t = true := by
  unfold zT at h
  simp only [Bool.and_eq_true, decide_eq_true_eq] at h
  obtain ⟨h1, h2⟩ := h
  have h3 : t.Coeffs = [] := List.eq_nil_of_length_eq_zero h2
  unfold over vT
  rw [h1, h3]; rfl
theorem impl_given (ts : List Term) : m_impl_areOver ts 6 = some (okGiven ts) := impl_areOver ts 6
theorem len0_given {ts : List Term} (h : ts.length = 0) : okGiven ts = true := by
  have : ts = [] := List.eq_nil_of_length_eq_zero h
  subst this; rfl
theorem kind_cases (k : Int) : k = 0 ∨ k = 1 ∨ k = 2 ∨ k = 3 ∨ k = 4 ∨ k = 5 ∨ k = 6 ∨ k = 7 ∨ k = 8 ∨ (¬ (0 ≤ k ∧ k ≤ 8)) := by omega
theorem impl_kids (x : Stmt) : m_impl_kidsOf x = some (arI (arS x)) := by
  unfold m_impl_kidsOf arS
  simp only [impl_zero, Option.bind_some, impl_over, impl_given, dec_len0, show ∀ n, m_impl_isVar n = some (i4 n) from fun _ => rfl, show ∀ n, m_impl_isEvent n = some (i4 n) from fun _ => rfl]
  rcases kind_cases x.Kind with h | h | h | h | h | h | h | h | h | h
  · simp only [h, decide_true, cond_true]
    cases decide (x.Var = 0) && decide (x.Event = 0) && zT x.Sum && zT x.Index && decide (x.Facts.length = 0) <;> rfl
  · simp only [h, decide_true, cond_true, show decide ((1 : Int) = 0) = false from rfl, cond_false]
    cases decide (x.Var = 0) && decide (x.Event = 0) && zT x.Sum && zT x.Index && decide (x.Facts.length = 0) <;> rfl
  · simp only [h, decide_true, cond_true, show decide ((2 : Int) = 0) = false from rfl, show decide ((2 : Int) = 1) = false from rfl, cond_false]
    cases i4 x.Var <;> cases decide (x.Event = 0) <;> cases over x.Sum <;> cases zT x.Index <;> cases decide (x.Facts.length = 0) <;> rfl
  · simp only [h, decide_true, cond_true, show decide ((3 : Int) = 0) = false from rfl, show decide ((3 : Int) = 1) = false from rfl, show decide ((3 : Int) = 2) = false from rfl, cond_false]
    cases i4 x.Var <;> cases decide (x.Event = 0) <;> cases zT x.Sum <;> cases over x.Index <;> cases decide (x.Facts.length = 0) <;> rfl
  · simp only [h, decide_true, cond_true, show decide ((4 : Int) = 0) = false from rfl, show decide ((4 : Int) = 1) = false from rfl, show decide ((4 : Int) = 2) = false from rfl, show decide ((4 : Int) = 3) = false from rfl, cond_false]
    cases decide (x.Var = 0) <;> cases decide (x.Event = 0) <;> cases over x.Sum <;> cases over x.Index <;> cases decide (x.Facts.length = 0) <;> rfl
  · simp only [h, decide_true, cond_true, show decide ((5 : Int) = 0) = false from rfl, show decide ((5 : Int) = 1) = false from rfl, show decide ((5 : Int) = 2) = false from rfl, show decide ((5 : Int) = 3) = false from rfl, show decide ((5 : Int) = 4) = false from rfl, cond_false]
    cases decide (x.Var = 0) <;> cases i4 x.Event <;> cases zT x.Sum <;> cases zT x.Index <;> cases decide (x.Facts.length = 0) <;> rfl
  · simp only [h, decide_true, cond_true, show decide ((6 : Int) = 0) = false from rfl, show decide ((6 : Int) = 1) = false from rfl, show decide ((6 : Int) = 2) = false from rfl, show decide ((6 : Int) = 3) = false from rfl, show decide ((6 : Int) = 4) = false from rfl, show decide ((6 : Int) = 5) = false from rfl, cond_false]
    cases decide (x.Var = 0) <;> cases decide (x.Event = 0) <;> cases over x.Sum <;> cases zT x.Index <;> cases decide (x.Facts.length = 0) <;> rfl
  · simp only [h, decide_true, cond_true, show decide ((7 : Int) = 0) = false from rfl, show decide ((7 : Int) = 1) = false from rfl, show decide ((7 : Int) = 2) = false from rfl, show decide ((7 : Int) = 3) = false from rfl, show decide ((7 : Int) = 4) = false from rfl, show decide ((7 : Int) = 5) = false from rfl, show decide ((7 : Int) = 6) = false from rfl, cond_false]
    cases decide (x.Var = 0) <;> cases decide (x.Event = 0) <;> cases over x.Sum <;> cases zT x.Index <;> cases decide (x.Facts.length = 0) <;> rfl
  · simp only [h, decide_true, cond_true, show decide ((8 : Int) = 0) = false from rfl, show decide ((8 : Int) = 1) = false from rfl, show decide ((8 : Int) = 2) = false from rfl, show decide ((8 : Int) = 3) = false from rfl, show decide ((8 : Int) = 4) = false from rfl, show decide ((8 : Int) = 5) = false from rfl, show decide ((8 : Int) = 6) = false from rfl, show decide ((8 : Int) = 7) = false from rfl, cond_false]
    cases decide (x.Var = 0) <;> cases decide (x.Event = 0) <;> cases over x.Sum <;> cases zT x.Index <;> cases okGiven x.Facts <;> rfl
  · have e : ∀ n : Int, (0 ≤ n ∧ n ≤ 8) → decide (x.Kind = n) = false := fun n hn => decide_eq_false (fun e => h (e ▸ hn))
    simp only [e 0 (by omega), e 1 (by omega), e 2 (by omega), e 3 (by omega), e 4 (by omega), e 5 (by omega), e 6 (by omega), e 7 (by omega), e 8 (by omega), cond_false]
    rfl
theorem spec_l03Term {t : Term} (h : cTerm t ≤ 1048576) : m_spec_l03Term t = some (over t) := by
  unfold m_spec_l03Term over
  rw [spec_is h, Option.bind_some, show (4 : Int) = ((4 : Nat) : Int) from rfl, dec_leC]
theorem spec_terms {ts : List Term} (hc : cTermS ts ≤ 1048576) (m : Nat) : m_spec_l03Terms ts (m : Int) = some (ts.all over && decide (ts.length ≤ m)) := by
  have hl : ts.length ≤ 1048576 := by unfold cTermS at hc; omega
  have h := iter_for (step := m_spec_l03Terms_L0 ts) ts (fun n (_ : Unit) => (n : Int)) (fun _ x _ => bif over x then some (.next ()) else some (.out (.inr false))) (fun _ => .inl ())
    (fun n x r hx => by
      have hn := get_lt hx
      have hm := cTermS_mem (List.mem_of_getElem? hx)
      unfold m_spec_l03Terms_L0
      rw [dec_lt hn, cond_true, getI_some hx, Option.bind_some, spec_l03Term (by omega), Option.bind_some, w64_succ (by omega)]
      cases over x <;> rfl)
    (fun r => by unfold m_spec_l03Terms_L0; rw [dec_self]; rfl) ()
  unfold m_spec_l03Terms
  rw [show (0 : Int) = ((0 : Nat) : Int) from rfl, h, forL_all over ts 0 (fun _ _ _ => rfl), Option.bind_some]
  unfold m_spec_l03Terms_A0
  cases ts.all over with
  | true => simp only [cond_true, Bool.true_and, dec_leC]
  | false => rfl
theorem spec_given {ts : List Term} (hc : cTermS ts ≤ 1048576) : m_spec_l03Terms ts 6 = some (okGiven ts) := spec_terms hc 6
theorem spec_stmt {x : Stmt} (h1 : cTerm x.Sum ≤ 1048576) (h2 : cTerm x.Index ≤ 1048576) (h3 : cTermS x.Facts ≤ 1048576) : m_spec_l03Stmt x = some (arS x).isSome := by
  have hz : ∀ t, zT t = true → over t = true := fun t => zT_over
  unfold m_spec_l03Stmt m_spec_l03Stmt_J0 m_spec_l03Stmt_J1 arS
  simp only [spec_l03Term h1, spec_l03Term h2, spec_given h3, spec_zero, Option.bind_some, dec_pos0, show ∀ n, m_spec_l00In n 0 3 = some (i4 n) from fun _ => rfl,
    show ∀ n, m_spec_l00In n 0 8 = some (decide (0 ≤ n) && decide (n ≤ 8)) from fun _ => rfl]
  have a1 := hz x.Sum
  have a2 := hz x.Index
  have a3 := @len0_given x.Facts
  generalize over x.Sum = oS at *
  generalize over x.Index = oI at *
  generalize zT x.Sum = zS at *
  generalize zT x.Index = zI at *
  generalize okGiven x.Facts = oG at *
  generalize hL : decide (x.Facts.length = 0) = L0
  have a4 : L0 = true → oG = true := fun h => a3 (by rw [← hL] at h; simpa using h)
  generalize i4 x.Var = iV
  generalize i4 x.Event = iE
  generalize decide (x.Var = 0) = v0
  generalize decide (x.Event = 0) = e0
  clear a3 hL hz
  rcases kind_cases x.Kind with h | h | h | h | h | h | h | h | h | h
  any_goals
    rw [h]
    simp only [Int.reduceEq, Int.reduceLE, decide_true, decide_false, Bool.and_self, Bool.not_true, Bool.not_false, cond_true, cond_false, Bool.or_false, Bool.or_true, Bool.false_or, Bool.true_or, Bool.and_true, Bool.true_and]
    revert a1 a2 a4
    cases zS <;> cases zI <;> cases oS <;> cases oI <;> cases oG <;> cases L0 <;> simp <;> cases iV <;> cases iE <;> cases v0 <;> cases e0 <;> rfl
  have e : ∀ n : Int, (0 ≤ n ∧ n ≤ 8) → decide (x.Kind = n) = false := fun n hn => decide_eq_false (fun e => h (e ▸ hn))
  have e9 : (decide (0 ≤ x.Kind) && decide (x.Kind ≤ 8)) = false := by
    rw [← Bool.not_eq_true, Bool.and_eq_true, decide_eq_true_eq, decide_eq_true_eq]; exact h
  simp only [e 0 (by omega), e 1 (by omega), e 2 (by omega), e 3 (by omega), e 4 (by omega), e 5 (by omega), e 6 (by omega), e 7 (by omega), e 8 (by omega), e9, cond_false, Bool.not_false, cond_true]
  rfl
theorem ar_le {x : Stmt} {n : Nat} (h : arS x = some n) : n ≤ 2 := by
  unfold arS at h
  simp only [Bool.cond_eq_ite] at h
  repeat' split at h
  all_goals (cases h <;> omega)
theorem ar_kind {x : Stmt} {n : Nat} (h : arS x = some n) : (x.Kind = 0 ∧ n = 0) ∨ (x.Kind = 1 ∧ n = 2) ∨ (x.Kind = 2 ∧ n = 0) ∨ (x.Kind = 3 ∧ n = 0) ∨ (x.Kind = 4 ∧ n = 0) ∨ (x.Kind = 5 ∧ n = 0) ∨ (x.Kind = 6 ∧ n = 0) ∨ (x.Kind = 7 ∧ n = 2) ∨ (x.Kind = 8 ∧ n = 1) := by
  unfold arS at h
  simp only [Bool.cond_eq_ite, decide_eq_true_eq] at h
  repeat' split at h
  all_goals (cases h <;> omega)
theorem spec_below {x : Stmt} {n : Nat} (h : arS x = some n) : m_spec_l03Below x.Kind = some (n : Int) := by
  rcases ar_kind h with h | h | h | h | h | h | h | h | h <;> obtain ⟨h1, rfl⟩ := h <;> rw [h1] <;> rfl
def goS : List Stmt → Nat → Option (List Stmt)
  | p, 0 => some p
  | [], _ + 1 => none
  | x :: r, n + 1 => (arS x).bind fun a => goS r (n + a)
theorem goS_zero (p : List Stmt) : goS p 0 = some p := by cases p <;> rfl
theorem goS_add : ∀ (p : List Stmt) (a b : Nat), goS p (a + b) = (goS p a).bind fun r => goS r b := by
  intro p
  induction p with
  | nil =>
    intro a b
    cases a with
    | zero => rw [Nat.zero_add, goS_zero, Option.bind_some]
    | succ a => rw [show a + 1 + b = (a + b) + 1 by omega]; rfl
  | cons x r ih =>
    intro a b
    cases a with
    | zero => rw [Nat.zero_add, goS_zero, Option.bind_some]
    | succ a =>
      rw [show a + 1 + b = (a + b) + 1 by omega]
      show (arS x).bind (fun c => goS r (a + b + c)) = ((arS x).bind fun c => goS r (a + c)).bind fun r => goS r b
      cases arS x with
      | none => rfl
      | some c => simp only [Option.bind_some]; rw [show a + b + c = (a + c) + b by omega]; exact ih _ _
theorem goS_pre : ∀ (p : List Stmt) (n : Nat) {r : List Stmt}, goS p n = some r → ∃ q, p = q ++ r ∧ (∀ x ∈ q, (arS x).isSome = true) ∧ (0 < n → q ≠ []) := by
  intro p
  induction p with
  | nil =>
    intro n r h
    cases n with
    | zero => cases h; exact ⟨[], rfl, by simp, by omega⟩
    | succ n => cases h
  | cons x r ih =>
    intro n s h
    cases n with
    | zero => cases h; exact ⟨[], rfl, by simp, by omega⟩
    | succ n =>
      unfold goS at h
      cases ha : arS x with
      | none => rw [ha] at h; cases h
      | some a =>
        rw [ha, Option.bind_some] at h
        obtain ⟨q, rfl, h1, _⟩ := ih _ h
        refine ⟨x :: q, rfl, ?_, by simp⟩
        intro y hy
        rcases List.mem_cons.1 hy with rfl | hy
        · rw [ha]; rfl
        · exact h1 y hy
theorem goS_len {p r : List Stmt} {n : Nat} (h : goS p n = some r) : r.length + min n 1 ≤ p.length := by
  obtain ⟨q, rfl, _, h2⟩ := goS_pre p n h
  rw [List.length_append]
  cases n with
  | zero => simp
  | succ n =>
    have := List.length_pos_iff.2 (h2 (by omega))
    omega
theorem goS_drop {p r : List Stmt} {n : Nat} (h : goS p n = some r) : r = p.drop (p.length - r.length) := by
  obtain ⟨q, rfl, _, _⟩ := goS_pre p n h
  rw [List.length_append, Nat.add_sub_cancel, List.drop_left]
mutual
def fl : Ptree → List Stmt
  | .nil => []
  | .mk x _ ks => x :: flL ks
def flL : List Ptree → List Stmt
  | [] => []
  | t :: ts => fl t ++ flL ts
end
mutual
def wfT : Nat → Ptree → Prop
  | _, .nil => False
  | k, .mk x at_ ks => at_ = (k : Int) ∧ arS x = some ks.length ∧ wfL (k + 1) ks
def wfL : Nat → List Ptree → Prop
  | _, [] => True
  | k, t :: ts => wfT k t ∧ wfL (k + (fl t).length) ts
end
mutual
def okT : Ptree → Prop
  | .nil => False
  | .mk x _ ks => arS x = some ks.length ∧ okL ks
def okL : List Ptree → Prop
  | [] => True
  | t :: ts => okT t ∧ okL ts
end
section
variable {p : List Stmt}
theorem sub1 {n : Nat} (h : n ≤ 3) : w64 (((n + 1 : Nat) : Int) - 1) = (n : Int) := by rw [w64_eq (by omega)]; omega
theorem treeAt_ok (hl : p.length ≤ 1048576) : ∀ (fu k : Nat), k ≤ p.length → p.length - k < fu →
    (∀ r, goS (p.drop k) 1 = some r → ∃ t, m_impl_treeAt fu p (k : Int) = some (t, ((p.length - r.length : Nat) : Int), true) ∧ wfT k t ∧ p.drop k = fl t ++ r) ∧
    (goS (p.drop k) 1 = none → m_impl_treeAt fu p (k : Int) = some (.nil, 0, false)) := by
  intro fu
  induction fu with
  | zero => intro k _ h; omega
  | succ fu ih =>
    intro k hk hf
    have loop : ∀ (c k : Nat) (acc : List Ptree), k ≤ p.length → acc.length + c ≤ 2 → p.length - k < fu →
        (∀ r, goS (p.drop k) c = some r → ∃ ts, iter (m_impl_treeAt_F_L0 (m_impl_treeAt fu) p) ((k : Int), (c : Int), acc) = some (.inl (((p.length - r.length : Nat) : Int), acc ++ ts)) ∧ wfL k ts ∧ ts.length = c ∧ p.drop k = flL ts ++ r) ∧
        (goS (p.drop k) c = none → iter (m_impl_treeAt_F_L0 (m_impl_treeAt fu) p) ((k : Int), (c : Int), acc) = some (.inr (.nil, 0, false))) := by
      intro c
      induction c with
      | zero =>
        intro k acc hk hc hf
        rw [goS_zero]
        refine ⟨fun r hr => ?_, fun h => by cases h⟩
        cases hr
        refine ⟨[], ?_, by unfold wfL; trivial, rfl, by unfold flL; rfl⟩
        rw [iter_out (t := .inl ((k : Int), acc))]
        · simp only [List.length_drop, List.append_nil]; rw [show p.length - (p.length - k) = k by omega]
        · rfl
      | succ c ihc =>
        intro k acc hk hc hf
        obtain ⟨i1, i2⟩ := ih k hk hf
        rw [show c + 1 = 1 + c by omega, goS_add]
        have hstep : ∀ y, m_impl_treeAt fu p (k : Int) = some y → m_impl_treeAt_F_L0 (m_impl_treeAt fu) p ((k : Int), ((1 + c : Nat) : Int), acc) = (bif !y.2.2 then some (.out (.inr ((.nil : Ptree), (0 : Int), false))) else some (.next (y.2.1, (c : Int), acc ++ [y.1]))) := by
          intro y hy
          unfold m_impl_treeAt_F_L0
          simp only
          rw [decide_eq_true (by omega), cond_true, hy, Option.bind_some, show 1 + c = c + 1 by omega, sub1 (by omega), capI_some (by simp; omega), Option.bind_some]
        cases hg : goS (p.drop k) 1 with
        | none =>
          refine ⟨fun r hr => (by cases hr), fun _ => iter_out (hstep _ (i2 hg))⟩
        | some r =>
          obtain ⟨t, e1, w1, d1⟩ := i1 r hg
          have h1 := goS_len hg
          have h2 := goS_drop hg
          simp only [List.length_drop, Nat.min_self] at h1
          rw [List.drop_drop, List.length_drop] at h2
          have hlt : k < p.length := by omega
          have hn := iter_next (hstep _ e1)
          have h3 : r = p.drop (p.length - r.length) := h2.trans (by congr 1; omega)
          have hfl : (fl t).length = p.length - r.length - k := by
            have := congrArg List.length d1
            rw [List.length_drop, List.length_append] at this; omega
          obtain ⟨j1, j2⟩ := ihc (p.length - r.length) (acc ++ [t]) (by omega) (by simp; omega) (by omega)
          rw [← h3] at j1 j2
          rw [Option.bind_some]
          refine ⟨fun r2 hr2 => ?_, fun hr2 => by rw [hn]; exact j2 hr2⟩
          obtain ⟨ts, e2, w2, l2, d2⟩ := j1 r2 hr2
          refine ⟨t :: ts, ?_, ?_, by rw [List.length_cons, l2]; omega, ?_⟩
          · rw [hn, e2]; simp
          · unfold wfL; refine ⟨w1, ?_⟩; rw [hfl, show k + (p.length - r.length - k) = p.length - r.length by omega]; exact w2
          · unfold flL; rw [d1, d2, List.append_assoc]
    unfold m_impl_treeAt m_impl_treeAt_F
    by_cases h : p.length ≤ k
    · rw [decide_eq_true (by omega), cond_true, List.drop_eq_nil_iff.2 h]
      exact ⟨fun r hr => (by cases hr), fun _ => rfl⟩
    · have hlt : k < p.length := by omega
      rw [decide_eq_false (by omega), cond_false, getI_some (List.getElem?_eq_getElem hlt), Option.bind_some, impl_kids, Option.bind_some, List.drop_eq_getElem_cons hlt]
      rw [show goS (p[k] :: p.drop (k + 1)) 1 = (arS p[k]).bind fun a => goS (p.drop (k + 1)) (0 + a) from rfl]
      cases ha : arS p[k] with
      | none => exact ⟨fun r hr => (by cases hr), fun _ => rfl⟩
      | some a =>
        have ha2 := ar_le ha
        obtain ⟨j1, j2⟩ := loop a (k + 1) [] (by omega) (by simpa using ha2) (by omega)
        unfold arI
        simp only [Option.bind_some, Nat.zero_add]
        rw [dec_neg, cond_false, w64_succ (by omega)]
        refine ⟨fun r hr => ?_, fun hr => by rw [j2 hr]; rfl⟩
        obtain ⟨ts, e2, w2, l2, d2⟩ := j1 r hr
        refine ⟨.mk p[k] (k : Int) ts, ?_, ?_, ?_⟩
        · rw [e2, Option.bind_some]; rfl
        · unfold wfT; exact ⟨rfl, by rw [ha, l2], w2⟩
        · unfold fl; rw [d2]; rfl
end
def isB (p : List Stmt) : Bool := decide (p.length ≤ 30) && (match goS p 1 with | some [] => true | _ => false)
theorem isB_iff {p : List Stmt} : isB p = true ↔ p.length ≤ 30 ∧ goS p 1 = some [] := by
  unfold isB
  rw [Bool.and_eq_true, decide_eq_true_eq]
  cases hg : goS p 1 with
  | none => simp
  | some r => cases r <;> simp
theorem isB_valid {p : List Stmt} (h : isB p = true) : ∀ x ∈ p, (arS x).isSome = true := by
  obtain ⟨_, h1⟩ := isB_iff.1 h
  obtain ⟨q, hq, h2, _⟩ := goS_pre p 1 h1
  rw [List.append_nil] at hq
  subst hq
  exact h2
theorem impl_treeOf (p : List Stmt) : ∃ t, m_impl_treeOf p = some (t, isB p) ∧ (isB p = true → wfT 0 t ∧ fl t = p) := by
  unfold m_impl_treeOf
  by_cases h : p.length ≤ 30
  · rw [decide_eq_false (by omega), cond_false]
    obtain ⟨i1, i2⟩ := treeAt_ok (p := p) (by omega) 1000 0 (by omega) (by omega)
    rw [List.drop_zero] at i1 i2
    rw [show ((0 : Nat) : Int) = (0 : Int) from rfl] at i1 i2
    unfold isB
    rw [decide_eq_true h, Bool.true_and]
    cases hg : goS p 1 with
    | none => exact ⟨.nil, by rw [i2 hg]; rfl, fun h => by cases h⟩
    | some r =>
      obtain ⟨t, e, w, d⟩ := i1 r hg
      have := goS_len hg
      refine ⟨t, ?_, ?_⟩
      · rw [e, Option.bind_some]
        cases r with
        | nil => simp only [List.length_nil, Nat.sub_zero, decide_true, Bool.and_self]
        | cons x r => simp only [Bool.true_and]; rw [decide_eq_false (by simp at this; simp; omega)]
      · intro hh
        cases r with
        | nil => rw [List.append_nil] at d; exact ⟨w, d.symm⟩
        | cons x r => cases hh
  · refine ⟨.nil, ?_, fun hh => by have := (isB_iff.1 hh).1; omega⟩
    rw [decide_eq_true (by omega), cond_true]
    unfold isB
    rw [decide_eq_false h]; rfl
theorem impl_isB (p : List Stmt) : m_impl_IsBody p = some (isB p) := by
  obtain ⟨t, h, _⟩ := impl_treeOf p
  unfold m_impl_IsBody
  rw [h]; rfl
theorem spec_end_step {p : List Stmt} {k need : Nat} {x : Stmt} {a : Nat} (hx : p[k]? = some x) (ha : arS x = some a) (hl : p.length ≤ 1048576) (hn : need ≤ 1048576) :
    m_spec_l03End_L0 p ((k : Int), ((need + 1 : Nat) : Int)) = some (.next (((k + 1 : Nat) : Int), ((need + a : Nat) : Int))) := by
  have hk := get_lt hx
  have ha2 := ar_le ha
  unfold m_spec_l03End_L0
  simp only
  rw [decide_eq_true (by omega), cond_true, decide_eq_false (by omega), cond_false, getI_some hx, Option.bind_some, spec_below ha, Option.bind_some]
  have w1 : w64 ((k : Int) + 1) = ((k + 1 : Nat) : Int) := w64_succ (by omega)
  have w2 : w64 (((need + 1 : Nat) : Int) + w64 ((a : Int) - 1)) = ((need + a : Nat) : Int) := by
    rw [w64_eq (n := (a : Int) - 1) (by omega), w64_eq (by omega)]; omega
  rw [w1, w2]
theorem spec_end {p : List Stmt} (hl : p.length ≤ 1000) (hv : ∀ x ∈ p, (arS x).isSome = true) : ∀ (q k need : Nat), k + q = p.length → need + 2 * q ≤ 100000 →
    iter (m_spec_l03End_L0 p) ((k : Int), (need : Int)) = some (match goS (p.drop k) need with | some r => .inl ((p.length - r.length : Nat) : Int) | none => .inr (-1)) := by
  intro q
  induction q with
  | zero =>
    intro k need hk hn
    obtain rfl : k = p.length := by omega
    rw [List.drop_length]
    cases need with
    | zero => rw [goS_zero]; exact iter_out rfl
    | succ n =>
      exact iter_out (by unfold m_spec_l03End_L0; simp only; rw [decide_eq_true (by omega), cond_true, decide_true]; rfl)
  | succ q ih =>
    intro k need hk hn
    have hlt : k < p.length := by omega
    cases need with
    | zero =>
      rw [goS_zero, iter_out (t := .inl (k : Int)) rfl]
      simp only [List.length_drop]
      rw [show p.length - (p.length - k) = k by omega]
    | succ n =>
      obtain ⟨a, ha⟩ := Option.isSome_iff_exists.1 (hv _ (List.getElem_mem hlt))
      have ha2 := ar_le ha
      rw [iter_next (spec_end_step (List.getElem?_eq_getElem hlt) ha (by omega) (by omega)), ih (k + 1) (n + a) (by omega) (by omega), List.drop_eq_getElem_cons hlt]
      have e : goS (p[k] :: p.drop (k + 1)) (n + 1) = (arS p[k]).bind fun a => goS (p.drop (k + 1)) (n + a) := rfl
      rw [e, ha, Option.bind_some]
theorem spec_l03End {p : List Stmt} (hl : p.length ≤ 1000) (hv : ∀ x ∈ p, (arS x).isSome = true) {k : Nat} (hk : k ≤ p.length) :
    m_spec_l03End p (k : Int) = some (match goS (p.drop k) 1 with | some r => ((p.length - r.length : Nat) : Int) | none => -1) := by
  unfold m_spec_l03End
  rw [show (1 : Int) = ((1 : Nat) : Int) from rfl, spec_end hl hv (p.length - k) k 1 (by omega) (by omega), Option.bind_some]
  unfold m_spec_l03End_A0
  cases goS (p.drop k) 1 <;> rfl
theorem spec_isB {p : List Stmt} (hc : pc_StmtS p ≤ 1048576) : m_spec_l03Body p = some (isB p) := by
  have hl : p.length ≤ 1048576 := Nat.le_trans pc_StmtS_len hc
  have h := iter_for (step := m_spec_l03Body_L0 p) p (fun n (_ : Unit) => (n : Int)) (fun _ x _ => bif (arS x).isSome then some (.next ()) else some (.out (.inr false))) (fun _ => .inl ())
    (fun n x r hx => by
      have hn := get_lt hx
      have hm := pc_StmtS_mem (List.mem_of_getElem? hx)
      unfold pc_Stmt at hm
      have e1 : pc_Term x.Sum = cTerm x.Sum := rfl
      have e2 : pc_Term x.Index = cTerm x.Index := rfl
      have e3 : pc_TermS x.Facts = cTermS x.Facts := rfl
      unfold m_spec_l03Body_L0
      rw [dec_lt hn, cond_true, getI_some hx, Option.bind_some, spec_stmt (by omega) (by omega) (by omega), Option.bind_some, w64_succ (by omega)]
      cases (arS x).isSome <;> rfl)
    (fun r => by unfold m_spec_l03Body_L0; rw [dec_self]; rfl) ()
  unfold m_spec_l03Body isB
  rw [show m_spec_l00In (p.length : Int) 1 30 = some (decide (1 ≤ (p.length : Int)) && decide ((p.length : Int) ≤ 30)) from rfl, Option.bind_some]
  by_cases h60 : p.length ≤ 30
  · by_cases h1 : 1 ≤ p.length
    · rw [decide_eq_true (by omega), decide_eq_true (by omega), Bool.true_and, Bool.not_true, cond_false, decide_eq_true h60, Bool.true_and]
      rw [show (0 : Int) = ((0 : Nat) : Int) from rfl, h, forL_all (fun x => (arS x).isSome) p 0 (fun _ _ _ => rfl), Option.bind_some]
      cases hv : p.all (fun x => (arS x).isSome) with
      | true =>
        rw [cond_true]
        unfold m_spec_l03Body_A0
        simp only
        rw [show (0 : Int) = ((0 : Nat) : Int) from rfl, spec_l03End (by omega) (by simpa using hv) (Nat.zero_le _), Option.bind_some, List.drop_zero]
        cases hg : goS p 1 with
        | none => simp only; rw [decide_eq_false (by omega)]
        | some r =>
          have := goS_len hg
          cases r with
          | nil => simp only [List.length_nil, Nat.sub_zero, decide_true]
          | cons x r => simp only; rw [decide_eq_false (by simp at this; simp; omega)]
      | false =>
        rw [cond_false]
        unfold m_spec_l03Body_A0
        simp only
        cases hg : goS p 1 with
        | none => rfl
        | some r =>
          obtain ⟨q, hq, h2, _⟩ := goS_pre p 1 hg
          cases r with
          | cons x r => rfl
          | nil =>
            rw [List.append_nil] at hq
            subst hq
            have : p.all (fun x => (arS x).isSome) = true := by simpa using h2
            rw [this] at hv; cases hv
    · have : p = [] := List.eq_nil_of_length_eq_zero (by omega)
      subst this
      rfl
  · rw [decide_eq_false (p := (p.length : Int) ≤ 30) (by omega), Bool.and_false, decide_eq_false h60]; rfl
def okProg (p : Program) : Bool := isB p.Body && okGiven p.Pre && okGiven p.Post
theorem impl_prog (p : Program) : m_impl_ValidProgram p = some (okProg p) := by
  unfold m_impl_ValidProgram okProg
  rw [impl_isB, Option.bind_some, impl_given, impl_given]
  cases isB p.Body <;> cases okGiven p.Pre <;> cases okGiven p.Post <;> rfl
theorem spec_prog {p : Program} (hc : pc_Program p ≤ 1048576) : m_spec_l03Is p = some (okProg p) := by
  unfold pc_Program at hc
  have e1 : pc_TermS p.Pre = cTermS p.Pre := rfl
  have e2 : pc_TermS p.Post = cTermS p.Post := rfl
  unfold m_spec_l03Is okProg
  rw [spec_given (by omega), Option.bind_some, spec_isB (by omega), spec_given (by omega)]
  cases isB p.Body <;> cases okGiven p.Pre <;> cases okGiven p.Post <;> rfl
end Go.Mod

namespace Go.Mod
open Go.AM
set_option linter.unusedVariables false
set_option linter.unusedSimpArgs false
theorem over_len {t : Term} (h : over t = true) : t.Coeffs.length ≤ 4 := by
  unfold over at h; simp only [Bool.and_eq_true, decide_eq_true_eq] at h; exact h.2
theorem sum_small : ∀ (ts : List Term), (∀ t ∈ ts, t.Coeffs.length ≤ 4) → (ts.map pc_Term).sum ≤ 4 * ts.length
  | [], _ => by simp
  | t :: ts, h => by
    have h1 := h t (by simp)
    have h2 := sum_small ts (fun u hu => h u (List.mem_cons_of_mem _ hu))
    have e : pc_Term t = t.Coeffs.length := rfl
    rw [List.map_cons, List.sum_cons, List.length_cons]; omega
theorem given_small {ts : List Term} (h : okGiven ts = true) : pc_TermS ts ≤ 30 := by
  unfold okGiven at h
  simp only [Bool.and_eq_true, List.all_eq_true, decide_eq_true_eq] at h
  have := sum_small ts (fun t ht => over_len (h.1 t ht))
  unfold pc_TermS; omega
theorem ar_terms {x : Stmt} {n : Nat} (h : arS x = some n) : over x.Sum = true ∧ over x.Index = true ∧ okGiven x.Facts = true := by
  have z : ∀ ts : List Term, ts.length = 0 → okGiven ts = true := fun ts h => len0_given h
  unfold arS at h
  simp only [Bool.cond_eq_ite, Bool.and_eq_true, decide_eq_true_eq] at h
  repeat' split at h
  all_goals first
    | cases h; done
    | (rename_i hh; obtain ⟨⟨⟨_, h1⟩, h2⟩, h3⟩ := hh
       exact ⟨by first | exact h1 | exact zT_over h1, by first | exact h2 | exact zT_over h2, by first | exact z _ h3 | exact h3⟩)
section
variable {c : List Instr} {q : List Point} {f t : List Int} {p : List Stmt}
end
structure Rs (p : List Stmt) (k b m : Nat) (c : List Instr) (f t : List Int) (q : List Point) (c' : List Instr) (f' t' : List Int) (q' : List Point) : Prop where
  lf : f'.length = p.length
  lt : t'.length = p.length
  c1 : c.length ≤ c'.length
  c2 : c'.length ≤ c.length + b
  q1 : q'.length ≤ q.length + m
  fj : ∀ j, j < k → f'[j]? = f[j]?
  tj : ∀ j, j < k → t'[j]? = t[j]?
  tb : (∀ x ∈ t, 0 ≤ x ∧ x ≤ (c.length : Int)) → ∀ x ∈ t', 0 ≤ x ∧ x ≤ (c'.length : Int)
section
variable {p : List Stmt} {k b m : Nat} {c c1 c2 : List Instr} {f t f1 t1 f2 t2 : List Int} {q q1 q2 : List Point}
theorem Rs.trans {k' b' m' : Nat} (h : Rs p k b m c f t q c1 f1 t1 q1) (g : Rs p k' b' m' c1 f1 t1 q1 c2 f2 t2 q2) (hk : k ≤ k') : Rs p k (b + b') (m + m') c f t q c2 f2 t2 q2 :=
  ⟨g.lf, g.lt, Nat.le_trans h.c1 g.c1, by have := h.c2; have := g.c2; omega, by have := h.q1; have := g.q1; omega,
    fun j hj => (g.fj j (by omega)).trans (h.fj j hj), fun j hj => (g.tj j (by omega)).trans (h.tj j hj), fun hx => g.tb (h.tb hx)⟩
end
end Go.Mod

namespace Go.Mod
open Go.AM
set_option linter.unusedVariables false
set_option linter.unusedSimpArgs false
theorem okProg_body {p : Program} (h : okProg p = true) : isB p.Body = true := by
  unfold okProg at h; simp only [Bool.and_eq_true] at h; exact h.1.1
end Go.Mod

namespace Go.Mod
open Go.AM
set_option linter.unusedVariables false
set_option linter.unusedSimpArgs false
def whI : Nat → List Stmt → List Int
  | _, [] => []
  | k, x :: r => if x.Kind = 8 then (k : Int) :: whI (k + 1) r else whI (k + 1) r
def whF : List Stmt → List (List Term)
  | [] => []
  | x :: r => if x.Kind = 8 then x.Facts :: whF r else whF r
theorem whI_app : ∀ (a b : List Stmt) (k : Nat), whI k (a ++ b) = whI k a ++ whI (k + a.length) b
  | [], b, k => rfl
  | x :: a, b, k => by
    show (if x.Kind = 8 then (k : Int) :: whI (k + 1) (a ++ b) else whI (k + 1) (a ++ b)) = (if x.Kind = 8 then (k : Int) :: whI (k + 1) a else whI (k + 1) a) ++ _
    rw [whI_app a b (k + 1), List.length_cons, show k + 1 + a.length = k + (a.length + 1) by omega]
    split <;> rfl
theorem whF_app : ∀ (a b : List Stmt), whF (a ++ b) = whF a ++ whF b
  | [], b => rfl
  | x :: a, b => by
    show (if x.Kind = 8 then x.Facts :: whF (a ++ b) else whF (a ++ b)) = (if x.Kind = 8 then x.Facts :: whF a else whF a) ++ _
    rw [whF_app a b]
    split <;> rfl
theorem wh_len : ∀ (p : List Stmt) (k : Nat), (whI k p).length = (whF p).length ∧ (whF p).length ≤ p.length
  | [], k => ⟨rfl, Nat.le_refl _⟩
  | x :: p, k => by
    have h := wh_len p (k + 1)
    unfold whI whF
    split
    · simp only [List.length_cons]; omega
    · simp only [List.length_cons]; omega
theorem wh_get : ∀ (p : List Stmt) (k i : Nat) {fs : List Term}, (whF p)[i]? = some fs → ∃ (j : Nat) (x : Stmt), (whI k p)[i]? = some ((k + j : Nat) : Int) ∧ p[j]? = some x ∧ x.Facts = fs
  | [], k, i, fs, h => by simp [whF] at h
  | y :: p, k, i, fs, h => by
    unfold whF at h
    unfold whI
    split at h
    · rename_i hy
      rw [if_pos hy]
      cases i with
      | zero => simp at h; exact ⟨0, y, by simp, rfl, h⟩
      | succ i =>
        obtain ⟨j, x, h1, h2, h3⟩ := wh_get p (k + 1) i (by simpa using h)
        exact ⟨j + 1, x, by simp only [List.getElem?_cons_succ]; rw [h1]; congr 2; omega, by simpa using h2, h3⟩
    · rename_i hy
      rw [if_neg hy]
      obtain ⟨j, x, h1, h2, h3⟩ := wh_get p (k + 1) i h
      exact ⟨j + 1, x, by rw [h1]; congr 2; omega, by simpa using h2, h3⟩
def atT : Ptree → Int
  | .nil => 0
  | .mk _ a _ => a
def isMk : Ptree → Bool
  | .nil => false
  | .mk _ _ _ => true
theorem flc2 (a b : Ptree) : flL [a, b] = fl a ++ fl b := by unfold flL; rw [show flL [b] = fl b by (unfold flL; rw [show flL [] = [] from rfl, List.append_nil])]
theorem flc1 (a : Ptree) : flL [a] = fl a := by unfold flL; rw [show flL [] = [] from rfl, List.append_nil]
theorem find_ok : ∀ (n : Nat) (t : Ptree) (k : Nat) (st : plan) (nx : Prest), (fl t).length ≤ n → wfT k t → st.loops.length + (fl t).length ≤ 1000 → st.behind.length + (fl t).length ≤ 1000 → st.gather.starts.length + (fl t).length ≤ 1000 →
    ∃ L B nb, m_impl_plan_find n st t nx = some (plan.mk (gather.mk st.gather.post (st.gather.starts ++ whF (fl t)) st.gather.paths st.gather.conds st.gather.failed) st.body (st.loops ++ L) (st.behind ++ B) nb) ∧
      L.map atT = whI k (fl t) ∧ (∀ u ∈ L, isMk u = true) ∧ B.length ≤ (fl t).length ∧ L.length ≤ (fl t).length
  | _, .nil, _, _, _, _, h, _, _, _ => by unfold wfT at h; exact h.elim
  | 0, .mk x a ks, _, _, _, hn, _, _, _, _ => by
    have e : fl (.mk x a ks) = x :: flL ks := by conv => lhs; unfold fl
    rw [e] at hn; simp at hn
  | n + 1, .mk x a ks, k, st, nx, hn, hw, h1, h2, h3 => by
    have e : fl (.mk x a ks) = x :: flL ks := by conv => lhs; unfold fl
    have hw0 := hw
    unfold wfT at hw
    obtain ⟨w1, w2, w3⟩ := hw
    have hkd := ar_kind w2
    rw [e] at hn h1 h2 h3 ⊢
    simp only [List.length_cons] at hn h1 h2 h3
    show ∃ L B nb, m_impl_plan_find_F (m_impl_plan_find n) st (.mk x a ks) nx = _ ∧ _
    unfold m_impl_plan_find_F
    show ∃ L B nb, (bif decide (x.Kind = 1) then _ else _) = _ ∧ _
    match ks, w2, w3, hkd, hn, h1, h2, h3, hw0 with
    | [], w2, w3, hkd, hn, h1, h2, h3, hw0 =>
      simp only [List.length_nil] at hkd
      rw [decide_eq_false (show ¬ x.Kind = 1 by omega), cond_false]
      simp only
      rw [decide_eq_false (show ¬ x.Kind = 7 by omega), cond_false, decide_eq_false (show ¬ x.Kind = 8 by omega), cond_false]
      have hf : whF (x :: flL []) = [] := by show (if x.Kind = 8 then _ else whF []) = []; rw [if_neg (by omega)]; rfl
      have hi : whI k (x :: flL []) = [] := by show (if x.Kind = 8 then _ else whI (k + 1) []) = []; rw [if_neg (by omega)]; rfl
      rw [hf, hi]
      exact ⟨[], [], st.number, by simp only [List.append_nil], rfl, (fun u hu => by cases hu), Nat.zero_le _, Nat.zero_le _⟩
    | [l], w2, w3, hkd, hn, h1, h2, h3, hw0 =>
      simp only [List.length_cons, List.length_nil] at hkd
      have h8 : x.Kind = 8 := by omega
      unfold wfL at w3
      rw [flc1] at hn h1 h2 h3 ⊢
      rw [decide_eq_false (show ¬ x.Kind = 1 by omega), cond_false]
      simp only
      rw [decide_eq_false (show ¬ x.Kind = 7 by omega), cond_false, decide_eq_true h8, cond_true]
      unfold m_impl_size
      rw [Option.bind_some, capI_some (by simp; omega), Option.bind_some, capI_some (by simp; omega), Option.bind_some, capI_some (by simp; omega), Option.bind_some]
      unfold m_impl_plan_find_F_J1
      simp only
      rw [show getI [l] (0 : Int) = some l from rfl, Option.bind_some]
      obtain ⟨L, B, nb, q1, q2, q3, q4, q5⟩ := find_ok n l (k + 1) (plan.mk (gather.mk st.gather.post (st.gather.starts ++ [x.Facts]) st.gather.paths st.gather.conds st.gather.failed) st.body (st.loops ++ [.mk x a [l]]) (st.behind ++ [nx]) (mput st.number a (st.loops.length : Int)))
        (re_rest (rest.mk .nil (st.loops.length : Int) .nil)) (by omega) w3.1 (by simp; omega) (by simp; omega) (by simp; omega)
      rw [q1, Option.bind_some]
      have hf : whF (x :: fl l) = x.Facts :: whF (fl l) := by show (if x.Kind = 8 then _ else _) = _; rw [if_pos h8]
      have hi : whI k (x :: fl l) = (k : Int) :: whI (k + 1) (fl l) := by show (if x.Kind = 8 then _ else _) = _; rw [if_pos h8]
      refine ⟨.mk x a [l] :: L, nx :: B, nb, ?_, ?_, ?_, ?_, ?_⟩
      · rw [hf]; simp only [List.append_assoc, List.cons_append, List.nil_append]
      · rw [hi, List.map_cons, q2]; show a :: _ = _; rw [w1]
      · intro u hu
        rcases List.mem_cons.1 hu with rfl | hu
        · rfl
        · exact q3 u hu
      · simp only [List.length_cons]; omega
      · simp only [List.length_cons]; omega
    | [l, r], w2, w3, hkd, hn, h1, h2, h3, hw0 =>
      simp only [List.length_cons, List.length_nil] at hkd
      unfold wfL at w3
      obtain ⟨wl, wr⟩ := w3
      unfold wfL at wr
      rw [flc2] at hn h1 h2 h3 ⊢
      simp only [List.length_append] at hn h1 h2 h3
      have hf : whF (x :: (fl l ++ fl r)) = whF (fl l) ++ whF (fl r) := by
        show (if x.Kind = 8 then _ else whF (fl l ++ fl r)) = _
        rw [if_neg (by omega), whF_app]
      have hi : whI k (x :: (fl l ++ fl r)) = whI (k + 1) (fl l) ++ whI (k + 1 + (fl l).length) (fl r) := by
        show (if x.Kind = 8 then _ else whI (k + 1) (fl l ++ fl r)) = _
        rw [if_neg (by omega), whI_app]
      have hl1 := (wh_len (fl l) 0).2
      by_cases hk1 : x.Kind = 1
      · rw [decide_eq_true hk1, cond_true]
        simp only
        rw [show getI [l, r] (0 : Int) = some l from rfl, Option.bind_some, show getI [l, r] (1 : Int) = some r from rfl, Option.bind_some]
        obtain ⟨L, B, nb, q1, q2, q3, q4, q5⟩ := find_ok n l (k + 1) st (re_rest (rest.mk r 0 nx)) (by omega) wl (by omega) (by omega) (by omega)
        rw [q1, Option.bind_some]
        unfold m_impl_plan_find_F_J0
        simp only
        rw [show getI [l, r] (1 : Int) = some r from rfl, Option.bind_some]
        obtain ⟨L2, B2, nb2, p1, p2, p3, p4, p5⟩ := find_ok n r (k + 1 + (fl l).length) (plan.mk (gather.mk st.gather.post (st.gather.starts ++ whF (fl l)) st.gather.paths st.gather.conds st.gather.failed) st.body (st.loops ++ L) (st.behind ++ B) nb) nx (by omega) wr.1 (by simp; omega) (by simp; omega) (by simp; omega)
        rw [p1, Option.bind_some]
        refine ⟨L ++ L2, B ++ B2, nb2, ?_, ?_, ?_, ?_, ?_⟩
        · rw [hf]; simp only [List.append_assoc]
        · rw [hi, List.map_append, q2, p2]
        · intro u hu
          rcases List.mem_append.1 hu with hu | hu
          · exact q3 u hu
          · exact p3 u hu
        · simp only [List.length_cons, List.length_append]; omega
        · simp only [List.length_cons, List.length_append]; omega
      · have hk7 : x.Kind = 7 := by omega
        rw [decide_eq_false hk1, cond_false]
        simp only
        rw [decide_eq_true hk7, cond_true, show getI [l, r] (0 : Int) = some l from rfl, Option.bind_some]
        obtain ⟨L, B, nb, q1, q2, q3, q4, q5⟩ := find_ok n l (k + 1) st nx (by omega) wl (by omega) (by omega) (by omega)
        rw [q1, Option.bind_some, show getI [l, r] (1 : Int) = some r from rfl, Option.bind_some]
        obtain ⟨L2, B2, nb2, p1, p2, p3, p4, p5⟩ := find_ok n r (k + 1 + (fl l).length) (plan.mk (gather.mk st.gather.post (st.gather.starts ++ whF (fl l)) st.gather.paths st.gather.conds st.gather.failed) st.body (st.loops ++ L) (st.behind ++ B) nb) nx (by omega) wr.1 (by simp; omega) (by simp; omega) (by simp; omega)
        rw [p1, Option.bind_some]
        refine ⟨L ++ L2, B ++ B2, nb2, ?_, ?_, ?_, ?_, ?_⟩
        · rw [hf]; simp only [List.append_assoc]
        · rw [hi, List.map_append, q2, p2]
        · intro u hu
          rcases List.mem_append.1 hu with hu | hu
          · exact q3 u hu
          · exact p3 u hu
        · simp only [List.length_cons, List.length_append]; omega
        · simp only [List.length_cons, List.length_append]; omega
theorem planned {p : Program} : (okProg p = false → m_impl_planOf p = some (default, false)) ∧
    (okProg p = true → ∃ pl, m_impl_planOf p = some (pl, true) ∧ pl.gather.starts = p.Pre :: whF p.Body ∧ pl.loops.map atT = whI 0 p.Body ∧ (∀ u ∈ pl.loops, isMk u = true) ∧ pl.loops.length ≤ 30) := by
  unfold m_impl_planOf
  rw [impl_prog, Option.bind_some]
  constructor
  · intro h; rw [h]; rfl
  · intro h
    have hb := okProg_body h
    have hl := (isB_iff.1 hb).1
    obtain ⟨t, e, hw⟩ := impl_treeOf p.Body
    obtain ⟨w1, w2⟩ := hw hb
    rw [h, Bool.not_true, cond_false, e, Option.bind_some]
    simp only
    obtain ⟨L, B, nb, q1, q2, q3, q4, q5⟩ := find_ok 1000 t 0 (plan.mk (gather.mk p.Post [p.Pre] [] [] false) t [] [] []) .nil (by rw [w2]; omega) w1 (by simp; rw [w2]; omega) (by simp; rw [w2]; omega) (by simp; rw [w2]; omega)
    rw [w2] at q1 q2 q5
    rw [q1]
    exact ⟨_, rfl, rfl, q2, q3, by simp only [List.nil_append]; omega⟩
theorem loops_ok {p : Program} (hl : p.Body.length ≤ 1000) : m_spec_l04Loops p = some (whI 0 p.Body) := by
  have key : ∀ m n acc, n + m = p.Body.length → acc.length ≤ n → iter (m_spec_l04Loops_L0 p) (acc, (n : Int)) = some (acc ++ whI n (p.Body.drop n)) := by
    intro m
    induction m with
    | zero =>
      intro n acc hn ha
      obtain rfl : n = p.Body.length := by omega
      rw [List.drop_length, iter_out (t := acc)]
      · show some acc = some (acc ++ []); rw [List.append_nil]
      · unfold m_spec_l04Loops_L0; simp only; rw [dec_self]; rfl
    | succ m ih =>
      intro n acc hn ha
      have hx : p.Body[n]? = some (p.Body[n]'(by omega)) := List.getElem?_eq_getElem _
      rw [List.drop_eq_getElem_cons (show n < p.Body.length by omega)]
      generalize p.Body[n]'(by omega) = x at hx ⊢
      by_cases h8 : x.Kind = 8
      · have st : m_spec_l04Loops_L0 p (acc, (n : Int)) = some (.next (acc ++ [(n : Int)], ((n + 1 : Nat) : Int))) := by
          unfold m_spec_l04Loops_L0
          simp only
          rw [dec_lt (get_lt hx), cond_true, getI_some hx, Option.bind_some, decide_eq_true h8, cond_true, capI_some (by simp; omega), Option.bind_some, w64_succ (by omega)]
        rw [iter_next st, ih (n + 1) _ (by omega) (by simp; omega)]
        show _ = some (acc ++ (if x.Kind = 8 then (n : Int) :: whI (n + 1) (p.Body.drop (n + 1)) else _))
        rw [if_pos h8]; simp
      · have st : m_spec_l04Loops_L0 p (acc, (n : Int)) = some (.next (acc, ((n + 1 : Nat) : Int))) := by
          unfold m_spec_l04Loops_L0
          simp only
          rw [dec_lt (get_lt hx), cond_true, getI_some hx, Option.bind_some, decide_eq_false h8, cond_false, w64_succ (by omega)]
        rw [iter_next st, ih (n + 1) _ (by omega) (by omega)]
        show _ = some (acc ++ (if x.Kind = 8 then _ else whI (n + 1) (p.Body.drop (n + 1))))
        rw [if_neg h8]
  unfold m_spec_l04Loops
  have := key p.Body.length 0 [] (by omega) (Nat.le_refl _)
  rw [show ((0 : Nat) : Int) = 0 from rfl] at this
  rw [this]; rfl
def fStart (p : Program) (s : Int) : List Term × Bool :=
  bif okProg p && (decide (-1 ≤ s) && decide (s ≤ ((whF p.Body).length : Int) - 1)) then (((p.Pre :: whF p.Body)[(s + 1).toNat]?).getD [], true) else ([], false)
theorem start_facts {p : Program} (hP : okProg p = true) {i : Nat} {fs : List Term} (h : (p.Pre :: whF p.Body)[i]? = some fs) : okGiven fs = true ∧ pc_TermS fs ≤ 30 := by
  have hg : okGiven fs = true := by
    cases i with
    | zero =>
      simp at h; subst h
      have := hP
      unfold okProg at this; simp only [Bool.and_eq_true] at this; exact this.1.2
    | succ i =>
      obtain ⟨j, x, _, h2, h3⟩ := wh_get p.Body 0 i (by simpa using h)
      obtain ⟨m, hm⟩ := Option.isSome_iff_exists.1 (isB_valid (okProg_body hP) x (List.mem_of_getElem? h2))
      rw [← h3]; exact (ar_terms hm).2.2
  exact ⟨hg, given_small hg⟩
theorem isStart_ok {xs : List (List Term)} {s : Int} (hl : xs.length ≤ 1000) (g : gather) (hg : g.starts = xs) : m_impl_gather_isStart g s = some (decide (-1 ≤ s) && decide (s ≤ (xs.length : Int) - 2)) := by
  unfold m_impl_gather_isStart m_impl_size m_impl_within
  rw [hg]
  simp only [Option.bind_some]
  rw [w64_eq (by omega)]
theorem dec_pl {s : Int} {n : Nat} : decide (s ≤ ((n + 1 : Nat) : Int) - 2) = decide (s ≤ (n : Int) - 1) := by
  by_cases h : s ≤ (n : Int) - 1
  · rw [decide_eq_true h, decide_eq_true (by omega)]
  · rw [decide_eq_false h, decide_eq_false (by omega)]
theorem impl_start {p : Program} (s : Int) : m_impl_StartFacts p s = some (fStart p s) := by
  unfold m_impl_StartFacts fStart
  cases hP : okProg p with
  | false => rw [planned.1 hP]; rfl
  | true =>
    have hl := (isB_iff.1 (okProg_body hP)).1
    have hw := wh_len p.Body 0
    obtain ⟨pl, e, q1, _⟩ := planned.2 hP
    rw [e, Option.bind_some]
    simp only [cond_true]
    rw [isStart_ok (xs := p.Pre :: whF p.Body) (by simp; omega) pl.gather q1, Option.bind_some, List.length_cons, dec_pl, Bool.true_and]
    cases hb : decide (-1 ≤ s) && decide (s ≤ ((whF p.Body).length : Int) - 1) with
    | false => rfl
    | true =>
      simp only [Bool.and_eq_true, decide_eq_true_eq] at hb
      obtain ⟨i, hi⟩ := Int.eq_ofNat_of_zero_le (show 0 ≤ s + 1 by omega)
      have hlt : i < (p.Pre :: whF p.Body).length := by simp; omega
      have hg := List.getElem?_eq_getElem hlt
      have hs := start_facts hP hg
      have w : w64 (s + 1) = (i : Int) := by rw [w64_eq (by omega)]; exact hi
      rw [Bool.not_true, cond_false, w, q1, getI_some hg, Option.bind_some, impl_ownTerms (by have : cTermS ((p.Pre :: whF p.Body)[i]) = pc_TermS _ := rfl; omega), hi, Int.toNat_natCast, hg]; rfl
theorem spec_startB {p : Program} (hP : okProg p = true) (s : Int) : m_spec_l04Start p s = some (decide (-1 ≤ s) && decide (s ≤ ((whF p.Body).length : Int) - 1)) := by
  have hl := (isB_iff.1 (okProg_body hP)).1
  have hw := wh_len p.Body 0
  unfold m_spec_l04Start
  rw [loops_ok (by omega), Option.bind_some, hw.1, w64_eq (by omega)]; rfl
theorem spec_factsB {p : Program} (hP : okProg p = true) {s : Int} (h1 : -1 ≤ s) (h2 : s ≤ ((whF p.Body).length : Int) - 1) : m_spec_l04Facts p s = some (((p.Pre :: whF p.Body)[(s + 1).toNat]?).getD []) := by
  have hl := (isB_iff.1 (okProg_body hP)).1
  have hw := wh_len p.Body 0
  unfold m_spec_l04Facts
  by_cases hn : s < 0
  · obtain rfl : s = -1 := by omega
    have hs := start_facts (p := p) hP (i := 0) (fs := p.Pre) rfl
    rw [decide_eq_true hn, cond_true, spec_ownAll (by have : cTermS p.Pre = pc_TermS _ := rfl; omega)]; rfl
  · obtain ⟨i, rfl⟩ := Int.eq_ofNat_of_zero_le (show 0 ≤ s by omega)
    have hlt : i < (whF p.Body).length := by omega
    have hg := List.getElem?_eq_getElem hlt
    obtain ⟨j, x, g1, g2, g3⟩ := wh_get p.Body 0 i hg
    have hs := start_facts hP (i := i + 1) (by rw [List.getElem?_cons_succ]; exact hg)
    rw [Nat.zero_add] at g1
    rw [decide_eq_false hn, cond_false, loops_ok (by omega), Option.bind_some, getI_some g1, Option.bind_some, getI_some g2, Option.bind_some, g3, spec_ownAll (by have : cTermS ((whF p.Body)[i]) = pc_TermS _ := rfl; omega), show ((i : Int) + 1).toNat = i + 1 by omega, List.getElem?_cons_succ, hg]; rfl
def inInt (n : Int) : Bool := decide (-1000000000 ≤ n) && decide (n ≤ 1000000000)
def okSt (s : State) : Bool := (s.Vars.all inInt && decide (s.Vars.length = 4)) && (s.Cells.all inInt && decide (s.Cells.length = 8))
theorem dec_lenE {α : Type} (xs : List α) (n : Nat) : decide ((xs.length : Int) = (n : Int)) = decide (xs.length = n) := by
  by_cases h : xs.length = n
  · rw [decide_eq_true h, decide_eq_true (by omega)]
  · rw [decide_eq_false h, decide_eq_false (by omega)]
theorem impl_state (s : State) : m_impl_ValidState s = some (okSt s) := by
  unfold m_impl_ValidState okSt
  rw [show (4 : Int) = ((4 : Nat) : Int) from rfl, show (8 : Int) = ((8 : Nat) : Int) from rfl, dec_lenE, dec_lenE, impl_all, impl_all, Option.bind_some, Option.bind_some]
  rw [show (s.Vars.all fun x => decide (-1000000000 ≤ x) && decide (x ≤ 1000000000)) = s.Vars.all inInt from rfl, show (s.Cells.all fun x => decide (-1000000000 ≤ x) && decide (x ≤ 1000000000)) = s.Cells.all inInt from rfl]
  cases s.Vars.all inInt <;> cases s.Cells.all inInt <;> cases decide (s.Vars.length = 4) <;> cases decide (s.Cells.length = 8) <;> rfl
theorem spec_numbers {xs : List Int} (hl : xs.length ≤ 1048576) (n : Nat) : m_spec_l03Numbers xs (n : Int) = some (xs.all inInt && decide (xs.length = n)) := by
  have h := iter_for (step := m_spec_l03Numbers_L0 xs) xs (fun n (_ : Unit) => (n : Int)) (fun _ x _ => bif inInt x then some (.next ()) else some (.out (.inr false))) (fun _ => .inl ())
    (fun n x r hx => by
      have hn := get_lt hx
      unfold m_spec_l03Numbers_L0
      rw [dec_lt hn, cond_true, getI_some hx, Option.bind_some, show m_spec_l00In x (-1000000000) 1000000000 = some (inInt x) from rfl, Option.bind_some, w64_succ (by omega)]
      cases inInt x <;> rfl)
    (fun r => by unfold m_spec_l03Numbers_L0; rw [dec_self]; rfl) ()
  unfold m_spec_l03Numbers
  have h' : iter (m_spec_l03Numbers_L0 xs) (0 : Int) = _ := h
  rw [h', forL_all inInt xs 0 (fun _ _ _ => rfl), Option.bind_some]
  unfold m_spec_l03Numbers_A0
  cases xs.all inInt with
  | true => simp only [cond_true, Bool.true_and, dec_lenE]
  | false => rfl
theorem spec_state {s : State} (h : pc_State s ≤ 1048576) : m_spec_l03State s = some (okSt s) := by
  unfold pc_State at h
  have e1 : pc_Int64S s.Vars = s.Vars.length := rfl
  have e2 : pc_Int64S s.Cells = s.Cells.length := rfl
  unfold m_spec_l03State okSt
  rw [show m_spec_l03Numbers s.Vars 4 = _ from spec_numbers (xs := s.Vars) (by omega) 4, Option.bind_some, show m_spec_l03Numbers s.Cells 8 = _ from spec_numbers (xs := s.Cells) (by omega) 8, Option.bind_some]
  cases (s.Vars.all inInt && decide (s.Vars.length = 4)) <;> rfl
def evL (vs : List Int) : Nat → List Int → Int → Int
  | _, [], a => a
  | n, c :: cs, a => evL vs (n + 1) cs (w64 (a + w64 (c * vs.getD n 0)))
theorem evL_congr {vs ws : List Int} : ∀ (cs : List Int) (n : Nat) (a : Int), (∀ i, n ≤ i → i < n + cs.length → vs.getD i 0 = ws.getD i 0) → evL vs n cs a = evL ws n cs a
  | [], n, a, _ => rfl
  | c :: cs, n, a, h => by
    simp only [List.length_cons] at h
    unfold evL
    rw [h n (Nat.le_refl _) (by omega)]
    exact evL_congr cs (n + 1) _ (fun i h1 h2 => h i (by omega) (by omega))
theorem impl_evL {vs : List Int} : ∀ (cs : List Int) (n : Nat) (a : Int), n + cs.length ≤ vs.length → forL (m_impl_Term_eval_L0 vs) (fun s0 => s0) n cs a = some (evL vs n cs a)
  | [], n, a, _ => rfl
  | c :: cs, n, a, h => by
    simp only [List.length_cons] at h
    have hx : vs[n]? = some (vs[n]'(by omega)) := List.getElem?_eq_getElem _
    have hd : vs.getD n 0 = vs[n]'(by omega) := by rw [List.getD_eq_getElem?_getD, hx]; rfl
    unfold forL evL
    have st : m_impl_Term_eval_L0 vs n c a = some (.next (w64 (a + w64 (c * vs.getD n 0)))) := by
      unfold m_impl_Term_eval_L0
      rw [getI_some hx, Option.bind_some, hd]
    rw [st]
    exact impl_evL cs (n + 1) _ (by omega)
theorem spec_evL {t : Term} {vs : List Int} (h : t.Coeffs.length ≤ vs.length) (h2 : vs.length ≤ 1000) : m_spec_l02Eval t vs = some (evL vs 0 t.Coeffs t.Const) := by
  have key : ∀ m n a, n + m = t.Coeffs.length → iter (m_spec_l02Eval_L0 t vs) (a, (n : Int)) = some (evL vs n (t.Coeffs.drop n) a) := by
    intro m
    induction m with
    | zero =>
      intro n a hn
      obtain rfl : n = t.Coeffs.length := by omega
      rw [List.drop_length, iter_out (t := a)]
      · rfl
      · unfold m_spec_l02Eval_L0; simp only; rw [dec_self]; rfl
    | succ m ih =>
      intro n a hn
      have hc : t.Coeffs[n]? = some (t.Coeffs[n]'(by omega)) := List.getElem?_eq_getElem _
      have hx : vs[n]? = some (vs[n]'(by omega)) := List.getElem?_eq_getElem _
      have hd : vs.getD n 0 = vs[n]'(by omega) := by rw [List.getD_eq_getElem?_getD, hx]; rfl
      rw [List.drop_eq_getElem_cons (show n < t.Coeffs.length by omega)]
      have st : m_spec_l02Eval_L0 t vs (a, (n : Int)) = some (.next (w64 (a + w64 (t.Coeffs[n]'(by omega) * vs.getD n 0)), ((n + 1 : Nat) : Int))) := by
        unfold m_spec_l02Eval_L0
        simp only
        rw [dec_lt (get_lt hc), cond_true, getI_some hc, Option.bind_some, getI_some hx, Option.bind_some, hd]
        have : w64 ((n : Int) + 1) = ((n + 1 : Nat) : Int) := w64_succ (by omega)
        rw [this]
      rw [iter_next st, ih (n + 1) _ (by omega)]; rfl
  unfold m_spec_l02Eval
  have := key t.Coeffs.length 0 t.Const (by omega)
  rw [List.drop_zero, show ((0 : Nat) : Int) = 0 from rfl] at this
  rw [this]; rfl
theorem impl_eval {t : Term} {vs : List Int} (h : t.Coeffs.length ≤ vs.length) : m_impl_Term_eval t vs = some (evL vs 0 t.Coeffs t.Const) := by
  unfold m_impl_Term_eval
  rw [impl_evL t.Coeffs 0 t.Const (by omega)]; rfl
def holdB (fs : List Term) (vs : List Int) : Bool := fs.all fun t => !decide (evL vs 0 t.Coeffs t.Const < 0)
theorem impl_holdB {fs : List Term} {vs : List Int} (h : ∀ t ∈ fs, t.Coeffs.length ≤ vs.length) : m_impl_hold fs vs = some (holdB fs vs) := by
  unfold m_impl_hold holdB
  rw [forL_all (f := .inr false) (fun t => !decide (evL vs 0 t.Coeffs t.Const < 0)) fs 0 (fun n t ht => by
    unfold m_impl_hold_L0
    rw [impl_eval (h t ht), Option.bind_some]
    cases decide (evL vs 0 t.Coeffs t.Const < 0) <;> rfl), Option.bind_some]
  cases fs.all (fun t => !decide (evL vs 0 t.Coeffs t.Const < 0)) <;> rfl
theorem spec_vals {vs : List Int} (h : vs.length = 4) : iter (m_spec_l04Hold_L0 vs) ((List.replicate 10 (0 : Int)), (0 : Int)) = some (vs ++ List.replicate 6 0) := by
  match vs, h with
  | [a, b, c, d], _ =>
    have st : ∀ (n : Nat) (x : Int) (ys : List Int), [a, b, c, d][n]? = some x → n < ys.length → m_spec_l04Hold_L0 [a, b, c, d] (ys, (n : Int)) = some (.next (ys.set n x, ((n + 1 : Nat) : Int))) := by
      intro n x ys hx hy
      unfold m_spec_l04Hold_L0
      simp only
      rw [dec_lt (get_lt hx), cond_true, getI_some hx, Option.bind_some, getI_some (List.getElem?_eq_getElem hy), Option.bind_some, Int.toNat_natCast]
      have : w64 ((n : Int) + 1) = ((n + 1 : Nat) : Int) := w64_succ (by have := get_lt hx; simp at this; omega)
      rw [this]
    rw [show (0 : Int) = ((0 : Nat) : Int) from rfl, iter_next (st 0 a _ rfl (by simp)), iter_next (st 1 b _ rfl (by simp)), iter_next (st 2 c _ rfl (by simp)), iter_next (st 3 d _ rfl (by simp)), iter_out (t := [a, b, c, d, 0, 0, 0, 0, 0, 0])]
    · rfl
    · rfl
theorem spec_holdB {fs : List Term} {vs : List Int} (h : ∀ t ∈ fs, t.Coeffs.length ≤ 4) (hv : vs.length = 4) (hl : fs.length ≤ 1000) : m_spec_l04Hold fs vs = some (holdB fs vs) := by
  unfold m_spec_l04Hold
  rw [show makeI (10 : Int) 8 = some 10 from rfl, Option.bind_some, spec_vals hv, Option.bind_some]
  unfold m_spec_l04Hold_A0
  have g := iter_for (step := m_spec_l04Hold_L1 fs (vs ++ List.replicate 6 0)) fs (fun k (_ : Unit) => (k : Int)) (fun _ t _ => bif !decide (evL vs 0 t.Coeffs t.Const < 0) then some (.next ()) else some (.out (.inr false))) (fun _ => .inl ())
    (fun k t r ht => by
      have hk := get_lt ht
      have h4 := h t (List.mem_of_getElem? ht)
      unfold m_spec_l04Hold_L1
      rw [dec_lt hk, cond_true, getI_some ht, Option.bind_some, spec_evL (by simp; omega) (by simp; omega), Option.bind_some, evL_congr (vs := vs ++ List.replicate 6 0) (ws := vs) t.Coeffs 0 t.Const (fun i _ h2 => by
        rw [List.getD_eq_getElem?_getD, List.getD_eq_getElem?_getD, List.getElem?_append_left (by omega)])]
      have : w64 ((k : Int) + 1) = ((k + 1 : Nat) : Int) := w64_succ (by omega)
      rw [this]
      cases decide (evL vs 0 t.Coeffs t.Const < 0) <;> rfl)
    (fun r => by unfold m_spec_l04Hold_L1; rw [dec_self]; rfl) ()
  rw [forL_all (f := .inr false) (fun t => !decide (evL vs 0 t.Coeffs t.Const < 0)) fs 0 (fun _ _ _ => rfl)] at g
  replace g : iter (m_spec_l04Hold_L1 fs (vs ++ List.replicate 6 0)) (0 : Int) = _ := g
  rw [g, Option.bind_some]
  unfold holdB
  cases fs.all (fun t => !decide (evL vs 0 t.Coeffs t.Const < 0)) <;> rfl
theorem given_over {ts : List Term} (h : okGiven ts = true) : ts.all over = true ∧ ts.length ≤ 6 := by
  unfold okGiven at h
  simp only [Bool.and_eq_true, decide_eq_true_eq] at h
  exact h
def fHolds (p : Program) (s : Int) (st : State) : Bool × Bool := bif (fStart p s).2 && okSt st then (holdB (fStart p s).1 st.Vars, true) else (false, false)
theorem fStart_given {p : Program} {s : Int} (h : (fStart p s).2 = true) : okGiven (fStart p s).1 = true := by
  unfold fStart at h ⊢
  cases hb : okProg p && (decide (-1 ≤ s) && decide (s ≤ ((whF p.Body).length : Int) - 1)) with
  | false => rw [hb] at h; cases h
  | true =>
    simp only [Bool.and_eq_true, decide_eq_true_eq] at hb
    rw [cond_true]
    have hlt : (s + 1).toNat < (p.Pre :: whF p.Body).length := by simp; omega
    have hg := List.getElem?_eq_getElem hlt
    rw [hg]
    exact (start_facts hb.1 hg).1
theorem okSt_vars {st : State} (h : okSt st = true) : st.Vars.length = 4 := by
  unfold okSt at h
  simp only [Bool.and_eq_true, decide_eq_true_eq] at h
  exact h.1.2
theorem impl_holdsAt (p : Program) (s : Int) (st : State) : m_impl_HoldsAt p s st = some (fHolds p s st) := by
  unfold m_impl_HoldsAt fHolds
  rw [impl_start, Option.bind_some]
  cases h : (fStart p s).2 with
  | false => rfl
  | true =>
    obtain ⟨g1, g2⟩ := given_over (fStart_given h)
    rw [Bool.not_true, cond_false, Bool.true_and]
    unfold m_impl_HoldsIn
    rw [show (14 : Int) = ((14 : Nat) : Int) from rfl, impl_areOver, g1, decide_eq_true (show (fStart p s).1.length ≤ 14 by omega), Option.bind_some, Bool.and_self, Bool.not_true, cond_false, impl_state, Option.bind_some]
    cases hs : okSt st with
    | false => rfl
    | true =>
      have hv := okSt_vars hs
      rw [Bool.not_true, cond_false, impl_holdB (fun t ht => by have := over_len (List.all_eq_true.1 g1 t ht); omega), Option.bind_some]; rfl
theorem spec_holdsAt {p : Program} {s : Int} {st : State} (h0 : pc_Program p ≤ 1048576) (h1 : pc_State st ≤ 1048576) : m_spec_HoldsAt p s st = some (fHolds p s st) := by
  have hf : fStart p s = bif okProg p && (decide (-1 ≤ s) && decide (s ≤ ((whF p.Body).length : Int) - 1)) then (((p.Pre :: whF p.Body)[(s + 1).toNat]?).getD [], true) else ([], false) := rfl
  unfold m_spec_HoldsAt fHolds
  rw [spec_prog h0, Option.bind_some]
  cases hP : okProg p with
  | false =>
    rw [hP] at hf
    rw [hf]; rfl
  | true =>
    rw [hP, Bool.true_and] at hf
    rw [Bool.not_true, cond_false, spec_startB hP, Option.bind_some]
    cases hb : decide (-1 ≤ s) && decide (s ≤ ((whF p.Body).length : Int) - 1) with
    | false => rw [hb] at hf; rw [hf]; rfl
    | true =>
      rw [hb, cond_true] at hf
      have hb' := hb
      simp only [Bool.and_eq_true, decide_eq_true_eq] at hb'
      rw [Bool.not_true, cond_false, spec_state h1, Option.bind_some, show (fStart p s).2 = true by rw [hf], Bool.true_and]
      cases hs : okSt st with
      | false => rfl
      | true =>
        obtain ⟨g1, g2⟩ := given_over (fStart_given (show (fStart p s).2 = true by rw [hf]))
        rw [Bool.not_true, cond_false, spec_factsB hP hb'.1 hb'.2, Option.bind_some, show ((p.Pre :: whF p.Body)[(s + 1).toNat]?).getD [] = (fStart p s).1 by rw [hf],
          spec_holdB (fun t ht => over_len (List.all_eq_true.1 g1 t ht)) (okSt_vars hs) (by omega)]; rfl
theorem same_HoldsAt (p0 : Program) (p1 : Int) (p2 : State) (k0 : k_Program p0) (k1 : k_i64 p1) (k2 : k_State p2) (h0 : pc_Program p0 ≤ 1048576) (h2 : pc_State p2 ≤ 1048576) : ∃ r, m_spec_HoldsAt p0 p1 p2 = some r ∧ m_impl_HoldsAt p0 p1 p2 = some r :=
  ⟨_, spec_holdsAt h0 h2, impl_holdsAt p0 p1 p2⟩
end Go.Mod

namespace Go.Mod
open Go.AM
set_option linter.unusedVariables false
set_option linter.unusedSimpArgs false
theorem law_HoldsAt {p0 : Program} {p1 : Int} {p2 : State} (k0 : k_Program p0) (k1 : k_i64 p1) (k2 : k_State p2) : m_laws_FnExactHoldsAt p0 p1 p2 = some true := by
  unfold m_laws_FnExactHoldsAt
  rw [show (1048576 : Int) = ((1048576 : Nat) : Int) from rfl]
  rw [pz_Program k0 _ (by omega), Option.bind_some]
  by_cases h0 : pc_Program p0 ≤ 1048576
  · rw [szOut_ok h0, dec_neg, cond_false]
    rw [pz_State k2 _ (by omega), Option.bind_some]
    by_cases h2 : pc_State p2 ≤ 1048576 - pc_Program p0
    · rw [szOut_ok h2, dec_neg, cond_false]
      obtain ⟨⟨r0_, r1_⟩, e1, e2⟩ := same_HoldsAt p0 p1 p2 k0 k1 k2 (show pc_Program p0 ≤ 1048576 by omega) (show pc_State p2 ≤ 1048576 by omega)
      have q0 := pq_Program_le p0
      obtain ⟨am0_0, am0_1, am0_2, m0, -⟩ := pm_Program (show pc_Program p0 ≤ 1048576 by omega) (k := 1) (by omega)
      replace m0 : m_laws_markProgram p0 1 = _ := m0
      simp only [Option.bind_some, cond_false, cond_true, dec_neg, e1, e2, decide_true, bool_beq, Bool.not_true, Bool.or_false, Bool.false_eq_true, pt_Program (show pc_Program p0 ≤ 1048576 by omega), pe_Program (show pc_Program p0 ≤ 1048576 by omega), pt_State (show pc_State p2 ≤ 1048576 by omega), pe_State (show pc_State p2 ≤ 1048576 by omega), m0]
    · rw [szOut_no h2]; rfl
  · rw [szOut_no h0]; rfl
end Go.Mod
