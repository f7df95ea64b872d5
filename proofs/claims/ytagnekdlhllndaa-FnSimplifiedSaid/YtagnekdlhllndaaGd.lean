import Derived.Test.YtagnekdlhllndaaGc
namespace Go.Mod
open Go.AM
set_option linter.unusedVariables false
structure l00Src where
  code : List Int
  at_ : Int
  seed : Int
  deriving DecidableEq, Inhabited
theorem l00Src.eta (t : l00Src) : l00Src.mk t.code t.at_ t.seed = t := rfl
structure Term where
  Const : Int
  Coeffs : List Int
  deriving DecidableEq, Inhabited
theorem Term.eta (t : Term) : Term.mk t.Const t.Coeffs = t := rfl
structure Stmt where
  Kind : Int
  Var : Int
  Event : Int
  Sum : Term
  Index : Term
  Facts : List Term
  deriving DecidableEq, Inhabited
theorem Stmt.eta (t : Stmt) : Stmt.mk t.Kind t.Var t.Event t.Sum t.Index t.Facts = t := rfl
structure Program where
  Pre : List Term
  Body : List Stmt
  Post : List Term
  deriving DecidableEq, Inhabited
theorem Program.eta (t : Program) : Program.mk t.Pre t.Body t.Post = t := rfl
structure State where
  Vars : List Int
  Cells : List Int
  deriving DecidableEq, Inhabited
theorem State.eta (t : State) : State.mk t.Vars t.Cells = t := rfl
inductive Ptree where
  | nil
  | mk (f0 : Stmt) (f1 : Int) (f2 : List Ptree)
instance : Inhabited Ptree := ⟨.nil⟩
structure tree where
  Stmt : Stmt
  at_ : Int
  kids : List Ptree
  deriving Inhabited
theorem tree.eta (t : tree) : tree.mk t.Stmt t.at_ t.kids = t := rfl
def XE : Ptree → Option tree
  | .nil => none
  | .mk f0 f1 f2 => some ⟨f0, f1, f2⟩
def re_tree (t : tree) : Ptree := .mk t.Stmt t.at_ t.kids
structure running where
  state : State
  events : List Int
  fuel : Int
  steps : Int
  out : Int
  deriving DecidableEq, Inhabited
theorem running.eta (t : running) : running.mk t.state t.events t.fuel t.steps t.out = t := rfl
def k_u8 (x : Int) : Prop := 0 ≤ x ∧ x ≤ 255
def kLa_u8 (x : List Int) : Prop := x.length ≤ 9223372036854775807 ∧ ∀ y ∈ x, k_u8 y
noncomputable def m_laws_r8Long (p0 : List Int) (p1 : List Int) : Option Bool :=
  some ((decide ((48 : Int) < (p0.length : Int))) || (decide ((48 : Int) < (p1.length : Int))))
noncomputable def m_spec_l00From (p0 : List Int) : Option l00Src :=
  some (l00Src.mk p0 (0 : Int) (0 : Int))
noncomputable def m_spec_l00Src_next_J0 (p0 : l00Src) (j0 : Int) : Option (Int × l00Src) :=
  bif (decide ((w64 (p0.at_ + (1 : Int))) ≤ (p0.code.length : Int))) then
    some (j0, (l00Src.mk p0.code (w64 (p0.at_ + (1 : Int))) (wu 64 ((wu 64 ((wu 64 (p0.seed * (6364136223846793005 : Int))) + (wu 64 j0))) + (1442695040888963407 : Int)))))
  else
    some ((w64 (andU 64 (Int.fdiv (wu 64 ((wu 64 ((wu 64 (p0.seed * (6364136223846793005 : Int))) + (wu 64 j0))) + (1442695040888963407 : Int))) (2 ^ 40)) (255 : Int))), (l00Src.mk p0.code (w64 (p0.at_ + (1 : Int))) (wu 64 ((wu 64 ((wu 64 (p0.seed * (6364136223846793005 : Int))) + (wu 64 j0))) + (1442695040888963407 : Int)))))
noncomputable def m_spec_l00Src_next (p0 : l00Src) : Option (Int × l00Src) :=
  bif (decide (p0.at_ < (p0.code.length : Int))) then
    (getI p0.code p0.at_).bind fun (x22 : Int) =>
    m_spec_l00Src_next_J0 p0 (w64 x22)
  else
    m_spec_l00Src_next_J0 p0 (0 : Int)
noncomputable def QP (p0 : l00Src) (p1 : Int) : Option (Int × l00Src) :=
  bif (decide (p1 ≤ (1 : Int))) then
    some ((0 : Int), p0)
  else
    (m_spec_l00Src_next p0).bind fun (r9 : Int × l00Src) =>
    bif (decide ((200 : Int) < p1)) then
      (m_spec_l00Src_next r9.2).bind fun (r15 : Int × l00Src) =>
      (remI (w64 ((w64 (r9.1 * (256 : Int))) + r15.1)) p1).bind fun (q19 : Int) =>
      some (q19, r15.2)
    else
      (remI r9.1 p1).bind fun (q19 : Int) =>
      some (q19, r9.2)
noncomputable def m_spec_l00Own (p0 : List Int) : Option (List Int) :=
  (capI (([] : List Int).length + p0.length) 8).bind fun (q5 : Unit) =>
  some (([] : List Int) ++ p0)
noncomputable def m_spec_l00In (p0 : Int) (p1 : Int) (p2 : Int) : Option Bool :=
  some ((decide (p1 ≤ p0)) && (decide (p0 ≤ p2)))
noncomputable def m_spec_l02Number (p0 : Int) : Option Bool :=
  (m_spec_l00In p0 (-1000000 : Int) (1000000 : Int)).bind fun (r4 : Bool) =>
  some r4
noncomputable def m_spec_l02Is_L0 (p0 : Term) (s0 : Int) : Option (Ctl Int (Unit ⊕ Bool)) :=
  bif (decide (s0 < (p0.Coeffs.length : Int))) then
    (getI p0.Coeffs s0).bind fun (x45 : Int) =>
    (m_spec_l02Number x45).bind fun (r47 : Bool) =>
    bif (!r47) then
      some (.out (.inr false))
    else
      some (.next (w64 (s0 + (1 : Int))))
  else
    some (.out (.inl ()))
noncomputable def m_spec_l02Is_A0 (u0 : Unit ⊕ Bool) : Option Bool :=
  match u0 with
  | .inl u0 =>
    some true
  | .inr u0 =>
    some u0
noncomputable def m_spec_l02Is_J0 (p0 : Term) (j0 : Unit) : Option Bool :=
  (iter (m_spec_l02Is_L0 p0) (0 : Int)).bind fun (u0 : Unit ⊕ Bool) =>
  m_spec_l02Is_A0 u0
noncomputable def m_spec_l02Is (p0 : Term) : Option Bool :=
  (m_spec_l02Number p0.Const).bind fun (r14 : Bool) =>
  bif ((!r14) || (decide ((10 : Int) < (p0.Coeffs.length : Int)))) then
    some false
  else
    bif (decide ((0 : Int) < (p0.Coeffs.length : Int))) then
      (getI p0.Coeffs (w64 ((p0.Coeffs.length : Int) - (1 : Int)))).bind fun (x30 : Int) =>
      bif (decide (x30 = (0 : Int))) then
        some false
      else
        m_spec_l02Is_J0 p0 ()
    else
      m_spec_l02Is_J0 p0 ()
noncomputable def m_spec_l02Make_L0 (p1 : List Int) (s0 : Int) : Option (Ctl Int Int) :=
  bif (decide ((0 : Int) < s0)) then
    (getI p1 (w64 (s0 - (1 : Int)))).bind fun (x16 : Int) =>
    bif (decide (x16 = (0 : Int))) then
      some (.next (w64 (s0 - (1 : Int))))
    else
      some (.out s0)
  else
    some (.out s0)
noncomputable def m_spec_l02Make_A0 (p0 : Int) (p1 : List Int) (u0 : Int) : Option (Term × Bool) :=
  (sliceI p1 (0 : Int) u0).bind fun (y25 : List Int) =>
  (m_spec_l00Own y25).bind fun (r26 : List Int) =>
  (m_spec_l02Is (Term.mk p0 r26)).bind fun (r28 : Bool) =>
  bif (!r28) then
    some ((Term.mk (0 : Int) ([] : List Int)), false)
  else
    some ((Term.mk p0 r26), true)
noncomputable def m_spec_l02Make (p0 : Int) (p1 : List Int) : Option (Term × Bool) :=
  (iter (m_spec_l02Make_L0 p1) (p1.length : Int)).bind fun (u0 : Int) =>
  m_spec_l02Make_A0 p0 p1 u0
noncomputable def XF (p0 : l00Src) (p1 : Int) : Option (Bool × l00Src) :=
  (QP p0 p1).bind fun (r7 : Int × l00Src) =>
  some ((decide (r7.1 = (0 : Int))), r7.2)
noncomputable def m_spec_l00Src_among (p0 : l00Src) (p1 : List Int) : Option (Int × l00Src) :=
  (QP p0 (p1.length : Int)).bind fun (r9 : Int × l00Src) =>
  (getI p1 r9.1).bind fun (x10 : Int) =>
  some (x10, r9.2)
noncomputable def m_spec_l03DrawTerm_L0 (s0 : (List Int) × Int × Int × (List Int) × Int) : Option (Ctl ((List Int) × Int × Int × (List Int) × Int) (((List Int) × Int × Int × (List Int)))) :=
  bif (decide ((0 : Int) < s0.2.2.2.2)) then
    (QP (l00Src.mk s0.1 s0.2.1 s0.2.2.1) (5 : Int)).bind fun (r16 : Int × l00Src) =>
    (capI (s0.2.2.2.1.length + [(w64 (r16.1 - (2 : Int)))].length) 8).bind fun (q19 : Unit) =>
    some (.next (r16.2.code, r16.2.at_, r16.2.seed, (s0.2.2.2.1 ++ [(w64 (r16.1 - (2 : Int)))]), (w64 (s0.2.2.2.2 - (1 : Int)))))
  else
    some (.out (s0.1, s0.2.1, s0.2.2.1, s0.2.2.2.1))
noncomputable def m_spec_l03DrawTerm_A0 (u0 : ((List Int) × Int × Int × (List Int))) : Option (Term × l00Src) :=
  (QP (l00Src.mk u0.1 u0.2.1 u0.2.2.1) (9 : Int)).bind fun (r22 : Int × l00Src) =>
  (m_spec_l02Make (w64 (r22.1 - (4 : Int))) u0.2.2.2).bind fun (r25 : Term × Bool) =>
  (XF r22.2 (30 : Int)).bind fun (r29 : Bool × l00Src) =>
  bif r29.1 then
    (m_spec_l00Src_among r29.2 [(1000000 : Int), (-1000000 : Int)]).bind fun (r32 : Int × l00Src) =>
    some ((Term.mk r32.1 r25.1.Coeffs), r32.2)
  else
    some (r25.1, r29.2)
noncomputable def Xt (p0 : l00Src) : Option (Term × l00Src) :=
  (QP p0 (5 : Int)).bind fun (r9 : Int × l00Src) =>
  (iter (m_spec_l03DrawTerm_L0) (r9.2.code, r9.2.at_, r9.2.seed, ([] : List Int), r9.1)).bind fun (u0 : ((List Int) × Int × Int × (List Int))) =>
  m_spec_l03DrawTerm_A0 u0
noncomputable def m_spec_l03DrawFacts_L0 (s0 : (List Int) × Int × Int × (List Term) × Int) : Option (Ctl ((List Int) × Int × Int × (List Term) × Int) (((List Term) × (List Int) × Int × Int))) :=
  bif (decide ((0 : Int) < s0.2.2.2.2)) then
    (Xt (l00Src.mk s0.1 s0.2.1 s0.2.2.1)).bind fun (r14 : Term × l00Src) =>
    (capI (s0.2.2.2.1.length + [r14.1].length) 32).bind fun (q16 : Unit) =>
    some (.next (r14.2.code, r14.2.at_, r14.2.seed, (s0.2.2.2.1 ++ [r14.1]), (w64 (s0.2.2.2.2 - (1 : Int)))))
  else
    some (.out (s0.2.2.2.1, s0.1, s0.2.1, s0.2.2.1))
noncomputable def m_spec_l03DrawFacts_A0 (u0 : ((List Term) × (List Int) × Int × Int)) : Option ((List Term) × l00Src) :=
  some (u0.1, (l00Src.mk u0.2.1 u0.2.2.1 u0.2.2.2))
noncomputable def m_spec_l03DrawFacts (p0 : l00Src) : Option ((List Term) × l00Src) :=
  (QP p0 (3 : Int)).bind fun (r7 : Int × l00Src) =>
  (iter (m_spec_l03DrawFacts_L0) (r7.2.code, r7.2.at_, r7.2.seed, ([] : List Term), r7.1)).bind fun (u0 : ((List Term) × (List Int) × Int × Int)) =>
  m_spec_l03DrawFacts_A0 u0
noncomputable def m_spec_l03DrawIndex (p0 : l00Src) : Option (Term × l00Src) :=
  (XF p0 (2 : Int)).bind fun (r4 : Bool × l00Src) =>
  bif r4.1 then
    (QP r4.2 (8 : Int)).bind fun (r6 : Int × l00Src) =>
    some ((Term.mk r6.1 ([] : List Int)), r6.2)
  else
    (XF r4.2 (2 : Int)).bind fun (r9 : Bool × l00Src) =>
    bif r9.1 then
      (QP r9.2 (3 : Int)).bind fun (r11 : Int × l00Src) =>
      some ((Term.mk r11.1 [(1 : Int)]), r11.2)
    else
      (Xt r9.2).bind fun (r15 : Term × l00Src) =>
      some (r15.1, r15.2)
noncomputable def m_spec_l03Below_J0 (p0 : Int) (j0 : Bool) : Option Int :=
  bif j0 then
    some (2 : Int)
  else
    bif (decide (p0 = (8 : Int))) then
      some (1 : Int)
    else
      some (0 : Int)
noncomputable def m_spec_l03Below (p0 : Int) : Option Int :=
  bif (decide (p0 = (1 : Int))) then
    m_spec_l03Below_J0 p0 (decide (p0 = (1 : Int)))
  else
    m_spec_l03Below_J0 p0 (decide (p0 = (7 : Int)))
noncomputable def m_spec_l03DrawLoop_J0 (r10 : Int × l00Src) (k18 : Nat) (j0 : (List Stmt) × (List Int) × Int × Int) : Option ((List Stmt) × l00Src) :=
  (capI (j0.1.length + ([(Stmt.mk (2 : Int) r10.1 (0 : Int) (Term.mk (-1 : Int) ((List.replicate k18 (0 : Int)) ++ [(1 : Int)])) (Term.mk (0 : Int) ([] : List Int)) ([] : List Term))]).length) 112).bind fun (q56 : Unit) =>
  some ((j0.1 ++ [(Stmt.mk (2 : Int) r10.1 (0 : Int) (Term.mk (-1 : Int) ((List.replicate k18 (0 : Int)) ++ [(1 : Int)])) (Term.mk (0 : Int) ([] : List Int)) ([] : List Term))]), (l00Src.mk j0.2.1 j0.2.2.1 j0.2.2.2))
noncomputable def m_spec_l03DrawLoop (p0 : l00Src) : Option ((List Stmt) × l00Src) :=
  (QP p0 (4 : Int)).bind fun (r10 : Int × l00Src) =>
  (makeI r10.1 8).bind fun (k12 : Nat) =>
  (capI ((List.replicate k12 (0 : Int)).length + [(1 : Int)].length) 8).bind fun (q15 : Unit) =>
  (makeI r10.1 8).bind fun (k18 : Nat) =>
  (capI ((List.replicate k18 (0 : Int)).length + [(1 : Int)].length) 8).bind fun (q20 : Unit) =>
  (makeI r10.1 8).bind fun (k23 : Nat) =>
  (capI ((List.replicate k23 (0 : Int)).length + [(1 : Int)].length) 8).bind fun (q25 : Unit) =>
  (capI (([(Stmt.mk (8 : Int) (0 : Int) (0 : Int) (Term.mk (0 : Int) ((List.replicate k12 (0 : Int)) ++ [(1 : Int)])) (Term.mk (0 : Int) ([] : List Int)) ([(Term.mk (1 : Int) ((List.replicate k23 (0 : Int)) ++ [(1 : Int)]))]))]).length + ([(Stmt.mk (1 : Int) (0 : Int) (0 : Int) (Term.mk (0 : Int) ([] : List Int)) (Term.mk (0 : Int) ([] : List Int)) ([] : List Term))]).length) 112).bind fun (q35 : Unit) =>
  (XF r10.2 (2 : Int)).bind fun (r37 : Bool × l00Src) =>
  bif r37.1 then
    (QP r37.2 (4 : Int)).bind fun (r40 : Int × l00Src) =>
    (capI (([(Stmt.mk (8 : Int) (0 : Int) (0 : Int) (Term.mk (0 : Int) ((List.replicate k12 (0 : Int)) ++ [(1 : Int)])) (Term.mk (0 : Int) ([] : List Int)) ([(Term.mk (1 : Int) ((List.replicate k23 (0 : Int)) ++ [(1 : Int)]))]))] ++ [(Stmt.mk (1 : Int) (0 : Int) (0 : Int) (Term.mk (0 : Int) ([] : List Int)) (Term.mk (0 : Int) ([] : List Int)) ([] : List Term))]).length + ([(Stmt.mk (5 : Int) (0 : Int) r40.1 (Term.mk (0 : Int) ([] : List Int)) (Term.mk (0 : Int) ([] : List Int)) ([] : List Term))]).length) 112).bind fun (q43 : Unit) =>
    m_spec_l03DrawLoop_J0 r10 k18 ((([(Stmt.mk (8 : Int) (0 : Int) (0 : Int) (Term.mk (0 : Int) ((List.replicate k12 (0 : Int)) ++ [(1 : Int)])) (Term.mk (0 : Int) ([] : List Int)) ([(Term.mk (1 : Int) ((List.replicate k23 (0 : Int)) ++ [(1 : Int)]))]))] ++ [(Stmt.mk (1 : Int) (0 : Int) (0 : Int) (Term.mk (0 : Int) ([] : List Int)) (Term.mk (0 : Int) ([] : List Int)) ([] : List Term))]) ++ [(Stmt.mk (5 : Int) (0 : Int) r40.1 (Term.mk (0 : Int) ([] : List Int)) (Term.mk (0 : Int) ([] : List Int)) ([] : List Term))]), r40.2.code, r40.2.at_, r40.2.seed)
  else
    (m_spec_l03DrawIndex r37.2).bind fun (r46 : Term × l00Src) =>
    (capI (([(Stmt.mk (8 : Int) (0 : Int) (0 : Int) (Term.mk (0 : Int) ((List.replicate k12 (0 : Int)) ++ [(1 : Int)])) (Term.mk (0 : Int) ([] : List Int)) ([(Term.mk (1 : Int) ((List.replicate k23 (0 : Int)) ++ [(1 : Int)]))]))] ++ [(Stmt.mk (1 : Int) (0 : Int) (0 : Int) (Term.mk (0 : Int) ([] : List Int)) (Term.mk (0 : Int) ([] : List Int)) ([] : List Term))]).length + ([(Stmt.mk (4 : Int) (0 : Int) (0 : Int) (Term.mk (0 : Int) ((List.replicate k12 (0 : Int)) ++ [(1 : Int)])) r46.1 ([] : List Term))]).length) 112).bind fun (q50 : Unit) =>
    m_spec_l03DrawLoop_J0 r10 k18 ((([(Stmt.mk (8 : Int) (0 : Int) (0 : Int) (Term.mk (0 : Int) ((List.replicate k12 (0 : Int)) ++ [(1 : Int)])) (Term.mk (0 : Int) ([] : List Int)) ([(Term.mk (1 : Int) ((List.replicate k23 (0 : Int)) ++ [(1 : Int)]))]))] ++ [(Stmt.mk (1 : Int) (0 : Int) (0 : Int) (Term.mk (0 : Int) ([] : List Int)) (Term.mk (0 : Int) ([] : List Int)) ([] : List Term))]) ++ [(Stmt.mk (4 : Int) (0 : Int) (0 : Int) (Term.mk (0 : Int) ((List.replicate k12 (0 : Int)) ++ [(1 : Int)])) r46.1 ([] : List Term))]), r46.2.code, r46.2.at_, r46.2.seed)
noncomputable def Xu (rec_spec_l03DrawBody : l00Src → Int → Option ((List Stmt) × l00Src)) (p1 : Int) (s0 : (List Int) × Int × Int × (List Stmt) × Int) : Option (Ctl ((List Int) × Int × Int × (List Stmt) × Int) (((List Int) × Int × Int × (List Stmt)))) :=
  bif (decide ((0 : Int) < s0.2.2.2.2)) then
    (rec_spec_l03DrawBody (l00Src.mk s0.1 s0.2.1 s0.2.2.1) (w64 (p1 - (1 : Int)))).bind fun (r79 : (List Stmt) × l00Src) =>
    (capI (s0.2.2.2.1.length + r79.1.length) 112).bind fun (q80 : Unit) =>
    some (.next (r79.2.code, r79.2.at_, r79.2.seed, (s0.2.2.2.1 ++ r79.1), (w64 (s0.2.2.2.2 - (1 : Int)))))
  else
    some (.out (s0.1, s0.2.1, s0.2.2.1, s0.2.2.2.1))
noncomputable def m_spec_l03DrawBody_F_A0 (j0 : (List Int) × Int × Int × Int) (u0 : ((List Int) × Int × Int × (List Stmt))) : Option ((List Stmt) × l00Src) :=
  bif (decide (j0.2.2.2 = (8 : Int))) then
    (XF (l00Src.mk u0.1 u0.2.1 u0.2.2.1) (2 : Int)).bind fun (r85 : Bool × l00Src) =>
    bif r85.1 then
      (m_spec_l03DrawLoop r85.2).bind fun (r88 : (List Stmt) × l00Src) =>
      some (r88.1, r88.2)
    else
      some (u0.2.2.2, r85.2)
  else
    some (u0.2.2.2, (l00Src.mk u0.1 u0.2.1 u0.2.2.1))
noncomputable def Q0 (rec_spec_l03DrawBody : l00Src → Int → Option ((List Stmt) × l00Src)) (p1 : Int) (j0 : (List Int) × Int × Int × Int) (j1 : (List Int) × Int × Int × Int × Int × Int × (List Int) × Int × (List Int) × (List Term)) : Option ((List Stmt) × l00Src) :=
  (m_spec_l03Below j0.2.2.2).bind fun (r70 : Int) =>
  (iter (Xu rec_spec_l03DrawBody p1) (j1.1, j1.2.1, j1.2.2.1, [(Stmt.mk j0.2.2.2 j1.2.2.2.1 j1.2.2.2.2.1 (Term.mk j1.2.2.2.2.2.1 j1.2.2.2.2.2.2.1) (Term.mk j1.2.2.2.2.2.2.2.1 j1.2.2.2.2.2.2.2.2.1) j1.2.2.2.2.2.2.2.2.2)], r70)).bind fun (u0 : ((List Int) × Int × Int × (List Stmt))) =>
  m_spec_l03DrawBody_F_A0 j0 u0
noncomputable def m_spec_l03DrawBody_F_J0 (rec_spec_l03DrawBody : l00Src → Int → Option ((List Stmt) × l00Src)) (p1 : Int) (j0 : (List Int) × Int × Int × Int) : Option ((List Stmt) × l00Src) :=
  bif (decide (j0.2.2.2 = (2 : Int))) then
    (QP (l00Src.mk j0.1 j0.2.1 j0.2.2.1) (4 : Int)).bind fun (r23 : Int × l00Src) =>
    (Xt r23.2).bind fun (r26 : Term × l00Src) =>
    Q0 rec_spec_l03DrawBody p1 j0 (r26.2.code, r26.2.at_, r26.2.seed, r23.1, (0 : Int), r26.1.Const, r26.1.Coeffs, (0 : Int), ([] : List Int), ([] : List Term))
  else
    bif (decide (j0.2.2.2 = (3 : Int))) then
      (QP (l00Src.mk j0.1 j0.2.1 j0.2.2.1) (4 : Int)).bind fun (r31 : Int × l00Src) =>
      (m_spec_l03DrawIndex r31.2).bind fun (r34 : Term × l00Src) =>
      Q0 rec_spec_l03DrawBody p1 j0 (r34.2.code, r34.2.at_, r34.2.seed, r31.1, (0 : Int), (0 : Int), ([] : List Int), r34.1.Const, r34.1.Coeffs, ([] : List Term))
    else
      bif (decide (j0.2.2.2 = (4 : Int))) then
        (m_spec_l03DrawIndex (l00Src.mk j0.1 j0.2.1 j0.2.2.1)).bind fun (r39 : Term × l00Src) =>
        (Xt r39.2).bind fun (r42 : Term × l00Src) =>
        Q0 rec_spec_l03DrawBody p1 j0 (r42.2.code, r42.2.at_, r42.2.seed, (0 : Int), (0 : Int), r42.1.Const, r42.1.Coeffs, r39.1.Const, r39.1.Coeffs, ([] : List Term))
      else
        bif (decide (j0.2.2.2 = (5 : Int))) then
          (QP (l00Src.mk j0.1 j0.2.1 j0.2.2.1) (4 : Int)).bind fun (r47 : Int × l00Src) =>
          Q0 rec_spec_l03DrawBody p1 j0 (r47.2.code, r47.2.at_, r47.2.seed, (0 : Int), r47.1, (0 : Int), ([] : List Int), (0 : Int), ([] : List Int), ([] : List Term))
        else
          bif (decide (j0.2.2.2 = (6 : Int))) then
            (Xt (l00Src.mk j0.1 j0.2.1 j0.2.2.1)).bind fun (r52 : Term × l00Src) =>
            Q0 rec_spec_l03DrawBody p1 j0 (r52.2.code, r52.2.at_, r52.2.seed, (0 : Int), (0 : Int), r52.1.Const, r52.1.Coeffs, (0 : Int), ([] : List Int), ([] : List Term))
          else
            bif (decide (j0.2.2.2 = (7 : Int))) then
              (Xt (l00Src.mk j0.1 j0.2.1 j0.2.2.1)).bind fun (r57 : Term × l00Src) =>
              Q0 rec_spec_l03DrawBody p1 j0 (r57.2.code, r57.2.at_, r57.2.seed, (0 : Int), (0 : Int), r57.1.Const, r57.1.Coeffs, (0 : Int), ([] : List Int), ([] : List Term))
            else
              bif (decide (j0.2.2.2 = (8 : Int))) then
                (Xt (l00Src.mk j0.1 j0.2.1 j0.2.2.1)).bind fun (r62 : Term × l00Src) =>
                (m_spec_l03DrawFacts r62.2).bind fun (r65 : (List Term) × l00Src) =>
                Q0 rec_spec_l03DrawBody p1 j0 (r65.2.code, r65.2.at_, r65.2.seed, (0 : Int), (0 : Int), r62.1.Const, r62.1.Coeffs, (0 : Int), ([] : List Int), r65.1)
              else
                Q0 rec_spec_l03DrawBody p1 j0 (j0.1, j0.2.1, j0.2.2.1, (0 : Int), (0 : Int), (0 : Int), ([] : List Int), (0 : Int), ([] : List Int), ([] : List Term))
noncomputable def m_spec_l03DrawBody_F (rec_spec_l03DrawBody : l00Src → Int → Option ((List Stmt) × l00Src)) (p0 : l00Src) (p1 : Int) : Option ((List Stmt) × l00Src) :=
  (m_spec_l00Src_among p0 [(0 : Int), (2 : Int), (2 : Int), (3 : Int), (4 : Int), (5 : Int), (6 : Int)]).bind fun (r11 : Int × l00Src) =>
  bif (decide ((0 : Int) < p1)) then
    (m_spec_l00Src_among r11.2 [(1 : Int), (1 : Int), (1 : Int), (7 : Int), (8 : Int), (2 : Int), (5 : Int), (4 : Int)]).bind fun (r16 : Int × l00Src) =>
    m_spec_l03DrawBody_F_J0 rec_spec_l03DrawBody p1 (r16.2.code, r16.2.at_, r16.2.seed, r16.1)
  else
    m_spec_l03DrawBody_F_J0 rec_spec_l03DrawBody p1 (r11.2.code, r11.2.at_, r11.2.seed, r11.1)
noncomputable def m_spec_l03DrawBody : Nat → l00Src → Int → Option ((List Stmt) × l00Src)
  | 0, _, _ => none
  | n + 1, p0, p1 => m_spec_l03DrawBody_F (m_spec_l03DrawBody n) p0 p1
noncomputable def m_spec_l03DrawOk (p0 : l00Src) : Option (Program × l00Src) :=
  (m_spec_l03DrawFacts p0).bind fun (r6 : (List Term) × l00Src) =>
  (QP r6.2 (4 : Int)).bind fun (r9 : Int × l00Src) =>
  (m_spec_l03DrawBody 1000 r9.2 r9.1).bind fun (r12 : (List Stmt) × l00Src) =>
  (m_spec_l03DrawFacts r12.2).bind fun (r15 : (List Term) × l00Src) =>
  bif (decide ((30 : Int) < (r12.1.length : Int))) then
    some ((Program.mk r6.1 ([(Stmt.mk (0 : Int) (0 : Int) (0 : Int) (Term.mk (0 : Int) ([] : List Int)) (Term.mk (0 : Int) ([] : List Int)) ([] : List Term))]) r15.1), r15.2)
  else
    some ((Program.mk r6.1 r12.1 r15.1), r15.2)
noncomputable def m_spec_R8Program (p0 : List Int) : Option Program :=
  (m_spec_l00From p0).bind fun (r5 : l00Src) =>
  (m_spec_l03DrawOk r5).bind fun (r7 : Program × l00Src) =>
  some r7.1
noncomputable def m_spec_l03DrawState_L0 (s0 : (List Int) × Int × Int × (List Int) × Int) : Option (Ctl ((List Int) × Int × Int × (List Int) × Int) (((List Int) × Int × Int × (List Int)))) :=
  bif (decide (s0.2.2.2.2 < (4 : Int))) then
    (QP (l00Src.mk s0.1 s0.2.1 s0.2.2.1) (9 : Int)).bind fun (r16 : Int × l00Src) =>
    (capI (s0.2.2.2.1.length + [(w64 (r16.1 - (2 : Int)))].length) 8).bind fun (q19 : Unit) =>
    some (.next (r16.2.code, r16.2.at_, r16.2.seed, (s0.2.2.2.1 ++ [(w64 (r16.1 - (2 : Int)))]), (w64 (s0.2.2.2.2 + (1 : Int)))))
  else
    some (.out (s0.1, s0.2.1, s0.2.2.1, s0.2.2.2.1))
noncomputable def m_spec_l03DrawState_L1 (s1 : (List Int) × Int × Int × (List Int) × Int) : Option (Ctl ((List Int) × Int × Int × (List Int) × Int) (((List Int) × Int × Int × (List Int)))) :=
  bif (decide (s1.2.2.2.2 < (8 : Int))) then
    (QP (l00Src.mk s1.1 s1.2.1 s1.2.2.1) (9 : Int)).bind fun (r28 : Int × l00Src) =>
    (capI (s1.2.2.2.1.length + [(w64 (r28.1 - (2 : Int)))].length) 8).bind fun (q31 : Unit) =>
    some (.next (r28.2.code, r28.2.at_, r28.2.seed, (s1.2.2.2.1 ++ [(w64 (r28.1 - (2 : Int)))]), (w64 (s1.2.2.2.2 + (1 : Int)))))
  else
    some (.out (s1.1, s1.2.1, s1.2.2.1, s1.2.2.2.1))
noncomputable def m_spec_l03DrawState_A1 (u0 : (List Int) × Int × Int × (List Int)) (u1 : ((List Int) × Int × Int × (List Int))) : Option (State × l00Src) :=
  (XF (l00Src.mk u1.1 u1.2.1 u1.2.2.1) (8 : Int)).bind fun (r34 : Bool × l00Src) =>
  bif r34.1 then
    (m_spec_l00Src_among r34.2 [(1000000000 : Int), (-1000000000 : Int)]).bind fun (r39 : Int × l00Src) =>
    (getI u0.2.2.2 (0 : Int)).bind fun (x40 : Int) =>
    some ((State.mk (u0.2.2.2.set (((0 : Int)).toNat) r39.1) u1.2.2.2), r39.2)
  else
    some ((State.mk u0.2.2.2 u1.2.2.2), r34.2)
noncomputable def m_spec_l03DrawState_A0 (u0 : ((List Int) × Int × Int × (List Int))) : Option (State × l00Src) :=
  (iter (m_spec_l03DrawState_L1) (u0.1, u0.2.1, u0.2.2.1, ([] : List Int), (0 : Int))).bind fun (u1 : ((List Int) × Int × Int × (List Int))) =>
  m_spec_l03DrawState_A1 u0 u1
noncomputable def m_spec_l03DrawState (p0 : l00Src) : Option (State × l00Src) :=
  (iter (m_spec_l03DrawState_L0) (p0.code, p0.at_, p0.seed, ([] : List Int), (0 : Int))).bind fun (u0 : ((List Int) × Int × Int × (List Int))) =>
  m_spec_l03DrawState_A0 u0
noncomputable def m_spec_R8State (p0 : List Int) : Option State :=
  (m_spec_l00From p0).bind fun (r5 : l00Src) =>
  (m_spec_l03DrawState r5).bind fun (r7 : State × l00Src) =>
  some r7.1
noncomputable def m_impl_Term_isZero (p0 : Term) : Option Bool :=
  some ((decide (p0.Const = (0 : Int))) && (decide ((p0.Coeffs.length : Int) = (0 : Int))))
noncomputable def m_impl_within (p0 : Int) (p1 : Int) (p2 : Int) : Option Bool :=
  some ((decide (p1 ≤ p0)) && (decide (p0 ≤ p2)))
noncomputable def m_impl_isVar (p0 : Int) : Option Bool :=
  (m_impl_within p0 (0 : Int) (3 : Int)).bind fun (r4 : Bool) =>
  some r4
noncomputable def m_impl_isCoeff (p0 : Int) : Option Bool :=
  (m_impl_within p0 (-1000000 : Int) (1000000 : Int)).bind fun (r4 : Bool) =>
  some r4
noncomputable def m_impl_allWithin_L0 (p1 : Int) (p2 : Int) (n0 : Nat) (x0 : Int) (s0 : Unit) : Option (Ctl Unit (Unit ⊕ Bool)) :=
  (m_impl_within x0 p1 p2).bind fun (r18 : Bool) =>
  bif (!r18) then
    some (.out (.inr false))
  else
    some (.next ())
noncomputable def m_impl_allWithin_A0 (u0 : Unit ⊕ Bool) : Option Bool :=
  match u0 with
  | .inl u0 =>
    some true
  | .inr u0 =>
    some u0
noncomputable def m_impl_allWithin (p0 : List Int) (p1 : Int) (p2 : Int) : Option Bool :=
  (forL (m_impl_allWithin_L0 p1 p2) (fun s0 => (.inl ())) 0 p0 ()).bind fun (u0 : Unit ⊕ Bool) =>
  m_impl_allWithin_A0 u0
noncomputable def m_impl_ValidTerm (p0 : Term) : Option Bool :=
  bif (decide ((p0.Coeffs.length : Int) ≤ (10 : Int))) then
    (m_impl_isCoeff p0.Const).bind fun (r12 : Bool) =>
    bif r12 then
      (m_impl_allWithin p0.Coeffs (-1000000 : Int) (1000000 : Int)).bind fun (r17 : Bool) =>
      bif r17 then
        bif (decide ((p0.Coeffs.length : Int) = (0 : Int))) then
          some true
        else
          (getI p0.Coeffs (w64 ((p0.Coeffs.length : Int) - (1 : Int)))).bind fun (x27 : Int) =>
          some (!decide (x27 = (0 : Int)))
      else
        some false
    else
      some false
  else
    some false
noncomputable def m_impl_isOver (p0 : Term) : Option Bool :=
  (m_impl_ValidTerm p0).bind fun (r4 : Bool) =>
  some (r4 && (decide ((p0.Coeffs.length : Int) ≤ (4 : Int))))
noncomputable def m_impl_isEvent (p0 : Int) : Option Bool :=
  (m_impl_within p0 (0 : Int) (3 : Int)).bind fun (r4 : Bool) =>
  some r4
noncomputable def m_impl_areOver_1 (p0 : Term) : Option Bool :=
  (m_impl_isOver p0).bind fun (r4 : Bool) =>
  some (!r4)
noncomputable def QW (n0 : Nat) (x0 : Term) (s0 : Unit) : Option (Ctl Unit (Unit ⊕ Int)) :=
  (m_impl_areOver_1 x0).bind fun (r16 : Bool) =>
  bif r16 then
    some (.out (.inr (n0 : Int)))
  else
    some (.next ())
noncomputable def QX (u0 : Unit ⊕ Int) : Option Int :=
  match u0 with
  | .inl u0 =>
    some (-1 : Int)
  | .inr u0 =>
    some u0
noncomputable def Q9 (p0 : List Term) : Option Int :=
  (forL (QW) (fun s0 => (.inl ())) 0 p0 ()).bind fun (u0 : Unit ⊕ Int) =>
  QX u0
noncomputable def Q4 (p0 : List Term) : Option Bool :=
  (Q9 p0).bind fun (r7 : Int) =>
  some (decide ((0 : Int) ≤ r7))
noncomputable def m_impl_areOver (p0 : List Term) (p1 : Int) : Option Bool :=
  bif (decide ((p0.length : Int) ≤ p1)) then
    (Q4 p0).bind fun (r11 : Bool) =>
    some (!r11)
  else
    some false
noncomputable def m_impl_kidsOf (p0 : Stmt) : Option Int :=
  (m_impl_Term_isZero p0.Sum).bind fun (r17 : Bool) =>
  (m_impl_Term_isZero p0.Index).bind fun (r20 : Bool) =>
  bif (decide (p0.Kind = (0 : Int))) then
    bif (((((decide (p0.Var = (0 : Int))) && (decide (p0.Event = (0 : Int)))) && r17) && r20) && (decide ((p0.Facts.length : Int) = (0 : Int)))) then
      some (0 : Int)
    else
      some (-1 : Int)
  else
    bif (decide (p0.Kind = (1 : Int))) then
      bif (((((decide (p0.Var = (0 : Int))) && (decide (p0.Event = (0 : Int)))) && r17) && r20) && (decide ((p0.Facts.length : Int) = (0 : Int)))) then
        some (2 : Int)
      else
        some (-1 : Int)
    else
      bif (decide (p0.Kind = (2 : Int))) then
        (m_impl_isVar p0.Var).bind fun (r61 : Bool) =>
        bif (r61 && (decide (p0.Event = (0 : Int)))) then
          (m_impl_isOver p0.Sum).bind fun (r68 : Bool) =>
          bif ((r68 && r20) && (decide ((p0.Facts.length : Int) = (0 : Int)))) then
            some (0 : Int)
          else
            some (-1 : Int)
        else
          some (-1 : Int)
      else
        bif (decide (p0.Kind = (3 : Int))) then
          (m_impl_isVar p0.Var).bind fun (r80 : Bool) =>
          bif ((r80 && (decide (p0.Event = (0 : Int)))) && r17) then
            (m_impl_isOver p0.Index).bind fun (r90 : Bool) =>
            bif (r90 && (decide ((p0.Facts.length : Int) = (0 : Int)))) then
              some (0 : Int)
            else
              some (-1 : Int)
          else
            some (-1 : Int)
        else
          bif (decide (p0.Kind = (4 : Int))) then
            bif ((decide (p0.Var = (0 : Int))) && (decide (p0.Event = (0 : Int)))) then
              (m_impl_isOver p0.Sum).bind fun (r104 : Bool) =>
              bif r104 then
                (m_impl_isOver p0.Index).bind fun (r109 : Bool) =>
                bif (r109 && (decide ((p0.Facts.length : Int) = (0 : Int)))) then
                  some (0 : Int)
                else
                  some (-1 : Int)
              else
                some (-1 : Int)
            else
              some (-1 : Int)
          else
            bif (decide (p0.Kind = (5 : Int))) then
              bif (decide (p0.Var = (0 : Int))) then
                (m_impl_isEvent p0.Event).bind fun (r120 : Bool) =>
                bif (((r120 && r17) && r20) && (decide ((p0.Facts.length : Int) = (0 : Int)))) then
                  some (0 : Int)
                else
                  some (-1 : Int)
              else
                some (-1 : Int)
            else
              bif (decide (p0.Kind = (6 : Int))) then
                bif ((decide (p0.Var = (0 : Int))) && (decide (p0.Event = (0 : Int)))) then
                  (m_impl_isOver p0.Sum).bind fun (r140 : Bool) =>
                  bif ((r140 && r20) && (decide ((p0.Facts.length : Int) = (0 : Int)))) then
                    some (0 : Int)
                  else
                    some (-1 : Int)
                else
                  some (-1 : Int)
              else
                bif (decide (p0.Kind = (7 : Int))) then
                  bif ((decide (p0.Var = (0 : Int))) && (decide (p0.Event = (0 : Int)))) then
                    (m_impl_isOver p0.Sum).bind fun (r157 : Bool) =>
                    bif ((r157 && r20) && (decide ((p0.Facts.length : Int) = (0 : Int)))) then
                      some (2 : Int)
                    else
                      some (-1 : Int)
                  else
                    some (-1 : Int)
                else
                  bif (decide (p0.Kind = (8 : Int))) then
                    bif ((decide (p0.Var = (0 : Int))) && (decide (p0.Event = (0 : Int)))) then
                      (m_impl_isOver p0.Sum).bind fun (r174 : Bool) =>
                      bif (r174 && r20) then
                        (m_impl_areOver p0.Facts (6 : Int)).bind fun (r182 : Bool) =>
                        bif r182 then
                          some (1 : Int)
                        else
                          some (-1 : Int)
                      else
                        some (-1 : Int)
                    else
                      some (-1 : Int)
                  else
                    some (-1 : Int)
noncomputable def m_impl_treeAt_F_L0 (rec_impl_treeAt : (List Stmt) → Int → Option (Ptree × Int × Bool)) (p0 : List Stmt) (s0 : Int × Int × (List Ptree)) : Option (Ctl (Int × Int × (List Ptree)) ((Int × (List Ptree)) ⊕ (Ptree × Int × Bool))) :=
  bif (decide ((0 : Int) < s0.2.1)) then
    (rec_impl_treeAt p0 s0.1).bind fun (r39 : Ptree × Int × Bool) =>
    bif (!r39.2.2) then
      some (.out (.inr ((.nil : Ptree), (0 : Int), false)))
    else
      (capI (s0.2.2.length + [r39.1].length) 8).bind fun (q52 : Unit) =>
      some (.next (r39.2.1, (w64 (s0.2.1 - (1 : Int))), (s0.2.2 ++ [r39.1])))
  else
    some (.out (.inl (s0.1, s0.2.2)))
noncomputable def m_impl_treeAt_F_A0 (p1 : Int) (x18 : Stmt) (u0 : (Int × (List Ptree)) ⊕ (Ptree × Int × Bool)) : Option (Ptree × Int × Bool) :=
  match u0 with
  | .inl u0 =>
    some ((re_tree (tree.mk x18 p1 u0.2)), u0.1, true)
  | .inr u0 =>
    some (u0.1, u0.2.1, u0.2.2)
noncomputable def m_impl_treeAt_F (rec_impl_treeAt : (List Stmt) → Int → Option (Ptree × Int × Bool)) (p0 : List Stmt) (p1 : Int) : Option (Ptree × Int × Bool) :=
  bif (decide ((p0.length : Int) ≤ p1)) then
    some ((.nil : Ptree), (0 : Int), false)
  else
    (getI p0 p1).bind fun (x18 : Stmt) =>
    (m_impl_kidsOf x18).bind fun (r20 : Int) =>
    bif (decide (r20 < (0 : Int))) then
      some ((.nil : Ptree), (0 : Int), false)
    else
      (iter (m_impl_treeAt_F_L0 rec_impl_treeAt p0) ((w64 (p1 + (1 : Int))), r20, ([] : List Ptree))).bind fun (u0 : (Int × (List Ptree)) ⊕ (Ptree × Int × Bool)) =>
      m_impl_treeAt_F_A0 p1 x18 u0
noncomputable def m_impl_treeAt : Nat → (List Stmt) → Int → Option (Ptree × Int × Bool)
  | 0, _, _ => none
  | n + 1, p0, p1 => m_impl_treeAt_F (m_impl_treeAt n) p0 p1
noncomputable def m_impl_treeOf (p0 : List Stmt) : Option (Ptree × Bool) :=
  bif (decide ((30 : Int) < (p0.length : Int))) then
    some ((.nil : Ptree), false)
  else
    (m_impl_treeAt 1000 p0 (0 : Int)).bind fun (r12 : Ptree × Int × Bool) =>
    some (r12.1, (r12.2.2 && (decide (r12.2.1 = (p0.length : Int)))))
noncomputable def m_impl_IsBody (p0 : List Stmt) : Option Bool :=
  (m_impl_treeOf p0).bind fun (r7 : Ptree × Bool) =>
  some r7.2
noncomputable def m_impl_ValidProgram (p0 : Program) : Option Bool :=
  (m_impl_IsBody p0.Body).bind fun (r5 : Bool) =>
  bif r5 then
    (m_impl_areOver p0.Pre (6 : Int)).bind fun (r9 : Bool) =>
    bif r9 then
      (m_impl_areOver p0.Post (6 : Int)).bind fun (r14 : Bool) =>
      some r14
    else
      some false
  else
    some false
noncomputable def m_impl_ValidState (p0 : State) : Option Bool :=
  bif ((decide ((p0.Vars.length : Int) = (4 : Int))) && (decide ((p0.Cells.length : Int) = (8 : Int)))) then
    (m_impl_allWithin p0.Vars (-1000000000 : Int) (1000000000 : Int)).bind fun (r16 : Bool) =>
    bif r16 then
      (m_impl_allWithin p0.Cells (-1000000000 : Int) (1000000000 : Int)).bind fun (r21 : Bool) =>
      some r21
    else
      some false
  else
    some false
noncomputable def m_impl_copyInts (p0 : List Int) : Option (List Int) :=
  (capI (([] : List Int).length + p0.length) 8).bind fun (q5 : Unit) =>
  some (([] : List Int) ++ p0)
noncomputable def m_impl_State_own (p0 : State) : Option State :=
  (m_impl_copyInts p0.Vars).bind fun (r5 : List Int) =>
  (m_impl_copyInts p0.Cells).bind fun (r8 : List Int) =>
  some (State.mk r5 r8)
noncomputable def m_impl_running_step (p0 : running) : Option (Bool × running) :=
  bif (decide (p0.steps = p0.fuel)) then
    some (false, (running.mk p0.state p0.events p0.fuel p0.steps (1 : Int)))
  else
    some (true, (running.mk p0.state p0.events p0.fuel (w64 (p0.steps + (1 : Int))) p0.out))
noncomputable def m_impl_Term_eval_L0 (p1 : List Int) (n0 : Nat) (x0 : Int) (s0 : Int) : Option (Ctl Int Int) :=
  (getI p1 (n0 : Int)).bind fun (x22 : Int) =>
  some (.next (w64 (s0 + (w64 (x0 * x22)))))
noncomputable def m_impl_Term_eval_A0 (u0 : Int) : Option Int :=
  some u0
noncomputable def m_impl_Term_eval (p0 : Term) (p1 : List Int) : Option Int :=
  (forL (m_impl_Term_eval_L0 p1) (fun s0 => s0) 0 p0.Coeffs p0.Const).bind fun (u0 : Int) =>
  m_impl_Term_eval_A0 u0
noncomputable def m_impl_running_stop (p0 : running) (p1 : Int) : Option (Bool × running) :=
  some (false, (running.mk p0.state p0.events p0.fuel p0.steps p1))
noncomputable def m_impl_isInt (p0 : Int) : Option Bool :=
  (m_impl_within p0 (-1000000000 : Int) (1000000000 : Int)).bind fun (r4 : Bool) =>
  some r4
noncomputable def Xj (rec_impl_running_run : running → Ptree → Option (Bool × running)) (o94 : tree) (s0 : (List Int) × (List Int) × (List Int) × Int × Int × Int) : Option (Ctl ((List Int) × (List Int) × (List Int) × Int × Int × Int) (((List Int) × (List Int) × (List Int) × Int × Int × Int) ⊕ (Bool × (List Int) × (List Int) × (List Int) × Int × Int × Int))) :=
  (m_impl_running_step (running.mk (State.mk s0.1 s0.2.1) s0.2.2.1 s0.2.2.2.1 s0.2.2.2.2.1 s0.2.2.2.2.2)).bind fun (r201 : Bool × running) =>
  bif r201.1 then
    (m_impl_Term_eval o94.Stmt.Sum r201.2.state.Vars).bind fun (r208 : Int) =>
    bif (decide (r208 < (0 : Int))) then
      some (.out (.inr (true, r201.2.state.Vars, r201.2.state.Cells, r201.2.events, r201.2.fuel, r201.2.steps, r201.2.out)))
    else
      (getI o94.kids (0 : Int)).bind fun (x215 : Ptree) =>
      (rec_impl_running_run r201.2 x215).bind fun (r217 : Bool × running) =>
      bif (!r217.1) then
        some (.out (.inr (false, r217.2.state.Vars, r217.2.state.Cells, r217.2.events, r217.2.fuel, r217.2.steps, r217.2.out)))
      else
        some (.next (r217.2.state.Vars, r217.2.state.Cells, r217.2.events, r217.2.fuel, r217.2.steps, r217.2.out))
  else
    some (.out (.inl (r201.2.state.Vars, r201.2.state.Cells, r201.2.events, r201.2.fuel, r201.2.steps, r201.2.out)))
noncomputable def m_impl_running_run_F_A0 (u0 : ((List Int) × (List Int) × (List Int) × Int × Int × Int) ⊕ (Bool × (List Int) × (List Int) × (List Int) × Int × Int × Int)) : Option (Bool × running) :=
  match u0 with
  | .inl u0 =>
    some (false, (running.mk (State.mk u0.1 u0.2.1) u0.2.2.1 u0.2.2.2.1 u0.2.2.2.2.1 u0.2.2.2.2.2))
  | .inr u0 =>
    some (u0.1, (running.mk (State.mk u0.2.1 u0.2.2.1) u0.2.2.2.1 u0.2.2.2.2.1 u0.2.2.2.2.2.1 u0.2.2.2.2.2.2))
noncomputable def Q6 (rec_impl_running_run : running → Ptree → Option (Bool × running)) (p1 : Ptree) (j0 : (List Int) × (List Int) × (List Int) × Int × Int × Int) (j1 : Int × Int) (j3 : Unit) : Option (Bool × running) :=
  (XE p1).bind fun (o94 : tree) =>
  bif (decide (o94.Stmt.Kind = (1 : Int))) then
    (getI o94.kids (0 : Int)).bind fun (x106 : Ptree) =>
    (rec_impl_running_run (running.mk (State.mk j0.1 j0.2.1) j0.2.2.1 j0.2.2.2.1 j0.2.2.2.2.1 j0.2.2.2.2.2) x106).bind fun (r108 : Bool × running) =>
    bif r108.1 then
      (getI o94.kids (1 : Int)).bind fun (x115 : Ptree) =>
      (rec_impl_running_run r108.2 x115).bind fun (r117 : Bool × running) =>
      some (r117.1, r117.2)
    else
      some (false, r108.2)
  else
    bif (decide (o94.Stmt.Kind = (2 : Int))) then
      (getI j0.1 o94.Stmt.Var).bind fun (x128 : Int) =>
      some (true, (running.mk (State.mk (j0.1.set ((o94.Stmt.Var).toNat) j1.1) j0.2.1) j0.2.2.1 j0.2.2.2.1 j0.2.2.2.2.1 j0.2.2.2.2.2))
    else
      bif (decide (o94.Stmt.Kind = (3 : Int))) then
        (getI j0.2.1 j1.2).bind fun (x143 : Int) =>
        (getI j0.1 o94.Stmt.Var).bind fun (x145 : Int) =>
        some (true, (running.mk (State.mk (j0.1.set ((o94.Stmt.Var).toNat) x143) j0.2.1) j0.2.2.1 j0.2.2.2.1 j0.2.2.2.2.1 j0.2.2.2.2.2))
      else
        bif (decide (o94.Stmt.Kind = (4 : Int))) then
          (getI j0.2.1 j1.2).bind fun (x155 : Int) =>
          some (true, (running.mk (State.mk j0.1 (j0.2.1.set ((j1.2).toNat) j1.1)) j0.2.2.1 j0.2.2.2.1 j0.2.2.2.2.1 j0.2.2.2.2.2))
        else
          bif (decide (o94.Stmt.Kind = (5 : Int))) then
            (capI (j0.2.2.1.length + [o94.Stmt.Event].length) 8).bind fun (q169 : Unit) =>
            some (true, (running.mk (State.mk j0.1 j0.2.1) (j0.2.2.1 ++ [o94.Stmt.Event]) j0.2.2.2.1 j0.2.2.2.2.1 j0.2.2.2.2.2))
          else
            bif (decide (o94.Stmt.Kind = (6 : Int))) then
              bif (decide (j1.1 < (0 : Int))) then
                (m_impl_running_stop (running.mk (State.mk j0.1 j0.2.1) j0.2.2.1 j0.2.2.2.1 j0.2.2.2.2.1 j0.2.2.2.2.2) (3 : Int)).bind fun (r177 : Bool × running) =>
                some (r177.1, r177.2)
              else
                some (true, (running.mk (State.mk j0.1 j0.2.1) j0.2.2.1 j0.2.2.2.1 j0.2.2.2.2.1 j0.2.2.2.2.2))
            else
              bif (decide (o94.Stmt.Kind = (7 : Int))) then
                bif (decide ((0 : Int) ≤ j1.1)) then
                  (getI o94.kids (0 : Int)).bind fun (x187 : Ptree) =>
                  (rec_impl_running_run (running.mk (State.mk j0.1 j0.2.1) j0.2.2.1 j0.2.2.2.1 j0.2.2.2.2.1 j0.2.2.2.2.2) x187).bind fun (r189 : Bool × running) =>
                  some (r189.1, r189.2)
                else
                  (getI o94.kids (1 : Int)).bind fun (x195 : Ptree) =>
                  (rec_impl_running_run (running.mk (State.mk j0.1 j0.2.1) j0.2.2.1 j0.2.2.2.1 j0.2.2.2.2.1 j0.2.2.2.2.2) x195).bind fun (r197 : Bool × running) =>
                  some (r197.1, r197.2)
              else
                bif (decide (o94.Stmt.Kind = (8 : Int))) then
                  (iter (Xj rec_impl_running_run o94) (j0.1, j0.2.1, j0.2.2.1, j0.2.2.2.1, j0.2.2.2.2.1, j0.2.2.2.2.2)).bind fun (u0 : ((List Int) × (List Int) × (List Int) × Int × Int × Int) ⊕ (Bool × (List Int) × (List Int) × (List Int) × Int × Int × Int)) =>
                  m_impl_running_run_F_A0 u0
                else
                  some (true, (running.mk (State.mk j0.1 j0.2.1) j0.2.2.1 j0.2.2.2.1 j0.2.2.2.2.1 j0.2.2.2.2.2))
noncomputable def Q5 (rec_impl_running_run : running → Ptree → Option (Bool × running)) (p1 : Ptree) (j0 : (List Int) × (List Int) × (List Int) × Int × Int × Int) (j1 : Int × Int) (j2 : Unit) : Option (Bool × running) :=
  (XE p1).bind fun (o73 : tree) =>
  bif ((decide (o73.Stmt.Kind = (2 : Int))) || (decide (o73.Stmt.Kind = (4 : Int)))) then
    (m_impl_isInt j1.1).bind fun (r89 : Bool) =>
    bif (!r89) then
      (m_impl_running_stop (running.mk (State.mk j0.1 j0.2.1) j0.2.2.1 j0.2.2.2.1 j0.2.2.2.2.1 j0.2.2.2.2.2) (4 : Int)).bind fun (r93 : Bool × running) =>
      some (r93.1, r93.2)
    else
      Q6 rec_impl_running_run p1 j0 j1 ()
  else
    Q6 rec_impl_running_run p1 j0 j1 ()
noncomputable def Q1 (rec_impl_running_run : running → Ptree → Option (Bool × running)) (p1 : Ptree) (j0 : (List Int) × (List Int) × (List Int) × Int × Int × Int) (j1 : Int × Int) : Option (Bool × running) :=
  (XE p1).bind fun (o52 : tree) =>
  bif ((decide (o52.Stmt.Kind = (3 : Int))) || (decide (o52.Stmt.Kind = (4 : Int)))) then
    (m_impl_within j1.2 (0 : Int) (7 : Int)).bind fun (r68 : Bool) =>
    bif (!r68) then
      (m_impl_running_stop (running.mk (State.mk j0.1 j0.2.1) j0.2.2.1 j0.2.2.2.1 j0.2.2.2.2.1 j0.2.2.2.2.2) (2 : Int)).bind fun (r72 : Bool × running) =>
      some (r72.1, r72.2)
    else
      Q5 rec_impl_running_run p1 j0 j1 ()
  else
    Q5 rec_impl_running_run p1 j0 j1 ()
noncomputable def Xe (rec_impl_running_run : running → Ptree → Option (Bool × running)) (p1 : Ptree) (j0 : (List Int) × (List Int) × (List Int) × Int × Int × Int) : Option (Bool × running) :=
  (XE p1).bind fun (o32 : tree) =>
  bif (!decide (o32.Stmt.Kind = (1 : Int))) then
    (m_impl_Term_eval o32.Stmt.Sum j0.1).bind fun (r44 : Int) =>
    (m_impl_Term_eval o32.Stmt.Index j0.1).bind fun (r51 : Int) =>
    Q1 rec_impl_running_run p1 j0 (r44, r51)
  else
    Q1 rec_impl_running_run p1 j0 ((0 : Int), (0 : Int))
noncomputable def m_impl_running_run_F (rec_impl_running_run : running → Ptree → Option (Bool × running)) (p0 : running) (p1 : Ptree) : Option (Bool × running) :=
  (XE p1).bind fun (o13 : tree) =>
  bif ((!decide (o13.Stmt.Kind = (1 : Int))) && (!decide (o13.Stmt.Kind = (8 : Int)))) then
    (m_impl_running_step p0).bind fun (r29 : Bool × running) =>
    bif (!r29.1) then
      some (false, r29.2)
    else
      Xe rec_impl_running_run p1 (r29.2.state.Vars, r29.2.state.Cells, r29.2.events, r29.2.fuel, r29.2.steps, r29.2.out)
  else
    Xe rec_impl_running_run p1 (p0.state.Vars, p0.state.Cells, p0.events, p0.fuel, p0.steps, p0.out)
noncomputable def Xx : Nat → running → Ptree → Option (Bool × running)
  | 0, _, _ => none
  | n + 1, p0, p1 => m_impl_running_run_F (Xx n) p0 p1
noncomputable def m_impl_started (p0 : Program) (p1 : State) (p2 : Int) : Option (running × Bool) :=
  (m_impl_ValidProgram p0).bind fun (r12 : Bool) =>
  bif (!r12) then
    some (default, false)
  else
    (m_impl_ValidState p1).bind fun (r16 : Bool) =>
    bif (!r16) then
      some (default, false)
    else
      (m_impl_within p2 (0 : Int) (2000 : Int)).bind fun (r21 : Bool) =>
      bif (!r21) then
        some (default, false)
      else
        (m_impl_treeOf p0.Body).bind fun (r27 : Ptree × Bool) =>
        (m_impl_State_own p1).bind fun (r31 : State) =>
        (Xx 1000 (running.mk r31 ([] : List Int) p2 (0 : Int) (0 : Int)) r27.1).bind fun (r37 : Bool × running) =>
        some (r37.2, true)
noncomputable def m_impl_RunProgram (p0 : Program) (p1 : State) (p2 : Int) : Option (State × (List Int) × Int × Bool) :=
  (m_impl_started p0 p1 p2).bind fun (r16 : running × Bool) =>
  bif r16.2 then
    some (r16.1.state, r16.1.events, r16.1.out, true)
  else
    some ((State.mk ([] : List Int) ([] : List Int)), ([] : List Int), (0 : Int), false)
noncomputable def m_impl_StepsOf (p0 : Program) (p1 : State) (p2 : Int) : Option (Int × Bool) :=
  (m_impl_started p0 p1 p2).bind fun (r14 : running × Bool) =>
  bif r14.2 then
    some (r14.1.steps, true)
  else
    some ((0 : Int), false)
noncomputable def m_laws_r8Same_L0 (p0 : List Int) (p1 : List Int) (s0 : Int) : Option (Ctl Int (Unit ⊕ Bool)) :=
  bif (decide (s0 < (p0.length : Int))) then
    (getI p0 s0).bind fun (x19 : Int) =>
    (getI p1 s0).bind fun (x23 : Int) =>
    bif (!decide (x19 = x23)) then
      some (.out (.inr false))
    else
      some (.next (w64 (s0 + (1 : Int))))
  else
    some (.out (.inl ()))
noncomputable def m_laws_r8Same_A0 (u0 : Unit ⊕ Bool) : Option Bool :=
  match u0 with
  | .inl u0 =>
    some true
  | .inr u0 =>
    some u0
noncomputable def m_laws_r8Same (p0 : List Int) (p1 : List Int) : Option Bool :=
  bif (!decide ((p0.length : Int) = (p1.length : Int))) then
    some false
  else
    (iter (m_laws_r8Same_L0 p0 p1) (0 : Int)).bind fun (u0 : Unit ⊕ Bool) =>
    m_laws_r8Same_A0 u0
noncomputable def m_laws_r8States (p0 : State) (p1 : State) : Option Bool :=
  (m_laws_r8Same p0.Vars p1.Vars).bind fun (r9 : Bool) =>
  bif r9 then
    (m_laws_r8Same p0.Cells p1.Cells).bind fun (r15 : Bool) =>
    some r15
  else
    some false
noncomputable def m_impl_Term_own (p0 : Term) : Option Term :=
  (m_impl_copyInts p0.Coeffs).bind fun (r7 : List Int) =>
  some (Term.mk p0.Const r7)
noncomputable def m_impl_ownTerms_L0 (n0 : Nat) (x0 : Term) (s0 : List Term) : Option (Ctl (List Term) ((List Term))) :=
  (m_impl_Term_own x0).bind fun (r14 : Term) =>
  (capI (s0.length + [r14].length) 32).bind fun (q16 : Unit) =>
  some (.next (s0 ++ [r14]))
noncomputable def m_impl_ownTerms_A0 (u0 : (List Term)) : Option (List Term) :=
  some u0
noncomputable def m_impl_ownTerms (p0 : List Term) : Option (List Term) :=
  (forL (m_impl_ownTerms_L0) (fun s0 => s0) 0 p0 ([] : List Term)).bind fun (u0 : (List Term)) =>
  m_impl_ownTerms_A0 u0
noncomputable def m_impl_ownStmt (p0 : Stmt) : Option Stmt :=
  (m_impl_Term_own p0.Sum).bind fun (r5 : Term) =>
  (m_impl_Term_own p0.Index).bind fun (r8 : Term) =>
  (m_impl_ownTerms p0.Facts).bind fun (r11 : List Term) =>
  some (Stmt.mk p0.Kind p0.Var p0.Event r5 r8 r11)
noncomputable def m_spec_l03End_L0 (p0 : List Stmt) (s0 : Int × Int) : Option (Ctl (Int × Int) (Int ⊕ Int)) :=
  bif (decide ((0 : Int) < s0.2)) then
    bif (decide (s0.1 = (p0.length : Int))) then
      some (.out (.inr (-1 : Int)))
    else
      (getI p0 s0.1).bind fun (x15 : Stmt) =>
      (m_spec_l03Below x15.Kind).bind fun (r18 : Int) =>
      some (.next ((w64 (s0.1 + (1 : Int))), (w64 (s0.2 + (w64 (r18 - (1 : Int)))))))
  else
    some (.out (.inl s0.1))
noncomputable def m_spec_l03End_A0 (u0 : Int ⊕ Int) : Option Int :=
  match u0 with
  | .inl u0 =>
    some u0
  | .inr u0 =>
    some u0
noncomputable def m_spec_l03End (p0 : List Stmt) (p1 : Int) : Option Int :=
  (iter (m_spec_l03End_L0 p0) (p1, (1 : Int))).bind fun (u0 : Int ⊕ Int) =>
  m_spec_l03End_A0 u0
noncomputable def m_spec_l02Own (p0 : Term) : Option Term :=
  (m_spec_l00Own p0.Coeffs).bind fun (r11 : List Int) =>
  some (Term.mk p0.Const r11)
noncomputable def m_spec_l02OwnAll_L0 (p0 : List Term) (s0 : (List Term) × Int) : Option (Ctl ((List Term) × Int) ((List Term))) :=
  bif (decide (s0.2 < (p0.length : Int))) then
    (getI p0 s0.2).bind fun (x15 : Term) =>
    (m_spec_l02Own x15).bind fun (r16 : Term) =>
    (capI (s0.1.length + [r16].length) 32).bind fun (q18 : Unit) =>
    some (.next ((s0.1 ++ [r16]), (w64 (s0.2 + (1 : Int)))))
  else
    some (.out s0.1)
noncomputable def m_spec_l02OwnAll_A0 (u0 : (List Term)) : Option (List Term) :=
  some u0
noncomputable def m_spec_l02OwnAll (p0 : List Term) : Option (List Term) :=
  (iter (m_spec_l02OwnAll_L0 p0) (([] : List Term), (0 : Int))).bind fun (u0 : (List Term)) =>
  m_spec_l02OwnAll_A0 u0
noncomputable def m_spec_l03OwnStmt (p0 : Stmt) : Option Stmt :=
  (m_spec_l02Own p0.Sum).bind fun (r18 : Term) =>
  (m_spec_l02Own p0.Index).bind fun (r22 : Term) =>
  (m_spec_l02OwnAll p0.Facts).bind fun (r27 : List Term) =>
  some (Stmt.mk p0.Kind p0.Var p0.Event r18 r22 r27)
noncomputable def m_spec_l03Normal_F_L0 (s0 : (List Stmt) × (List Stmt)) : Option (Ctl ((List Stmt) × (List Stmt)) (((List Stmt) × (List Stmt)))) :=
  bif (decide ((0 : Int) < (s0.1.length : Int))) then
    (getI s0.1 (0 : Int)).bind fun (x54 : Stmt) =>
    bif (decide (x54.Kind = (1 : Int))) then
      (m_spec_l03End s0.1 (1 : Int)).bind fun (r60 : Int) =>
      (sliceI s0.1 (0 : Int) r60).bind fun (y64 : List Stmt) =>
      (capI (s0.2.length + y64.length) 112).bind fun (q65 : Unit) =>
      (sliceI s0.1 r60 (s0.1.length : Int)).bind fun (y68 : List Stmt) =>
      some (.next (y68, (s0.2 ++ y64)))
    else
      some (.out (s0.1, s0.2))
  else
    some (.out (s0.1, s0.2))
noncomputable def m_spec_l03Normal_F_A0 (r37 : List Stmt) (u0 : ((List Stmt) × (List Stmt))) : Option (List Stmt) :=
  (capI (u0.2.length + ([(Stmt.mk (1 : Int) (0 : Int) (0 : Int) (Term.mk (0 : Int) ([] : List Int)) (Term.mk (0 : Int) ([] : List Int)) ([] : List Term))]).length) 112).bind fun (q72 : Unit) =>
  (capI ((u0.2 ++ [(Stmt.mk (1 : Int) (0 : Int) (0 : Int) (Term.mk (0 : Int) ([] : List Int)) (Term.mk (0 : Int) ([] : List Int)) ([] : List Term))]).length + u0.1.length) 112).bind fun (q75 : Unit) =>
  (capI (((u0.2 ++ [(Stmt.mk (1 : Int) (0 : Int) (0 : Int) (Term.mk (0 : Int) ([] : List Int)) (Term.mk (0 : Int) ([] : List Int)) ([] : List Term))]) ++ u0.1).length + r37.length) 112).bind fun (q78 : Unit) =>
  some (((u0.2 ++ [(Stmt.mk (1 : Int) (0 : Int) (0 : Int) (Term.mk (0 : Int) ([] : List Int)) (Term.mk (0 : Int) ([] : List Int)) ([] : List Term))]) ++ u0.1) ++ r37)
noncomputable def m_spec_l03Normal_F (rec_spec_l03Normal : (List Stmt) → Option (List Stmt)) (p0 : List Stmt) : Option (List Stmt) :=
  (getI p0 (0 : Int)).bind fun (x11 : Stmt) =>
  (m_spec_l03OwnStmt x11).bind fun (r12 : Stmt) =>
  (m_spec_l03Below r12.Kind).bind fun (r15 : Int) =>
  bif (decide (r15 = (0 : Int))) then
    some [r12]
  else
    (m_spec_l03End p0 (1 : Int)).bind fun (r20 : Int) =>
    bif (decide (r12.Kind = (8 : Int))) then
      (sliceI p0 (1 : Int) (p0.length : Int)).bind fun (y27 : List Stmt) =>
      (rec_spec_l03Normal y27).bind fun (r28 : List Stmt) =>
      (capI ([r12].length + r28.length) 112).bind fun (q29 : Unit) =>
      some ([r12] ++ r28)
    else
      (sliceI p0 (1 : Int) r20).bind fun (y32 : List Stmt) =>
      (rec_spec_l03Normal y32).bind fun (r33 : List Stmt) =>
      (sliceI p0 r20 (p0.length : Int)).bind fun (y36 : List Stmt) =>
      (rec_spec_l03Normal y36).bind fun (r37 : List Stmt) =>
      bif (decide (r12.Kind = (7 : Int))) then
        (capI ([r12].length + r33.length) 112).bind fun (q44 : Unit) =>
        (capI (([r12] ++ r33).length + r37.length) 112).bind fun (q47 : Unit) =>
        some (([r12] ++ r33) ++ r37)
      else
        (iter (m_spec_l03Normal_F_L0) (r33, ([] : List Stmt))).bind fun (u0 : ((List Stmt) × (List Stmt))) =>
        m_spec_l03Normal_F_A0 r37 u0
noncomputable def m_spec_l03Normal : Nat → (List Stmt) → Option (List Stmt)
  | 0, _ => none
  | n + 1, p0 => m_spec_l03Normal_F (m_spec_l03Normal n) p0
noncomputable def m_impl_tree_parts_F (rec_impl_tree_parts : Ptree → Option (List Ptree)) (p0 : Ptree) : Option (List Ptree) :=
  (XE p0).bind fun (o3 : tree) =>
  bif (!decide (o3.Stmt.Kind = (1 : Int))) then
    some [p0]
  else
    (getI o3.kids (0 : Int)).bind fun (x15 : Ptree) =>
    (rec_impl_tree_parts x15).bind fun (r17 : List Ptree) =>
    (getI o3.kids (1 : Int)).bind fun (x22 : Ptree) =>
    (rec_impl_tree_parts x22).bind fun (r24 : List Ptree) =>
    (capI (r17.length + r24.length) 8).bind fun (q25 : Unit) =>
    some (r17 ++ r24)
noncomputable def m_impl_tree_parts : Nat → Ptree → Option (List Ptree)
  | 0, _ => none
  | n + 1, p0 => m_impl_tree_parts_F (m_impl_tree_parts n) p0
noncomputable def m_impl_joined_F (rec_impl_joined : (List Ptree) → Option Ptree) (p0 : List Ptree) : Option Ptree :=
  bif (decide ((p0.length : Int) = (1 : Int))) then
    (getI p0 (0 : Int)).bind fun (x7 : Ptree) =>
    some x7
  else
    (getI p0 (0 : Int)).bind fun (x11 : Ptree) =>
    (sliceI p0 (1 : Int) (p0.length : Int)).bind fun (y14 : List Ptree) =>
    (rec_impl_joined y14).bind fun (r15 : Ptree) =>
    some (re_tree (tree.mk (Stmt.mk (1 : Int) (0 : Int) (0 : Int) (Term.mk (0 : Int) ([] : List Int)) (Term.mk (0 : Int) ([] : List Int)) ([] : List Term)) (0 : Int) [x11, r15]))
noncomputable def m_impl_joined : Nat → (List Ptree) → Option Ptree
  | 0, _ => none
  | n + 1, p0 => m_impl_joined_F (m_impl_joined n) p0
noncomputable def XB (rec_impl_tree_normal : Ptree → Option Ptree) (n1 : Nat) (x1 : Ptree) (s1 : List Ptree) : Option (Ctl (List Ptree) ((List Ptree))) :=
  (rec_impl_tree_normal x1).bind fun (r37 : Ptree) =>
  (capI (s1.length + [r37].length) 8).bind fun (q39 : Unit) =>
  some (.next (s1 ++ [r37]))
noncomputable def m_impl_tree_normal_F_A1 (s0 : List Ptree) (o16 : tree) (u1 : (List Ptree)) : Option (Ctl (List Ptree) ((List Ptree))) :=
  (capI (s0.length + [(re_tree (tree.mk o16.Stmt (0 : Int) u1))].length) 8).bind fun (q46 : Unit) =>
  some (.next (s0 ++ [(re_tree (tree.mk o16.Stmt (0 : Int) u1))]))
noncomputable def m_impl_tree_normal_F_L0 (rec_impl_tree_normal : Ptree → Option Ptree) (n0 : Nat) (x0 : Ptree) (s0 : List Ptree) : Option (Ctl (List Ptree) ((List Ptree))) :=
  (XE x0).bind fun (o16 : tree) =>
  (forL (XB rec_impl_tree_normal) (fun s1 => s1) 0 o16.kids ([] : List Ptree)).bind fun (u1 : (List Ptree)) =>
  m_impl_tree_normal_F_A1 s0 o16 u1
noncomputable def m_impl_tree_normal_F_A0 (u0 : (List Ptree)) : Option Ptree :=
  (m_impl_joined 1000 u0).bind fun (r49 : Ptree) =>
  some r49
noncomputable def m_impl_tree_normal_F (rec_impl_tree_normal : Ptree → Option Ptree) (p0 : Ptree) : Option Ptree :=
  (m_impl_tree_parts 1000 p0).bind fun (r10 : List Ptree) =>
  (forL (m_impl_tree_normal_F_L0 rec_impl_tree_normal) (fun s0 => s0) 0 r10 ([] : List Ptree)).bind fun (u0 : (List Ptree)) =>
  m_impl_tree_normal_F_A0 u0
noncomputable def m_impl_tree_normal : Nat → Ptree → Option Ptree
  | 0, _ => none
  | n + 1, p0 => m_impl_tree_normal_F (m_impl_tree_normal n) p0
noncomputable def m_impl_tree_body_F_L0 (rec_impl_tree_body : Ptree → Option (List Stmt)) (n0 : Nat) (x0 : Ptree) (s0 : List Stmt) : Option (Ctl (List Stmt) ((List Stmt))) :=
  (rec_impl_tree_body x0).bind fun (r23 : List Stmt) =>
  (capI (s0.length + r23.length) 112).bind fun (q24 : Unit) =>
  some (.next (s0 ++ r23))
noncomputable def m_impl_tree_body_F_A0 (u0 : (List Stmt)) : Option (List Stmt) :=
  some u0
noncomputable def m_impl_tree_body_F (rec_impl_tree_body : Ptree → Option (List Stmt)) (p0 : Ptree) : Option (List Stmt) :=
  (XE p0).bind fun (o6 : tree) =>
  (m_impl_ownStmt o6.Stmt).bind fun (r10 : Stmt) =>
  (forL (m_impl_tree_body_F_L0 rec_impl_tree_body) (fun s0 => s0) 0 o6.kids [r10]).bind fun (u0 : (List Stmt)) =>
  m_impl_tree_body_F_A0 u0
noncomputable def m_impl_tree_body : Nat → Ptree → Option (List Stmt)
  | 0, _ => none
  | n + 1, p0 => m_impl_tree_body_F (m_impl_tree_body n) p0
noncomputable def m_impl_NormalBody (p0 : List Stmt) : Option ((List Stmt) × Bool) :=
  (m_impl_treeOf p0).bind fun (r8 : Ptree × Bool) =>
  bif (!r8.2) then
    some (([] : List Stmt), false)
  else
    (m_impl_tree_normal 1000 r8.1).bind fun (r14 : Ptree) =>
    (m_impl_tree_body 1000 r14).bind fun (r15 : List Stmt) =>
    some (r15, true)
noncomputable def m_slices_Equal_int64_int64_L0 (p1 : List Int) (n0 : Nat) (x0 : Int) (s0 : Unit) : Option (Ctl Unit (Unit ⊕ Bool)) :=
  (getI p1 (n0 : Int)).bind fun (x22 : Int) =>
  bif (!decide (x0 = x22)) then
    some (.out (.inr false))
  else
    some (.next ())
noncomputable def m_slices_Equal_int64_int64_A0 (u0 : Unit ⊕ Bool) : Option Bool :=
  match u0 with
  | .inl u0 =>
    some true
  | .inr u0 =>
    some u0
noncomputable def m_slices_Equal_int64_int64 (p0 : List Int) (p1 : List Int) : Option Bool :=
  bif (!decide ((p0.length : Int) = (p1.length : Int))) then
    some false
  else
    (forL (m_slices_Equal_int64_int64_L0 p1) (fun s0 => (.inl ())) 0 p0 ()).bind fun (u0 : Unit ⊕ Bool) =>
    m_slices_Equal_int64_int64_A0 u0
noncomputable def m_impl_Term_equal (p0 : Term) (p1 : Term) : Option Bool :=
  bif (decide (p0.Const = p1.Const)) then
    (m_slices_Equal_int64_int64 p0.Coeffs p1.Coeffs).bind fun (r15 : Bool) =>
    some r15
  else
    some false
noncomputable def QQ (p1 : List Term) (n0 : Nat) (x0 : Term) (s0 : Unit) : Option (Ctl Unit (Unit ⊕ Bool)) :=
  (getI p1 (n0 : Int)).bind fun (x24 : Term) =>
  (m_impl_Term_equal x0 x24).bind fun (r29 : Bool) =>
  bif (!r29) then
    some (.out (.inr false))
  else
    some (.next ())
noncomputable def QR (u0 : Unit ⊕ Bool) : Option Bool :=
  match u0 with
  | .inl u0 =>
    some true
  | .inr u0 =>
    some u0
noncomputable def QT (p0 : List Term) (p1 : List Term) : Option Bool :=
  bif (!decide ((p0.length : Int) = (p1.length : Int))) then
    some false
  else
    (forL (QQ p1) (fun s0 => (.inl ())) 0 p0 ()).bind fun (u0 : Unit ⊕ Bool) =>
    QR u0
noncomputable def m_impl_sameTerms (p0 : List Term) (p1 : List Term) : Option Bool :=
  (QT p0 p1).bind fun (r7 : Bool) =>
  some r7
noncomputable def QJ (rec_impl_sameTree : Ptree → Ptree → Option Bool) (p1 : List Ptree) (n0 : Nat) (x0 : Ptree) (s0 : Unit) : Option (Ctl Unit (Unit ⊕ Bool)) :=
  (getI p1 (n0 : Int)).bind fun (x24 : Ptree) =>
  (rec_impl_sameTree x0 x24).bind fun (r29 : Bool) =>
  bif (!r29) then
    some (.out (.inr false))
  else
    some (.next ())
noncomputable def QK (u0 : Unit ⊕ Bool) : Option Bool :=
  match u0 with
  | .inl u0 =>
    some true
  | .inr u0 =>
    some u0
noncomputable def QE (rec_impl_sameTree : Ptree → Ptree → Option Bool) (p0 : List Ptree) (p1 : List Ptree) : Option Bool :=
  bif (!decide ((p0.length : Int) = (p1.length : Int))) then
    some false
  else
    (forL (QJ rec_impl_sameTree p1) (fun s0 => (.inl ())) 0 p0 ()).bind fun (u0 : Unit ⊕ Bool) =>
    QK u0
noncomputable def m_impl_sameTree_F_J0 (rec_impl_sameTree : Ptree → Ptree → Option Bool) (p0 : Ptree) (p1 : Ptree) (j0 : Int × Int × Int × Int × (List Int) × Int × (List Int) × (List Term) × Int × Int × Int × Int × (List Int) × Int × (List Int) × (List Term)) : Option Bool :=
  bif (decide (j0.1 = j0.2.2.2.2.2.2.2.2.1)) then
    bif (decide (j0.2.1 = j0.2.2.2.2.2.2.2.2.2.1)) then
      bif (decide (j0.2.2.1 = j0.2.2.2.2.2.2.2.2.2.2.1)) then
        (m_impl_Term_equal (Term.mk j0.2.2.2.1 j0.2.2.2.2.1) (Term.mk j0.2.2.2.2.2.2.2.2.2.2.2.1 j0.2.2.2.2.2.2.2.2.2.2.2.2.1)).bind fun (r39 : Bool) =>
        bif r39 then
          (m_impl_Term_equal (Term.mk j0.2.2.2.2.2.1 j0.2.2.2.2.2.2.1) (Term.mk j0.2.2.2.2.2.2.2.2.2.2.2.2.2.1 j0.2.2.2.2.2.2.2.2.2.2.2.2.2.2.1)).bind fun (r46 : Bool) =>
          bif r46 then
            (m_impl_sameTerms j0.2.2.2.2.2.2.2.1 j0.2.2.2.2.2.2.2.2.2.2.2.2.2.2.2).bind fun (r53 : Bool) =>
            bif r53 then
              (XE p0).bind fun (o56 : tree) =>
              (XE p1).bind fun (o60 : tree) =>
              (QE rec_impl_sameTree o56.kids o60.kids).bind fun (r64 : Bool) =>
              some r64
            else
              some false
          else
            some false
        else
          some false
      else
        some false
    else
      some false
  else
    some false
noncomputable def m_impl_sameTree_F (rec_impl_sameTree : Ptree → Ptree → Option Bool) (p0 : Ptree) (p1 : Ptree) : Option Bool :=
  (XE p0).bind fun (o7 : tree) =>
  (XE p1).bind fun (o11 : tree) =>
  m_impl_sameTree_F_J0 rec_impl_sameTree p0 p1 (o7.Stmt.Kind, o7.Stmt.Var, o7.Stmt.Event, o7.Stmt.Sum.Const, o7.Stmt.Sum.Coeffs, o7.Stmt.Index.Const, o7.Stmt.Index.Coeffs, o7.Stmt.Facts, o11.Stmt.Kind, o11.Stmt.Var, o11.Stmt.Event, o11.Stmt.Sum.Const, o11.Stmt.Sum.Coeffs, o11.Stmt.Index.Const, o11.Stmt.Index.Coeffs, o11.Stmt.Facts)
noncomputable def m_impl_sameTree : Nat → Ptree → Ptree → Option Bool
  | 0, _, _ => none
  | n + 1, p0, p1 => m_impl_sameTree_F (m_impl_sameTree n) p0 p1
noncomputable def m_impl_absolute (p0 : Int) : Option Int :=
  some (max p0 (w64 (0 - p0)))
noncomputable def m_impl_gcd_L1 (s1 : Int × Int) : Option (Ctl (Int × Int) Int) :=
  bif (!decide (s1.2 = (0 : Int))) then
    (remI s1.1 s1.2).bind fun (q22 : Int) =>
    some (.next (s1.2, q22))
  else
    some (.out s1.1)
noncomputable def m_impl_gcd_A1 (u1 : Int) : Option (Ctl Int Int) :=
  some (.next u1)
noncomputable def m_impl_gcd_L0 (n0 : Nat) (x0 : Int) (s0 : Int) : Option (Ctl Int Int) :=
  (m_impl_absolute x0).bind fun (r16 : Int) =>
  (iter (m_impl_gcd_L1) (s0, r16)).bind fun (u1 : Int) =>
  m_impl_gcd_A1 u1
noncomputable def m_impl_gcd_A0 (u0 : Int) : Option Int :=
  some u0
noncomputable def m_impl_gcd (p0 : List Int) : Option Int :=
  (forL (m_impl_gcd_L0) (fun s0 => s0) 0 p0 (0 : Int)).bind fun (u0 : Int) =>
  m_impl_gcd_A0 u0
noncomputable def m_impl_Term_isVariable (p0 : Term) (p1 : Int) : Option Bool :=
  bif ((!decide (p0.Const = (0 : Int))) || (!decide ((p0.Coeffs.length : Int) = (w64 (p1 + (1 : Int)))))) then
    some false
  else
    (getI p0.Coeffs p1).bind fun (x20 : Int) =>
    bif (!decide (x20 = (1 : Int))) then
      some false
    else
      (sliceI p0.Coeffs (0 : Int) p1).bind fun (y27 : List Int) =>
      (m_impl_gcd y27).bind fun (r28 : Int) =>
      some (decide (r28 = (0 : Int)))
noncomputable def Xp (rec_impl_tree_simplified : Ptree → Option Ptree) (n0 : Nat) (x0 : Ptree) (s0 : List Ptree) : Option (Ctl (List Ptree) ((List Ptree))) :=
  (rec_impl_tree_simplified x0).bind fun (r29 : Ptree) =>
  (capI (s0.length + [r29].length) 8).bind fun (q31 : Unit) =>
  some (.next (s0 ++ [r29]))
noncomputable def m_impl_tree_simplified_F_J0 (o8 : tree) (u0 : List Ptree) (j0 : Bool) : Option Ptree :=
  bif j0 then
    (getI u0 (0 : Int)).bind fun (x125 : Ptree) =>
    some x125
  else
    some (re_tree (tree.mk o8.Stmt (0 : Int) u0))
noncomputable def m_impl_tree_simplified_F_A0 (o8 : tree) (u0 : (List Ptree)) : Option Ptree :=
  bif (decide (o8.Stmt.Kind = (1 : Int))) then
    (getI u0 (0 : Int)).bind fun (x57 : Ptree) =>
    (XE x57).bind fun (o58 : tree) =>
    bif (decide (o58.Stmt.Kind = (0 : Int))) then
      (getI u0 (1 : Int)).bind fun (x68 : Ptree) =>
      some x68
    else
      (getI u0 (1 : Int)).bind fun (x74 : Ptree) =>
      (XE x74).bind fun (o75 : tree) =>
      bif (decide (o75.Stmt.Kind = (0 : Int))) then
        some x57
      else
        some (re_tree (tree.mk o8.Stmt (0 : Int) u0))
  else
    bif (decide (o8.Stmt.Kind = (7 : Int))) then
      bif ((decide ((o8.Stmt.Sum.Coeffs.length : Int) = (0 : Int))) && (decide (o8.Stmt.Sum.Const < (0 : Int)))) then
        (getI u0 (1 : Int)).bind fun (x103 : Ptree) =>
        some x103
      else
        bif (decide ((o8.Stmt.Sum.Coeffs.length : Int) = (0 : Int))) then
          m_impl_tree_simplified_F_J0 o8 u0 true
        else
          (getI u0 (0 : Int)).bind fun (x111 : Ptree) =>
          (getI u0 (1 : Int)).bind fun (x117 : Ptree) =>
          (m_impl_sameTree 1000 x111 x117).bind fun (r119 : Bool) =>
          m_impl_tree_simplified_F_J0 o8 u0 r119
    else
      bif (decide (o8.Stmt.Kind = (8 : Int))) then
        bif ((decide ((o8.Stmt.Sum.Coeffs.length : Int) = (0 : Int))) && (decide (o8.Stmt.Sum.Const < (0 : Int)))) then
          some (re_tree (tree.mk (Stmt.mk (0 : Int) (0 : Int) (0 : Int) (Term.mk (0 : Int) ([] : List Int)) (Term.mk (0 : Int) ([] : List Int)) ([] : List Term)) (0 : Int) ([] : List Ptree)))
        else
          some (re_tree (tree.mk o8.Stmt (0 : Int) u0))
      else
        bif (decide (o8.Stmt.Kind = (6 : Int))) then
          bif ((decide ((o8.Stmt.Sum.Coeffs.length : Int) = (0 : Int))) && (decide ((0 : Int) ≤ o8.Stmt.Sum.Const))) then
            some (re_tree (tree.mk (Stmt.mk (0 : Int) (0 : Int) (0 : Int) (Term.mk (0 : Int) ([] : List Int)) (Term.mk (0 : Int) ([] : List Int)) ([] : List Term)) (0 : Int) ([] : List Ptree)))
          else
            some (re_tree (tree.mk o8.Stmt (0 : Int) u0))
        else
          bif (decide (o8.Stmt.Kind = (2 : Int))) then
            (m_impl_Term_isVariable o8.Stmt.Sum o8.Stmt.Var).bind fun (r165 : Bool) =>
            bif r165 then
              some (re_tree (tree.mk (Stmt.mk (0 : Int) (0 : Int) (0 : Int) (Term.mk (0 : Int) ([] : List Int)) (Term.mk (0 : Int) ([] : List Int)) ([] : List Term)) (0 : Int) ([] : List Ptree)))
            else
              some (re_tree (tree.mk o8.Stmt (0 : Int) u0))
          else
            some (re_tree (tree.mk o8.Stmt (0 : Int) u0))
noncomputable def m_impl_tree_simplified_F (rec_impl_tree_simplified : Ptree → Option Ptree) (p0 : Ptree) : Option Ptree :=
  (XE p0).bind fun (o8 : tree) =>
  (forL (Xp rec_impl_tree_simplified) (fun s0 => s0) 0 o8.kids ([] : List Ptree)).bind fun (u0 : (List Ptree)) =>
  m_impl_tree_simplified_F_A0 o8 u0
noncomputable def XH : Nat → Ptree → Option Ptree
  | 0, _ => none
  | n + 1, p0 => m_impl_tree_simplified_F (XH n) p0
noncomputable def m_impl_SimplifyBody (p0 : List Stmt) : Option ((List Stmt) × Bool) :=
  (m_impl_treeOf p0).bind fun (r8 : Ptree × Bool) =>
  bif (!r8.2) then
    some (([] : List Stmt), false)
  else
    (XH 1000 r8.1).bind fun (r14 : Ptree) =>
    (m_impl_tree_body 1000 r14).bind fun (r15 : List Stmt) =>
    some (r15, true)
noncomputable def m_laws_r8Term (p0 : Term) (p1 : Term) : Option Bool :=
  bif (decide (p0.Const = p1.Const)) then
    (m_laws_r8Same p0.Coeffs p1.Coeffs).bind fun (r15 : Bool) =>
    some r15
  else
    some false
noncomputable def m_laws_r8Terms_L0 (p0 : List Term) (p1 : List Term) (s0 : Int) : Option (Ctl Int (Unit ⊕ Bool)) :=
  bif (decide (s0 < (p0.length : Int))) then
    (getI p0 s0).bind fun (x19 : Term) =>
    (getI p1 s0).bind fun (x23 : Term) =>
    (m_laws_r8Term x19 x23).bind fun (r25 : Bool) =>
    bif (!r25) then
      some (.out (.inr false))
    else
      some (.next (w64 (s0 + (1 : Int))))
  else
    some (.out (.inl ()))
noncomputable def m_laws_r8Terms_A0 (u0 : Unit ⊕ Bool) : Option Bool :=
  match u0 with
  | .inl u0 =>
    some true
  | .inr u0 =>
    some u0
noncomputable def m_laws_r8Terms (p0 : List Term) (p1 : List Term) : Option Bool :=
  bif (!decide ((p0.length : Int) = (p1.length : Int))) then
    some false
  else
    (iter (m_laws_r8Terms_L0 p0 p1) (0 : Int)).bind fun (u0 : Unit ⊕ Bool) =>
    m_laws_r8Terms_A0 u0
noncomputable def m_laws_r8Bodies_L0 (p0 : List Stmt) (p1 : List Stmt) (s0 : Int) : Option (Ctl Int (Unit ⊕ Bool)) :=
  bif (decide (s0 < (p0.length : Int))) then
    (getI p0 s0).bind fun (x21 : Stmt) =>
    (getI p1 s0).bind fun (x25 : Stmt) =>
    bif (((!decide (x21.Kind = x25.Kind)) || (!decide (x21.Var = x25.Var))) || (!decide (x21.Event = x25.Event))) then
      some (.out (.inr false))
    else
      (m_laws_r8Term x21.Sum x25.Sum).bind fun (r51 : Bool) =>
      bif (!r51) then
        some (.out (.inr false))
      else
        (m_laws_r8Term x21.Index x25.Index).bind fun (r59 : Bool) =>
        bif (!r59) then
          some (.out (.inr false))
        else
          (m_laws_r8Terms x21.Facts x25.Facts).bind fun (r67 : Bool) =>
          bif (!r67) then
            some (.out (.inr false))
          else
            some (.next (w64 (s0 + (1 : Int))))
  else
    some (.out (.inl ()))
noncomputable def m_laws_r8Bodies_A0 (u0 : Unit ⊕ Bool) : Option Bool :=
  match u0 with
  | .inl u0 =>
    some true
  | .inr u0 =>
    some u0
noncomputable def m_laws_r8Bodies (p0 : List Stmt) (p1 : List Stmt) : Option Bool :=
  bif (!decide ((p0.length : Int) = (p1.length : Int))) then
    some false
  else
    (iter (m_laws_r8Bodies_L0 p0 p1) (0 : Int)).bind fun (u0 : Unit ⊕ Bool) =>
    m_laws_r8Bodies_A0 u0
noncomputable def m_laws_FnSimplified (p0 : List Int) (p1 : List Int) : Option Bool :=
  (m_laws_r8Long p0 p1).bind fun (r37 : Bool) =>
  bif r37 then
    some true
  else
    (m_spec_R8Program p0).bind fun (r39 : Program) =>
    (m_spec_R8State p1).bind fun (r41 : State) =>
    (m_impl_SimplifyBody r39.Body).bind fun (r45 : (List Stmt) × Bool) =>
    (m_impl_NormalBody r39.Body).bind fun (r51 : (List Stmt) × Bool) =>
    (m_impl_SimplifyBody r45.1).bind fun (r56 : (List Stmt) × Bool) =>
    (m_impl_NormalBody r51.1).bind fun (r61 : (List Stmt) × Bool) =>
    bif ((((!r45.2) || (!r51.2)) || (!r56.2)) || (!r61.2)) then
      some false
    else
      (m_impl_IsBody r45.1).bind fun (r80 : Bool) =>
      bif (!r80) then
        some false
      else
        (m_impl_IsBody r51.1).bind fun (r85 : Bool) =>
        bif ((!r85) || (decide ((r39.Body.length : Int) < (r45.1.length : Int)))) then
          some false
        else
          (m_laws_r8Bodies r56.1 r45.1).bind fun (r99 : Bool) =>
          bif (!r99) then
            some false
          else
            (m_laws_r8Bodies r61.1 r51.1).bind fun (r105 : Bool) =>
            bif (!r105) then
              some false
            else
              (m_impl_RunProgram r39 r41 (300 : Int)).bind fun (r111 : State × (List Int) × Int × Bool) =>
              (m_impl_StepsOf r39 r41 (300 : Int)).bind fun (r119 : Int × Bool) =>
              (m_impl_RunProgram (Program.mk r39.Pre r45.1 r39.Post) r41 (300 : Int)).bind fun (r137 : State × (List Int) × Int × Bool) =>
              (m_impl_RunProgram (Program.mk r39.Pre r51.1 r39.Post) r41 (300 : Int)).bind fun (r145 : State × (List Int) × Int × Bool) =>
              (m_impl_StepsOf (Program.mk r39.Pre r45.1 r39.Post) r41 (300 : Int)).bind fun (r153 : Int × Bool) =>
              (m_impl_StepsOf (Program.mk r39.Pre r51.1 r39.Post) r41 (300 : Int)).bind fun (r159 : Int × Bool) =>
              bif (((((((!r111.2.2.2) || (!r119.2)) || (!r137.2.2.2)) || (!r145.2.2.2)) || (!r153.2)) || (!r159.2)) || (!decide (r145.2.2.1 = r111.2.2.1))) then
                some false
              else
                (m_laws_r8Same r145.2.1 r111.2.1).bind fun (r192 : Bool) =>
                bif (!r192) then
                  some false
                else
                  (m_laws_r8States r145.1 r111.1).bind fun (r198 : Bool) =>
                  bif ((!r198) || (!decide (r159.1 = r119.1))) then
                    some false
                  else
                    bif (decide (r111.2.2.1 = (1 : Int))) then
                      some true
                    else
                      bif (decide (r137.2.2.1 = r111.2.2.1)) then
                        (m_laws_r8Same r137.2.1 r111.2.1).bind fun (r215 : Bool) =>
                        bif r215 then
                          (m_laws_r8States r137.1 r111.1).bind fun (r220 : Bool) =>
                          bif r220 then
                            some (decide (r153.1 ≤ r119.1))
                          else
                            some false
                        else
                          some false
                      else
                        some false
noncomputable def m_spec_l03Alone_L0 (p0 : Term) (p1 : Int) (s0 : Int) : Option (Ctl Int (Unit ⊕ Bool)) :=
  bif (decide (s0 < p1)) then
    (getI p0.Coeffs s0).bind fun (x31 : Int) =>
    bif (!decide (x31 = (0 : Int))) then
      some (.out (.inr false))
    else
      some (.next (w64 (s0 + (1 : Int))))
  else
    some (.out (.inl ()))
noncomputable def m_spec_l03Alone_A0 (p0 : Term) (p1 : Int) (u0 : Unit ⊕ Bool) : Option Bool :=
  match u0 with
  | .inl u0 =>
    (getI p0.Coeffs p1).bind fun (x39 : Int) =>
    some (decide (x39 = (1 : Int)))
  | .inr u0 =>
    some u0
noncomputable def m_spec_l03Alone (p0 : Term) (p1 : Int) : Option Bool :=
  bif ((!decide (p0.Const = (0 : Int))) || (!decide ((p0.Coeffs.length : Int) = (w64 (p1 + (1 : Int)))))) then
    some false
  else
    (iter (m_spec_l03Alone_L0 p0 p1) (0 : Int)).bind fun (u0 : Unit ⊕ Bool) =>
    m_spec_l03Alone_A0 p0 p1 u0
noncomputable def m_spec_l00Same_L0 (p0 : List Int) (p1 : List Int) (s0 : Int) : Option (Ctl Int (Unit ⊕ Bool)) :=
  bif (decide (s0 < (p0.length : Int))) then
    (getI p0 s0).bind fun (x19 : Int) =>
    (getI p1 s0).bind fun (x23 : Int) =>
    bif (!decide (x19 = x23)) then
      some (.out (.inr false))
    else
      some (.next (w64 (s0 + (1 : Int))))
  else
    some (.out (.inl ()))
noncomputable def m_spec_l00Same_A0 (u0 : Unit ⊕ Bool) : Option Bool :=
  match u0 with
  | .inl u0 =>
    some true
  | .inr u0 =>
    some u0
noncomputable def m_spec_l00Same (p0 : List Int) (p1 : List Int) : Option Bool :=
  bif (!decide ((p0.length : Int) = (p1.length : Int))) then
    some false
  else
    (iter (m_spec_l00Same_L0 p0 p1) (0 : Int)).bind fun (u0 : Unit ⊕ Bool) =>
    m_spec_l00Same_A0 u0
noncomputable def m_spec_l02Same (p0 : Term) (p1 : Term) : Option Bool :=
  bif (decide (p0.Const = p1.Const)) then
    (m_spec_l00Same p0.Coeffs p1.Coeffs).bind fun (r23 : Bool) =>
    some r23
  else
    some false
noncomputable def m_spec_l03Equal_L1 (x22 : Stmt) (x25 : Stmt) (s1 : Int) : Option (Ctl Int (Unit ⊕ Bool)) :=
  bif (decide (s1 < (x22.Facts.length : Int))) then
    (getI x22.Facts s1).bind fun (x104 : Term) =>
    (getI x25.Facts s1).bind fun (x110 : Term) =>
    (m_spec_l02Same x104 x110).bind fun (r111 : Bool) =>
    bif (!r111) then
      some (.out (.inr false))
    else
      some (.next (w64 (s1 + (1 : Int))))
  else
    some (.out (.inl ()))
noncomputable def m_spec_l03Equal_A1 (s0 : Int) (u1 : Unit ⊕ Bool) : Option (Ctl Int (Unit ⊕ Bool)) :=
  match u1 with
  | .inl u1 =>
    some (.next (w64 (s0 + (1 : Int))))
  | .inr u1 =>
    some (.out (.inr u1))
noncomputable def m_spec_l03Equal_L0 (p0 : List Stmt) (p1 : List Stmt) (s0 : Int) : Option (Ctl Int (Unit ⊕ Bool)) :=
  bif (decide (s0 < (p0.length : Int))) then
    (getI p0 s0).bind fun (x22 : Stmt) =>
    (getI p1 s0).bind fun (x25 : Stmt) =>
    bif (!decide (x22.Kind = x25.Kind)) then
      some (.out (.inr false))
    else
      bif (!decide (x22.Var = x25.Var)) then
        some (.out (.inr false))
      else
        bif (!decide (x22.Event = x25.Event)) then
          some (.out (.inr false))
        else
          (m_spec_l02Same x22.Sum x25.Sum).bind fun (r64 : Bool) =>
          bif (!r64) then
            some (.out (.inr false))
          else
            (m_spec_l02Same x22.Index x25.Index).bind fun (r74 : Bool) =>
            bif (!r74) then
              some (.out (.inr false))
            else
              bif (!decide ((x22.Facts.length : Int) = (x25.Facts.length : Int))) then
                some (.out (.inr false))
              else
                (iter (m_spec_l03Equal_L1 x22 x25) (0 : Int)).bind fun (u1 : Unit ⊕ Bool) =>
                m_spec_l03Equal_A1 s0 u1
  else
    some (.out (.inl ()))
noncomputable def m_spec_l03Equal_A0 (u0 : Unit ⊕ Bool) : Option Bool :=
  match u0 with
  | .inl u0 =>
    some true
  | .inr u0 =>
    some u0
noncomputable def m_spec_l03Equal (p0 : List Stmt) (p1 : List Stmt) : Option Bool :=
  bif (!decide ((p0.length : Int) = (p1.length : Int))) then
    some false
  else
    (iter (m_spec_l03Equal_L0 p0 p1) (0 : Int)).bind fun (u0 : Unit ⊕ Bool) =>
    m_spec_l03Equal_A0 u0
noncomputable def Xf (r15 : Stmt) (r65 : List Stmt) (r69 : List Stmt) (j1 : Bool) (j2 : Bool) : Option (List Stmt) :=
  bif j2 then
    some r69
  else
    bif j1 then
      some r65
    else
      (capI ([r15].length + r65.length) 112).bind fun (q129 : Unit) =>
      (capI (([r15] ++ r65).length + r69.length) 112).bind fun (q132 : Unit) =>
      some (([r15] ++ r65) ++ r69)
noncomputable def QS (r15 : Stmt) (r65 : List Stmt) (r69 : List Stmt) (j1 : Bool) : Option (List Stmt) :=
  bif (decide (r15.Kind = (1 : Int))) then
    (getI r65 (0 : Int)).bind fun (x105 : Stmt) =>
    bif (decide (x105.Kind = (0 : Int))) then
      Xf r15 r65 r69 j1 true
    else
      bif (decide (r15.Kind = (7 : Int))) then
        bif (decide ((r15.Sum.Coeffs.length : Int) = (0 : Int))) then
          Xf r15 r65 r69 j1 (!(decide ((0 : Int) ≤ r15.Sum.Const)))
        else
          Xf r15 r65 r69 j1 false
      else
        Xf r15 r65 r69 j1 false
  else
    bif (decide (r15.Kind = (7 : Int))) then
      bif (decide ((r15.Sum.Coeffs.length : Int) = (0 : Int))) then
        Xf r15 r65 r69 j1 (!(decide ((0 : Int) ≤ r15.Sum.Const)))
      else
        Xf r15 r65 r69 j1 false
    else
      Xf r15 r65 r69 j1 false
noncomputable def m_spec_l03Simple_F_J0 (rec_spec_l03Simple : (List Stmt) → Option (List Stmt)) (p0 : List Stmt) (r15 : Stmt) (j0 : Bool) : Option (List Stmt) :=
  bif j0 then
    (m_spec_l03End p0 (1 : Int)).bind fun (r61 : Int) =>
    (sliceI p0 (1 : Int) r61).bind fun (y64 : List Stmt) =>
    (rec_spec_l03Simple y64).bind fun (r65 : List Stmt) =>
    (sliceI p0 r61 (p0.length : Int)).bind fun (y68 : List Stmt) =>
    (rec_spec_l03Simple y68).bind fun (r69 : List Stmt) =>
    bif (decide (r15.Kind = (1 : Int))) then
      (getI r69 (0 : Int)).bind fun (x75 : Stmt) =>
      bif (decide (x75.Kind = (0 : Int))) then
        QS r15 r65 r69 true
      else
        bif (decide (r15.Kind = (7 : Int))) then
          bif (decide ((r15.Sum.Coeffs.length : Int) = (0 : Int))) then
            bif (decide ((0 : Int) ≤ r15.Sum.Const)) then
              QS r15 r65 r69 true
            else
              bif (!(decide ((r15.Sum.Coeffs.length : Int) = (0 : Int)))) then
                (m_spec_l03Equal r65 r69).bind fun (r95 : Bool) =>
                QS r15 r65 r69 r95
              else
                QS r15 r65 r69 false
          else
            bif (!(decide ((r15.Sum.Coeffs.length : Int) = (0 : Int)))) then
              (m_spec_l03Equal r65 r69).bind fun (r95 : Bool) =>
              QS r15 r65 r69 r95
            else
              QS r15 r65 r69 false
        else
          QS r15 r65 r69 false
    else
      bif (decide (r15.Kind = (7 : Int))) then
        bif (decide ((r15.Sum.Coeffs.length : Int) = (0 : Int))) then
          bif (decide ((0 : Int) ≤ r15.Sum.Const)) then
            QS r15 r65 r69 true
          else
            bif (!(decide ((r15.Sum.Coeffs.length : Int) = (0 : Int)))) then
              (m_spec_l03Equal r65 r69).bind fun (r95 : Bool) =>
              QS r15 r65 r69 r95
            else
              QS r15 r65 r69 false
        else
          bif (!(decide ((r15.Sum.Coeffs.length : Int) = (0 : Int)))) then
            (m_spec_l03Equal r65 r69).bind fun (r95 : Bool) =>
            QS r15 r65 r69 r95
          else
            QS r15 r65 r69 false
      else
        QS r15 r65 r69 false
  else
    some [r15]
noncomputable def m_spec_l03Simple_F (rec_spec_l03Simple : (List Stmt) → Option (List Stmt)) (p0 : List Stmt) : Option (List Stmt) :=
  (getI p0 (0 : Int)).bind fun (x14 : Stmt) =>
  (m_spec_l03OwnStmt x14).bind fun (r15 : Stmt) =>
  bif (decide (r15.Kind = (2 : Int))) then
    (m_spec_l03Alone r15.Sum r15.Var).bind fun (r34 : Bool) =>
    bif r34 then
      some ([(Stmt.mk (0 : Int) (0 : Int) (0 : Int) (Term.mk (0 : Int) ([] : List Int)) (Term.mk (0 : Int) ([] : List Int)) ([] : List Term))])
    else
      some [r15]
  else
    bif (decide (r15.Kind = (6 : Int))) then
      bif ((decide ((r15.Sum.Coeffs.length : Int) = (0 : Int))) && (decide ((0 : Int) ≤ r15.Sum.Const))) then
        some ([(Stmt.mk (0 : Int) (0 : Int) (0 : Int) (Term.mk (0 : Int) ([] : List Int)) (Term.mk (0 : Int) ([] : List Int)) ([] : List Term))])
      else
        some [r15]
    else
      bif (decide (r15.Kind = (8 : Int))) then
        bif ((decide ((r15.Sum.Coeffs.length : Int) = (0 : Int))) && (!(decide ((0 : Int) ≤ r15.Sum.Const)))) then
          some ([(Stmt.mk (0 : Int) (0 : Int) (0 : Int) (Term.mk (0 : Int) ([] : List Int)) (Term.mk (0 : Int) ([] : List Int)) ([] : List Term))])
        else
          (sliceI p0 (1 : Int) (p0.length : Int)).bind fun (y54 : List Stmt) =>
          (rec_spec_l03Simple y54).bind fun (r55 : List Stmt) =>
          (capI ([r15].length + r55.length) 112).bind fun (q56 : Unit) =>
          some ([r15] ++ r55)
      else
        bif (decide (r15.Kind = (1 : Int))) then
          m_spec_l03Simple_F_J0 rec_spec_l03Simple p0 r15 (decide (r15.Kind = (1 : Int)))
        else
          m_spec_l03Simple_F_J0 rec_spec_l03Simple p0 r15 (decide (r15.Kind = (7 : Int)))
noncomputable def m_spec_l03Simple : Nat → (List Stmt) → Option (List Stmt)
  | 0, _ => none
  | n + 1, p0 => m_spec_l03Simple_F (m_spec_l03Simple n) p0
end Go.Mod

namespace Go.Mod
open Go.AM
set_option linter.unusedVariables false
set_option linter.unusedSimpArgs false
def cTerm (t : Term) : Nat := t.Coeffs.length
def inR (c : Int) : Bool := decide (-1000000 ≤ c) && decide (c ≤ 1000000)
theorem inR_iff {c : Int} : inR c = true ↔ -1000000 ≤ c ∧ c ≤ 1000000 := by simp [inR]
def lastOK (xs : List Int) : Bool := match xs.getLast? with | none => true | some x => !decide (x = 0)
def vT (t : Term) : Bool := inR t.Const && decide (t.Coeffs.length ≤ 10) && lastOK t.Coeffs && t.Coeffs.all inR
theorem vT_coef {t : Term} (h : vT t = true) : ∀ x ∈ t.Coeffs, inR x = true := by simp [vT] at h; exact h.2
theorem getI_last {xs : List Int} (h0 : 0 < xs.length) (hl : xs.length ≤ 9223372036854775807) : getI xs (w64 ((xs.length : Int) - 1)) = xs.getLast? := by
  rw [w64_pred h0 hl, getI_nat, List.getLast?_eq_getElem?]
theorem spec_number (c : Int) : m_spec_l02Number c = some (inR c) := rfl
theorem spec_is_loop {t : Term} (hl : t.Coeffs.length ≤ 1048576) : iter (m_spec_l02Is_L0 t) 0 = some (bif t.Coeffs.all inR then .inl () else .inr false) := by
  have h := iter_for (step := m_spec_l02Is_L0 t) t.Coeffs (fun n (_ : Unit) => (n : Int)) (fun _ x _ => bif inR x then some (.next ()) else some (.out (.inr false))) (fun _ => .inl ())
    (fun n x r hx => by
      unfold m_spec_l02Is_L0
      rw [dec_lt (get_lt hx), cond_true, XA hx, Option.bind_some, spec_number, Option.bind_some]
      have hw : w64 ((n : Int) + 1) = ((n + 1 : Nat) : Int) := w64_succ (by have := get_lt hx; omega)
      cases inR x
      · rfl
      · rw [hw]; rfl)
    (fun r => by unfold m_spec_l02Is_L0; rw [dec_self]; rfl) ()
  rw [forL_all inR _ _ (fun n x _ => rfl)] at h
  exact h
theorem spec_is {t : Term} (hl : cTerm t ≤ 1048576) : m_spec_l02Is t = some (vT t) := by
  unfold cTerm at hl
  have hJ : m_spec_l02Is_J0 t () = some (t.Coeffs.all inR) := by
    unfold m_spec_l02Is_J0
    rw [spec_is_loop hl, Option.bind_some]
    cases t.Coeffs.all inR <;> rfl
  unfold m_spec_l02Is
  rw [spec_number, Option.bind_some]
  unfold vT
  cases h1 : inR t.Const with
  | false => rfl
  | true =>
    by_cases h2 : t.Coeffs.length ≤ 10
    · rw [decide_eq_true h2, decide_eq_false (show ¬ (10 : Int) < (t.Coeffs.length : Int) by omega)]
      simp only [Bool.not_true, Bool.false_or, cond_false, Bool.true_and]
      by_cases h3 : 0 < t.Coeffs.length
      · rw [decide_eq_true (show (0 : Int) < (t.Coeffs.length : Int) by omega), cond_true, getI_last h3 (by omega)]
        unfold lastOK
        cases h4 : t.Coeffs.getLast? with
        | none => rw [List.getLast?_eq_none_iff] at h4; rw [h4] at h3; exact absurd h3 (by simp)
        | some x =>
          simp only [Option.bind_some]
          by_cases h5 : x = 0
          · rw [decide_eq_true h5]; rfl
          · rw [decide_eq_false h5, cond_false, hJ]; rfl
      · rw [decide_eq_false (show ¬ (0 : Int) < (t.Coeffs.length : Int) by omega), cond_false, hJ]
        have : t.Coeffs = [] := List.length_eq_zero_iff.1 (by omega)
        rw [this]; rfl
    · rw [decide_eq_false h2, decide_eq_true (show (10 : Int) < (t.Coeffs.length : Int) by omega)]; rfl
theorem impl_all {xs : List Int} {a b : Int} : m_impl_allWithin xs a b = some (xs.all fun x => decide (a ≤ x) && decide (x ≤ b)) := by
  unfold m_impl_allWithin
  rw [forL_all (fun x => decide (a ≤ x) && decide (x ≤ b)) (f := .inr false) xs 0 (fun n x _ => by
    unfold m_impl_allWithin_L0 m_impl_within
    rw [Option.bind_some]
    cases (decide (a ≤ x) && decide (x ≤ b)) <;> rfl), Option.bind_some]
  cases xs.all fun x => decide (a ≤ x) && decide (x ≤ b) <;> rfl
theorem impl_valid (t : Term) : m_impl_ValidTerm t = some (vT t) := by
  unfold m_impl_ValidTerm vT
  by_cases h2 : t.Coeffs.length ≤ 10
  · rw [decide_eq_true h2, decide_eq_true (show (t.Coeffs.length : Int) ≤ (10 : Int) by omega), cond_true]
    rw [show m_impl_isCoeff t.Const = some (inR t.Const) from rfl, Option.bind_some]
    cases h1 : inR t.Const with
    | false => rfl
    | true =>
      rw [cond_true, impl_all, Option.bind_some]
      change (bif t.Coeffs.all inR then _ else _) = _
      cases h3 : t.Coeffs.all inR with
      | false => simp
      | true =>
        rw [cond_true]
        by_cases h4 : t.Coeffs.length = 0
        · rw [decide_eq_true (by omega), cond_true]
          rw [List.length_eq_zero_iff.1 h4]; rfl
        · rw [decide_eq_false (by omega), cond_false, getI_last (by omega) (by omega)]
          unfold lastOK
          cases h5 : t.Coeffs.getLast? with
          | none => rw [List.getLast?_eq_none_iff] at h5; rw [h5] at h4; exact absurd rfl h4
          | some x => simp
  · rw [decide_eq_false h2, decide_eq_false (show ¬ (t.Coeffs.length : Int) ≤ (10 : Int) by omega)]; simp
def tl (xs : List Int) : Nat → Nat
  | 0 => 0
  | n + 1 => if xs[n]? = some 0 then tl xs n else n + 1
theorem tl_le (xs : List Int) : ∀ n, tl xs n ≤ n := by
  intro n
  induction n with
  | zero => exact Nat.le_refl _
  | succ n ih => unfold tl; split <;> omega
def trim (xs : List Int) : List Int := xs.take (tl xs xs.length)
theorem trim_len (xs : List Int) : (trim xs).length ≤ xs.length := by unfold trim; simp; omega
theorem tl_iter {xs : List Int} {step : Int → Option (Ctl Int Int)}
    (hs : ∀ n : Int, step n = bif decide ((0 : Int) < n) then (getI xs (w64 (n - 1))).bind fun x => bif decide (x = 0) then some (.next (w64 (n - 1))) else some (.out n) else some (.out n))
    (hl : xs.length ≤ 1048576) : ∀ n : Nat, n ≤ xs.length → iter step (n : Int) = some ((tl xs n : Nat) : Int) := by
  intro n
  induction n with
  | zero => intro _; exact iter_out (by rw [hs]; rfl)
  | succ n ih =>
    intro hn
    have h := hs ((n + 1 : Nat) : Int)
    have hx : xs[n]? = some xs[n] := by simp
    rw [decide_eq_true (by omega), cond_true, w64_pred (by omega) (by omega), show n + 1 - 1 = n from rfl, XA hx, Option.bind_some] at h
    unfold tl
    by_cases h0 : xs[n] = 0
    · rw [decide_eq_true h0, cond_true] at h
      rw [iter_next h, ih (by omega), if_pos (by rw [hx, h0])]
    · rw [decide_eq_false h0, cond_false] at h
      rw [iter_out h, if_neg (by rw [hx]; simpa using h0)]
theorem slice_trim (xs : List Int) : sliceI xs 0 ((tl xs xs.length : Nat) : Int) = some (trim xs) := by
  rw [show (0 : Int) = ((0 : Nat) : Int) from rfl, sliceI_some (by omega) (tl_le _ _)]; rfl
def chk (t : Term) : Term × Bool := bif vT t then (t, true) else (Term.mk 0 [], false)
theorem spec_own {xs : List Int} (h : xs.length ≤ 1048576) : m_spec_l00Own xs = some xs := by
  unfold m_spec_l00Own; rw [Xr (by simp; omega)]; simp
theorem spec_make {c : Int} {xs : List Int} (hl : xs.length ≤ 1048576) : m_spec_l02Make c xs = some (chk (Term.mk c (trim xs))) := by
  unfold m_spec_l02Make m_spec_l02Make_A0
  have h2 := trim_len xs
  rw [tl_iter (step := m_spec_l02Make_L0 xs) (fun n => rfl) hl _ (Nat.le_refl _), Option.bind_some, slice_trim, Option.bind_some, spec_own (by omega), Option.bind_some, spec_is (by unfold cTerm; simp only; omega), Option.bind_some]
  unfold chk
  cases vT (Term.mk c (trim xs)) <;> rfl
theorem impl_copy {xs : List Int} (h : xs.length ≤ 1048576) : m_impl_copyInts xs = some xs := by
  unfold m_impl_copyInts; rw [Xr (by simp; omega)]; simp
theorem impl_own {t : Term} (h : t.Coeffs.length ≤ 1048576) : m_impl_Term_own t = some t := by
  unfold m_impl_Term_own; rw [impl_copy h]; rfl
def coef (xs : List Int) (i : Nat) : Int := xs[i]?.getD 0
def sumN (f : Nat → Int) : Nat → Int
  | 0 => 0
  | n + 1 => sumN f n + f n
def tAt (ts : List Term) (k : Nat) : Term := ts[k]?.getD ⟨0, []⟩
def lin (ts : List Term) (ms : List Int) (g : Term → Int) (n : Nat) : Int := sumN (fun k => coef ms k * g (tAt ts k)) n
def cTermS (ts : List Term) : Nat := ts.length + (ts.map cTerm).sum
theorem mem_sum {α : Type} {c : α → Nat} {xs : List α} {x : α} (h : x ∈ xs) : c x ≤ (xs.map c).sum := by
  induction xs with
  | nil => cases h
  | cons y r ih =>
    simp only [List.map_cons, List.sum_cons]
    rcases List.mem_cons.1 h with rfl | h
    · omega
    · have := ih h; omega
theorem cTermS_mem {ts : List Term} {t : Term} (h : t ∈ ts) : cTerm t ≤ cTermS ts := by have := mem_sum (c := cTerm) h; unfold cTermS; omega
theorem dec_eqN {a b : Nat} : decide ((a : Int) = (b : Int)) = decide (a = b) := by by_cases h : a = b <;> simp [h]; omega
theorem foldl_snoc {α : Type} (xs s : List α) : xs.foldl (fun s x => s ++ [x]) s = s ++ xs := by
  induction xs generalizing s with
  | nil => simp
  | cons x r ih => simp [ih]
theorem impl_ownTerms {ts : List Term} (hl : cTermS ts ≤ 1048576) : m_impl_ownTerms ts = some ts := by
  have hlen : ts.length ≤ 1048576 := by unfold cTermS at hl; omega
  unfold m_impl_ownTerms
  rw [forL_fold (fun s x => s ++ [x]) (fun k s => s.length = k) ts 0 [] rfl (fun n x s hx hs => by
    have := get_lt hx
    unfold m_impl_ownTerms_L0
    rw [impl_own (by have := cTermS_mem (List.mem_of_getElem? hx); unfold cTerm at this; omega), Option.bind_some, Xr (by simp; omega), Option.bind_some]
    exact ⟨rfl, by simp [hs]⟩), Option.bind_some, foldl_snoc]
  rfl
theorem spec_ownAll {ts : List Term} (hl : cTermS ts ≤ 1048576) : m_spec_l02OwnAll ts = some ts := by
  have hlen : ts.length ≤ 1048576 := by unfold cTermS at hl; omega
  have h := iter_for (step := m_spec_l02OwnAll_L0 ts) ts (fun n (s : List Term) => (s, (n : Int))) m_impl_ownTerms_L0 (fun s0 => s0)
    (fun n x r hx => by
      unfold m_spec_l02OwnAll_L0 m_impl_ownTerms_L0 m_spec_l02Own
      have hc := cTermS_mem (List.mem_of_getElem? hx)
      unfold cTerm at hc
      simp only
      rw [dec_lt (get_lt hx), cond_true, XA hx, Option.bind_some, spec_own (by omega), Option.bind_some, Option.bind_some, impl_own (by omega), Option.bind_some]
      simp only [List.length_cons, List.length_nil, Nat.zero_add]
      cases capI (r.length + 1) 32 with
      | none => rfl
      | some u => simp only [Option.bind_some]; rw [w64_succ (by have := get_lt hx; omega)]; rfl)
    (fun r => by unfold m_spec_l02OwnAll_L0; simp only; rw [dec_self]; rfl) ([] : List Term)
  have h2 := impl_ownTerms hl
  unfold m_impl_ownTerms at h2
  unfold m_spec_l02OwnAll
  rw [show (0 : Int) = ((0 : Nat) : Int) from rfl, h]
  exact h2
theorem euclid {step : Int × Int → Option (Ctl (Int × Int) Int)}
    (h0 : ∀ a : Nat, step ((a : Int), ((0 : Nat) : Int)) = some (.out (a : Int)))
    (hs : ∀ a b : Nat, 0 < b → step ((a : Int), (b : Int)) = some (.next ((b : Int), ((a % b : Nat) : Int)))) : ∀ (n b a : Nat), b < n → iter step ((a : Int), (b : Int)) = some ((Nat.gcd a b : Nat) : Int) := by
  intro n
  induction n with
  | zero => intro b a h; omega
  | succ n ih =>
    intro b a h
    by_cases hb : b = 0
    · subst hb; rw [iter_out (h0 a), Nat.gcd_zero_right]
    · rw [iter_next (hs a b (by omega)), ih (a % b) b (by have := Nat.mod_lt a (Nat.pos_of_ne_zero hb); omega)]
      congr 2
      rw [Nat.gcd_comm a b, Nat.gcd_rec b a, Nat.gcd_comm]
theorem rem_nat {a b : Nat} (hb : 0 < b) : remI (a : Int) (b : Int) = some ((a % b : Nat) : Int) := by
  unfold remI
  rw [decide_eq_false (by omega), cond_false]
  rfl
theorem impl_euclid (a b : Nat) : iter m_impl_gcd_L1 ((a : Int), (b : Int)) = some ((Nat.gcd a b : Nat) : Int) :=
  euclid (fun a => rfl) (fun a b hb => by
    unfold m_impl_gcd_L1
    simp only
    rw [decide_eq_false (by omega), Bool.not_false, cond_true, rem_nat hb]; rfl) (b + 1) b a (Nat.lt_succ_self _)
def gcdL (xs : List Int) : Nat := xs.foldl (fun d x => Nat.gcd d x.natAbs) 0
theorem foldl_cast (xs : List Int) : ∀ (d : Nat), xs.foldl (fun (d : Int) x => ((Nat.gcd d.toNat x.natAbs : Nat) : Int)) (d : Int) = ((xs.foldl (fun d x => Nat.gcd d x.natAbs) d : Nat) : Int) := by
  induction xs with
  | nil => intro d; rfl
  | cons x r ih => intro d; simp only [List.foldl_cons, Int.toNat_natCast]; exact ih _
theorem impl_gcd {xs : List Int} (h : ∀ x ∈ xs, inR x = true) : m_impl_gcd xs = some ((gcdL xs : Nat) : Int) := by
  unfold m_impl_gcd
  rw [forL_fold (fun (d : Int) x => ((Nat.gcd d.toNat x.natAbs : Nat) : Int)) (fun _ d => 0 ≤ d) xs 0 0 (Int.le_refl 0) (fun n x d hx hd => by
    have hr := inR_iff.1 (h x (List.mem_of_getElem? hx))
    unfold m_impl_gcd_L0 m_impl_absolute
    rw [Option.bind_some, w64_eq (by omega), show max x (0 - x) = ((x.natAbs : Nat) : Int) by omega, show d = ((d.toNat : Nat) : Int) by omega, impl_euclid, Option.bind_some]
    exact ⟨by rw [Int.toNat_natCast]; rfl, by omega⟩), Option.bind_some]
  have := foldl_cast xs 0
  exact congrArg some this
theorem foldl_dvd (xs : List Int) : ∀ (d : Nat), (xs.foldl (fun d x => Nat.gcd d x.natAbs) d) ∣ d ∧ ∀ x ∈ xs, (xs.foldl (fun d x => Nat.gcd d x.natAbs) d) ∣ x.natAbs := by
  induction xs with
  | nil => intro d; exact ⟨Nat.dvd_refl d, fun x h => by cases h⟩
  | cons y r ih =>
    intro d
    obtain ⟨h1, h2⟩ := ih (Nat.gcd d y.natAbs)
    simp only [List.foldl_cons]
    refine ⟨Nat.dvd_trans h1 (Nat.gcd_dvd_left _ _), fun x hx => ?_⟩
    rcases List.mem_cons.1 hx with rfl | hx
    · exact Nat.dvd_trans h1 (Nat.gcd_dvd_right _ _)
    · exact h2 x hx
theorem gcdL_dvd {xs : List Int} {x : Int} (h : x ∈ xs) : gcdL xs ∣ x.natAbs := (foldl_dvd xs 0).2 x h
def Src (s : l00Src) (k : Nat) : Prop := (∀ x ∈ s.code, 0 ≤ x ∧ x ≤ 255) ∧ s.code.length ≤ 1048576 ∧ 0 ≤ s.at_ ∧ s.at_ ≤ k
theorem Src.mono {s : l00Src} {k k' : Nat} (h : Src s k) (hk : k ≤ k') : Src s k' := ⟨h.1, h.2.1, h.2.2.1, by have := h.2.2.2; omega⟩
theorem and_rng (a : Int) : 0 ≤ andU 64 a 255 ∧ andU 64 a 255 ≤ 255 := by
  unfold andU
  have h : (BitVec.ofInt 64 a &&& BitVec.ofInt 64 255).toNat ≤ 255 := by
    rw [BitVec.toNat_and]
    have : (BitVec.ofInt 64 255).toNat = 255 := by decide
    rw [this]
    exact Nat.and_le_right
  generalize (BitVec.ofInt 64 a &&& BitVec.ofInt 64 255).toNat = q at h
  unfold wu
  omega
theorem next_ok {s : l00Src} {k : Nat} (h : Src s k) (hk : k ≤ 1000000000) : ∃ r s', m_spec_l00Src_next s = some (r, s') ∧ 0 ≤ r ∧ r ≤ 255 ∧ Src s' (k + 1) := by
  obtain ⟨h1, h2, h3, h4⟩ := h
  have hJ : ∀ j : Int, 0 ≤ j → j ≤ 255 → ∃ r s', m_spec_l00Src_next_J0 s j = some (r, s') ∧ 0 ≤ r ∧ r ≤ 255 ∧ Src s' (k + 1) := by
    intro j hj0 hj1
    unfold m_spec_l00Src_next_J0
    rw [w64_eq (n := s.at_ + 1) (by omega)]
    have hS : ∀ sd, Src (l00Src.mk s.code (s.at_ + 1) sd) (k + 1) := fun sd => ⟨h1, h2, by simp only; omega, by simp only; omega⟩
    by_cases hq : s.at_ + 1 ≤ (s.code.length : Int)
    · rw [decide_eq_true hq, cond_true]; exact ⟨_, _, rfl, hj0, hj1, hS _⟩
    · rw [decide_eq_false hq, cond_false]
      have := and_rng (Int.fdiv (wu 64 ((wu 64 ((wu 64 (s.seed * (6364136223846793005 : Int))) + (wu 64 j))) + (1442695040888963407 : Int))) (2 ^ 40))
      exact ⟨_, _, rfl, by rw [w64_eq (by omega)]; omega, by rw [w64_eq (by omega)]; omega, hS _⟩
  unfold m_spec_l00Src_next
  by_cases hq : s.at_ < (s.code.length : Int)
  · obtain ⟨n, hn⟩ := Int.eq_ofNat_of_zero_le h3
    have hlt : n < s.code.length := by omega
    have hx : s.code[n]? = some s.code[n] := by simp
    have hb := h1 _ (List.getElem_mem hlt)
    rw [decide_eq_true hq, cond_true, hn, XA hx, Option.bind_some, w64_eq (by omega)]
    exact hJ _ hb.1 hb.2
  · rw [decide_eq_false hq, cond_false]; exact hJ 0 (by omega) (by omega)
theorem pick_ok {s : l00Src} {k : Nat} {n : Int} (h : Src s k) (hk : k ≤ 100000000) (hn : n ≤ 200) : ∃ r s', QP s n = some (r, s') ∧ 0 ≤ r ∧ (r < n ∨ r = 0) ∧ Src s' (k + 1) := by
  unfold QP
  by_cases h1 : n ≤ 1
  · rw [decide_eq_true h1, cond_true]; exact ⟨_, _, rfl, by omega, .inr rfl, h.mono (by omega)⟩
  · rw [decide_eq_false h1, cond_false]
    obtain ⟨r, s', e1, e2, e3, e4⟩ := next_ok h (by omega)
    rw [e1, Option.bind_some, decide_eq_false (by omega), cond_false]
    simp only
    unfold remI
    rw [decide_eq_false (by omega), cond_false, Option.bind_some]
    exact ⟨_, _, rfl, Int.tmod_nonneg _ e2, .inl (Int.tmod_lt_of_pos _ (by omega)), e4⟩
theorem from_ok {code : List Int} (h1 : ∀ x ∈ code, 0 ≤ x ∧ x ≤ 255) (h2 : code.length ≤ 1048576) : m_spec_l00From code = some (l00Src.mk code 0 0) ∧ Src (l00Src.mk code 0 0) 0 :=
  ⟨rfl, h1, h2, Int.le_refl _, Int.le_refl _⟩
def val (t : Term) (v : List Int) : Int := t.Const + sumN (fun i => coef t.Coeffs i * coef v i) 10
def Vals (v : List Int) : Prop := v.length = 10 ∧ ∀ x ∈ v, -6 ≤ x ∧ x ≤ 6
theorem Vals.coef {v : List Int} (h : Vals v) (i : Nat) : -6 ≤ coef v i ∧ coef v i ≤ 6 := by
  unfold Mod.coef
  cases hx : v[i]? with
  | none => simp
  | some x => exact h.2 x (List.mem_of_getElem? hx)
structure Small (t : Term) : Prop where
  v : vT t = true
  c : -7 ≤ t.Const ∧ t.Const ≤ 7
  f : ∀ i, -4 ≤ coef t.Coeffs i ∧ coef t.Coeffs i ≤ 4
theorem dvd_foldl {k : Nat} : ∀ (xs : List Int) (d : Nat), k ∣ d → (∀ x ∈ xs, k ∣ x.natAbs) → k ∣ xs.foldl (fun d x => Nat.gcd d x.natAbs) d := by
  intro xs
  induction xs with
  | nil => intro d h _; exact h
  | cons x r ih => intro d h hx; exact ih _ (Nat.dvd_gcd h (hx x (by simp))) (fun y hy => hx y (by simp [hy]))
theorem dvd_gcdL {k : Nat} {xs : List Int} (h : ∀ x ∈ xs, k ∣ x.natAbs) : k ∣ gcdL xs := dvd_foldl xs 0 (Nat.dvd_zero k) h
structure Fact (t : Term) (c : Nat) : Prop where
  v : vT t = true
  c : -(c : Int) ≤ t.Const ∧ t.Const ≤ c
  f : ∀ i, -3 ≤ coef t.Coeffs i ∧ coef t.Coeffs i ≤ 3
theorem Fact.mono {t : Term} {c c' : Nat} (h : Fact t c) (hc : c ≤ c') : Fact t c' := ⟨h.v, by have := h.c; omega, h.f⟩
theorem any_index {α : Type} {L0 : Nat → α → Unit → Option (Ctl Unit (Unit ⊕ Int))} (p : α → Bool) : ∀ (xs : List α) (m : Nat), (∀ n, ∀ x ∈ xs, L0 n x () = bif !p x then some (.out (.inr (n : Int))) else some (.next ())) →
    ∃ u, forL L0 (fun s0 => (.inl ())) m xs () = some u ∧ (xs.all p = false → ∃ n : Nat, u = .inr (n : Int)) ∧ (xs.all p = true → u = .inl ()) := by
  intro xs
  induction xs with
  | nil => intro m _; exact ⟨.inl (), rfl, ⟨fun h => by simp at h, fun _ => rfl⟩⟩
  | cons x r ih =>
    intro m h
    obtain ⟨u, hu, h1, h2⟩ := ih (m + 1) (fun n y hy => h n y (List.mem_cons_of_mem _ hy))
    unfold forL
    rw [h m x (by simp), List.all_cons]
    cases hc : p x with
    | false => exact ⟨.inr (m : Int), rfl, fun _ => ⟨m, rfl⟩, fun h => by cases h⟩
    | true => exact ⟨u, hu, fun h => h1 h, fun h => h2 h⟩
theorem dec_nat0 (n : Nat) : decide ((0 : Int) ≤ (n : Int)) = true := decide_eq_true (by omega)
def over (t : Term) : Bool := vT t && decide (t.Coeffs.length ≤ 4)
theorem dec_leC {a c : Nat} : decide ((a : Int) ≤ (c : Int)) = decide (a ≤ c) := by
  by_cases h : a ≤ c
  · rw [decide_eq_true h, decide_eq_true (by omega)]
  · rw [decide_eq_false h, decide_eq_false (by omega)]
theorem impl_over (t : Term) : m_impl_isOver t = some (over t) := by
  unfold m_impl_isOver over
  rw [impl_valid, Option.bind_some, show (4 : Int) = ((4 : Nat) : Int) from rfl, dec_leC]
theorem impl_areOver (ts : List Term) (m : Nat) : m_impl_areOver ts (m : Int) = some (ts.all over && decide (ts.length ≤ m)) := by
  unfold m_impl_areOver
  rw [dec_leC]
  cases decide (ts.length ≤ m) with
  | false => rw [cond_false, Bool.and_false]
  | true =>
    rw [cond_true, Bool.and_true]
    unfold Q4 Q9
    obtain ⟨u, hu, h1, h2⟩ := any_index (L0 := QW) over ts 0 (fun n x _ => by
      unfold QW m_impl_areOver_1
      rw [impl_over, Option.bind_some, Option.bind_some])
    rw [hu, Option.bind_some]
    unfold QX
    cases hs : ts.all over with
    | false => obtain ⟨n, rfl⟩ := h1 hs; simp only [Option.bind_some]; rw [dec_nat0]; rfl
    | true => rw [h2 hs]; rfl
end Go.Mod

namespace Go.Mod
open Go.AM
set_option linter.unusedVariables false
set_option linter.unusedSimpArgs false
theorem pl_mem_sum {α : Type} {c : α → Nat} {xs : List α} {x : α} (h : x ∈ xs) : c x ≤ (xs.map c).sum := by
  induction xs with
  | nil => cases h
  | cons y r ih =>
    simp only [List.map_cons, List.sum_cons]
    rcases List.mem_cons.1 h with rfl | h
    · omega
    · have := ih h; omega
section
variable {α : Type} {ys : List α} {n : Nat} {a b c d e f g : α} (h : n < ys.length)
include h
end
def pc_Int64S (xs : List Int) : Nat := xs.length
def pc_Term (x : Term) : Nat := pc_Int64S x.Coeffs
def pc_TermS (xs : List Term) : Nat := xs.length + (xs.map pc_Term).sum
theorem pc_TermS_mem {xs : List Term} {x : Term} (h : x ∈ xs) : pc_Term x ≤ pc_TermS xs := by have := pl_mem_sum (c := pc_Term) h; unfold pc_TermS; omega
theorem pc_TermS_len {xs : List Term} : xs.length ≤ pc_TermS xs := by unfold pc_TermS; omega
def pc_Stmt (x : Stmt) : Nat := pc_Term x.Sum + pc_Term x.Index + pc_TermS x.Facts
theorem pi_Stmt (x y : Stmt) : (x.Kind = y.Kind ∧ x.Var = y.Var ∧ x.Event = y.Event ∧ x.Sum = y.Sum ∧ x.Index = y.Index ∧ x.Facts = y.Facts) ↔ x = y := by cases x; cases y; simp
def pc_StmtS (xs : List Stmt) : Nat := xs.length + (xs.map pc_Stmt).sum
theorem pc_StmtS_mem {xs : List Stmt} {x : Stmt} (h : x ∈ xs) : pc_Stmt x ≤ pc_StmtS xs := by have := pl_mem_sum (c := pc_Stmt) h; unfold pc_StmtS; omega
theorem pc_StmtS_len {xs : List Stmt} : xs.length ≤ pc_StmtS xs := by unfold pc_StmtS; omega
end Go.Mod

namespace Go.Mod
open Go.AM
set_option linter.unusedVariables false
set_option linter.unusedSimpArgs false
def zT (t : Term) : Bool := decide (t.Const = 0) && decide (t.Coeffs.length = 0)
def okGiven (ts : List Term) : Bool := ts.all over && decide (ts.length ≤ 6)
def i4 (x : Int) : Bool := decide (0 ≤ x) && decide (x ≤ 3)
def arS (x : Stmt) : Option Nat :=
  bif decide (x.Kind = 0) then (bif decide (x.Var = 0) && decide (x.Event = 0) && zT x.Sum && zT x.Index && decide (x.Facts.length = 0) then some 0 else none)
  else bif decide (x.Kind = 1) then (bif decide (x.Var = 0) && decide (x.Event = 0) && zT x.Sum && zT x.Index && decide (x.Facts.length = 0) then some 2 else none)
  else bif decide (x.Kind = 2) then (bif i4 x.Var && decide (x.Event = 0) && over x.Sum && zT x.Index && decide (x.Facts.length = 0) then some 0 else none)
  else bif decide (x.Kind = 3) then (bif i4 x.Var && decide (x.Event = 0) && zT x.Sum && over x.Index && decide (x.Facts.length = 0) then some 0 else none)
  else bif decide (x.Kind = 4) then (bif decide (x.Var = 0) && decide (x.Event = 0) && over x.Sum && over x.Index && decide (x.Facts.length = 0) then some 0 else none)
  else bif decide (x.Kind = 5) then (bif decide (x.Var = 0) && i4 x.Event && zT x.Sum && zT x.Index && decide (x.Facts.length = 0) then some 0 else none)
  else bif decide (x.Kind = 6) then (bif decide (x.Var = 0) && decide (x.Event = 0) && over x.Sum && zT x.Index && decide (x.Facts.length = 0) then some 0 else none)
  else bif decide (x.Kind = 7) then (bif decide (x.Var = 0) && decide (x.Event = 0) && over x.Sum && zT x.Index && decide (x.Facts.length = 0) then some 2 else none)
  else bif decide (x.Kind = 8) then (bif decide (x.Var = 0) && decide (x.Event = 0) && over x.Sum && zT x.Index && okGiven x.Facts then some 1 else none)
  else none
def arI : Option Nat → Int
  | some n => n
  | none => -1
theorem dec_len0 {α : Type} (xs : List α) : decide ((xs.length : Int) = 0) = decide (xs.length = 0) := by
  by_cases h : xs.length = 0
  · rw [decide_eq_true h, decide_eq_true (by omega)]
  · rw [decide_eq_false h, decide_eq_false (by omega)]
theorem impl_zero (t : Term) : m_impl_Term_isZero t = some (zT t) := by unfold m_impl_Term_isZero zT; rw [dec_len0]
theorem zT_over {t : Term} (h : zT t = true) : over t = true := by
  unfold zT at h
  simp only [Bool.and_eq_true, decide_eq_true_eq] at h
  obtain ⟨h1, h2⟩ := h
  have h3 : t.Coeffs = [] := List.eq_nil_of_length_eq_zero h2
  unfold over vT
  rw [h1, h3]; rfl
theorem impl_given (ts : List Term) : m_impl_areOver ts 6 = some (okGiven ts) := impl_areOver ts 6
theorem kind_cases (k : Int) : k = 0 ∨ k = 1 ∨ k = 2 ∨ k = 3 ∨ k = 4 ∨ k = 5 ∨ k = 6 ∨ k = 7 ∨ k = 8 ∨ (¬ (0 ≤ k ∧ k ≤ 8)) := by omega
theorem impl_kids (x : Stmt) : m_impl_kidsOf x = some (arI (arS x)) := by
  unfold m_impl_kidsOf arS
  simp only [impl_zero, Option.bind_some, impl_over, impl_given, dec_len0, show ∀ n, m_impl_isVar n = some (i4 n) from fun _ => rfl, show ∀ n, m_impl_isEvent n = some (i4 n) from fun _ => rfl]
  rcases kind_cases x.Kind with h | h | h | h | h | h | h | h | h | h
  · simp only [h, decide_true, cond_true]
    cases decide (x.Var = 0) && decide (x.Event = 0) && zT x.Sum && zT x.Index && decide (x.Facts.length = 0) <;> rfl
  · simp only [h, decide_true, cond_true, show decide ((1 : Int) = 0) = false from rfl, cond_false]
    cases decide (x.Var = 0) && decide (x.Event = 0) && zT x.Sum && zT x.Index && decide (x.Facts.length = 0) <;> rfl
  · simp only [h, decide_true, cond_true, show decide ((2 : Int) = 0) = false from rfl, show decide ((2 : Int) = 1) = false from rfl, cond_false]
    cases i4 x.Var <;> cases decide (x.Event = 0) <;> cases over x.Sum <;> cases zT x.Index <;> cases decide (x.Facts.length = 0) <;> rfl
  · simp only [h, decide_true, cond_true, show decide ((3 : Int) = 0) = false from rfl, show decide ((3 : Int) = 1) = false from rfl, show decide ((3 : Int) = 2) = false from rfl, cond_false]
    cases i4 x.Var <;> cases decide (x.Event = 0) <;> cases zT x.Sum <;> cases over x.Index <;> cases decide (x.Facts.length = 0) <;> rfl
  · simp only [h, decide_true, cond_true, show decide ((4 : Int) = 0) = false from rfl, show decide ((4 : Int) = 1) = false from rfl, show decide ((4 : Int) = 2) = false from rfl, show decide ((4 : Int) = 3) = false from rfl, cond_false]
    cases decide (x.Var = 0) <;> cases decide (x.Event = 0) <;> cases over x.Sum <;> cases over x.Index <;> cases decide (x.Facts.length = 0) <;> rfl
  · simp only [h, decide_true, cond_true, show decide ((5 : Int) = 0) = false from rfl, show decide ((5 : Int) = 1) = false from rfl, show decide ((5 : Int) = 2) = false from rfl, show decide ((5 : Int) = 3) = false from rfl, show decide ((5 : Int) = 4) = false from rfl, cond_false]
    cases decide (x.Var = 0) <;> cases i4 x.Event <;> cases zT x.Sum <;> cases zT x.Index <;> cases decide (x.Facts.length = 0) <;> rfl
  · simp only [h, decide_true, cond_true, show decide ((6 : Int) = 0) = false from rfl, show decide ((6 : Int) = 1) = false from rfl, show decide ((6 : Int) = 2) = false from rfl, show decide ((6 : Int) = 3) = false from rfl, show decide ((6 : Int) = 4) = false from rfl, show decide ((6 : Int) = 5) = false from rfl, cond_false]
    cases decide (x.Var = 0) <;> cases decide (x.Event = 0) <;> cases over x.Sum <;> cases zT x.Index <;> cases decide (x.Facts.length = 0) <;> rfl
  · simp only [h, decide_true, cond_true, show decide ((7 : Int) = 0) = false from rfl, show decide ((7 : Int) = 1) = false from rfl, show decide ((7 : Int) = 2) = false from rfl, show decide ((7 : Int) = 3) = false from rfl, show decide ((7 : Int) = 4) = false from rfl, show decide ((7 : Int) = 5) = false from rfl, show decide ((7 : Int) = 6) = false from rfl, cond_false]
    cases decide (x.Var = 0) <;> cases decide (x.Event = 0) <;> cases over x.Sum <;> cases zT x.Index <;> cases decide (x.Facts.length = 0) <;> rfl
  · simp only [h, decide_true, cond_true, show decide ((8 : Int) = 0) = false from rfl, show decide ((8 : Int) = 1) = false from rfl, show decide ((8 : Int) = 2) = false from rfl, show decide ((8 : Int) = 3) = false from rfl, show decide ((8 : Int) = 4) = false from rfl, show decide ((8 : Int) = 5) = false from rfl, show decide ((8 : Int) = 6) = false from rfl, show decide ((8 : Int) = 7) = false from rfl, cond_false]
    cases decide (x.Var = 0) <;> cases decide (x.Event = 0) <;> cases over x.Sum <;> cases zT x.Index <;> cases okGiven x.Facts <;> rfl
  · have e : ∀ n : Int, (0 ≤ n ∧ n ≤ 8) → decide (x.Kind = n) = false := fun n hn => decide_eq_false (fun e => h (e ▸ hn))
    simp only [e 0 (by omega), e 1 (by omega), e 2 (by omega), e 3 (by omega), e 4 (by omega), e 5 (by omega), e 6 (by omega), e 7 (by omega), e 8 (by omega), cond_false]
    rfl
theorem ar_le {x : Stmt} {n : Nat} (h : arS x = some n) : n ≤ 2 := by
  unfold arS at h
  simp only [Bool.cond_eq_ite] at h
  repeat' split at h
  all_goals (cases h <;> omega)
theorem ar_kind {x : Stmt} {n : Nat} (h : arS x = some n) : (x.Kind = 0 ∧ n = 0) ∨ (x.Kind = 1 ∧ n = 2) ∨ (x.Kind = 2 ∧ n = 0) ∨ (x.Kind = 3 ∧ n = 0) ∨ (x.Kind = 4 ∧ n = 0) ∨ (x.Kind = 5 ∧ n = 0) ∨ (x.Kind = 6 ∧ n = 0) ∨ (x.Kind = 7 ∧ n = 2) ∨ (x.Kind = 8 ∧ n = 1) := by
  unfold arS at h
  simp only [Bool.cond_eq_ite, decide_eq_true_eq] at h
  repeat' split at h
  all_goals (cases h <;> omega)
theorem spec_below {x : Stmt} {n : Nat} (h : arS x = some n) : m_spec_l03Below x.Kind = some (n : Int) := by
  rcases ar_kind h with h | h | h | h | h | h | h | h | h <;> obtain ⟨h1, rfl⟩ := h <;> rw [h1] <;> rfl
def goS : List Stmt → Nat → Option (List Stmt)
  | p, 0 => some p
  | [], _ + 1 => none
  | x :: r, n + 1 => (arS x).bind fun a => goS r (n + a)
theorem goS_zero (p : List Stmt) : goS p 0 = some p := by cases p <;> rfl
theorem goS_add : ∀ (p : List Stmt) (a b : Nat), goS p (a + b) = (goS p a).bind fun r => goS r b := by
  intro p
  induction p with
  | nil =>
    intro a b
    cases a with
    | zero => rw [Nat.zero_add, goS_zero, Option.bind_some]
    | succ a => rw [show a + 1 + b = (a + b) + 1 by omega]; rfl
  | cons x r ih =>
    intro a b
    cases a with
    | zero => rw [Nat.zero_add, goS_zero, Option.bind_some]
    | succ a =>
      rw [show a + 1 + b = (a + b) + 1 by omega]
      show (arS x).bind (fun c => goS r (a + b + c)) = ((arS x).bind fun c => goS r (a + c)).bind fun r => goS r b
      cases arS x with
      | none => rfl
      | some c => simp only [Option.bind_some]; rw [show a + b + c = (a + c) + b by omega]; exact ih _ _
theorem goS_pre : ∀ (p : List Stmt) (n : Nat) {r : List Stmt}, goS p n = some r → ∃ q, p = q ++ r ∧ (∀ x ∈ q, (arS x).isSome = true) ∧ (0 < n → q ≠ []) := by
  intro p
  induction p with
  | nil =>
    intro n r h
    cases n with
    | zero => cases h; exact ⟨[], rfl, by simp, by omega⟩
    | succ n => cases h
  | cons x r ih =>
    intro n s h
    cases n with
    | zero => cases h; exact ⟨[], rfl, by simp, by omega⟩
    | succ n =>
      unfold goS at h
      cases ha : arS x with
      | none => rw [ha] at h; cases h
      | some a =>
        rw [ha, Option.bind_some] at h
        obtain ⟨q, rfl, h1, _⟩ := ih _ h
        refine ⟨x :: q, rfl, ?_, by simp⟩
        intro y hy
        rcases List.mem_cons.1 hy with rfl | hy
        · rw [ha]; rfl
        · exact h1 y hy
theorem goS_len {p r : List Stmt} {n : Nat} (h : goS p n = some r) : r.length + min n 1 ≤ p.length := by
  obtain ⟨q, rfl, _, h2⟩ := goS_pre p n h
  rw [List.length_append]
  cases n with
  | zero => simp
  | succ n =>
    have := List.length_pos_iff.2 (h2 (by omega))
    omega
theorem goS_drop {p r : List Stmt} {n : Nat} (h : goS p n = some r) : r = p.drop (p.length - r.length) := by
  obtain ⟨q, rfl, _, _⟩ := goS_pre p n h
  rw [List.length_append, Nat.add_sub_cancel, List.drop_left]
mutual
def fl : Ptree → List Stmt
  | .nil => []
  | .mk x _ ks => x :: flL ks
def flL : List Ptree → List Stmt
  | [] => []
  | t :: ts => fl t ++ flL ts
end
mutual
def wfT : Nat → Ptree → Prop
  | _, .nil => False
  | k, .mk x at_ ks => at_ = (k : Int) ∧ arS x = some ks.length ∧ wfL (k + 1) ks
def wfL : Nat → List Ptree → Prop
  | _, [] => True
  | k, t :: ts => wfT k t ∧ wfL (k + (fl t).length) ts
end
mutual
def okT : Ptree → Prop
  | .nil => False
  | .mk x _ ks => arS x = some ks.length ∧ okL ks
def okL : List Ptree → Prop
  | [] => True
  | t :: ts => okT t ∧ okL ts
end
mutual
theorem wfT_ok : ∀ (t : Ptree) (k : Nat), wfT k t → okT t
  | .nil, _, h => by unfold wfT at h; exact h.elim
  | .mk x _ ks, k, h => by unfold wfT at h; unfold okT; exact ⟨h.2.1, wfL_ok ks _ h.2.2⟩
theorem wfL_ok : ∀ (ts : List Ptree) (k : Nat), wfL k ts → okL ts
  | [], _, _ => by unfold okL; trivial
  | t :: ts, k, h => by unfold wfL at h; unfold okL; exact ⟨wfT_ok t k h.1, wfL_ok ts _ h.2⟩
end
mutual
theorem okT_go : ∀ (t : Ptree) (r : List Stmt), okT t → goS (fl t ++ r) 1 = some r
  | .nil, _, h => by unfold okT at h; exact h.elim
  | .mk x _ ks, r, h => by
    unfold okT at h
    unfold fl
    show (arS x).bind (fun a => goS (flL ks ++ r) (0 + a)) = some r
    rw [h.1, Option.bind_some, Nat.zero_add]
    exact okL_go ks r h.2
theorem okL_go : ∀ (ts : List Ptree) (r : List Stmt), okL ts → goS (flL ts ++ r) ts.length = some r
  | [], r, _ => by unfold flL; exact goS_zero _
  | t :: ts, r, h => by
    unfold okL at h
    unfold flL
    rw [List.append_assoc, List.length_cons, Nat.add_comm, goS_add, okT_go t _ h.1, Option.bind_some]
    exact okL_go ts r h.2
end
theorem okT_pos {t : Ptree} (h : okT t) : 0 < (fl t).length := by
  cases t with
  | nil => unfold okT at h; exact h.elim
  | mk x a ks => unfold fl; simp
section
variable {p : List Stmt}
theorem sub1 {n : Nat} (h : n ≤ 3) : w64 (((n + 1 : Nat) : Int) - 1) = (n : Int) := by rw [w64_eq (by omega)]; omega
theorem treeAt_ok (hl : p.length ≤ 1048576) : ∀ (fu k : Nat), k ≤ p.length → p.length - k < fu →
    (∀ r, goS (p.drop k) 1 = some r → ∃ t, m_impl_treeAt fu p (k : Int) = some (t, ((p.length - r.length : Nat) : Int), true) ∧ wfT k t ∧ p.drop k = fl t ++ r) ∧
    (goS (p.drop k) 1 = none → m_impl_treeAt fu p (k : Int) = some (.nil, 0, false)) := by
  intro fu
  induction fu with
  | zero => intro k _ h; omega
  | succ fu ih =>
    intro k hk hf
    have loop : ∀ (c k : Nat) (acc : List Ptree), k ≤ p.length → acc.length + c ≤ 2 → p.length - k < fu →
        (∀ r, goS (p.drop k) c = some r → ∃ ts, iter (m_impl_treeAt_F_L0 (m_impl_treeAt fu) p) ((k : Int), (c : Int), acc) = some (.inl (((p.length - r.length : Nat) : Int), acc ++ ts)) ∧ wfL k ts ∧ ts.length = c ∧ p.drop k = flL ts ++ r) ∧
        (goS (p.drop k) c = none → iter (m_impl_treeAt_F_L0 (m_impl_treeAt fu) p) ((k : Int), (c : Int), acc) = some (.inr (.nil, 0, false))) := by
      intro c
      induction c with
      | zero =>
        intro k acc hk hc hf
        rw [goS_zero]
        refine ⟨fun r hr => ?_, fun h => by cases h⟩
        cases hr
        refine ⟨[], ?_, by unfold wfL; trivial, rfl, by unfold flL; rfl⟩
        rw [iter_out (t := .inl ((k : Int), acc))]
        · simp only [List.length_drop, List.append_nil]; rw [show p.length - (p.length - k) = k by omega]
        · rfl
      | succ c ihc =>
        intro k acc hk hc hf
        obtain ⟨i1, i2⟩ := ih k hk hf
        rw [show c + 1 = 1 + c by omega, goS_add]
        have hstep : ∀ y, m_impl_treeAt fu p (k : Int) = some y → m_impl_treeAt_F_L0 (m_impl_treeAt fu) p ((k : Int), ((1 + c : Nat) : Int), acc) = (bif !y.2.2 then some (.out (.inr ((.nil : Ptree), (0 : Int), false))) else some (.next (y.2.1, (c : Int), acc ++ [y.1]))) := by
          intro y hy
          unfold m_impl_treeAt_F_L0
          simp only
          rw [decide_eq_true (by omega), cond_true, hy, Option.bind_some, show 1 + c = c + 1 by omega, sub1 (by omega), Xr (by simp; omega), Option.bind_some]
        cases hg : goS (p.drop k) 1 with
        | none =>
          refine ⟨fun r hr => (by cases hr), fun _ => iter_out (hstep _ (i2 hg))⟩
        | some r =>
          obtain ⟨t, e1, w1, d1⟩ := i1 r hg
          have h1 := goS_len hg
          have h2 := goS_drop hg
          simp only [List.length_drop, Nat.min_self] at h1
          rw [List.drop_drop, List.length_drop] at h2
          have hlt : k < p.length := by omega
          have hn := iter_next (hstep _ e1)
          have h3 : r = p.drop (p.length - r.length) := h2.trans (by congr 1; omega)
          have hfl : (fl t).length = p.length - r.length - k := by
            have := congrArg List.length d1
            rw [List.length_drop, List.length_append] at this; omega
          obtain ⟨j1, j2⟩ := ihc (p.length - r.length) (acc ++ [t]) (by omega) (by simp; omega) (by omega)
          rw [← h3] at j1 j2
          rw [Option.bind_some]
          refine ⟨fun r2 hr2 => ?_, fun hr2 => by rw [hn]; exact j2 hr2⟩
          obtain ⟨ts, e2, w2, l2, d2⟩ := j1 r2 hr2
          refine ⟨t :: ts, ?_, ?_, by rw [List.length_cons, l2]; omega, ?_⟩
          · rw [hn, e2]; simp
          · unfold wfL; refine ⟨w1, ?_⟩; rw [hfl, show k + (p.length - r.length - k) = p.length - r.length by omega]; exact w2
          · unfold flL; rw [d1, d2, List.append_assoc]
    unfold m_impl_treeAt m_impl_treeAt_F
    by_cases h : p.length ≤ k
    · rw [decide_eq_true (by omega), cond_true, List.drop_eq_nil_iff.2 h]
      exact ⟨fun r hr => (by cases hr), fun _ => rfl⟩
    · have hlt : k < p.length := by omega
      rw [decide_eq_false (by omega), cond_false, XA (List.getElem?_eq_getElem hlt), Option.bind_some, impl_kids, Option.bind_some, List.drop_eq_getElem_cons hlt]
      rw [show goS (p[k] :: p.drop (k + 1)) 1 = (arS p[k]).bind fun a => goS (p.drop (k + 1)) (0 + a) from rfl]
      cases ha : arS p[k] with
      | none => exact ⟨fun r hr => (by cases hr), fun _ => rfl⟩
      | some a =>
        have ha2 := ar_le ha
        obtain ⟨j1, j2⟩ := loop a (k + 1) [] (by omega) (by simpa using ha2) (by omega)
        unfold arI
        simp only [Option.bind_some, Nat.zero_add]
        rw [dec_neg, cond_false, w64_succ (by omega)]
        refine ⟨fun r hr => ?_, fun hr => by rw [j2 hr]; rfl⟩
        obtain ⟨ts, e2, w2, l2, d2⟩ := j1 r hr
        refine ⟨.mk p[k] (k : Int) ts, ?_, ?_, ?_⟩
        · rw [e2, Option.bind_some]; rfl
        · unfold wfT; exact ⟨rfl, by rw [ha, l2], w2⟩
        · unfold fl; rw [d2]; rfl
end
def isB (p : List Stmt) : Bool := decide (p.length ≤ 30) && (match goS p 1 with | some [] => true | _ => false)
theorem isB_iff {p : List Stmt} : isB p = true ↔ p.length ≤ 30 ∧ goS p 1 = some [] := by
  unfold isB
  rw [Bool.and_eq_true, decide_eq_true_eq]
  cases hg : goS p 1 with
  | none => simp
  | some r => cases r <;> simp
theorem isB_valid {p : List Stmt} (h : isB p = true) : ∀ x ∈ p, (arS x).isSome = true := by
  obtain ⟨_, h1⟩ := isB_iff.1 h
  obtain ⟨q, hq, h2, _⟩ := goS_pre p 1 h1
  rw [List.append_nil] at hq
  subst hq
  exact h2
theorem impl_treeOf (p : List Stmt) : ∃ t, m_impl_treeOf p = some (t, isB p) ∧ (isB p = true → wfT 0 t ∧ fl t = p) := by
  unfold m_impl_treeOf
  by_cases h : p.length ≤ 30
  · rw [decide_eq_false (by omega), cond_false]
    obtain ⟨i1, i2⟩ := treeAt_ok (p := p) (by omega) 1000 0 (by omega) (by omega)
    rw [List.drop_zero] at i1 i2
    rw [show ((0 : Nat) : Int) = (0 : Int) from rfl] at i1 i2
    unfold isB
    rw [decide_eq_true h, Bool.true_and]
    cases hg : goS p 1 with
    | none => exact ⟨.nil, by rw [i2 hg]; rfl, fun h => by cases h⟩
    | some r =>
      obtain ⟨t, e, w, d⟩ := i1 r hg
      have := goS_len hg
      refine ⟨t, ?_, ?_⟩
      · rw [e, Option.bind_some]
        cases r with
        | nil => simp only [List.length_nil, Nat.sub_zero, decide_true, Bool.and_self]
        | cons x r => simp only [Bool.true_and]; rw [decide_eq_false (by simp at this; simp; omega)]
      · intro hh
        cases r with
        | nil => rw [List.append_nil] at d; exact ⟨w, d.symm⟩
        | cons x r => cases hh
  · refine ⟨.nil, ?_, fun hh => by have := (isB_iff.1 hh).1; omega⟩
    rw [decide_eq_true (by omega), cond_true]
    unfold isB
    rw [decide_eq_false h]; rfl
theorem impl_isB (p : List Stmt) : m_impl_IsBody p = some (isB p) := by
  obtain ⟨t, h, _⟩ := impl_treeOf p
  unfold m_impl_IsBody
  rw [h]; rfl
theorem spec_end_step {p : List Stmt} {k need : Nat} {x : Stmt} {a : Nat} (hx : p[k]? = some x) (ha : arS x = some a) (hl : p.length ≤ 1048576) (hn : need ≤ 1048576) :
    m_spec_l03End_L0 p ((k : Int), ((need + 1 : Nat) : Int)) = some (.next (((k + 1 : Nat) : Int), ((need + a : Nat) : Int))) := by
  have hk := get_lt hx
  have ha2 := ar_le ha
  unfold m_spec_l03End_L0
  simp only
  rw [decide_eq_true (by omega), cond_true, decide_eq_false (by omega), cond_false, XA hx, Option.bind_some, spec_below ha, Option.bind_some]
  have w1 : w64 ((k : Int) + 1) = ((k + 1 : Nat) : Int) := w64_succ (by omega)
  have w2 : w64 (((need + 1 : Nat) : Int) + w64 ((a : Int) - 1)) = ((need + a : Nat) : Int) := by
    rw [w64_eq (n := (a : Int) - 1) (by omega), w64_eq (by omega)]; omega
  rw [w1, w2]
theorem spec_end {p : List Stmt} (hl : p.length ≤ 1000) (hv : ∀ x ∈ p, (arS x).isSome = true) : ∀ (q k need : Nat), k + q = p.length → need + 2 * q ≤ 100000 →
    iter (m_spec_l03End_L0 p) ((k : Int), (need : Int)) = some (match goS (p.drop k) need with | some r => .inl ((p.length - r.length : Nat) : Int) | none => .inr (-1)) := by
  intro q
  induction q with
  | zero =>
    intro k need hk hn
    obtain rfl : k = p.length := by omega
    rw [List.drop_length]
    cases need with
    | zero => rw [goS_zero]; exact iter_out rfl
    | succ n =>
      exact iter_out (by unfold m_spec_l03End_L0; simp only; rw [decide_eq_true (by omega), cond_true, decide_true]; rfl)
  | succ q ih =>
    intro k need hk hn
    have hlt : k < p.length := by omega
    cases need with
    | zero =>
      rw [goS_zero, iter_out (t := .inl (k : Int)) rfl]
      simp only [List.length_drop]
      rw [show p.length - (p.length - k) = k by omega]
    | succ n =>
      obtain ⟨a, ha⟩ := Option.isSome_iff_exists.1 (hv _ (List.getElem_mem hlt))
      have ha2 := ar_le ha
      rw [iter_next (spec_end_step (List.getElem?_eq_getElem hlt) ha (by omega) (by omega)), ih (k + 1) (n + a) (by omega) (by omega), List.drop_eq_getElem_cons hlt]
      have e : goS (p[k] :: p.drop (k + 1)) (n + 1) = (arS p[k]).bind fun a => goS (p.drop (k + 1)) (n + a) := rfl
      rw [e, ha, Option.bind_some]
theorem spec_l03End {p : List Stmt} (hl : p.length ≤ 1000) (hv : ∀ x ∈ p, (arS x).isSome = true) {k : Nat} (hk : k ≤ p.length) :
    m_spec_l03End p (k : Int) = some (match goS (p.drop k) 1 with | some r => ((p.length - r.length : Nat) : Int) | none => -1) := by
  unfold m_spec_l03End
  rw [show (1 : Int) = ((1 : Nat) : Int) from rfl, spec_end hl hv (p.length - k) k 1 (by omega) (by omega), Option.bind_some]
  unfold m_spec_l03End_A0
  cases goS (p.drop k) 1 <;> rfl
def okProg (p : Program) : Bool := isB p.Body && okGiven p.Pre && okGiven p.Post
theorem impl_prog (p : Program) : m_impl_ValidProgram p = some (okProg p) := by
  unfold m_impl_ValidProgram okProg
  rw [impl_isB, Option.bind_some, impl_given, impl_given]
  cases isB p.Body <;> cases okGiven p.Pre <;> cases okGiven p.Post <;> rfl
end Go.Mod

namespace Go.Mod
open Go.AM
set_option linter.unusedVariables false
set_option linter.unusedSimpArgs false
theorem pc_StmtS_cons (x : Stmt) (b : List Stmt) : pc_StmtS (x :: b) = 1 + pc_Stmt x + pc_StmtS b := by
  unfold pc_StmtS; rw [List.length_cons, List.map_cons, List.sum_cons]; omega
theorem impl_ownStmt {x : Stmt} (h : pc_Stmt x ≤ 1048576) : m_impl_ownStmt x = some x := by
  unfold pc_Stmt pc_Term at h
  have e3 : pc_TermS x.Facts = cTermS x.Facts := rfl
  have e4 : pc_Int64S x.Sum.Coeffs = x.Sum.Coeffs.length := rfl
  have e5 : pc_Int64S x.Index.Coeffs = x.Index.Coeffs.length := rfl
  unfold m_impl_ownStmt
  rw [impl_own (by omega), Option.bind_some, impl_own (by omega), Option.bind_some, impl_ownTerms (by omega), Option.bind_some]
theorem spec_l02Own {t : Term} (h : t.Coeffs.length ≤ 1048576) : m_spec_l02Own t = some t := by
  unfold m_spec_l02Own; rw [spec_own h]; rfl
theorem spec_ownStmt {x : Stmt} (h : pc_Stmt x ≤ 1048576) : m_spec_l03OwnStmt x = some x := by
  unfold pc_Stmt pc_Term at h
  have e3 : pc_TermS x.Facts = cTermS x.Facts := rfl
  have e4 : pc_Int64S x.Sum.Coeffs = x.Sum.Coeffs.length := rfl
  have e5 : pc_Int64S x.Index.Coeffs = x.Index.Coeffs.length := rfl
  unfold m_spec_l03OwnStmt
  rw [spec_l02Own (by omega), Option.bind_some, spec_l02Own (by omega), Option.bind_some, spec_ownAll (by omega), Option.bind_some]
theorem over_len {t : Term} (h : over t = true) : t.Coeffs.length ≤ 4 := by
  unfold over at h; simp only [Bool.and_eq_true, decide_eq_true_eq] at h; exact h.2
theorem zT_len {t : Term} (h : zT t = true) : t.Coeffs.length ≤ 4 := by
  unfold zT at h; simp only [Bool.and_eq_true, decide_eq_true_eq] at h; omega
theorem sum_small : ∀ (ts : List Term), (∀ t ∈ ts, t.Coeffs.length ≤ 4) → (ts.map pc_Term).sum ≤ 4 * ts.length
  | [], _ => by simp
  | t :: ts, h => by
    have h1 := h t (by simp)
    have h2 := sum_small ts (fun u hu => h u (List.mem_cons_of_mem _ hu))
    have e : pc_Term t = t.Coeffs.length := rfl
    rw [List.map_cons, List.sum_cons, List.length_cons]; omega
theorem given_small {ts : List Term} (h : okGiven ts = true) : pc_TermS ts ≤ 30 := by
  unfold okGiven at h
  simp only [Bool.and_eq_true, List.all_eq_true, decide_eq_true_eq] at h
  have := sum_small ts (fun t ht => over_len (h.1 t ht))
  unfold pc_TermS; omega
theorem ar_small {x : Stmt} {n : Nat} (h : arS x = some n) : pc_Stmt x ≤ 40 := by
  have z : ∀ ts : List Term, ts.length = 0 → pc_TermS ts ≤ 30 := fun ts h => by
    have : ts = [] := List.eq_nil_of_length_eq_zero h
    subst this; decide
  have key : ∀ (a b c : Nat), a ≤ 4 → b ≤ 4 → c ≤ 30 → a + b + c ≤ 40 := fun a b c _ _ _ => by omega
  have e1 : pc_Term x.Sum = x.Sum.Coeffs.length := rfl
  have e2 : pc_Term x.Index = x.Index.Coeffs.length := rfl
  unfold pc_Stmt
  rw [e1, e2]
  unfold arS at h
  simp only [Bool.cond_eq_ite, Bool.and_eq_true, decide_eq_true_eq] at h
  repeat' split at h
  all_goals first
    | cases h; done
    | (rename_i hh; obtain ⟨⟨⟨_, h1⟩, h2⟩, h3⟩ := hh
       exact key _ _ _ (by first | exact over_len h1 | exact zT_len h1) (by first | exact over_len h2 | exact zT_len h2) (by first | exact z _ h3 | exact given_small h3))
theorem body_small : ∀ (p : List Stmt), (∀ x ∈ p, (arS x).isSome = true) → pc_StmtS p ≤ 41 * p.length
  | [], _ => by decide
  | x :: p, h => by
    obtain ⟨n, hn⟩ := Option.isSome_iff_exists.1 (h x (by simp))
    have h1 := ar_small hn
    have h2 := body_small p (fun y hy => h y (List.mem_cons_of_mem _ hy))
    rw [pc_StmtS_cons, List.length_cons]; omega
theorem isB_small {p : List Stmt} (h : isB p = true) : pc_StmtS p ≤ 1230 := by
  have h1 := body_small p (isB_valid h)
  have h2 := (isB_iff.1 h).1
  omega
theorem isB_len {p : List Stmt} (h : isB p = true) : p.length ≤ 30 := (isB_iff.1 h).1
theorem okProg_body {p : Program} (h : okProg p = true) : isB p.Body = true := by
  unfold okProg at h; simp only [Bool.and_eq_true] at h; exact h.1.1
end Go.Mod

namespace Go.Mod
open Go.AM
set_option linter.unusedVariables false
set_option linter.unusedSimpArgs false
def evL (vs : List Int) : Nat → List Int → Int → Int
  | _, [], a => a
  | n, c :: r, a => evL vs (n + 1) r (w64 (a + w64 (c * vs.getD n 0)))
def evT (t : Term) (vs : List Int) : Int := evL vs 0 t.Coeffs t.Const
theorem ev_loop {vs : List Int} : ∀ (cs : List Int) (n : Nat) (a : Int), n + cs.length ≤ vs.length → forL (m_impl_Term_eval_L0 vs) (fun s0 => s0) n cs a = some (evL vs n cs a)
  | [], n, a, h => by unfold forL evL; rfl
  | c :: r, n, a, h => by
    simp only [List.length_cons] at h
    have hn : n < vs.length := by omega
    unfold forL evL
    have st : m_impl_Term_eval_L0 vs n c a = some (.next (w64 (a + w64 (c * vs.getD n 0)))) := by
      unfold m_impl_Term_eval_L0
      rw [XA (List.getElem?_eq_getElem hn), Option.bind_some, List.getD_eq_getElem?_getD, List.getElem?_eq_getElem hn]; rfl
    rw [st]
    exact ev_loop r (n + 1) _ (by omega)
theorem impl_eval {t : Term} {vs : List Int} (h : over t = true) (hv : vs.length = 4) : m_impl_Term_eval t vs = some (evT t vs) := by
  have h2 := over_len h
  unfold m_impl_Term_eval
  rw [ev_loop t.Coeffs 0 t.Const (by omega), Option.bind_some]; rfl
theorem ar_terms {x : Stmt} {n : Nat} (h : arS x = some n) : over x.Sum = true ∧ over x.Index = true := by
  unfold arS at h
  simp only [Bool.cond_eq_ite, Bool.and_eq_true, decide_eq_true_eq] at h
  repeat' split at h
  all_goals first
    | cases h; done
    | (rename_i hh; obtain ⟨⟨⟨_, h1⟩, h2⟩, h3⟩ := hh
       exact ⟨by first | exact h1 | exact zT_over h1, by first | exact h2 | exact zT_over h2⟩)
theorem ar_var {x : Stmt} {n : Nat} (h : arS x = some n) : 0 ≤ x.Var ∧ x.Var ≤ 3 := by
  unfold arS i4 at h
  simp only [Bool.cond_eq_ite, Bool.and_eq_true, decide_eq_true_eq] at h
  repeat' split at h
  all_goals first
    | cases h; done
    | (rename_i hh; obtain ⟨⟨⟨⟨h0, _⟩, h1⟩, h2⟩, h3⟩ := hh; omega)
def running.vs (s : running) : List Int := s.state.Vars
def running.cs (s : running) : List Int := s.state.Cells
def tick (s : running) : running := running.mk s.state s.events s.fuel (s.steps + 1) s.out
def halt (s : running) (o : Int) : running := running.mk s.state s.events s.fuel s.steps o
def inCell (n : Int) : Bool := decide (0 ≤ n) && decide (n ≤ 7)
def inInt (n : Int) : Bool := decide (-1000000000 ≤ n) && decide (n ≤ 1000000000)
def act (x : Stmt) (s : running) : Bool × running :=
  bif (decide (x.Kind = 3) || decide (x.Kind = 4)) && !inCell (evT x.Index s.state.Vars) then (false, halt s 2)
  else bif (decide (x.Kind = 2) || decide (x.Kind = 4)) && !inInt (evT x.Sum s.state.Vars) then (false, halt s 4)
  else bif decide (x.Kind = 2) then (true, running.mk ⟨s.state.Vars.set x.Var.toNat (evT x.Sum s.state.Vars), s.state.Cells⟩ s.events s.fuel s.steps s.out)
  else bif decide (x.Kind = 3) then (true, running.mk ⟨s.state.Vars.set x.Var.toNat (s.state.Cells.getD (evT x.Index s.state.Vars).toNat 0), s.state.Cells⟩ s.events s.fuel s.steps s.out)
  else bif decide (x.Kind = 4) then (true, running.mk ⟨s.state.Vars, s.state.Cells.set (evT x.Index s.state.Vars).toNat (evT x.Sum s.state.Vars)⟩ s.events s.fuel s.steps s.out)
  else bif decide (x.Kind = 5) then (true, running.mk s.state (s.events ++ [x.Event]) s.fuel s.steps s.out)
  else bif decide (x.Kind = 6) && decide (evT x.Sum s.state.Vars < 0) then (false, halt s 3)
  else (true, s)
inductive Run : Ptree → running → Bool → running → Prop
  | seqT {x a l r s s1 s2 b} : x.Kind = 1 → Run l s true s1 → Run r s1 b s2 → Run (.mk x a [l, r]) s b s2
  | seqF {x a l r s s1} : x.Kind = 1 → Run l s false s1 → Run (.mk x a [l, r]) s false s1
  | stop {x a ks s} : x.Kind ≠ 1 → s.steps = s.fuel → Run (.mk x a ks) s false (halt s 1)
  | act {x a ks s} : x.Kind ≠ 1 → x.Kind ≠ 7 → x.Kind ≠ 8 → s.steps ≠ s.fuel → Run (.mk x a ks) s (act x (tick s)).1 (act x (tick s)).2
  | ifT {x a l r s b s'} : x.Kind = 7 → s.steps ≠ s.fuel → 0 ≤ evT x.Sum s.state.Vars → Run l (tick s) b s' → Run (.mk x a [l, r]) s b s'
  | ifF {x a l r s b s'} : x.Kind = 7 → s.steps ≠ s.fuel → ¬ 0 ≤ evT x.Sum s.state.Vars → Run r (tick s) b s' → Run (.mk x a [l, r]) s b s'
  | whE {x a l s} : x.Kind = 8 → s.steps ≠ s.fuel → ¬ 0 ≤ evT x.Sum s.state.Vars → Run (.mk x a [l]) s true (tick s)
  | whF {x a l s s'} : x.Kind = 8 → s.steps ≠ s.fuel → 0 ≤ evT x.Sum s.state.Vars → Run l (tick s) false s' → Run (.mk x a [l]) s false s'
  | whT {x a l s s1 b s2} : x.Kind = 8 → s.steps ≠ s.fuel → 0 ≤ evT x.Sum s.state.Vars → Run l (tick s) true s1 → Run (.mk x a [l]) s1 b s2 → Run (.mk x a [l]) s b s2
structure Vr (s : running) : Prop where
  vs : s.state.Vars.length = 4
  cs : s.state.Cells.length = 8
  s0 : 0 ≤ s.steps
  s1 : s.steps ≤ s.fuel
  f : s.fuel ≤ 2000
  ev : (s.events.length : Int) ≤ s.steps
theorem Vr.tick {s : running} (h : Vr s) (hn : s.steps ≠ s.fuel) : Vr (tick s) :=
  ⟨h.vs, h.cs, by have := h.s0; show 0 ≤ s.steps + 1; omega, by have := h.s1; show s.steps + 1 ≤ s.fuel; omega, h.f, by have := h.ev; show (s.events.length : Int) ≤ s.steps + 1; omega⟩
theorem act_keep (x : Stmt) (s : running) : (act x s).2.fuel = s.fuel ∧ (act x s).2.steps = s.steps ∧ (act x s).2.state.Vars.length = s.state.Vars.length ∧ (act x s).2.state.Cells.length = s.state.Cells.length ∧ (act x s).2.events.length ≤ s.events.length + 1 := by
  unfold act
  simp only [Bool.cond_eq_ite]
  repeat' split
  all_goals simp [halt]
theorem act_vr {x : Stmt} {s : running} (h : Vr s) (hn : s.steps ≠ s.fuel) : Vr (act x (Go.Mod.tick s)).2 := by
  have ht := h.tick hn
  obtain ⟨h1, h2, h3, h4, h5⟩ := act_keep x (Go.Mod.tick s)
  refine ⟨by rw [h3]; exact ht.vs, by rw [h4]; exact ht.cs, by rw [h2]; exact ht.s0, by rw [h1, h2]; exact ht.s1, by rw [h1]; exact ht.f, ?_⟩
  rw [h2]
  have h6 := h.ev
  have e1 : (Go.Mod.tick s).events.length = s.events.length := rfl
  have e2 : (Go.Mod.tick s).steps = s.steps + 1 := rfl
  rw [e1] at h5
  rw [e2]; omega
theorem Run.keep {t : Ptree} {s s' : running} {b : Bool} (h : Run t s b s') : Vr s → Vr s' ∧ s'.fuel = s.fuel ∧ s.steps ≤ s'.steps := by
  induction h with
  | seqT _ _ _ ih1 ih2 => intro v; obtain ⟨a1, a2, a3⟩ := ih1 v; obtain ⟨b1, b2, b3⟩ := ih2 a1; exact ⟨b1, b2.trans a2, Int.le_trans a3 b3⟩
  | seqF _ _ ih => exact ih
  | stop _ _ => intro v; exact ⟨⟨v.vs, v.cs, v.s0, v.s1, v.f, v.ev⟩, rfl, Int.le_refl _⟩
  | @act x a ks s _ _ _ hn =>
    intro v
    obtain ⟨h1, h2, _⟩ := act_keep x (tick s)
    exact ⟨act_vr v hn, h1, by rw [h2]; show s.steps ≤ s.steps + 1; omega⟩
  | @ifT x a l r s b s' _ hn _ _ ih => intro v; obtain ⟨a1, a2, a3⟩ := ih (v.tick hn); exact ⟨a1, a2, Int.le_trans (show s.steps ≤ s.steps + 1 by omega) a3⟩
  | @ifF x a l r s b s' _ hn _ _ ih => intro v; obtain ⟨a1, a2, a3⟩ := ih (v.tick hn); exact ⟨a1, a2, Int.le_trans (show s.steps ≤ s.steps + 1 by omega) a3⟩
  | @whE x a l s _ hn _ => intro v; exact ⟨v.tick hn, rfl, show s.steps ≤ s.steps + 1 by omega⟩
  | @whF x a l s s' _ hn _ _ ih => intro v; obtain ⟨a1, a2, a3⟩ := ih (v.tick hn); exact ⟨a1, a2, Int.le_trans (show s.steps ≤ s.steps + 1 by omega) a3⟩
  | @whT x a l s s1 b s2 _ hn _ _ _ ih1 ih2 =>
    intro v
    obtain ⟨a1, a2, a3⟩ := ih1 (v.tick hn)
    obtain ⟨b1, b2, b3⟩ := ih2 a1
    exact ⟨b1, b2.trans a2, Int.le_trans (Int.le_trans (show s.steps ≤ s.steps + 1 by omega) a3) b3⟩
mutual
def tsz : Ptree → Nat
  | .nil => 0
  | .mk _ _ ks => 1 + tszL ks
def tszL : List Ptree → Nat
  | [] => 0
  | t :: ts => tsz t + tszL ts
end
theorem two {ks : List Ptree} (h : 2 = ks.length) : ∃ l r, ks = [l, r] := by
  match ks, h with
  | [l, r], _ => exact ⟨l, r, rfl⟩
theorem one' {ks : List Ptree} (h : 1 = ks.length) : ∃ l, ks = [l] := by
  match ks, h with
  | [l], _ => exact ⟨l, rfl⟩
theorem run_ex : ∀ (n m : Nat) (t : Ptree) (s : running), tsz t ≤ m → okT t → Vr s → (s.fuel - s.steps).toNat ≤ n → ∃ b s', Run t s b s' := by
  intro n
  induction n using Nat.strongRecOn with
  | _ n ihn =>
  intro m
  induction m with
  | zero =>
    intro t s hm ht
    cases t with
    | nil => unfold okT at ht; exact ht.elim
    | mk x a ks => unfold tsz at hm; omega
  | succ m ihm =>
    intro t s hm ht v hn
    cases t with
    | nil => unfold okT at ht; exact ht.elim
    | mk x a ks =>
    have ht0 := ht
    unfold okT at ht
    obtain ⟨ha, hk⟩ := ht
    unfold tsz at hm
    have less : ∀ (t' : Ptree) (s' : running), okT t' → Vr s' → s'.fuel = s.fuel → s.steps + 1 ≤ s'.steps → ∃ b s'', Run t' s' b s'' := by
      intro t' s' h1 h2 h3 h4
      have := h2.s1
      exact ihn ((s'.fuel - s'.steps).toNat) (by omega) (tsz t') t' s' (Nat.le_refl _) h1 h2 (Nat.le_refl _)
    by_cases h1 : x.Kind = 1
    · obtain ⟨l, r, rfl⟩ := two (ks := ks) (by rcases ar_kind ha with h | h | h | h | h | h | h | h | h <;> omega)
      unfold okL at hk
      have hk2 := hk.2
      unfold okL at hk2
      have e : tszL [l, r] = tsz l + tsz r := by unfold tszL; unfold tszL; rw [show tszL [] = 0 from rfl, Nat.add_zero]
      obtain ⟨b, s1, r1⟩ := ihm l s (by omega) hk.1 v hn
      cases b with
      | false => exact ⟨_, _, .seqF h1 r1⟩
      | true =>
        obtain ⟨v1, f1, g1⟩ := r1.keep v
        obtain ⟨b2, s2, r2⟩ := ihm r s1 (by omega) hk2.1 v1 (by omega)
        exact ⟨_, _, .seqT h1 r1 r2⟩
    · by_cases hf : s.steps = s.fuel
      · exact ⟨_, _, .stop h1 hf⟩
      · have vt := v.tick hf
        by_cases h7 : x.Kind = 7
        · obtain ⟨l, r, rfl⟩ := two (ks := ks) (by rcases ar_kind ha with h | h | h | h | h | h | h | h | h <;> omega)
          unfold okL at hk
          have hk2 := hk.2
          unfold okL at hk2
          by_cases hs : 0 ≤ evT x.Sum s.state.Vars
          · obtain ⟨b, s1, r1⟩ := less l (tick s) hk.1 vt rfl (Int.le_refl _)
            exact ⟨_, _, .ifT h7 hf hs r1⟩
          · obtain ⟨b, s1, r1⟩ := less r (tick s) hk2.1 vt rfl (Int.le_refl _)
            exact ⟨_, _, .ifF h7 hf hs r1⟩
        · by_cases h8 : x.Kind = 8
          · obtain ⟨l, rfl⟩ := one' (ks := ks) (by rcases ar_kind ha with h | h | h | h | h | h | h | h | h <;> omega)
            unfold okL at hk
            by_cases hs : 0 ≤ evT x.Sum s.state.Vars
            · obtain ⟨b, s1, r1⟩ := less l (tick s) hk.1 vt rfl (Int.le_refl _)
              cases b with
              | false => exact ⟨_, _, .whF h8 hf hs r1⟩
              | true =>
                obtain ⟨v1, f1, g1⟩ := r1.keep vt
                obtain ⟨b2, s2, r2⟩ := less _ s1 ht0 v1 f1 g1
                exact ⟨_, _, .whT h8 hf hs r1 r2⟩
            · exact ⟨_, _, .whE h8 hf hs⟩
          · exact ⟨_, _, .act h1 h7 h8 hf⟩
end Go.Mod

namespace Go.Mod
open Go.AM
set_option linter.unusedVariables false
set_option linter.unusedSimpArgs false
theorem impl_step {s : running} (v : Vr s) : m_impl_running_step s = some (bif decide (s.steps = s.fuel) then (false, halt s 1) else (true, tick s)) := by
  unfold m_impl_running_step
  have e : w64 (s.steps + 1) = s.steps + 1 := w64_eq ⟨by have := v.s0; omega, by have := v.s1; have := v.f; omega⟩
  rw [e]
  cases decide (s.steps = s.fuel) <;> rfl
def tup (s : running) : (List Int) × (List Int) × (List Int) × Int × Int × Int := (s.state.Vars, s.state.Cells, s.events, s.fuel, s.steps, s.out)
theorem J0_other {rec : running → Ptree → Option (Bool × running)} {x : Stmt} {a : Int} {ks : List Ptree} {s : running} (ho : over x.Sum = true ∧ over x.Index = true) (hv : s.state.Vars.length = 4) (h1 : x.Kind ≠ 1) :
    Xe rec (.mk x a ks) (tup s) = Q1 rec (.mk x a ks) (tup s) (evT x.Sum s.state.Vars, evT x.Index s.state.Vars) := by
  unfold Xe tup
  rw [show XE (.mk x a ks) = some (tree.mk x a ks) from rfl, Option.bind_some]
  simp only
  rw [decide_eq_false h1, Bool.not_false, cond_true, impl_eval ho.1 hv, Option.bind_some, impl_eval ho.2 hv, Option.bind_some]
theorem run_unfold {n : Nat} {x : Stmt} {a : Int} {ks : List Ptree} {s : running} :
    Xx (n + 1) s (.mk x a ks) = bif (!decide (x.Kind = 1)) && (!decide (x.Kind = 8)) then
      (m_impl_running_step s).bind fun r => bif !r.1 then some (false, r.2) else Xe (Xx n) (.mk x a ks) (tup r.2)
    else Xe (Xx n) (.mk x a ks) (tup s) := rfl
theorem J3_while {rec : running → Ptree → Option (Bool × running)} {x : Stmt} {a : Int} {ks : List Ptree} {s : running} {j : Int × Int} (h : x.Kind = 8) :
    Q1 rec (.mk x a ks) (tup s) j = (iter (Xj rec (tree.mk x a ks)) (tup s)).bind m_impl_running_run_F_A0 := by
  unfold Q1
  rw [show XE (.mk x a ks) = some (tree.mk x a ks) from rfl, Option.bind_some]
  simp only [h, Int.reduceEq, decide_false, Bool.or_self, cond_false]
  unfold Q5
  rw [show XE (.mk x a ks) = some (tree.mk x a ks) from rfl, Option.bind_some]
  simp only [h, Int.reduceEq, decide_false, Bool.or_self, cond_false]
  unfold Q6
  rw [show XE (.mk x a ks) = some (tree.mk x a ks) from rfl, Option.bind_some]
  simp only [h, Int.reduceEq, decide_false, decide_true, cond_false, cond_true]
theorem while_unfold {n : Nat} {x : Stmt} {a : Int} {ks : List Ptree} {s : running} (ho : over x.Sum = true ∧ over x.Index = true) (hv : s.state.Vars.length = 4) (h : x.Kind = 8) :
    Xx (n + 1) s (.mk x a ks) = (iter (Xj (Xx n) (tree.mk x a ks)) (tup s)).bind m_impl_running_run_F_A0 := by
  rw [run_unfold]
  have h1 : x.Kind ≠ 1 := by omega
  rw [decide_eq_true h, Bool.not_true, Bool.and_false, cond_false, J0_other ho hv h1, J3_while h]
theorem run_tup (s : running) : running.mk (State.mk (tup s).1 (tup s).2.1) (tup s).2.2.1 (tup s).2.2.2.1 (tup s).2.2.2.2.1 (tup s).2.2.2.2.2 = s := rfl
theorem J1_act {rec : running → Ptree → Option (Bool × running)} {x : Stmt} {a : Int} {ks : List Ptree} {s : running} {m : Nat} (ha : arS x = some m) (v : Vr s) (h1 : x.Kind ≠ 1) (h7 : x.Kind ≠ 7) (h8 : x.Kind ≠ 8) :
    Q1 rec (.mk x a ks) (tup s) (evT x.Sum s.state.Vars, evT x.Index s.state.Vars) = some (act x s) := by
  have hvar := ar_var ha
  have hvs := v.vs
  have hcs := v.cs
  have hev : s.events.length ≤ 2000 := by have := v.ev; have := v.s1; have := v.f; omega
  have gv : getI s.state.Vars x.Var = some (s.state.Vars[x.Var.toNat]'(by omega)) := by
    have := XA (xs := s.state.Vars) (n := x.Var.toNat) (List.getElem?_eq_getElem (by omega))
    rw [Int.toNat_of_nonneg hvar.1] at this; exact this
  unfold Q1
  rw [show XE (.mk x a ks) = some (tree.mk x a ks) from rfl, Option.bind_some]
  unfold act
  generalize evT x.Sum s.state.Vars = n
  generalize evT x.Index s.state.Vars = i
  simp only [show ∀ z, m_impl_within z 0 7 = some (inCell z) from fun _ => rfl, Option.bind_some]
  have hJ2 : (inCell i = true ∨ (x.Kind ≠ 3 ∧ x.Kind ≠ 4)) → Q5 rec (.mk x a ks) (tup s) (n, i) () =
      some (bif (decide (x.Kind = 2) || decide (x.Kind = 4)) && !inInt n then (false, halt s 4)
        else bif decide (x.Kind = 2) then (true, running.mk ⟨s.state.Vars.set x.Var.toNat n, s.state.Cells⟩ s.events s.fuel s.steps s.out)
        else bif decide (x.Kind = 3) then (true, running.mk ⟨s.state.Vars.set x.Var.toNat (s.state.Cells.getD i.toNat 0), s.state.Cells⟩ s.events s.fuel s.steps s.out)
        else bif decide (x.Kind = 4) then (true, running.mk ⟨s.state.Vars, s.state.Cells.set i.toNat n⟩ s.events s.fuel s.steps s.out)
        else bif decide (x.Kind = 5) then (true, running.mk s.state (s.events ++ [x.Event]) s.fuel s.steps s.out)
        else bif decide (x.Kind = 6) && decide (n < 0) then (false, halt s 3)
        else (true, s)) := by
    intro hc
    have gc : inCell i = true → getI s.state.Cells i = some (s.state.Cells.getD i.toNat 0) := by
      intro hi
      unfold inCell at hi
      simp only [Bool.and_eq_true, decide_eq_true_eq] at hi
      have hl : i.toNat < s.state.Cells.length := by omega
      have := XA (xs := s.state.Cells) (n := i.toNat) (List.getElem?_eq_getElem hl)
      rw [Int.toNat_of_nonneg hi.1] at this
      rw [this, List.getD_eq_getElem?_getD, List.getElem?_eq_getElem hl]; rfl
    unfold Q5
    rw [show XE (.mk x a ks) = some (tree.mk x a ks) from rfl, Option.bind_some]
    simp only [show ∀ z, m_impl_isInt z = some (inInt z) from fun _ => rfl, Option.bind_some]
    have hJ3 : Q6 rec (.mk x a ks) (tup s) (n, i) () =
      some (bif decide (x.Kind = 2) then (true, running.mk ⟨s.state.Vars.set x.Var.toNat n, s.state.Cells⟩ s.events s.fuel s.steps s.out)
        else bif decide (x.Kind = 3) then (true, running.mk ⟨s.state.Vars.set x.Var.toNat (s.state.Cells.getD i.toNat 0), s.state.Cells⟩ s.events s.fuel s.steps s.out)
        else bif decide (x.Kind = 4) then (true, running.mk ⟨s.state.Vars, s.state.Cells.set i.toNat n⟩ s.events s.fuel s.steps s.out)
        else bif decide (x.Kind = 5) then (true, running.mk s.state (s.events ++ [x.Event]) s.fuel s.steps s.out)
        else bif decide (x.Kind = 6) && decide (n < 0) then (false, halt s 3)
        else (true, s)) := by
      unfold Q6 tup
      rw [show XE (.mk x a ks) = some (tree.mk x a ks) from rfl, Option.bind_some]
      simp only [decide_eq_false h1, decide_eq_false h7, decide_eq_false h8, cond_false]
      by_cases k2 : x.Kind = 2
      · simp only [k2, decide_true, cond_true, gv, Option.bind_some]
      · simp only [decide_eq_false k2, cond_false]
        by_cases k3 : x.Kind = 3
        · have hi : inCell i = true := by rcases hc with h | h; exact h; exact absurd k3 h.1
          simp only [k3, decide_true, cond_true, gc hi, gv, Option.bind_some]
        · simp only [decide_eq_false k3, cond_false]
          by_cases k4 : x.Kind = 4
          · have hi : inCell i = true := by rcases hc with h | h; exact h; exact absurd k4 h.2
            simp only [k4, decide_true, cond_true, gc hi, Option.bind_some]
          · simp only [decide_eq_false k4, cond_false]
            by_cases k5 : x.Kind = 5
            · simp only [k5, decide_true, cond_true]
              rw [Xr (by simp; omega), Option.bind_some]
            · simp only [decide_eq_false k5, cond_false]
              cases decide (x.Kind = 6) with
              | true => simp only [cond_true, Bool.true_and]; cases decide (n < 0) <;> rfl
              | false => rfl
    cases hk : decide (x.Kind = 2) || decide (x.Kind = 4) with
    | true =>
      rw [cond_true]
      cases hi : inInt n with
      | false => rfl
      | true => rw [Bool.not_true, cond_false, hJ3, Bool.and_false, cond_false]
    | false => rw [cond_false, hJ3, Bool.false_and, cond_false]
  cases hk : decide (x.Kind = 3) || decide (x.Kind = 4) with
  | true =>
    rw [cond_true]
    cases hi : inCell i with
    | false => rfl
    | true => rw [Bool.not_true, cond_false, hJ2 (.inl hi), Bool.and_false, cond_false]
  | false =>
    rw [cond_false, hJ2 (.inr (by simp only [Bool.or_eq_false_iff, decide_eq_false_iff_not] at hk; exact hk)), Bool.false_and, cond_false]
mutual
def dp : Ptree → Nat
  | .nil => 0
  | .mk _ _ ks => 1 + dpL ks
def dpL : List Ptree → Nat
  | [] => 0
  | t :: ts => max (dp t) (dpL ts)
end
mutual
theorem dp_le : ∀ t : Ptree, dp t ≤ (fl t).length
  | .nil => by unfold dp; omega
  | .mk x a ks => by unfold dp fl; rw [List.length_cons]; have := dpL_le ks; omega
theorem dpL_le : ∀ ts : List Ptree, dpL ts ≤ (flL ts).length
  | [] => by unfold dpL; omega
  | t :: ts => by unfold dpL flL; rw [List.length_append]; have := dp_le t; have := dpL_le ts; omega
end
theorem run_impl {t : Ptree} {s s' : running} {b : Bool} (h : Run t s b s') : ∀ n, dp t ≤ n → okT t → Vr s → Xx n s t = some (b, s') := by
  induction h with
  | @seqT x a l r s s1 s2 b hk h1 h2 ih1 ih2 =>
    intro n hn ht v
    cases n with
    | zero => unfold dp at hn; omega
    | succ n =>
    unfold dp dpL at hn
    have e : dpL [r] = dp r := by unfold dpL; rw [show dpL [] = 0 from rfl, Nat.max_zero]
    rw [e] at hn
    unfold okT okL at ht
    have ht2 := ht.2.2
    unfold okL at ht2
    have q1 := ih1 n (by omega) ht.2.1 v
    have q2 := ih2 n (by omega) ht2.1 (h1.keep v).1
    rw [run_unfold, decide_eq_true hk, Bool.not_true, Bool.false_and, cond_false]
    unfold Xe tup
    rw [show XE (.mk x a [l, r]) = some (tree.mk x a [l, r]) from rfl, Option.bind_some]
    simp only [hk, decide_true, Bool.not_true, cond_false]
    unfold Q1
    rw [show XE (.mk x a [l, r]) = some (tree.mk x a [l, r]) from rfl, Option.bind_some]
    simp only [hk, Int.reduceEq, decide_false, Bool.or_self, cond_false]
    unfold Q5
    rw [show XE (.mk x a [l, r]) = some (tree.mk x a [l, r]) from rfl, Option.bind_some]
    simp only [hk, Int.reduceEq, decide_false, Bool.or_self, cond_false]
    unfold Q6
    rw [show XE (.mk x a [l, r]) = some (tree.mk x a [l, r]) from rfl, Option.bind_some]
    simp only [hk, decide_true, cond_true]
    rw [show getI [l, r] (0 : Int) = some l from rfl, Option.bind_some, q1, Option.bind_some, cond_true, show getI [l, r] (1 : Int) = some r from rfl, Option.bind_some, q2, Option.bind_some]
  | @seqF x a l r s s1 hk h1 ih1 =>
    intro n hn ht v
    cases n with
    | zero => unfold dp at hn; omega
    | succ n =>
    unfold dp dpL at hn
    unfold okT okL at ht
    have q1 := ih1 n (by omega) ht.2.1 v
    rw [run_unfold, decide_eq_true hk, Bool.not_true, Bool.false_and, cond_false]
    unfold Xe tup
    rw [show XE (.mk x a [l, r]) = some (tree.mk x a [l, r]) from rfl, Option.bind_some]
    simp only [hk, decide_true, Bool.not_true, cond_false]
    unfold Q1
    rw [show XE (.mk x a [l, r]) = some (tree.mk x a [l, r]) from rfl, Option.bind_some]
    simp only [hk, Int.reduceEq, decide_false, Bool.or_self, cond_false]
    unfold Q5
    rw [show XE (.mk x a [l, r]) = some (tree.mk x a [l, r]) from rfl, Option.bind_some]
    simp only [hk, Int.reduceEq, decide_false, Bool.or_self, cond_false]
    unfold Q6
    rw [show XE (.mk x a [l, r]) = some (tree.mk x a [l, r]) from rfl, Option.bind_some]
    simp only [hk, decide_true, cond_true]
    rw [show getI [l, r] (0 : Int) = some l from rfl, Option.bind_some, q1, Option.bind_some]
    rfl
  | @stop x a ks s h1 hf =>
    intro n hn ht v
    cases n with
    | zero => unfold dp at hn; omega
    | succ n =>
    unfold okT at ht
    have ho := ar_terms ht.1
    by_cases h8 : x.Kind = 8
    · rw [while_unfold ho v.vs h8, iter_out (t := .inl (tup (halt s 1)))]
      · rfl
      · unfold Xj
        rw [run_tup, impl_step v, decide_eq_true hf]; rfl
    · rw [run_unfold, decide_eq_false h1, decide_eq_false h8, Bool.not_false, Bool.and_self, cond_true, impl_step v, decide_eq_true hf]; rfl
  | @act x a ks s h1 h7 h8 hf =>
    intro n hn ht v
    cases n with
    | zero => unfold dp at hn; omega
    | succ n =>
    unfold okT at ht
    have ho := ar_terms ht.1
    have vt := v.tick hf
    rw [run_unfold, decide_eq_false h1, decide_eq_false h8, Bool.not_false, Bool.and_self, cond_true, impl_step v, decide_eq_false hf, cond_false, Option.bind_some]
    simp only [Bool.not_true, cond_false]
    rw [J0_other ho vt.vs h1, J1_act ht.1 vt h1 h7 h8]
  | @ifT x a l r s b s' hk hf hs h1 ih =>
    intro n hn ht v
    cases n with
    | zero => unfold dp at hn; omega
    | succ n =>
    unfold dp dpL at hn
    unfold okT okL at ht
    have ho := ar_terms ht.1
    have vt := v.tick hf
    have q1 := ih n (by omega) ht.2.1 vt
    have k1 : x.Kind ≠ 1 := by omega
    have k8 : x.Kind ≠ 8 := by omega
    rw [run_unfold, decide_eq_false k1, decide_eq_false k8, Bool.not_false, Bool.and_self, cond_true, impl_step v, decide_eq_false hf, cond_false, Option.bind_some]
    simp only [Bool.not_true, cond_false]
    rw [J0_other ho vt.vs k1]
    unfold Q1
    rw [show XE (.mk x a [l, r]) = some (tree.mk x a [l, r]) from rfl, Option.bind_some]
    simp only [hk, Int.reduceEq, decide_false, Bool.or_self, cond_false]
    unfold Q5
    rw [show XE (.mk x a [l, r]) = some (tree.mk x a [l, r]) from rfl, Option.bind_some]
    simp only [hk, Int.reduceEq, decide_false, Bool.or_self, cond_false]
    unfold Q6
    rw [show XE (.mk x a [l, r]) = some (tree.mk x a [l, r]) from rfl, Option.bind_some]
    simp only [hk, Int.reduceEq, decide_false, decide_true, cond_true, cond_false]
    rw [decide_eq_true (p := 0 ≤ evT x.Sum (tick s).state.Vars) hs, cond_true, show getI [l, r] (0 : Int) = some l from rfl, Option.bind_some, run_tup, q1, Option.bind_some]
  | @ifF x a l r s b s' hk hf hs h1 ih =>
    intro n hn ht v
    cases n with
    | zero => unfold dp at hn; omega
    | succ n =>
    unfold dp dpL at hn
    have e : dpL [r] = dp r := by unfold dpL; rw [show dpL [] = 0 from rfl, Nat.max_zero]
    rw [e] at hn
    unfold okT okL at ht
    have ht2 := ht.2.2
    unfold okL at ht2
    have ho := ar_terms ht.1
    have vt := v.tick hf
    have q1 := ih n (by omega) ht2.1 vt
    have k1 : x.Kind ≠ 1 := by omega
    have k8 : x.Kind ≠ 8 := by omega
    rw [run_unfold, decide_eq_false k1, decide_eq_false k8, Bool.not_false, Bool.and_self, cond_true, impl_step v, decide_eq_false hf, cond_false, Option.bind_some]
    simp only [Bool.not_true, cond_false]
    rw [J0_other ho vt.vs k1]
    unfold Q1
    rw [show XE (.mk x a [l, r]) = some (tree.mk x a [l, r]) from rfl, Option.bind_some]
    simp only [hk, Int.reduceEq, decide_false, Bool.or_self, cond_false]
    unfold Q5
    rw [show XE (.mk x a [l, r]) = some (tree.mk x a [l, r]) from rfl, Option.bind_some]
    simp only [hk, Int.reduceEq, decide_false, Bool.or_self, cond_false]
    unfold Q6
    rw [show XE (.mk x a [l, r]) = some (tree.mk x a [l, r]) from rfl, Option.bind_some]
    simp only [hk, Int.reduceEq, decide_false, decide_true, cond_true, cond_false]
    rw [decide_eq_false (p := 0 ≤ evT x.Sum (tick s).state.Vars) hs, cond_false, show getI [l, r] (1 : Int) = some r from rfl, Option.bind_some, run_tup, q1, Option.bind_some]
  | @whE x a l s hk hf hs =>
    intro n hn ht v
    cases n with
    | zero => unfold dp at hn; omega
    | succ n =>
    unfold okT at ht
    have ho := ar_terms ht.1
    have vt := v.tick hf
    rw [while_unfold ho v.vs hk, iter_out (t := .inr (true, tup (tick s)))]
    · rfl
    · unfold Xj
      rw [run_tup, impl_step v, decide_eq_false hf, cond_false, Option.bind_some]
      simp only [cond_true]
      rw [impl_eval ho.1 vt.vs, Option.bind_some, decide_eq_true (show evT x.Sum (tick s).state.Vars < 0 from Int.not_le.1 hs)]
      rfl
  | @whF x a l s s' hk hf hs h1 ih =>
    intro n hn ht v
    cases n with
    | zero => unfold dp at hn; omega
    | succ n =>
    unfold dp dpL at hn
    unfold okT okL at ht
    have ho := ar_terms ht.1
    have vt := v.tick hf
    have q1 := ih n (by omega) ht.2.1 vt
    rw [while_unfold ho v.vs hk, iter_out (t := .inr (false, tup s'))]
    · rfl
    · unfold Xj
      rw [run_tup, impl_step v, decide_eq_false hf, cond_false, Option.bind_some]
      simp only [cond_true]
      rw [impl_eval ho.1 vt.vs, Option.bind_some, decide_eq_false (show ¬ evT x.Sum (tick s).state.Vars < 0 from Int.not_lt.2 hs), cond_false, show getI [l] (0 : Int) = some l from rfl, Option.bind_some, q1, Option.bind_some]
      rfl
  | @whT x a l s s1 b s2 hk hf hs h1 h2 ih1 ih2 =>
    intro n hn ht v
    have ht0 := ht
    have hn0 := hn
    cases n with
    | zero => unfold dp at hn; omega
    | succ n =>
    unfold dp dpL at hn
    unfold okT okL at ht
    have ho := ar_terms ht.1
    have vt := v.tick hf
    have q1 := ih1 n (by omega) ht.2.1 vt
    have v1 := (h1.keep vt).1
    have q2 := ih2 (n + 1) hn0 ht0 v1
    rw [while_unfold ho v1.vs hk] at q2
    rw [while_unfold ho v.vs hk, iter_next (s' := tup s1), q2]
    unfold Xj
    rw [run_tup, impl_step v, decide_eq_false hf, cond_false, Option.bind_some]
    simp only [cond_true]
    rw [impl_eval ho.1 vt.vs, Option.bind_some, decide_eq_false (show ¬ evT x.Sum (tick s).state.Vars < 0 from Int.not_lt.2 hs), cond_false, show getI [l] (0 : Int) = some l from rfl, Option.bind_some, q1, Option.bind_some]
    rfl
end Go.Mod

namespace Go.Mod
open Go.AM
set_option linter.unusedVariables false
set_option linter.unusedSimpArgs false
section
variable {p : Program} {s : running} {w : List Int} {k : Nat} {x : Stmt} {m : Nat}
end
theorem end_ok {p : List Stmt} (hb : isB p = true) {k : Nat} {t : Ptree} {r : List Stmt} (ht : okT t) (hd : p.drop k = fl t ++ r) : m_spec_l03End p (k : Int) = some ((k + (fl t).length : Nat) : Int) := by
  have hpos := okT_pos ht
  have hl := congrArg List.length hd
  rw [List.length_drop, List.length_append] at hl
  rw [spec_l03End (by have := isB_len hb; omega) (isB_valid hb) (by omega), hd, okT_go t r ht]
  simp only
  congr 2; omega
theorem flL2 (a b : Ptree) : flL [a, b] = fl a ++ fl b := by unfold flL; rw [show flL [b] = fl b by (unfold flL; rw [show flL [] = [] from rfl, List.append_nil])]
theorem flL1 (a : Ptree) : flL [a] = fl a := by unfold flL; rw [show flL [] = [] from rfl, List.append_nil]
theorem okL1 {a : Ptree} (h : okL [a]) : okT a := by unfold okL at h; exact h.1
theorem okL2 {a b : Ptree} (h : okL [a, b]) : okT a ∧ okT b := by
  unfold okL at h
  have h2 := h.2
  unfold okL at h2
  exact ⟨h.1, h2.1⟩
def okSt (s : State) : Bool := (s.Vars.all inInt && decide (s.Vars.length = 4)) && (s.Cells.all inInt && decide (s.Cells.length = 8))
theorem dec_lenE {α : Type} (xs : List α) (n : Nat) : decide ((xs.length : Int) = (n : Int)) = decide (xs.length = n) := by
  by_cases h : xs.length = n
  · rw [decide_eq_true h, decide_eq_true (by omega)]
  · rw [decide_eq_false h, decide_eq_false (by omega)]
theorem impl_state (s : State) : m_impl_ValidState s = some (okSt s) := by
  unfold m_impl_ValidState okSt
  rw [show (4 : Int) = ((4 : Nat) : Int) from rfl, show (8 : Int) = ((8 : Nat) : Int) from rfl, dec_lenE, dec_lenE, impl_all, impl_all, Option.bind_some, Option.bind_some]
  rw [show (s.Vars.all fun x => decide (-1000000000 ≤ x) && decide (x ≤ 1000000000)) = s.Vars.all inInt from rfl, show (s.Cells.all fun x => decide (-1000000000 ≤ x) && decide (x ≤ 1000000000)) = s.Cells.all inInt from rfl]
  cases s.Vars.all inInt <;> cases s.Cells.all inInt <;> cases decide (s.Vars.length = 4) <;> cases decide (s.Cells.length = 8) <;> rfl
def start0 (s : State) (f : Int) : running := running.mk s [] f 0 0
theorem start_vr {s : State} {f : Int} (h : okSt s = true) (h0 : 0 ≤ f) (h1 : f ≤ 2000) : Vr (start0 s f) := by
  unfold okSt at h
  simp only [Bool.and_eq_true, decide_eq_true_eq] at h
  exact ⟨h.1.2, h.2.2, Int.le_refl 0, h0, h1, Int.le_refl 0⟩
theorem impl_ownState {s : State} (h : okSt s = true) : m_impl_State_own s = some s := by
  unfold okSt at h
  simp only [Bool.and_eq_true, decide_eq_true_eq] at h
  unfold m_impl_State_own
  rw [impl_copy (by omega), Option.bind_some, impl_copy (by omega), Option.bind_some]
theorem started_ok {p : Program} {s : State} {f : Int} (hp : okProg p = true) (hs : okSt s = true) (h0 : 0 ≤ f) (h1 : f ≤ 2000) :
    ∃ t b s', fl t = p.Body ∧ okT t ∧ Run t (start0 s f) b s' ∧ m_impl_started p s f = some (s', true) := by
  have hb := okProg_body hp
  obtain ⟨t, h2, h3⟩ := impl_treeOf p.Body
  obtain ⟨hw, hf⟩ := h3 hb
  have ht := wfT_ok _ _ hw
  have v := start_vr hs h0 h1
  obtain ⟨b, s', hr⟩ := run_ex _ _ t (start0 s f) (Nat.le_refl _) ht v (Nat.le_refl _)
  refine ⟨t, b, s', hf, ht, hr, ?_⟩
  have hd := dp_le t
  rw [hf] at hd
  have h30 := isB_len hb
  unfold m_impl_started
  rw [impl_prog, Option.bind_some, hp, Bool.not_true, cond_false, impl_state, Option.bind_some, hs, Bool.not_true, cond_false, show m_impl_within f 0 2000 = some (decide (0 ≤ f) && decide (f ≤ 2000)) from rfl, Option.bind_some,
    decide_eq_true h0, decide_eq_true h1, Bool.and_self, Bool.not_true, cond_false, h2, Option.bind_some, impl_ownState hs, Option.bind_some]
  simp only
  have := run_impl hr 1000 (by omega) ht v
  unfold start0 at this
  rw [this, Option.bind_some]
end Go.Mod

namespace Go.Mod
open Go.AM
set_option linter.unusedVariables false
set_option linter.unusedSimpArgs false
theorem one_ok {s : l00Src} {k : Nat} {n : Int} (h : Src s k) (hk : k ≤ 100000000) (hn : n ≤ 200) : ∃ b s', XF s n = some (b, s') ∧ Src s' (k + 1) := by
  obtain ⟨r, s', e, _, _, hs⟩ := pick_ok h hk hn
  unfold XF
  rw [e, Option.bind_some]
  exact ⟨_, _, rfl, hs⟩
theorem among_ok {s : l00Src} {k : Nat} {xs : List Int} (h : Src s k) (hk : k ≤ 100000000) (h0 : 0 < xs.length) (h1 : xs.length ≤ 200) : ∃ x s', m_spec_l00Src_among s xs = some (x, s') ∧ x ∈ xs ∧ Src s' (k + 1) := by
  obtain ⟨r, s', e, r0, r1, hs⟩ := pick_ok (n := (xs.length : Int)) h hk (by omega)
  obtain ⟨n, rfl⟩ := Int.eq_ofNat_of_zero_le r0
  have hlt : n < xs.length := by omega
  unfold m_spec_l00Src_among
  rw [e, Option.bind_some]
  simp only
  rw [XA (List.getElem?_eq_getElem hlt), Option.bind_some]
  exact ⟨_, _, rfl, List.getElem_mem hlt, hs⟩
theorem wsub {a b : Int} (h0 : -1000000 ≤ a) (h1 : a ≤ 1000000) (h2 : -1000000 ≤ b) (h3 : b ≤ 1000000) : w64 (a - b) = a - b := w64_eq ⟨by omega, by omega⟩
theorem wdec {n : Nat} (h : n ≤ 1000000) : w64 (((n + 1 : Nat) : Int) - 1) = (n : Int) := (w64_eq ⟨by omega, by omega⟩).trans (by omega)
theorem src_mk (s : l00Src) : l00Src.mk s.code s.at_ s.seed = s := rfl
theorem drawTerm_loop : ∀ (n : Nat) (s : l00Src) (k : Nat) (l : List Int), Src s k → k + n ≤ 10000000 → l.length + n ≤ 4 → (∀ x ∈ l, -2 ≤ x ∧ x ≤ 2) →
    ∃ s' l', iter m_spec_l03DrawTerm_L0 (s.code, s.at_, s.seed, l, (n : Int)) = some (s'.code, s'.at_, s'.seed, l') ∧ Src s' (k + n) ∧ l'.length = l.length + n ∧ (∀ x ∈ l', -2 ≤ x ∧ x ≤ 2) := by
  intro n
  induction n with
  | zero => intro s k l hs hk hl hx; exact ⟨s, l, iter_out rfl, hs, rfl, hx⟩
  | succ n ih =>
    intro s k l hs hk hl hx
    obtain ⟨r, s', e, r0, r1, hs'⟩ := pick_ok (n := 5) hs (by omega) (by omega)
    have hr : r ≤ 4 := by omega
    have hc1 : l.length + 1 ≤ 4 := by omega
    have w1 := wsub (a := r) (b := 2) (by omega) (by omega) (by omega) (by omega)
    have w2 := wdec (n := n) (by omega)
    have st : m_spec_l03DrawTerm_L0 (s.code, s.at_, s.seed, l, ((n + 1 : Nat) : Int)) = some (.next (s'.code, s'.at_, s'.seed, l ++ [r - 2], (n : Int))) := by
      unfold m_spec_l03DrawTerm_L0
      simp only
      rw [decide_eq_true (p := (0 : Int) < ((n + 1 : Nat) : Int)) (Int.natCast_pos.2 (Nat.succ_pos n)), cond_true, src_mk, e, Option.bind_some]
      simp only
      rw [w1, w2, Xr (by simp only [List.length_cons, List.length_nil]; exact Nat.le_trans (Nat.mul_le_mul_right 8 hc1) (by decide)), Option.bind_some]
    clear w1 w2
    obtain ⟨s2, l2, e2, hs2, hl2, hx2⟩ := ih s' (k + 1) (l ++ [r - 2]) hs' (by omega) (by rw [List.length_append]; simp only [List.length_cons, List.length_nil]; omega) (fun x hm => by
      rcases List.mem_append.1 hm with hm | hm
      · exact hx x hm
      · simp only [List.mem_singleton] at hm; subst hm; omega)
    exact ⟨s2, l2, (iter_next st).trans e2, by rw [show k + (n + 1) = k + 1 + n by omega]; exact hs2, by rw [hl2, List.length_append]; simp only [List.length_cons, List.length_nil]; omega, hx2⟩
theorem over_chk {c : Int} {l : List Int} (hl : l.length ≤ 4) : over (chk (Term.mk c (trim l))).1 = true := by
  unfold chk
  cases h : vT (Term.mk c (trim l)) with
  | false => rfl
  | true =>
    have := trim_len l
    unfold over
    rw [cond_true, h, decide_eq_true (by simp only; omega)]; rfl
theorem over_const {c : Int} {t : Term} (h : over t = true) (hc : inR c = true) : over (Term.mk c t.Coeffs) = true := by
  unfold over vT at *
  simp only [Bool.and_eq_true] at h ⊢
  exact ⟨⟨⟨⟨hc, h.1.1.1.2⟩, h.1.1.2⟩, h.1.2⟩, h.2⟩
theorem drawTerm_ok {s : l00Src} {k : Nat} (hs : Src s k) (hk : k ≤ 1000000) : ∃ t s', Xt s = some (t, s') ∧ over t = true ∧ Src s' (k + 10) := by
  obtain ⟨r, s1, e, r0, r1, hs1⟩ := pick_ok (n := 5) hs (by omega) (by omega)
  obtain ⟨n, rfl⟩ := Int.eq_ofNat_of_zero_le r0
  obtain ⟨s2, l, e2, hs2, hl, hx⟩ := drawTerm_loop n s1 (k + 1) [] hs1 (by omega) (by simp; omega) (by simp)
  obtain ⟨c, s3, e3, c0, c1, hs3⟩ := pick_ok (n := 9) hs2 (by omega) (by omega)
  obtain ⟨b, s4, e4, hs4⟩ := one_ok (n := 30) hs3 (by omega) (by omega)
  have hl4 : l.length ≤ 4 := by simp only [List.length_nil] at hl; omega
  unfold Xt
  rw [e, Option.bind_some]
  simp only
  rw [e2, Option.bind_some]
  unfold m_spec_l03DrawTerm_A0
  simp only
  rw [src_mk, e3, Option.bind_some]
  simp only
  rw [spec_make (by omega), Option.bind_some, e4, Option.bind_some]
  have ho := over_chk (c := w64 (c - 4)) hl4
  cases b with
  | false => exact ⟨_, _, rfl, ho, hs4.mono (by omega)⟩
  | true =>
    obtain ⟨x, s5, e5, hx5, hs5⟩ := among_ok (xs := [1000000, -1000000]) hs4 (by omega) (by decide) (by decide)
    rw [cond_true, e5, Option.bind_some]
    refine ⟨_, _, rfl, over_const ho ?_, hs5.mono (by omega)⟩
    simp only [List.mem_cons, List.not_mem_nil, or_false] at hx5
    rcases hx5 with rfl | rfl
    · exact (by decide : inR 1000000 = true)
    · exact (by decide : inR (-1000000) = true)
theorem drawFacts_loop : ∀ (n : Nat) (s : l00Src) (k : Nat) (l : List Term), Src s k → k + 10 * n ≤ 100000 → l.length + n ≤ 6 → l.all over = true →
    ∃ s' l', iter m_spec_l03DrawFacts_L0 (s.code, s.at_, s.seed, l, (n : Int)) = some (l', s'.code, s'.at_, s'.seed) ∧ Src s' (k + 10 * n) ∧ l'.length = l.length + n ∧ l'.all over = true := by
  intro n
  induction n with
  | zero => intro s k l hs hk hl hx; exact ⟨s, l, iter_out rfl, hs, rfl, hx⟩
  | succ n ih =>
    intro s k l hs hk hl hx
    obtain ⟨t, s', e, ht, hs'⟩ := drawTerm_ok hs (by omega)
    have w2 := wdec (n := n) (by omega)
    have st : m_spec_l03DrawFacts_L0 (s.code, s.at_, s.seed, l, ((n + 1 : Nat) : Int)) = some (.next (s'.code, s'.at_, s'.seed, l ++ [t], (n : Int))) := by
      unfold m_spec_l03DrawFacts_L0
      simp only
      rw [decide_eq_true (p := (0 : Int) < ((n + 1 : Nat) : Int)) (Int.natCast_pos.2 (Nat.succ_pos n)), cond_true, src_mk, e, Option.bind_some]
      simp only
      rw [w2, Xr (by simp only [List.length_cons, List.length_nil]; exact Nat.le_trans (Nat.mul_le_mul_right 32 (show l.length + 1 ≤ 6 by clear w2; omega)) (by decide)), Option.bind_some]
    clear w2
    obtain ⟨s2, l2, e2, hs2, hl2, hx2⟩ := ih s' (k + 10) (l ++ [t]) hs' (by omega) (by rw [List.length_append]; simp only [List.length_cons, List.length_nil]; omega) (by rw [List.all_append, hx, List.all_cons, ht]; rfl)
    exact ⟨s2, l2, (iter_next st).trans e2, by rw [show k + 10 * (n + 1) = k + 10 + 10 * n by omega]; exact hs2, by rw [hl2, List.length_append]; simp only [List.length_cons, List.length_nil]; omega, hx2⟩
theorem drawFacts_ok {s : l00Src} {k : Nat} (hs : Src s k) (hk : k ≤ 50000) : ∃ l s', m_spec_l03DrawFacts s = some (l, s') ∧ okGiven l = true ∧ Src s' (k + 30) := by
  obtain ⟨r, s1, e, r0, r1, hs1⟩ := pick_ok (n := 3) hs (by omega) (by omega)
  obtain ⟨n, rfl⟩ := Int.eq_ofNat_of_zero_le r0
  obtain ⟨s2, l, e2, hs2, hl, hx⟩ := drawFacts_loop n s1 (k + 1) [] hs1 (by omega) (by simp; omega) rfl
  unfold m_spec_l03DrawFacts
  rw [e, Option.bind_some]
  simp only
  rw [e2, Option.bind_some]
  refine ⟨l, s2, rfl, ?_, hs2.mono (by omega)⟩
  unfold okGiven
  simp only [List.length_nil] at hl
  rw [hx, decide_eq_true (by omega)]; rfl
theorem over_num {c : Int} (h0 : -1000000 ≤ c) (h1 : c ≤ 1000000) : over (Term.mk c []) = true := by
  unfold over vT inR
  simp only
  rw [decide_eq_true h0, decide_eq_true h1]; rfl
theorem over_num1 {c : Int} (h0 : -1000000 ≤ c) (h1 : c ≤ 1000000) : over (Term.mk c [1]) = true := by
  unfold over vT inR
  simp only
  rw [decide_eq_true h0, decide_eq_true h1]; rfl
theorem drawIndex_ok {s : l00Src} {k : Nat} (hs : Src s k) (hk : k ≤ 500000) : ∃ t s', m_spec_l03DrawIndex s = some (t, s') ∧ over t = true ∧ Src s' (k + 20) := by
  obtain ⟨b, s1, e, hs1⟩ := one_ok (n := 2) hs (by omega) (by omega)
  unfold m_spec_l03DrawIndex
  rw [e, Option.bind_some]
  cases b with
  | true =>
    obtain ⟨r, s2, e2, r0, r1, hs2⟩ := pick_ok (n := 8) hs1 (by omega) (by omega)
    rw [cond_true, e2, Option.bind_some]
    exact ⟨_, _, rfl, over_num (by simp only; omega) (by simp only; omega), hs2.mono (by omega)⟩
  | false =>
    obtain ⟨b2, s2, e2, hs2⟩ := one_ok (n := 2) hs1 (by omega) (by omega)
    rw [cond_false, e2, Option.bind_some]
    cases b2 with
    | true =>
      obtain ⟨r, s3, e3, r0, r1, hs3⟩ := pick_ok (n := 3) hs2 (by omega) (by omega)
      rw [cond_true, e3, Option.bind_some]
      exact ⟨_, _, rfl, over_num1 (by simp only; omega) (by simp only; omega), hs3.mono (by omega)⟩
    | false =>
      obtain ⟨t, s3, e3, ht, hs3⟩ := drawTerm_ok hs2 (by omega)
      rw [cond_false, e3, Option.bind_some]
      exact ⟨_, _, rfl, ht, hs3.mono (by omega)⟩
theorem over_unit {c : Int} {v : Nat} (hv : v ≤ 3) (hc : c = 0 ∨ c = 1 ∨ c = -1) : over (Term.mk c (List.replicate v 0 ++ [1])) = true := by
  have : v = 0 ∨ v = 1 ∨ v = 2 ∨ v = 3 := by omega
  rcases this with rfl | rfl | rfl | rfl <;> rcases hc with rfl | rfl | rfl <;> decide
theorem arS_while {x : Stmt} (h : x.Kind = 8) (h1 : x.Var = 0) (h2 : x.Event = 0) (h3 : over x.Sum = true) (h4 : x.Index = Term.mk 0 []) (h5 : okGiven x.Facts = true) : arS x = some 1 := by
  unfold arS; simp only [h, h1, h2, h3, h4, h5]; rfl
theorem arS_set {x : Stmt} (h : x.Kind = 2) (h1 : 0 ≤ x.Var ∧ x.Var ≤ 3) (h2 : x.Event = 0) (h3 : over x.Sum = true) (h4 : x.Index = Term.mk 0 []) (h5 : x.Facts = []) : arS x = some 0 := by
  unfold arS i4; simp only [h, h2, h3, h4, h5, decide_eq_true h1.1, decide_eq_true h1.2]; rfl
theorem arS_get {x : Stmt} (h : x.Kind = 3) (h1 : 0 ≤ x.Var ∧ x.Var ≤ 3) (h2 : x.Event = 0) (h3 : x.Sum = Term.mk 0 []) (h4 : over x.Index = true) (h5 : x.Facts = []) : arS x = some 0 := by
  unfold arS i4; simp only [h, h2, h3, h4, h5, decide_eq_true h1.1, decide_eq_true h1.2]; rfl
theorem arS_put {x : Stmt} (h : x.Kind = 4) (h1 : x.Var = 0) (h2 : x.Event = 0) (h3 : over x.Sum = true) (h4 : over x.Index = true) (h5 : x.Facts = []) : arS x = some 0 := by
  unfold arS; simp only [h, h1, h2, h3, h4, h5]; rfl
theorem arS_emit {x : Stmt} (h : x.Kind = 5) (h1 : x.Var = 0) (h2 : 0 ≤ x.Event ∧ x.Event ≤ 3) (h3 : x.Sum = Term.mk 0 []) (h4 : x.Index = Term.mk 0 []) (h5 : x.Facts = []) : arS x = some 0 := by
  unfold arS i4; simp only [h, h1, h3, h4, h5, decide_eq_true h2.1, decide_eq_true h2.2]; rfl
theorem arS_sum {x : Stmt} {n : Nat} (h : x.Kind = 6 ∧ n = 0 ∨ x.Kind = 7 ∧ n = 2) (h1 : x.Var = 0) (h2 : x.Event = 0) (h3 : over x.Sum = true) (h4 : x.Index = Term.mk 0 []) (h5 : x.Facts = []) : arS x = some n := by
  rcases h with ⟨h, rfl⟩ | ⟨h, rfl⟩ <;> (unfold arS; simp only [h, h1, h2, h3, h4, h5]; rfl)
theorem drawLoop_ok {s : l00Src} {k : Nat} (hs : Src s k) (hk : k ≤ 400000) : ∃ l s', m_spec_l03DrawLoop s = some (l, s') ∧ goS l 1 = some [] ∧ l.length = 4 ∧ Src s' (k + 40) := by
  obtain ⟨r, s1, e, r0, r1, hs1⟩ := pick_ok (n := 4) hs (by omega) (by omega)
  obtain ⟨v, rfl⟩ := Int.eq_ofNat_of_zero_le r0
  have hv : v ≤ 3 := by omega
  obtain ⟨b, s2, e2, hs2⟩ := one_ok (n := 2) hs1 (by omega) (by omega)
  have cap : capI ((List.replicate v (0 : Int)).length + [(1 : Int)].length) 8 = some () := Xr (by simp; omega)
  have aw := arS_while (x := Stmt.mk 8 0 0 (Term.mk 0 (List.replicate v 0 ++ [1])) (Term.mk 0 []) [Term.mk 1 (List.replicate v 0 ++ [1])]) rfl rfl rfl (over_unit hv (.inl rfl)) rfl
    (by unfold okGiven; rw [List.all_cons, over_unit hv (.inr (.inl rfl))]; rfl)
  have as := arS_set (x := Stmt.mk 2 (v : Int) 0 (Term.mk (-1) (List.replicate v 0 ++ [1])) (Term.mk 0 []) []) rfl ⟨by simp only; omega, by simp only; omega⟩ rfl (over_unit hv (.inr (.inr rfl))) rfl rfl
  have aq : arS (Stmt.mk 1 0 0 (Term.mk 0 []) (Term.mk 0 []) []) = some 2 := rfl
  have good : ∀ y : Stmt, arS y = some 0 → goS ([Stmt.mk 8 0 0 (Term.mk 0 (List.replicate v 0 ++ [1])) (Term.mk 0 []) [Term.mk 1 (List.replicate v 0 ++ [1])]] ++ [Stmt.mk 1 0 0 (Term.mk 0 []) (Term.mk 0 []) []] ++ [y] ++ [Stmt.mk 2 (v : Int) 0 (Term.mk (-1) (List.replicate v 0 ++ [1])) (Term.mk 0 []) []]) 1 = some [] := by
    intro y hy
    simp only [List.cons_append, List.nil_append]
    unfold goS; rw [aw, Option.bind_some]
    unfold goS; rw [aq, Option.bind_some]
    unfold goS; rw [hy, Option.bind_some]
    unfold goS; rw [as, Option.bind_some]
    rfl
  unfold m_spec_l03DrawLoop
  rw [e, Option.bind_some]
  simp only
  rw [makeI_some (by omega), Option.bind_some, cap, Option.bind_some, Option.bind_some, cap, Option.bind_some, Option.bind_some, cap, Option.bind_some, Xr (by simp), Option.bind_some, e2, Option.bind_some]
  cases b with
  | true =>
    obtain ⟨ev, s3, e3, v0, v1, hs3⟩ := pick_ok (n := 4) hs2 (by omega) (by omega)
    rw [cond_true, e3, Option.bind_some, Xr (by simp), Option.bind_some]
    unfold m_spec_l03DrawLoop_J0
    simp only
    rw [Xr (by simp), Option.bind_some]
    exact ⟨_, _, rfl, good _ (arS_emit rfl rfl ⟨v0, by simp only; omega⟩ rfl rfl rfl), rfl, hs3.mono (by omega)⟩
  | false =>
    obtain ⟨t, s3, e3, ht, hs3⟩ := drawIndex_ok hs2 (by omega)
    rw [cond_false, e3, Option.bind_some, Xr (by simp), Option.bind_some]
    unfold m_spec_l03DrawLoop_J0
    simp only
    rw [Xr (by simp), Option.bind_some]
    exact ⟨_, _, rfl, good _ (arS_put rfl rfl rfl (over_unit hv (.inl rfl)) ht rfl), rfl, hs3.mono (by omega)⟩
def bud : Nat → Nat
  | 0 => 100
  | d + 1 => 100 + 2 * bud d
def len0 : Nat → Nat
  | 0 => 4
  | d + 1 => 4 + 2 * len0 d
def GoodBody (p : Int) (f : l00Src → Int → Option ((List Stmt) × l00Src)) (b l : Nat) : Prop :=
  ∀ (s : l00Src) (k : Nat), Src s k → k + b ≤ 3000 → ∃ out s', f s p = some (out, s') ∧ goS out 1 = some [] ∧ out.length ≤ l ∧ Src s' (k + b)
theorem go_front {a : List Stmt} (h : goS a 1 = some []) (r : List Stmt) (n : Nat) : goS (a ++ r) (n + 1) = goS r n := by
  have key : ∀ (a : List Stmt) (m : Nat), goS a m = some [] → ∀ r, goS (a ++ r) m = some r := by
    intro a
    induction a with
    | nil => intro m hm r; cases m with
      | zero => exact goS_zero _
      | succ m => cases hm
    | cons x a ih =>
      intro m hm r
      cases m with
      | zero => cases hm
      | succ m =>
        have hm' : (arS x).bind (fun c => goS a (m + c)) = some [] := hm
        show (arS x).bind (fun c => goS (a ++ r) (m + c)) = some r
        cases ha : arS x with
        | none => rw [ha] at hm'; cases hm'
        | some c => rw [ha, Option.bind_some] at hm'; rw [Option.bind_some]; exact ih _ hm' r
  rw [Nat.add_comm, goS_add, key a 1 h r, Option.bind_some]
theorem body_loop {f : l00Src → Int → Option ((List Stmt) × l00Src)} {p : Int} {b l : Nat} (hf : GoodBody (w64 (p - 1)) f b l) (hb : b ≤ 2000) (hl : l ≤ 200) : ∀ (n : Nat) (s : l00Src) (k : Nat) (acc : List Stmt), Src s k → k + b * n ≤ 3000 → acc.length + l * n ≤ 1000 → n ≤ 2 →
    ∃ s' out, iter (Xu f p) (s.code, s.at_, s.seed, acc, (n : Int)) = some (s'.code, s'.at_, s'.seed, acc ++ out) ∧ goS out n = some [] ∧ out.length ≤ l * n ∧ Src s' (k + b * n) := by
  intro n
  induction n with
  | zero => intro s k acc hs hk hl hn; exact ⟨s, [], by rw [List.append_nil]; exact iter_out rfl, rfl, Nat.zero_le _, hs⟩
  | succ n ih =>
    intro s k acc hs hk hl2 hn
    rw [Nat.mul_succ] at hk hl2
    obtain ⟨o, s', e, ho, hol, hs'⟩ := hf s k hs (by omega)
    have w2 := wdec (n := n) (by omega)
    have st : Xu f p (s.code, s.at_, s.seed, acc, ((n + 1 : Nat) : Int)) = some (.next (s'.code, s'.at_, s'.seed, acc ++ o, (n : Int))) := by
      unfold Xu
      simp only
      rw [decide_eq_true (p := (0 : Int) < ((n + 1 : Nat) : Int)) (Int.natCast_pos.2 (Nat.succ_pos n)), cond_true, src_mk, e, Option.bind_some]
      simp only
      rw [w2, Xr (Nat.le_trans (Nat.mul_le_mul_right 112 (show acc.length + o.length ≤ 1000 by clear w2; omega)) (by decide)), Option.bind_some]
    clear w2
    obtain ⟨s2, o2, e2, g2, l2, hs2⟩ := ih s' (k + b) (acc ++ o) hs' (by omega) (by rw [List.length_append]; omega) (by omega)
    refine ⟨s2, o ++ o2, by rw [iter_next st, e2, List.append_assoc], ?_, by rw [List.length_append, Nat.mul_succ]; omega, by rw [Nat.mul_succ, Nat.add_comm (b * n), ← Nat.add_assoc]; exact hs2⟩
    rw [go_front ho, g2]
theorem body_J1 {f : l00Src → Int → Option ((List Stmt) × l00Src)} {p : Int} {b l : Nat} {kd v ev : Int} {t i : Term} {fs : List Term} {n : Nat} {z : (List Int) × Int × Int × Int} (hz : z.2.2.2 = kd)
    (ha : arS (Stmt.mk kd v ev t i fs) = some n) (hf : n = 0 ∨ GoodBody (w64 (p - 1)) f b l) (hb : b ≤ 2000) (hl : l ≤ 200) {s : l00Src} {k : Nat} (hs : Src s k) (hk : k + 2 * b ≤ 3000) :
    ∃ out s', Q0 f p z (s.code, s.at_, s.seed, v, ev, t.Const, t.Coeffs, i.Const, i.Coeffs, fs) = some (out, s') ∧ goS out 1 = some [] ∧ out.length ≤ 4 + 2 * l ∧ Src s' (k + b * n + 41) := by
  have hn := ar_le ha
  obtain ⟨q1, q2, q3, q4⟩ : ∃ q1 q2 q3 : List Int × Int × Int × Int, True := ⟨z, z, z, trivial⟩
  have hbn : b * n ≤ 2 * b := by
    have : n = 0 ∨ n = 1 ∨ n = 2 := by omega
    rcases this with rfl | rfl | rfl <;> omega
  have hln : l * n ≤ 2 * l := by
    have : n = 0 ∨ n = 1 ∨ n = 2 := by omega
    rcases this with rfl | rfl | rfl <;> omega
  have lp : ∃ s' out, iter (Xu f p) (s.code, s.at_, s.seed, [Stmt.mk kd v ev t i fs], (n : Int)) = some (s'.code, s'.at_, s'.seed, [Stmt.mk kd v ev t i fs] ++ out) ∧ goS out n = some [] ∧ out.length ≤ l * n ∧ Src s' (k + b * n) := by
    rcases hf with rfl | hf
    · exact ⟨s, [], by rw [List.append_nil]; exact iter_out rfl, rfl, Nat.zero_le _, by rw [Nat.mul_zero]; exact hs⟩
    · exact body_loop hf hb hl n s k _ hs (by omega) (by simp only [List.length_cons, List.length_nil]; omega) hn
  obtain ⟨s', out, e, g, lo, hs'⟩ := lp
  unfold Q0
  rw [hz]
  have hbel := spec_below ha
  simp only at hbel
  rw [hbel, Option.bind_some]
  have e' : iter (Xu f p) (s.code, s.at_, s.seed, [Stmt.mk kd v ev (Term.mk t.Const t.Coeffs) (Term.mk i.Const i.Coeffs) fs], (n : Int)) = _ := e
  simp only
  rw [e', Option.bind_some]
  have gout : goS ([Stmt.mk kd v ev t i fs] ++ out) 1 = some [] := by
    show (arS (Stmt.mk kd v ev t i fs)).bind (fun c => goS out (0 + c)) = some []
    rw [ha, Option.bind_some, Nat.zero_add, g]
  have lout : ([Stmt.mk kd v ev t i fs] ++ out).length ≤ 4 + 2 * l := by rw [List.length_append]; simp only [List.length_cons, List.length_nil]; omega
  unfold m_spec_l03DrawBody_F_A0
  rw [hz]
  cases decide (kd = 8) with
  | false => exact ⟨_, _, rfl, gout, lout, hs'.mono (by omega)⟩
  | true =>
    simp only [cond_true]
    rw [src_mk]
    obtain ⟨bb, s2, e2, hs2⟩ := one_ok (n := 2) hs' (by omega) (by omega)
    rw [e2, Option.bind_some]
    cases bb with
    | false => exact ⟨_, _, rfl, gout, lout, hs2.mono (by omega)⟩
    | true =>
      obtain ⟨o2, s3, e3, g3, l3, hs3⟩ := drawLoop_ok hs2 (by omega)
      rw [cond_true, e3, Option.bind_some]
      exact ⟨_, _, rfl, g3, (show o2.length ≤ 4 + 2 * l by omega), hs3.mono (by omega)⟩
theorem body_J0 {f : l00Src → Int → Option ((List Stmt) × l00Src)} {p : Int} {b l : Nat} (hb : b ≤ 2000) (hl : l ≤ 200) {kd : Int} {s : l00Src} {k : Nat} (hs : Src s k) (hk : k + 2 * b + 41 ≤ 3000) (hkd : 0 ≤ kd ∧ kd ≤ 8)
    (hf : (kd ≠ 1 ∧ kd ≠ 7 ∧ kd ≠ 8) ∨ GoodBody (w64 (p - 1)) f b l) :
    ∃ out s', m_spec_l03DrawBody_F_J0 f p (s.code, s.at_, s.seed, kd) = some (out, s') ∧ goS out 1 = some [] ∧ out.length ≤ 4 + 2 * l ∧ Src s' (k + b * 2 + 82) := by
  have fin : ∀ {v ev : Int} {t i : Term} {fs : List Term} {n : Nat} {s2 : l00Src} {k2 : Nat}, arS (Stmt.mk kd v ev t i fs) = some n → (n = 0 ∨ GoodBody (w64 (p - 1)) f b l) → Src s2 k2 → k2 ≤ k + 41 →
      ∃ out s', Q0 f p (s.code, s.at_, s.seed, kd) (s2.code, s2.at_, s2.seed, v, ev, t.Const, t.Coeffs, i.Const, i.Coeffs, fs) = some (out, s') ∧ goS out 1 = some [] ∧ out.length ≤ 4 + 2 * l ∧ Src s' (k + b * 2 + 82) := by
    intro v ev t i fs n s2 k2 ha hf2 hs2 hk2
    obtain ⟨out, s', e, g, lo, hs'⟩ := body_J1 (z := (s.code, s.at_, s.seed, kd)) rfl ha hf2 hb hl hs2 (by omega)
    have hn := ar_le ha
    have hbn : b * n ≤ b * 2 := Nat.mul_le_mul_left b hn
    exact ⟨out, s', e, g, lo, hs'.mono (by omega)⟩
  have isz : ∀ c : Int, Term.mk c [] = Term.mk c [] := fun _ => rfl
  unfold m_spec_l03DrawBody_F_J0
  simp only
  rw [src_mk]
  rcases kind_cases kd with h | h | h | h | h | h | h | h | h | h
  · subst h; exact fin (v := 0) (ev := 0) (t := Term.mk 0 []) (i := Term.mk 0 []) (fs := []) (n := 0) rfl (.inl rfl) hs (by omega)
  · subst h; exact fin (v := 0) (ev := 0) (t := Term.mk 0 []) (i := Term.mk 0 []) (fs := []) (n := 2) rfl (.inr (by rcases hf with h | h; exact absurd rfl h.1; exact h)) hs (by omega)
  · subst h
    obtain ⟨r, s2, e2, r0, r1, hs2⟩ := pick_ok (n := 4) hs (by omega) (by omega)
    obtain ⟨t, s3, e3, ht, hs3⟩ := drawTerm_ok hs2 (by omega)
    simp only [decide_true, cond_true]
    rw [e2, Option.bind_some, e3, Option.bind_some]
    exact fin (v := r) (ev := 0) (t := t) (i := Term.mk 0 []) (fs := []) (arS_set rfl ⟨r0, by simp only; omega⟩ rfl ht rfl rfl) (.inl rfl) hs3 (by omega)
  · subst h
    obtain ⟨r, s2, e2, r0, r1, hs2⟩ := pick_ok (n := 4) hs (by omega) (by omega)
    obtain ⟨t, s3, e3, ht, hs3⟩ := drawIndex_ok hs2 (by omega)
    simp only [Int.reduceEq, decide_false, cond_false, decide_true, cond_true]
    rw [e2, Option.bind_some, e3, Option.bind_some]
    exact fin (v := r) (ev := 0) (t := Term.mk 0 []) (i := t) (fs := []) (arS_get rfl ⟨r0, by simp only; omega⟩ rfl rfl ht rfl) (.inl rfl) hs3 (by omega)
  · subst h
    obtain ⟨i, s2, e2, hi, hs2⟩ := drawIndex_ok hs (by omega)
    obtain ⟨t, s3, e3, ht, hs3⟩ := drawTerm_ok hs2 (by omega)
    simp only [Int.reduceEq, decide_false, cond_false, decide_true, cond_true]
    rw [e2, Option.bind_some, e3, Option.bind_some]
    exact fin (v := 0) (ev := 0) (t := t) (i := i) (fs := []) (arS_put rfl rfl rfl ht hi rfl) (.inl rfl) hs3 (by omega)
  · subst h
    obtain ⟨r, s2, e2, r0, r1, hs2⟩ := pick_ok (n := 4) hs (by omega) (by omega)
    simp only [Int.reduceEq, decide_false, cond_false, decide_true, cond_true]
    rw [e2, Option.bind_some]
    exact fin (v := 0) (ev := r) (t := Term.mk 0 []) (i := Term.mk 0 []) (fs := []) (arS_emit rfl rfl ⟨r0, by simp only; omega⟩ rfl rfl rfl) (.inl rfl) hs2 (by omega)
  · subst h
    obtain ⟨t, s3, e3, ht, hs3⟩ := drawTerm_ok hs (by omega)
    simp only [Int.reduceEq, decide_false, cond_false, decide_true, cond_true]
    rw [e3, Option.bind_some]
    exact fin (v := 0) (ev := 0) (t := t) (i := Term.mk 0 []) (fs := []) (arS_sum (.inl ⟨rfl, rfl⟩) rfl rfl ht rfl rfl) (.inl rfl) hs3 (by omega)
  · subst h
    obtain ⟨t, s3, e3, ht, hs3⟩ := drawTerm_ok hs (by omega)
    simp only [Int.reduceEq, decide_false, cond_false, decide_true, cond_true]
    rw [e3, Option.bind_some]
    exact fin (v := 0) (ev := 0) (t := t) (i := Term.mk 0 []) (fs := []) (arS_sum (.inr ⟨rfl, rfl⟩) rfl rfl ht rfl rfl) (.inr (by rcases hf with h | h; exact absurd rfl h.2.1; exact h)) hs3 (by omega)
  · subst h
    obtain ⟨t, s3, e3, ht, hs3⟩ := drawTerm_ok hs (by omega)
    obtain ⟨fs, s4, e4, hfs, hs4⟩ := drawFacts_ok hs3 (by omega)
    simp only [Int.reduceEq, decide_false, cond_false, decide_true, cond_true]
    rw [e3, Option.bind_some, e4, Option.bind_some]
    exact fin (v := 0) (ev := 0) (t := t) (i := Term.mk 0 []) (fs := fs) (arS_while rfl rfl rfl ht rfl hfs) (.inr (by rcases hf with h | h; exact absurd rfl h.2.2; exact h)) hs4 (by omega)
  · exact absurd hkd h
theorem bud_le : ∀ d, d ≤ 3 → bud d ≤ 2000 ∧ len0 d ≤ 200
  | 0, _ => by decide
  | 1, _ => by decide
  | 2, _ => by decide
  | 3, _ => by decide
theorem body_ok : ∀ (d fu : Nat), d < fu → d ≤ 3 → GoodBody (d : Int) (m_spec_l03DrawBody fu) (bud d) (len0 d) := by
  intro d
  induction d with
  | zero =>
    intro fu hfu _ s k hs hk
    cases fu with
    | zero => omega
    | succ fu =>
    have b0 : bud 0 = 100 := rfl
    have l0 : len0 0 = 4 := rfl
    obtain ⟨x, s1, e1, hx, hs1⟩ := among_ok (xs := [0, 2, 2, 3, 4, 5, 6]) hs (by omega) (by decide) (by decide)
    show ∃ out s', m_spec_l03DrawBody_F (m_spec_l03DrawBody fu) s ((0 : Nat) : Int) = some (out, s') ∧ _
    unfold m_spec_l03DrawBody_F
    rw [e1, Option.bind_some, show decide ((0 : Int) < ((0 : Nat) : Int)) = false from rfl, cond_false]
    simp only [List.mem_cons, List.not_mem_nil, or_false] at hx
    obtain ⟨out, s', e, g, lo, hs'⟩ := body_J0 (f := m_spec_l03DrawBody fu) (p := ((0 : Nat) : Int)) (b := 0) (l := 0) (kd := x) (by omega) (by omega) hs1 (by omega) (by omega) (.inl (by omega))
    exact ⟨out, s', e, g, by omega, hs'.mono (by omega)⟩
  | succ d ih =>
    intro fu hfu hd s k hs hk
    cases fu with
    | zero => omega
    | succ fu =>
    have b1 : bud (d + 1) = 100 + 2 * bud d := rfl
    have l1 : len0 (d + 1) = 4 + 2 * len0 d := rfl
    obtain ⟨bl, ll⟩ := bud_le d (by omega)
    obtain ⟨x1, s1, e1, hx1, hs1⟩ := among_ok (xs := [0, 2, 2, 3, 4, 5, 6]) hs (by omega) (by decide) (by decide)
    obtain ⟨x, s2, e2, hx, hs2⟩ := among_ok (xs := [1, 1, 1, 7, 8, 2, 5, 4]) hs1 (by omega) (by decide) (by decide)
    show ∃ out s', m_spec_l03DrawBody_F (m_spec_l03DrawBody fu) s ((d + 1 : Nat) : Int) = some (out, s') ∧ _
    unfold m_spec_l03DrawBody_F
    rw [e1, Option.bind_some, decide_eq_true (p := (0 : Int) < ((d + 1 : Nat) : Int)) (Int.natCast_pos.2 (Nat.succ_pos d)), cond_true]
    simp only
    rw [e2, Option.bind_some]
    simp only [List.mem_cons, List.not_mem_nil, or_false] at hx
    have hg := ih fu (by omega) (by omega)
    have hkd : 0 ≤ x ∧ x ≤ 8 := by omega
    have hk2 : k + 1 + 1 + 2 * bud d + 41 ≤ 3000 := by omega
    have w2 := wdec (n := d) (by omega)
    rw [← w2] at hg
    clear w2
    obtain ⟨out, s', e, g, lo, hs'⟩ := body_J0 (f := m_spec_l03DrawBody fu) (p := ((d + 1 : Nat) : Int)) (kd := x) bl ll hs2 hk2 hkd (.inr hg)
    clear hg
    exact ⟨out, s', e, g, by omega, hs'.mono (by omega)⟩
theorem drawOk_ok {s : l00Src} (hs : Src s 0) : ∃ p s', m_spec_l03DrawOk s = some (p, s') ∧ okProg p = true := by
  obtain ⟨f1, s1, e1, g1, hs1⟩ := drawFacts_ok hs (by omega)
  obtain ⟨r, s2, e2, r0, r1, hs2⟩ := pick_ok (n := 4) hs1 (by omega) (by omega)
  obtain ⟨d, rfl⟩ := Int.eq_ofNat_of_zero_le r0
  have hd : d ≤ 3 := by omega
  have hb := (bud_le d hd).1
  obtain ⟨out, s3, e3, g3, l3, hs3⟩ := body_ok d 1000 (by omega) hd s2 _ hs2 (by omega)
  obtain ⟨f2, s4, e4, g4, hs4⟩ := drawFacts_ok hs3 (by omega)
  unfold m_spec_l03DrawOk
  rw [e1, Option.bind_some, e2, Option.bind_some]
  simp only
  rw [e3, Option.bind_some, e4, Option.bind_some]
  by_cases h : out.length ≤ 30
  · rw [decide_eq_false (by simp only; omega), cond_false]
    refine ⟨_, _, rfl, ?_⟩
    unfold okProg
    rw [isB_iff.2 ⟨h, g3⟩, g1, g4]; rfl
  · rw [decide_eq_true (by simp only; omega), cond_true]
    refine ⟨_, _, rfl, ?_⟩
    unfold okProg
    rw [g1, g4]; rfl
theorem r8Program_ok {code : List Int} (hc : ∀ x ∈ code, 0 ≤ x ∧ x ≤ 255) (hl : code.length ≤ 1048576) : ∃ p, m_spec_R8Program code = some p ∧ okProg p = true := by
  obtain ⟨e, hs⟩ := from_ok hc hl
  obtain ⟨p, s', e2, hp⟩ := drawOk_ok hs
  unfold m_spec_R8Program
  rw [e, Option.bind_some, e2]
  exact ⟨p, rfl, hp⟩
end Go.Mod
