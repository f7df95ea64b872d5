import Derived.Test.YtagnekdlhllndaaGc
namespace Go.Mod
open Go.AM
set_option linter.unusedVariables false
structure l00Src where
  code : List Int
  at_ : Int
  seed : Int
  deriving DecidableEq, Inhabited
structure Term where
  Const : Int
  Coeffs : List Int
  deriving DecidableEq, Inhabited
structure Stmt where
  Kind : Int
  Var : Int
  Event : Int
  Sum : Term
  Index : Term
  Facts : List Term
  deriving DecidableEq, Inhabited
structure Program where
  Pre : List Term
  Body : List Stmt
  Post : List Term
  deriving DecidableEq, Inhabited
structure State where
  Vars : List Int
  Cells : List Int
  deriving DecidableEq, Inhabited
inductive Ptree where
  | nil
  | mk (f0 : Stmt) (f1 : Int) (f2 : List Ptree)
instance : Inhabited Ptree := ⟨.nil⟩
structure tree where
  Stmt : Stmt
  at_ : Int
  kids : List Ptree
  deriving Inhabited
def un_tree : Ptree → Option tree
  | .nil => none
  | .mk f0 f1 f2 => some ⟨f0, f1, f2⟩
def re_tree (t : tree) : Ptree := .mk t.Stmt t.at_ t.kids
structure running where
  state : State
  events : List Int
  fuel : Int
  steps : Int
  out : Int
  deriving DecidableEq, Inhabited
def k_u8 (x : Int) : Prop := 0 ≤ x ∧ x ≤ 255
def kLa_u8 (x : List Int) : Prop := x.length ≤ 9223372036854775807 ∧ ∀ y ∈ x, k_u8 y
def k_i64 (x : Int) : Prop := -9223372036854775808 ≤ x ∧ x ≤ 9223372036854775807
def kLa_i64 (x : List Int) : Prop := x.length ≤ 9223372036854775807 ∧ ∀ y ∈ x, k_i64 y
def k_Term (x : Term) : Prop := k_i64 x.Const ∧ kLa_i64 x.Coeffs
def kLa_Term (x : List Term) : Prop := x.length ≤ 9223372036854775807 ∧ ∀ y ∈ x, k_Term y
def k_Stmt (x : Stmt) : Prop := k_i64 x.Kind ∧ k_i64 x.Var ∧ k_i64 x.Event ∧ k_Term x.Sum ∧ k_Term x.Index ∧ kLa_Term x.Facts
def kLa_Stmt (x : List Stmt) : Prop := x.length ≤ 9223372036854775807 ∧ ∀ y ∈ x, k_Stmt y
noncomputable def m_spec_l00Own (p0 : List Int) : Option (List Int) :=
  (capI (([] : List Int).length + p0.length) 8).bind fun (q5 : Unit) =>
  some (([] : List Int) ++ p0)
noncomputable def m_spec_l00In (p0 : Int) (p1 : Int) (p2 : Int) : Option Bool :=
  some ((decide (p1 ≤ p0)) && (decide (p0 ≤ p2)))
noncomputable def m_spec_l02Number (p0 : Int) : Option Bool :=
  (m_spec_l00In p0 (-1000000 : Int) (1000000 : Int)).bind fun (r4 : Bool) =>
  some r4
noncomputable def m_spec_l02Is_L0 (p0 : Term) (s0 : Int) : Option (Ctl Int (Unit ⊕ Bool)) :=
  bif (decide (s0 < (p0.Coeffs.length : Int))) then
    (getI p0.Coeffs s0).bind fun (x45 : Int) =>
    (m_spec_l02Number x45).bind fun (r47 : Bool) =>
    bif (!r47) then
      some (.out (.inr false))
    else
      some (.next (w64 (s0 + (1 : Int))))
  else
    some (.out (.inl ()))
noncomputable def m_spec_l02Is_A0 (u0 : Unit ⊕ Bool) : Option Bool :=
  match u0 with
  | .inl u0 =>
    some true
  | .inr u0 =>
    some u0
noncomputable def m_spec_l02Is_J0 (p0 : Term) (j0 : Unit) : Option Bool :=
  (iter (m_spec_l02Is_L0 p0) (0 : Int)).bind fun (u0 : Unit ⊕ Bool) =>
  m_spec_l02Is_A0 u0
noncomputable def m_spec_l02Is (p0 : Term) : Option Bool :=
  (m_spec_l02Number p0.Const).bind fun (r14 : Bool) =>
  bif ((!r14) || (decide ((10 : Int) < (p0.Coeffs.length : Int)))) then
    some false
  else
    bif (decide ((0 : Int) < (p0.Coeffs.length : Int))) then
      (getI p0.Coeffs (w64 ((p0.Coeffs.length : Int) - (1 : Int)))).bind fun (x30 : Int) =>
      bif (decide (x30 = (0 : Int))) then
        some false
      else
        m_spec_l02Is_J0 p0 ()
    else
      m_spec_l02Is_J0 p0 ()
noncomputable def m_spec_l03Below_J0 (p0 : Int) (j0 : Bool) : Option Int :=
  bif j0 then
    some (2 : Int)
  else
    bif (decide (p0 = (8 : Int))) then
      some (1 : Int)
    else
      some (0 : Int)
noncomputable def m_spec_l03Below (p0 : Int) : Option Int :=
  bif (decide (p0 = (1 : Int))) then
    m_spec_l03Below_J0 p0 (decide (p0 = (1 : Int)))
  else
    m_spec_l03Below_J0 p0 (decide (p0 = (7 : Int)))
noncomputable def m_impl_Term_isZero (p0 : Term) : Option Bool :=
  some ((decide (p0.Const = (0 : Int))) && (decide ((p0.Coeffs.length : Int) = (0 : Int))))
noncomputable def m_impl_within (p0 : Int) (p1 : Int) (p2 : Int) : Option Bool :=
  some ((decide (p1 ≤ p0)) && (decide (p0 ≤ p2)))
noncomputable def m_impl_isVar (p0 : Int) : Option Bool :=
  (m_impl_within p0 (0 : Int) (3 : Int)).bind fun (r4 : Bool) =>
  some r4
noncomputable def m_impl_isCoeff (p0 : Int) : Option Bool :=
  (m_impl_within p0 (-1000000 : Int) (1000000 : Int)).bind fun (r4 : Bool) =>
  some r4
noncomputable def m_impl_allWithin_L0 (p1 : Int) (p2 : Int) (n0 : Nat) (x0 : Int) (s0 : Unit) : Option (Ctl Unit (Unit ⊕ Bool)) :=
  (m_impl_within x0 p1 p2).bind fun (r18 : Bool) =>
  bif (!r18) then
    some (.out (.inr false))
  else
    some (.next ())
noncomputable def m_impl_allWithin_A0 (u0 : Unit ⊕ Bool) : Option Bool :=
  match u0 with
  | .inl u0 =>
    some true
  | .inr u0 =>
    some u0
noncomputable def m_impl_allWithin (p0 : List Int) (p1 : Int) (p2 : Int) : Option Bool :=
  (forL (m_impl_allWithin_L0 p1 p2) (fun s0 => (.inl ())) 0 p0 ()).bind fun (u0 : Unit ⊕ Bool) =>
  m_impl_allWithin_A0 u0
noncomputable def m_impl_ValidTerm (p0 : Term) : Option Bool :=
  bif (decide ((p0.Coeffs.length : Int) ≤ (10 : Int))) then
    (m_impl_isCoeff p0.Const).bind fun (r12 : Bool) =>
    bif r12 then
      (m_impl_allWithin p0.Coeffs (-1000000 : Int) (1000000 : Int)).bind fun (r17 : Bool) =>
      bif r17 then
        bif (decide ((p0.Coeffs.length : Int) = (0 : Int))) then
          some true
        else
          (getI p0.Coeffs (w64 ((p0.Coeffs.length : Int) - (1 : Int)))).bind fun (x27 : Int) =>
          some (!decide (x27 = (0 : Int)))
      else
        some false
    else
      some false
  else
    some false
noncomputable def m_impl_isOver (p0 : Term) : Option Bool :=
  (m_impl_ValidTerm p0).bind fun (r4 : Bool) =>
  some (r4 && (decide ((p0.Coeffs.length : Int) ≤ (4 : Int))))
noncomputable def m_impl_isEvent (p0 : Int) : Option Bool :=
  (m_impl_within p0 (0 : Int) (3 : Int)).bind fun (r4 : Bool) =>
  some r4
noncomputable def m_impl_areOver_1 (p0 : Term) : Option Bool :=
  (m_impl_isOver p0).bind fun (r4 : Bool) =>
  some (!r4)
noncomputable def m_slices_IndexFunc_impl_Term_impl_Term_fareOver_1_L0 (n0 : Nat) (x0 : Term) (s0 : Unit) : Option (Ctl Unit (Unit ⊕ Int)) :=
  (m_impl_areOver_1 x0).bind fun (r16 : Bool) =>
  bif r16 then
    some (.out (.inr (n0 : Int)))
  else
    some (.next ())
noncomputable def m_slices_IndexFunc_impl_Term_impl_Term_fareOver_1_A0 (u0 : Unit ⊕ Int) : Option Int :=
  match u0 with
  | .inl u0 =>
    some (-1 : Int)
  | .inr u0 =>
    some u0
noncomputable def m_slices_IndexFunc_impl_Term_impl_Term_fareOver_1 (p0 : List Term) : Option Int :=
  (forL (m_slices_IndexFunc_impl_Term_impl_Term_fareOver_1_L0) (fun s0 => (.inl ())) 0 p0 ()).bind fun (u0 : Unit ⊕ Int) =>
  m_slices_IndexFunc_impl_Term_impl_Term_fareOver_1_A0 u0
noncomputable def m_slices_ContainsFunc_impl_Term_impl_Term_fareOver_1 (p0 : List Term) : Option Bool :=
  (m_slices_IndexFunc_impl_Term_impl_Term_fareOver_1 p0).bind fun (r7 : Int) =>
  some (decide ((0 : Int) ≤ r7))
noncomputable def m_impl_areOver (p0 : List Term) (p1 : Int) : Option Bool :=
  bif (decide ((p0.length : Int) ≤ p1)) then
    (m_slices_ContainsFunc_impl_Term_impl_Term_fareOver_1 p0).bind fun (r11 : Bool) =>
    some (!r11)
  else
    some false
noncomputable def m_impl_kidsOf (p0 : Stmt) : Option Int :=
  (m_impl_Term_isZero p0.Sum).bind fun (r17 : Bool) =>
  (m_impl_Term_isZero p0.Index).bind fun (r20 : Bool) =>
  bif (decide (p0.Kind = (0 : Int))) then
    bif (((((decide (p0.Var = (0 : Int))) && (decide (p0.Event = (0 : Int)))) && r17) && r20) && (decide ((p0.Facts.length : Int) = (0 : Int)))) then
      some (0 : Int)
    else
      some (-1 : Int)
  else
    bif (decide (p0.Kind = (1 : Int))) then
      bif (((((decide (p0.Var = (0 : Int))) && (decide (p0.Event = (0 : Int)))) && r17) && r20) && (decide ((p0.Facts.length : Int) = (0 : Int)))) then
        some (2 : Int)
      else
        some (-1 : Int)
    else
      bif (decide (p0.Kind = (2 : Int))) then
        (m_impl_isVar p0.Var).bind fun (r61 : Bool) =>
        bif (r61 && (decide (p0.Event = (0 : Int)))) then
          (m_impl_isOver p0.Sum).bind fun (r68 : Bool) =>
          bif ((r68 && r20) && (decide ((p0.Facts.length : Int) = (0 : Int)))) then
            some (0 : Int)
          else
            some (-1 : Int)
        else
          some (-1 : Int)
      else
        bif (decide (p0.Kind = (3 : Int))) then
          (m_impl_isVar p0.Var).bind fun (r80 : Bool) =>
          bif ((r80 && (decide (p0.Event = (0 : Int)))) && r17) then
            (m_impl_isOver p0.Index).bind fun (r90 : Bool) =>
            bif (r90 && (decide ((p0.Facts.length : Int) = (0 : Int)))) then
              some (0 : Int)
            else
              some (-1 : Int)
          else
            some (-1 : Int)
        else
          bif (decide (p0.Kind = (4 : Int))) then
            bif ((decide (p0.Var = (0 : Int))) && (decide (p0.Event = (0 : Int)))) then
              (m_impl_isOver p0.Sum).bind fun (r104 : Bool) =>
              bif r104 then
                (m_impl_isOver p0.Index).bind fun (r109 : Bool) =>
                bif (r109 && (decide ((p0.Facts.length : Int) = (0 : Int)))) then
                  some (0 : Int)
                else
                  some (-1 : Int)
              else
                some (-1 : Int)
            else
              some (-1 : Int)
          else
            bif (decide (p0.Kind = (5 : Int))) then
              bif (decide (p0.Var = (0 : Int))) then
                (m_impl_isEvent p0.Event).bind fun (r120 : Bool) =>
                bif (((r120 && r17) && r20) && (decide ((p0.Facts.length : Int) = (0 : Int)))) then
                  some (0 : Int)
                else
                  some (-1 : Int)
              else
                some (-1 : Int)
            else
              bif (decide (p0.Kind = (6 : Int))) then
                bif ((decide (p0.Var = (0 : Int))) && (decide (p0.Event = (0 : Int)))) then
                  (m_impl_isOver p0.Sum).bind fun (r140 : Bool) =>
                  bif ((r140 && r20) && (decide ((p0.Facts.length : Int) = (0 : Int)))) then
                    some (0 : Int)
                  else
                    some (-1 : Int)
                else
                  some (-1 : Int)
              else
                bif (decide (p0.Kind = (7 : Int))) then
                  bif ((decide (p0.Var = (0 : Int))) && (decide (p0.Event = (0 : Int)))) then
                    (m_impl_isOver p0.Sum).bind fun (r157 : Bool) =>
                    bif ((r157 && r20) && (decide ((p0.Facts.length : Int) = (0 : Int)))) then
                      some (2 : Int)
                    else
                      some (-1 : Int)
                  else
                    some (-1 : Int)
                else
                  bif (decide (p0.Kind = (8 : Int))) then
                    bif ((decide (p0.Var = (0 : Int))) && (decide (p0.Event = (0 : Int)))) then
                      (m_impl_isOver p0.Sum).bind fun (r174 : Bool) =>
                      bif (r174 && r20) then
                        (m_impl_areOver p0.Facts (6 : Int)).bind fun (r182 : Bool) =>
                        bif r182 then
                          some (1 : Int)
                        else
                          some (-1 : Int)
                      else
                        some (-1 : Int)
                    else
                      some (-1 : Int)
                  else
                    some (-1 : Int)
noncomputable def m_impl_treeAt_F_L0 (rec_impl_treeAt : (List Stmt) → Int → Option (Ptree × Int × Bool)) (p0 : List Stmt) (s0 : Int × Int × (List Ptree)) : Option (Ctl (Int × Int × (List Ptree)) ((Int × (List Ptree)) ⊕ (Ptree × Int × Bool))) :=
  bif (decide ((0 : Int) < s0.2.1)) then
    (rec_impl_treeAt p0 s0.1).bind fun (r39 : Ptree × Int × Bool) =>
    bif (!r39.2.2) then
      some (.out (.inr ((.nil : Ptree), (0 : Int), false)))
    else
      (capI (s0.2.2.length + [r39.1].length) 8).bind fun (q52 : Unit) =>
      some (.next (r39.2.1, (w64 (s0.2.1 - (1 : Int))), (s0.2.2 ++ [r39.1])))
  else
    some (.out (.inl (s0.1, s0.2.2)))
noncomputable def m_impl_treeAt_F_A0 (p1 : Int) (x18 : Stmt) (u0 : (Int × (List Ptree)) ⊕ (Ptree × Int × Bool)) : Option (Ptree × Int × Bool) :=
  match u0 with
  | .inl u0 =>
    some ((re_tree (tree.mk x18 p1 u0.2)), u0.1, true)
  | .inr u0 =>
    some (u0.1, u0.2.1, u0.2.2)
noncomputable def m_impl_treeAt_F (rec_impl_treeAt : (List Stmt) → Int → Option (Ptree × Int × Bool)) (p0 : List Stmt) (p1 : Int) : Option (Ptree × Int × Bool) :=
  bif (decide ((p0.length : Int) ≤ p1)) then
    some ((.nil : Ptree), (0 : Int), false)
  else
    (getI p0 p1).bind fun (x18 : Stmt) =>
    (m_impl_kidsOf x18).bind fun (r20 : Int) =>
    bif (decide (r20 < (0 : Int))) then
      some ((.nil : Ptree), (0 : Int), false)
    else
      (iter (m_impl_treeAt_F_L0 rec_impl_treeAt p0) ((w64 (p1 + (1 : Int))), r20, ([] : List Ptree))).bind fun (u0 : (Int × (List Ptree)) ⊕ (Ptree × Int × Bool)) =>
      m_impl_treeAt_F_A0 p1 x18 u0
noncomputable def m_impl_treeAt : Nat → (List Stmt) → Int → Option (Ptree × Int × Bool)
  | 0, _, _ => none
  | n + 1, p0, p1 => m_impl_treeAt_F (m_impl_treeAt n) p0 p1
noncomputable def m_impl_treeOf (p0 : List Stmt) : Option (Ptree × Bool) :=
  bif (decide ((30 : Int) < (p0.length : Int))) then
    some ((.nil : Ptree), false)
  else
    (m_impl_treeAt 1000 p0 (0 : Int)).bind fun (r12 : Ptree × Int × Bool) =>
    some (r12.1, (r12.2.2 && (decide (r12.2.1 = (p0.length : Int)))))
noncomputable def m_impl_copyInts (p0 : List Int) : Option (List Int) :=
  (capI (([] : List Int).length + p0.length) 8).bind fun (q5 : Unit) =>
  some (([] : List Int) ++ p0)
noncomputable def m_impl_Term_own (p0 : Term) : Option Term :=
  (m_impl_copyInts p0.Coeffs).bind fun (r7 : List Int) =>
  some (Term.mk p0.Const r7)
noncomputable def m_impl_ownTerms_L0 (n0 : Nat) (x0 : Term) (s0 : List Term) : Option (Ctl (List Term) ((List Term))) :=
  (m_impl_Term_own x0).bind fun (r14 : Term) =>
  (capI (s0.length + [r14].length) 32).bind fun (q16 : Unit) =>
  some (.next (s0 ++ [r14]))
noncomputable def m_impl_ownTerms_A0 (u0 : (List Term)) : Option (List Term) :=
  some u0
noncomputable def m_impl_ownTerms (p0 : List Term) : Option (List Term) :=
  (forL (m_impl_ownTerms_L0) (fun s0 => s0) 0 p0 ([] : List Term)).bind fun (u0 : (List Term)) =>
  m_impl_ownTerms_A0 u0
noncomputable def m_impl_ownStmt (p0 : Stmt) : Option Stmt :=
  (m_impl_Term_own p0.Sum).bind fun (r5 : Term) =>
  (m_impl_Term_own p0.Index).bind fun (r8 : Term) =>
  (m_impl_ownTerms p0.Facts).bind fun (r11 : List Term) =>
  some (Stmt.mk p0.Kind p0.Var p0.Event r5 r8 r11)
noncomputable def m_laws_szInt64S (p0 : List Int) (p1 : Int) : Option Int :=
  bif (decide ((w64 (p1 - (p0.length : Int))) < (0 : Int))) then
    some (-1 : Int)
  else
    some (w64 (p1 - (p0.length : Int)))
noncomputable def m_laws_szTerm (p0 : Term) (p1 : Int) : Option Int :=
  (m_laws_szInt64S p0.Coeffs p1).bind fun (r8 : Int) =>
  bif (decide (r8 < (0 : Int))) then
    some (-1 : Int)
  else
    some r8
noncomputable def m_laws_szTermS_L0 (p0 : List Term) (s0 : Int × Int) : Option (Ctl (Int × Int) (Int ⊕ Int)) :=
  bif (decide (s0.2 < (p0.length : Int))) then
    (getI p0 s0.2).bind fun (x20 : Term) =>
    (m_laws_szTerm x20 s0.1).bind fun (r23 : Int) =>
    bif (decide (r23 < (0 : Int))) then
      some (.out (.inr (-1 : Int)))
    else
      some (.next (r23, (w64 (s0.2 + (1 : Int)))))
  else
    some (.out (.inl s0.1))
noncomputable def m_laws_szTermS_A0 (u0 : Int ⊕ Int) : Option Int :=
  match u0 with
  | .inl u0 =>
    some u0
  | .inr u0 =>
    some u0
noncomputable def m_laws_szTermS (p0 : List Term) (p1 : Int) : Option Int :=
  bif (decide ((w64 (p1 - (p0.length : Int))) < (0 : Int))) then
    some (-1 : Int)
  else
    (iter (m_laws_szTermS_L0 p0) ((w64 (p1 - (p0.length : Int))), (0 : Int))).bind fun (u0 : Int ⊕ Int) =>
    m_laws_szTermS_A0 u0
noncomputable def m_laws_szStmt (p0 : Stmt) (p1 : Int) : Option Int :=
  (m_laws_szTerm p0.Sum p1).bind fun (r8 : Int) =>
  bif (decide (r8 < (0 : Int))) then
    some (-1 : Int)
  else
    (m_laws_szTerm p0.Index r8).bind fun (r14 : Int) =>
    bif (decide (r14 < (0 : Int))) then
      some (-1 : Int)
    else
      (m_laws_szTermS p0.Facts r14).bind fun (r20 : Int) =>
      bif (decide (r20 < (0 : Int))) then
        some (-1 : Int)
      else
        some r20
noncomputable def m_laws_szStmtS_L0 (p0 : List Stmt) (s0 : Int × Int) : Option (Ctl (Int × Int) (Int ⊕ Int)) :=
  bif (decide (s0.2 < (p0.length : Int))) then
    (getI p0 s0.2).bind fun (x20 : Stmt) =>
    (m_laws_szStmt x20 s0.1).bind fun (r23 : Int) =>
    bif (decide (r23 < (0 : Int))) then
      some (.out (.inr (-1 : Int)))
    else
      some (.next (r23, (w64 (s0.2 + (1 : Int)))))
  else
    some (.out (.inl s0.1))
noncomputable def m_laws_szStmtS_A0 (u0 : Int ⊕ Int) : Option Int :=
  match u0 with
  | .inl u0 =>
    some u0
  | .inr u0 =>
    some u0
noncomputable def m_laws_szStmtS (p0 : List Stmt) (p1 : Int) : Option Int :=
  bif (decide ((w64 (p1 - (p0.length : Int))) < (0 : Int))) then
    some (-1 : Int)
  else
    (iter (m_laws_szStmtS_L0 p0) ((w64 (p1 - (p0.length : Int))), (0 : Int))).bind fun (u0 : Int ⊕ Int) =>
    m_laws_szStmtS_A0 u0
noncomputable def m_laws_toInt64S_L0 (p0 : List Int) (s0 : (List Int) × Int) : Option (Ctl ((List Int) × Int) ((List Int))) :=
  bif (decide (s0.2 < (p0.length : Int))) then
    (getI p0 s0.2).bind fun (x18 : Int) =>
    (getI s0.1 s0.2).bind fun (x20 : Int) =>
    some (.next ((s0.1.set ((s0.2).toNat) x18), (w64 (s0.2 + (1 : Int)))))
  else
    some (.out s0.1)
noncomputable def m_laws_toInt64S_A0 (u0 : (List Int)) : Option (List Int) :=
  some u0
noncomputable def m_laws_toInt64S (p0 : List Int) : Option (List Int) :=
  (makeI (p0.length : Int) 8).bind fun (k7 : Nat) =>
  (iter (m_laws_toInt64S_L0 p0) ((List.replicate k7 (0 : Int)), (0 : Int))).bind fun (u0 : (List Int)) =>
  m_laws_toInt64S_A0 u0
noncomputable def m_laws_toTerm (p0 : Term) : Option Term :=
  (m_laws_toInt64S p0.Coeffs).bind fun (r9 : List Int) =>
  some (Term.mk p0.Const r9)
noncomputable def m_laws_toTermS_L0 (p0 : List Term) (s0 : (List Term) × Int) : Option (Ctl ((List Term) × Int) ((List Term))) :=
  bif (decide (s0.2 < (p0.length : Int))) then
    (getI p0 s0.2).bind fun (x18 : Term) =>
    (m_laws_toTerm x18).bind fun (r20 : Term) =>
    (getI s0.1 s0.2).bind fun (x21 : Term) =>
    some (.next ((s0.1.set ((s0.2).toNat) r20), (w64 (s0.2 + (1 : Int)))))
  else
    some (.out s0.1)
noncomputable def m_laws_toTermS_A0 (u0 : (List Term)) : Option (List Term) :=
  some u0
noncomputable def m_laws_toTermS (p0 : List Term) : Option (List Term) :=
  (makeI (p0.length : Int) 32).bind fun (k7 : Nat) =>
  (iter (m_laws_toTermS_L0 p0) ((List.replicate k7 (Term.mk (0 : Int) ([] : List Int))), (0 : Int))).bind fun (u0 : (List Term)) =>
  m_laws_toTermS_A0 u0
noncomputable def m_laws_toStmt (p0 : Stmt) : Option Stmt :=
  (m_laws_toTerm p0.Sum).bind fun (r15 : Term) =>
  (m_laws_toTerm p0.Index).bind fun (r19 : Term) =>
  (m_laws_toTermS p0.Facts).bind fun (r23 : List Term) =>
  some (Stmt.mk p0.Kind p0.Var p0.Event r15 r19 r23)
noncomputable def m_laws_toStmtS_L0 (p0 : List Stmt) (s0 : (List Stmt) × Int) : Option (Ctl ((List Stmt) × Int) ((List Stmt))) :=
  bif (decide (s0.2 < (p0.length : Int))) then
    (getI p0 s0.2).bind fun (x18 : Stmt) =>
    (m_laws_toStmt x18).bind fun (r20 : Stmt) =>
    (getI s0.1 s0.2).bind fun (x21 : Stmt) =>
    some (.next ((s0.1.set ((s0.2).toNat) r20), (w64 (s0.2 + (1 : Int)))))
  else
    some (.out s0.1)
noncomputable def m_laws_toStmtS_A0 (u0 : (List Stmt)) : Option (List Stmt) :=
  some u0
noncomputable def m_laws_toStmtS (p0 : List Stmt) : Option (List Stmt) :=
  (makeI (p0.length : Int) 112).bind fun (k7 : Nat) =>
  (iter (m_laws_toStmtS_L0 p0) ((List.replicate k7 (Stmt.mk (0 : Int) (0 : Int) (0 : Int) (Term.mk (0 : Int) ([] : List Int)) (Term.mk (0 : Int) ([] : List Int)) ([] : List Term))), (0 : Int))).bind fun (u0 : (List Stmt)) =>
  m_laws_toStmtS_A0 u0
noncomputable def m_spec_l03Term (p0 : Term) : Option Bool :=
  (m_spec_l02Is p0).bind fun (r4 : Bool) =>
  some (r4 && (decide ((p0.Coeffs.length : Int) ≤ (4 : Int))))
noncomputable def m_spec_l03Terms_L0 (p0 : List Term) (s0 : Int) : Option (Ctl Int (Unit ⊕ Bool)) :=
  bif (decide (s0 < (p0.length : Int))) then
    (getI p0 s0).bind fun (x14 : Term) =>
    (m_spec_l03Term x14).bind fun (r15 : Bool) =>
    bif (!r15) then
      some (.out (.inr false))
    else
      some (.next (w64 (s0 + (1 : Int))))
  else
    some (.out (.inl ()))
noncomputable def m_spec_l03Terms_A0 (p0 : List Term) (p1 : Int) (u0 : Unit ⊕ Bool) : Option Bool :=
  match u0 with
  | .inl u0 =>
    some (decide ((p0.length : Int) ≤ p1))
  | .inr u0 =>
    some u0
noncomputable def m_spec_l03Terms (p0 : List Term) (p1 : Int) : Option Bool :=
  (iter (m_spec_l03Terms_L0 p0) (0 : Int)).bind fun (u0 : Unit ⊕ Bool) =>
  m_spec_l03Terms_A0 p0 p1 u0
noncomputable def m_spec_l05Zero (p0 : Term) : Option Bool :=
  some ((decide (p0.Const = (0 : Int))) && (decide ((p0.Coeffs.length : Int) = (0 : Int))))
noncomputable def m_spec_l03Stmt_J1 (p0 : Stmt) (j1 : Unit) : Option Bool :=
  bif (decide (p0.Kind = (5 : Int))) then
    (m_spec_l00In p0.Event (0 : Int) (3 : Int)).bind fun (r155 : Bool) =>
    some r155
  else
    some (decide (p0.Event = (0 : Int)))
noncomputable def m_spec_l03Stmt_J0 (p0 : Stmt) (j0 : Unit) : Option Bool :=
  bif ((decide (p0.Kind = (2 : Int))) || (decide (p0.Kind = (3 : Int)))) then
    (m_spec_l00In p0.Var (0 : Int) (3 : Int)).bind fun (r132 : Bool) =>
    bif (!r132) then
      some false
    else
      bif (!((decide (p0.Kind = (2 : Int))) || (decide (p0.Kind = (3 : Int))))) then
        bif (!decide (p0.Var = (0 : Int))) then
          some false
        else
          m_spec_l03Stmt_J1 p0 ()
      else
        m_spec_l03Stmt_J1 p0 ()
  else
    bif (!((decide (p0.Kind = (2 : Int))) || (decide (p0.Kind = (3 : Int))))) then
      bif (!decide (p0.Var = (0 : Int))) then
        some false
      else
        m_spec_l03Stmt_J1 p0 ()
    else
      m_spec_l03Stmt_J1 p0 ()
noncomputable def m_spec_l03Stmt (p0 : Stmt) : Option Bool :=
  (m_spec_l00In p0.Kind (0 : Int) (8 : Int)).bind fun (r67 : Bool) =>
  bif (!r67) then
    some false
  else
    (m_spec_l03Term p0.Sum).bind fun (r73 : Bool) =>
    bif (!r73) then
      some false
    else
      (m_spec_l03Term p0.Index).bind fun (r80 : Bool) =>
      bif (!r80) then
        some false
      else
        (m_spec_l03Terms p0.Facts (6 : Int)).bind fun (r88 : Bool) =>
        bif (!r88) then
          some false
        else
          bif (!(((((decide (p0.Kind = (2 : Int))) || (decide (p0.Kind = (4 : Int)))) || (decide (p0.Kind = (6 : Int)))) || (decide (p0.Kind = (7 : Int)))) || (decide (p0.Kind = (8 : Int))))) then
            (m_spec_l05Zero p0.Sum).bind fun (r97 : Bool) =>
            bif (!r97) then
              some false
            else
              bif (!((decide (p0.Kind = (3 : Int))) || (decide (p0.Kind = (4 : Int))))) then
                (m_spec_l05Zero p0.Index).bind fun (r107 : Bool) =>
                bif (!r107) then
                  some false
                else
                  bif (!decide (p0.Kind = (8 : Int))) then
                    bif (decide ((0 : Int) < (p0.Facts.length : Int))) then
                      some false
                    else
                      m_spec_l03Stmt_J0 p0 ()
                  else
                    m_spec_l03Stmt_J0 p0 ()
              else
                bif (!decide (p0.Kind = (8 : Int))) then
                  bif (decide ((0 : Int) < (p0.Facts.length : Int))) then
                    some false
                  else
                    m_spec_l03Stmt_J0 p0 ()
                else
                  m_spec_l03Stmt_J0 p0 ()
          else
            bif (!((decide (p0.Kind = (3 : Int))) || (decide (p0.Kind = (4 : Int))))) then
              (m_spec_l05Zero p0.Index).bind fun (r107 : Bool) =>
              bif (!r107) then
                some false
              else
                bif (!decide (p0.Kind = (8 : Int))) then
                  bif (decide ((0 : Int) < (p0.Facts.length : Int))) then
                    some false
                  else
                    m_spec_l03Stmt_J0 p0 ()
                else
                  m_spec_l03Stmt_J0 p0 ()
            else
              bif (!decide (p0.Kind = (8 : Int))) then
                bif (decide ((0 : Int) < (p0.Facts.length : Int))) then
                  some false
                else
                  m_spec_l03Stmt_J0 p0 ()
              else
                m_spec_l03Stmt_J0 p0 ()
noncomputable def m_spec_l03End_L0 (p0 : List Stmt) (s0 : Int × Int) : Option (Ctl (Int × Int) (Int ⊕ Int)) :=
  bif (decide ((0 : Int) < s0.2)) then
    bif (decide (s0.1 = (p0.length : Int))) then
      some (.out (.inr (-1 : Int)))
    else
      (getI p0 s0.1).bind fun (x15 : Stmt) =>
      (m_spec_l03Below x15.Kind).bind fun (r18 : Int) =>
      some (.next ((w64 (s0.1 + (1 : Int))), (w64 (s0.2 + (w64 (r18 - (1 : Int)))))))
  else
    some (.out (.inl s0.1))
noncomputable def m_spec_l03End_A0 (u0 : Int ⊕ Int) : Option Int :=
  match u0 with
  | .inl u0 =>
    some u0
  | .inr u0 =>
    some u0
noncomputable def m_spec_l03End (p0 : List Stmt) (p1 : Int) : Option Int :=
  (iter (m_spec_l03End_L0 p0) (p1, (1 : Int))).bind fun (u0 : Int ⊕ Int) =>
  m_spec_l03End_A0 u0
noncomputable def m_spec_l03Body_L0 (p0 : List Stmt) (s0 : Int) : Option (Ctl Int (Unit ⊕ Bool)) :=
  bif (decide (s0 < (p0.length : Int))) then
    (getI p0 s0).bind fun (x16 : Stmt) =>
    (m_spec_l03Stmt x16).bind fun (r17 : Bool) =>
    bif (!r17) then
      some (.out (.inr false))
    else
      some (.next (w64 (s0 + (1 : Int))))
  else
    some (.out (.inl ()))
noncomputable def m_spec_l03Body_A0 (p0 : List Stmt) (u0 : Unit ⊕ Bool) : Option Bool :=
  match u0 with
  | .inl u0 =>
    (m_spec_l03End p0 (0 : Int)).bind fun (r20 : Int) =>
    some (decide (r20 = (p0.length : Int)))
  | .inr u0 =>
    some u0
noncomputable def m_spec_l03Body (p0 : List Stmt) : Option Bool :=
  (m_spec_l00In (p0.length : Int) (1 : Int) (30 : Int)).bind fun (r6 : Bool) =>
  bif (!r6) then
    some false
  else
    (iter (m_spec_l03Body_L0 p0) (0 : Int)).bind fun (u0 : Unit ⊕ Bool) =>
    m_spec_l03Body_A0 p0 u0
noncomputable def m_spec_l02Own (p0 : Term) : Option Term :=
  (m_spec_l00Own p0.Coeffs).bind fun (r11 : List Int) =>
  some (Term.mk p0.Const r11)
noncomputable def m_spec_l02OwnAll_L0 (p0 : List Term) (s0 : (List Term) × Int) : Option (Ctl ((List Term) × Int) ((List Term))) :=
  bif (decide (s0.2 < (p0.length : Int))) then
    (getI p0 s0.2).bind fun (x15 : Term) =>
    (m_spec_l02Own x15).bind fun (r16 : Term) =>
    (capI (s0.1.length + [r16].length) 32).bind fun (q18 : Unit) =>
    some (.next ((s0.1 ++ [r16]), (w64 (s0.2 + (1 : Int)))))
  else
    some (.out s0.1)
noncomputable def m_spec_l02OwnAll_A0 (u0 : (List Term)) : Option (List Term) :=
  some u0
noncomputable def m_spec_l02OwnAll (p0 : List Term) : Option (List Term) :=
  (iter (m_spec_l02OwnAll_L0 p0) (([] : List Term), (0 : Int))).bind fun (u0 : (List Term)) =>
  m_spec_l02OwnAll_A0 u0
noncomputable def m_spec_l03OwnStmt (p0 : Stmt) : Option Stmt :=
  (m_spec_l02Own p0.Sum).bind fun (r18 : Term) =>
  (m_spec_l02Own p0.Index).bind fun (r22 : Term) =>
  (m_spec_l02OwnAll p0.Facts).bind fun (r27 : List Term) =>
  some (Stmt.mk p0.Kind p0.Var p0.Event r18 r22 r27)
noncomputable def m_spec_l03Normal_F_L0 (s0 : (List Stmt) × (List Stmt)) : Option (Ctl ((List Stmt) × (List Stmt)) (((List Stmt) × (List Stmt)))) :=
  bif (decide ((0 : Int) < (s0.1.length : Int))) then
    (getI s0.1 (0 : Int)).bind fun (x54 : Stmt) =>
    bif (decide (x54.Kind = (1 : Int))) then
      (m_spec_l03End s0.1 (1 : Int)).bind fun (r60 : Int) =>
      (sliceI s0.1 (0 : Int) r60).bind fun (y64 : List Stmt) =>
      (capI (s0.2.length + y64.length) 112).bind fun (q65 : Unit) =>
      (sliceI s0.1 r60 (s0.1.length : Int)).bind fun (y68 : List Stmt) =>
      some (.next (y68, (s0.2 ++ y64)))
    else
      some (.out (s0.1, s0.2))
  else
    some (.out (s0.1, s0.2))
noncomputable def m_spec_l03Normal_F_A0 (r37 : List Stmt) (u0 : ((List Stmt) × (List Stmt))) : Option (List Stmt) :=
  (capI (u0.2.length + ([(Stmt.mk (1 : Int) (0 : Int) (0 : Int) (Term.mk (0 : Int) ([] : List Int)) (Term.mk (0 : Int) ([] : List Int)) ([] : List Term))]).length) 112).bind fun (q72 : Unit) =>
  (capI ((u0.2 ++ [(Stmt.mk (1 : Int) (0 : Int) (0 : Int) (Term.mk (0 : Int) ([] : List Int)) (Term.mk (0 : Int) ([] : List Int)) ([] : List Term))]).length + u0.1.length) 112).bind fun (q75 : Unit) =>
  (capI (((u0.2 ++ [(Stmt.mk (1 : Int) (0 : Int) (0 : Int) (Term.mk (0 : Int) ([] : List Int)) (Term.mk (0 : Int) ([] : List Int)) ([] : List Term))]) ++ u0.1).length + r37.length) 112).bind fun (q78 : Unit) =>
  some (((u0.2 ++ [(Stmt.mk (1 : Int) (0 : Int) (0 : Int) (Term.mk (0 : Int) ([] : List Int)) (Term.mk (0 : Int) ([] : List Int)) ([] : List Term))]) ++ u0.1) ++ r37)
noncomputable def m_spec_l03Normal_F (rec_spec_l03Normal : (List Stmt) → Option (List Stmt)) (p0 : List Stmt) : Option (List Stmt) :=
  (getI p0 (0 : Int)).bind fun (x11 : Stmt) =>
  (m_spec_l03OwnStmt x11).bind fun (r12 : Stmt) =>
  (m_spec_l03Below r12.Kind).bind fun (r15 : Int) =>
  bif (decide (r15 = (0 : Int))) then
    some [r12]
  else
    (m_spec_l03End p0 (1 : Int)).bind fun (r20 : Int) =>
    bif (decide (r12.Kind = (8 : Int))) then
      (sliceI p0 (1 : Int) (p0.length : Int)).bind fun (y27 : List Stmt) =>
      (rec_spec_l03Normal y27).bind fun (r28 : List Stmt) =>
      (capI ([r12].length + r28.length) 112).bind fun (q29 : Unit) =>
      some ([r12] ++ r28)
    else
      (sliceI p0 (1 : Int) r20).bind fun (y32 : List Stmt) =>
      (rec_spec_l03Normal y32).bind fun (r33 : List Stmt) =>
      (sliceI p0 r20 (p0.length : Int)).bind fun (y36 : List Stmt) =>
      (rec_spec_l03Normal y36).bind fun (r37 : List Stmt) =>
      bif (decide (r12.Kind = (7 : Int))) then
        (capI ([r12].length + r33.length) 112).bind fun (q44 : Unit) =>
        (capI (([r12] ++ r33).length + r37.length) 112).bind fun (q47 : Unit) =>
        some (([r12] ++ r33) ++ r37)
      else
        (iter (m_spec_l03Normal_F_L0) (r33, ([] : List Stmt))).bind fun (u0 : ((List Stmt) × (List Stmt))) =>
        m_spec_l03Normal_F_A0 r37 u0
noncomputable def m_spec_l03Normal : Nat → (List Stmt) → Option (List Stmt)
  | 0, _ => none
  | n + 1, p0 => m_spec_l03Normal_F (m_spec_l03Normal n) p0
noncomputable def m_spec_NormalBody (p0 : List Stmt) : Option ((List Stmt) × Bool) :=
  (m_spec_l03Body p0).bind fun (r5 : Bool) =>
  bif (!r5) then
    some (([] : List Stmt), false)
  else
    (m_spec_l03Normal 1000 p0).bind fun (r8 : List Stmt) =>
    some (r8, true)
noncomputable def m_impl_tree_parts_F (rec_impl_tree_parts : Ptree → Option (List Ptree)) (p0 : Ptree) : Option (List Ptree) :=
  (un_tree p0).bind fun (o3 : tree) =>
  bif (!decide (o3.Stmt.Kind = (1 : Int))) then
    some [p0]
  else
    (getI o3.kids (0 : Int)).bind fun (x15 : Ptree) =>
    (rec_impl_tree_parts x15).bind fun (r17 : List Ptree) =>
    (getI o3.kids (1 : Int)).bind fun (x22 : Ptree) =>
    (rec_impl_tree_parts x22).bind fun (r24 : List Ptree) =>
    (capI (r17.length + r24.length) 8).bind fun (q25 : Unit) =>
    some (r17 ++ r24)
noncomputable def m_impl_tree_parts : Nat → Ptree → Option (List Ptree)
  | 0, _ => none
  | n + 1, p0 => m_impl_tree_parts_F (m_impl_tree_parts n) p0
noncomputable def m_impl_joined_F (rec_impl_joined : (List Ptree) → Option Ptree) (p0 : List Ptree) : Option Ptree :=
  bif (decide ((p0.length : Int) = (1 : Int))) then
    (getI p0 (0 : Int)).bind fun (x7 : Ptree) =>
    some x7
  else
    (getI p0 (0 : Int)).bind fun (x11 : Ptree) =>
    (sliceI p0 (1 : Int) (p0.length : Int)).bind fun (y14 : List Ptree) =>
    (rec_impl_joined y14).bind fun (r15 : Ptree) =>
    some (re_tree (tree.mk (Stmt.mk (1 : Int) (0 : Int) (0 : Int) (Term.mk (0 : Int) ([] : List Int)) (Term.mk (0 : Int) ([] : List Int)) ([] : List Term)) (0 : Int) [x11, r15]))
noncomputable def m_impl_joined : Nat → (List Ptree) → Option Ptree
  | 0, _ => none
  | n + 1, p0 => m_impl_joined_F (m_impl_joined n) p0
noncomputable def m_impl_tree_normal_F_L1 (rec_impl_tree_normal : Ptree → Option Ptree) (n1 : Nat) (x1 : Ptree) (s1 : List Ptree) : Option (Ctl (List Ptree) ((List Ptree))) :=
  (rec_impl_tree_normal x1).bind fun (r37 : Ptree) =>
  (capI (s1.length + [r37].length) 8).bind fun (q39 : Unit) =>
  some (.next (s1 ++ [r37]))
noncomputable def m_impl_tree_normal_F_A1 (s0 : List Ptree) (o16 : tree) (u1 : (List Ptree)) : Option (Ctl (List Ptree) ((List Ptree))) :=
  (capI (s0.length + [(re_tree (tree.mk o16.Stmt (0 : Int) u1))].length) 8).bind fun (q46 : Unit) =>
  some (.next (s0 ++ [(re_tree (tree.mk o16.Stmt (0 : Int) u1))]))
noncomputable def m_impl_tree_normal_F_L0 (rec_impl_tree_normal : Ptree → Option Ptree) (n0 : Nat) (x0 : Ptree) (s0 : List Ptree) : Option (Ctl (List Ptree) ((List Ptree))) :=
  (un_tree x0).bind fun (o16 : tree) =>
  (forL (m_impl_tree_normal_F_L1 rec_impl_tree_normal) (fun s1 => s1) 0 o16.kids ([] : List Ptree)).bind fun (u1 : (List Ptree)) =>
  m_impl_tree_normal_F_A1 s0 o16 u1
noncomputable def m_impl_tree_normal_F_A0 (u0 : (List Ptree)) : Option Ptree :=
  (m_impl_joined 1000 u0).bind fun (r49 : Ptree) =>
  some r49
noncomputable def m_impl_tree_normal_F (rec_impl_tree_normal : Ptree → Option Ptree) (p0 : Ptree) : Option Ptree :=
  (m_impl_tree_parts 1000 p0).bind fun (r10 : List Ptree) =>
  (forL (m_impl_tree_normal_F_L0 rec_impl_tree_normal) (fun s0 => s0) 0 r10 ([] : List Ptree)).bind fun (u0 : (List Ptree)) =>
  m_impl_tree_normal_F_A0 u0
noncomputable def m_impl_tree_normal : Nat → Ptree → Option Ptree
  | 0, _ => none
  | n + 1, p0 => m_impl_tree_normal_F (m_impl_tree_normal n) p0
noncomputable def m_impl_tree_body_F_L0 (rec_impl_tree_body : Ptree → Option (List Stmt)) (n0 : Nat) (x0 : Ptree) (s0 : List Stmt) : Option (Ctl (List Stmt) ((List Stmt))) :=
  (rec_impl_tree_body x0).bind fun (r23 : List Stmt) =>
  (capI (s0.length + r23.length) 112).bind fun (q24 : Unit) =>
  some (.next (s0 ++ r23))
noncomputable def m_impl_tree_body_F_A0 (u0 : (List Stmt)) : Option (List Stmt) :=
  some u0
noncomputable def m_impl_tree_body_F (rec_impl_tree_body : Ptree → Option (List Stmt)) (p0 : Ptree) : Option (List Stmt) :=
  (un_tree p0).bind fun (o6 : tree) =>
  (m_impl_ownStmt o6.Stmt).bind fun (r10 : Stmt) =>
  (forL (m_impl_tree_body_F_L0 rec_impl_tree_body) (fun s0 => s0) 0 o6.kids [r10]).bind fun (u0 : (List Stmt)) =>
  m_impl_tree_body_F_A0 u0
noncomputable def m_impl_tree_body : Nat → Ptree → Option (List Stmt)
  | 0, _ => none
  | n + 1, p0 => m_impl_tree_body_F (m_impl_tree_body n) p0
noncomputable def m_impl_NormalBody (p0 : List Stmt) : Option ((List Stmt) × Bool) :=
  (m_impl_treeOf p0).bind fun (r8 : Ptree × Bool) =>
  bif (!r8.2) then
    some (([] : List Stmt), false)
  else
    (m_impl_tree_normal 1000 r8.1).bind fun (r14 : Ptree) =>
    (m_impl_tree_body 1000 r14).bind fun (r15 : List Stmt) =>
    some (r15, true)
noncomputable def m_laws_eqInt64S_L0 (p0 : List Int) (p1 : List Int) (s0 : Int) : Option (Ctl Int (Unit ⊕ Bool)) :=
  bif (decide (s0 < (p0.length : Int))) then
    (getI p0 s0).bind fun (x19 : Int) =>
    (getI p1 s0).bind fun (x23 : Int) =>
    bif (!decide (x19 = x23)) then
      some (.out (.inr false))
    else
      some (.next (w64 (s0 + (1 : Int))))
  else
    some (.out (.inl ()))
noncomputable def m_laws_eqInt64S_A0 (u0 : Unit ⊕ Bool) : Option Bool :=
  match u0 with
  | .inl u0 =>
    some true
  | .inr u0 =>
    some u0
noncomputable def m_laws_eqInt64S (p0 : List Int) (p1 : List Int) : Option Bool :=
  bif (!decide ((p0.length : Int) = (p1.length : Int))) then
    some false
  else
    (iter (m_laws_eqInt64S_L0 p0 p1) (0 : Int)).bind fun (u0 : Unit ⊕ Bool) =>
    m_laws_eqInt64S_A0 u0
noncomputable def m_laws_eqTerm (p0 : Term) (p1 : Term) : Option Bool :=
  bif (!decide (p0.Const = p1.Const)) then
    some false
  else
    (m_laws_eqInt64S p0.Coeffs p1.Coeffs).bind fun (r14 : Bool) =>
    bif (!r14) then
      some false
    else
      some true
noncomputable def m_laws_eqTermS_L0 (p0 : List Term) (p1 : List Term) (s0 : Int) : Option (Ctl Int (Unit ⊕ Bool)) :=
  bif (decide (s0 < (p0.length : Int))) then
    (getI p0 s0).bind fun (x19 : Term) =>
    (getI p1 s0).bind fun (x23 : Term) =>
    (m_laws_eqTerm x19 x23).bind fun (r25 : Bool) =>
    bif (!r25) then
      some (.out (.inr false))
    else
      some (.next (w64 (s0 + (1 : Int))))
  else
    some (.out (.inl ()))
noncomputable def m_laws_eqTermS_A0 (u0 : Unit ⊕ Bool) : Option Bool :=
  match u0 with
  | .inl u0 =>
    some true
  | .inr u0 =>
    some u0
noncomputable def m_laws_eqTermS (p0 : List Term) (p1 : List Term) : Option Bool :=
  bif (!decide ((p0.length : Int) = (p1.length : Int))) then
    some false
  else
    (iter (m_laws_eqTermS_L0 p0 p1) (0 : Int)).bind fun (u0 : Unit ⊕ Bool) =>
    m_laws_eqTermS_A0 u0
noncomputable def m_laws_eqStmt (p0 : Stmt) (p1 : Stmt) : Option Bool :=
  bif (!decide (p0.Kind = p1.Kind)) then
    some false
  else
    bif (!decide (p0.Var = p1.Var)) then
      some false
    else
      bif (!decide (p0.Event = p1.Event)) then
        some false
      else
        (m_laws_eqTerm p0.Sum p1.Sum).bind fun (r24 : Bool) =>
        bif (!r24) then
          some false
        else
          (m_laws_eqTerm p0.Index p1.Index).bind fun (r30 : Bool) =>
          bif (!r30) then
            some false
          else
            (m_laws_eqTermS p0.Facts p1.Facts).bind fun (r36 : Bool) =>
            bif (!r36) then
              some false
            else
              some true
noncomputable def m_laws_eqStmtS_L0 (p0 : List Stmt) (p1 : List Stmt) (s0 : Int) : Option (Ctl Int (Unit ⊕ Bool)) :=
  bif (decide (s0 < (p0.length : Int))) then
    (getI p0 s0).bind fun (x19 : Stmt) =>
    (getI p1 s0).bind fun (x23 : Stmt) =>
    (m_laws_eqStmt x19 x23).bind fun (r25 : Bool) =>
    bif (!r25) then
      some (.out (.inr false))
    else
      some (.next (w64 (s0 + (1 : Int))))
  else
    some (.out (.inl ()))
noncomputable def m_laws_eqStmtS_A0 (u0 : Unit ⊕ Bool) : Option Bool :=
  match u0 with
  | .inl u0 =>
    some true
  | .inr u0 =>
    some u0
noncomputable def m_laws_eqStmtS (p0 : List Stmt) (p1 : List Stmt) : Option Bool :=
  bif (!decide ((p0.length : Int) = (p1.length : Int))) then
    some false
  else
    (iter (m_laws_eqStmtS_L0 p0 p1) (0 : Int)).bind fun (u0 : Unit ⊕ Bool) =>
    m_laws_eqStmtS_A0 u0
noncomputable def m_laws_markInt64S_L0 (s0 : (List Int) × Int × Int) : Option (Ctl ((List Int) × Int × Int) ((Int × (List Int)))) :=
  bif (decide (s0.2.2 < (s0.1.length : Int))) then
    (getI s0.1 s0.2.2).bind fun (x15 : Int) =>
    some (.next ((s0.1.set ((s0.2.2).toNat) s0.2.1), (w64 (s0.2.1 + (1 : Int))), (w64 (s0.2.2 + (1 : Int)))))
  else
    some (.out (s0.2.1, s0.1))
noncomputable def m_laws_markInt64S_A0 (u0 : (Int × (List Int))) : Option (Int × (List Int)) :=
  some (u0.1, u0.2)
noncomputable def m_laws_markInt64S (p0 : List Int) (p1 : Int) : Option (Int × (List Int)) :=
  (iter (m_laws_markInt64S_L0) (p0, p1, (0 : Int))).bind fun (u0 : (Int × (List Int))) =>
  m_laws_markInt64S_A0 u0
noncomputable def m_laws_markTermS_L0 (s0 : (List Term) × Int × Int) : Option (Ctl ((List Term) × Int × Int) ((Int × (List Term)))) :=
  bif (decide (s0.2.2 < (s0.1.length : Int))) then
    (getI s0.1 s0.2.2).bind fun (x15 : Term) =>
    (getI (s0.1.set ((s0.2.2).toNat) (Term.mk s0.2.1 x15.Coeffs)) s0.2.2).bind fun (x21 : Term) =>
    (m_laws_markInt64S x21.Coeffs (w64 (s0.2.1 + (1 : Int)))).bind fun (r25 : Int × (List Int)) =>
    some (.next (((s0.1.set ((s0.2.2).toNat) (Term.mk s0.2.1 x15.Coeffs)).set ((s0.2.2).toNat) (Term.mk x21.Const r25.2)), r25.1, (w64 (s0.2.2 + (1 : Int)))))
  else
    some (.out (s0.2.1, s0.1))
noncomputable def m_laws_markTermS_A0 (u0 : (Int × (List Term))) : Option (Int × (List Term)) :=
  some (u0.1, u0.2)
noncomputable def m_laws_markTermS (p0 : List Term) (p1 : Int) : Option (Int × (List Term)) :=
  (iter (m_laws_markTermS_L0) (p0, p1, (0 : Int))).bind fun (u0 : (Int × (List Term))) =>
  m_laws_markTermS_A0 u0
noncomputable def m_laws_markStmtS_L0 (s0 : (List Stmt) × Int × Int) : Option (Ctl ((List Stmt) × Int × Int) ((Int × (List Stmt)))) :=
  bif (decide (s0.2.2 < (s0.1.length : Int))) then
    (getI s0.1 s0.2.2).bind fun (x15 : Stmt) =>
    (getI (s0.1.set ((s0.2.2).toNat) (Stmt.mk s0.2.1 x15.Var x15.Event x15.Sum x15.Index x15.Facts)) s0.2.2).bind fun (x22 : Stmt) =>
    (getI ((s0.1.set ((s0.2.2).toNat) (Stmt.mk s0.2.1 x15.Var x15.Event x15.Sum x15.Index x15.Facts)).set ((s0.2.2).toNat) (Stmt.mk x22.Kind (w64 (s0.2.1 + (1 : Int))) x22.Event x22.Sum x22.Index x22.Facts)) s0.2.2).bind fun (x29 : Stmt) =>
    (getI (((s0.1.set ((s0.2.2).toNat) (Stmt.mk s0.2.1 x15.Var x15.Event x15.Sum x15.Index x15.Facts)).set ((s0.2.2).toNat) (Stmt.mk x22.Kind (w64 (s0.2.1 + (1 : Int))) x22.Event x22.Sum x22.Index x22.Facts)).set ((s0.2.2).toNat) (Stmt.mk x29.Kind x29.Var (w64 ((w64 (s0.2.1 + (1 : Int))) + (1 : Int))) x29.Sum x29.Index x29.Facts)) s0.2.2).bind fun (x36 : Stmt) =>
    (getI ((((s0.1.set ((s0.2.2).toNat) (Stmt.mk s0.2.1 x15.Var x15.Event x15.Sum x15.Index x15.Facts)).set ((s0.2.2).toNat) (Stmt.mk x22.Kind (w64 (s0.2.1 + (1 : Int))) x22.Event x22.Sum x22.Index x22.Facts)).set ((s0.2.2).toNat) (Stmt.mk x29.Kind x29.Var (w64 ((w64 (s0.2.1 + (1 : Int))) + (1 : Int))) x29.Sum x29.Index x29.Facts)).set ((s0.2.2).toNat) (Stmt.mk x36.Kind x36.Var x36.Event (Term.mk (w64 ((w64 ((w64 (s0.2.1 + (1 : Int))) + (1 : Int))) + (1 : Int))) x36.Sum.Coeffs) x36.Index x36.Facts)) s0.2.2).bind fun (x43 : Stmt) =>
    (m_laws_markInt64S x43.Sum.Coeffs (w64 ((w64 ((w64 ((w64 (s0.2.1 + (1 : Int))) + (1 : Int))) + (1 : Int))) + (1 : Int)))).bind fun (r48 : Int × (List Int)) =>
    (getI (((((s0.1.set ((s0.2.2).toNat) (Stmt.mk s0.2.1 x15.Var x15.Event x15.Sum x15.Index x15.Facts)).set ((s0.2.2).toNat) (Stmt.mk x22.Kind (w64 (s0.2.1 + (1 : Int))) x22.Event x22.Sum x22.Index x22.Facts)).set ((s0.2.2).toNat) (Stmt.mk x29.Kind x29.Var (w64 ((w64 (s0.2.1 + (1 : Int))) + (1 : Int))) x29.Sum x29.Index x29.Facts)).set ((s0.2.2).toNat) (Stmt.mk x36.Kind x36.Var x36.Event (Term.mk (w64 ((w64 ((w64 (s0.2.1 + (1 : Int))) + (1 : Int))) + (1 : Int))) x36.Sum.Coeffs) x36.Index x36.Facts)).set ((s0.2.2).toNat) (Stmt.mk x43.Kind x43.Var x43.Event (Term.mk x43.Sum.Const r48.2) x43.Index x43.Facts)) s0.2.2).bind fun (x52 : Stmt) =>
    (getI ((((((s0.1.set ((s0.2.2).toNat) (Stmt.mk s0.2.1 x15.Var x15.Event x15.Sum x15.Index x15.Facts)).set ((s0.2.2).toNat) (Stmt.mk x22.Kind (w64 (s0.2.1 + (1 : Int))) x22.Event x22.Sum x22.Index x22.Facts)).set ((s0.2.2).toNat) (Stmt.mk x29.Kind x29.Var (w64 ((w64 (s0.2.1 + (1 : Int))) + (1 : Int))) x29.Sum x29.Index x29.Facts)).set ((s0.2.2).toNat) (Stmt.mk x36.Kind x36.Var x36.Event (Term.mk (w64 ((w64 ((w64 (s0.2.1 + (1 : Int))) + (1 : Int))) + (1 : Int))) x36.Sum.Coeffs) x36.Index x36.Facts)).set ((s0.2.2).toNat) (Stmt.mk x43.Kind x43.Var x43.Event (Term.mk x43.Sum.Const r48.2) x43.Index x43.Facts)).set ((s0.2.2).toNat) (Stmt.mk x52.Kind x52.Var x52.Event x52.Sum (Term.mk r48.1 x52.Index.Coeffs) x52.Facts)) s0.2.2).bind fun (x59 : Stmt) =>
    (m_laws_markInt64S x59.Index.Coeffs (w64 (r48.1 + (1 : Int)))).bind fun (r64 : Int × (List Int)) =>
    (getI (((((((s0.1.set ((s0.2.2).toNat) (Stmt.mk s0.2.1 x15.Var x15.Event x15.Sum x15.Index x15.Facts)).set ((s0.2.2).toNat) (Stmt.mk x22.Kind (w64 (s0.2.1 + (1 : Int))) x22.Event x22.Sum x22.Index x22.Facts)).set ((s0.2.2).toNat) (Stmt.mk x29.Kind x29.Var (w64 ((w64 (s0.2.1 + (1 : Int))) + (1 : Int))) x29.Sum x29.Index x29.Facts)).set ((s0.2.2).toNat) (Stmt.mk x36.Kind x36.Var x36.Event (Term.mk (w64 ((w64 ((w64 (s0.2.1 + (1 : Int))) + (1 : Int))) + (1 : Int))) x36.Sum.Coeffs) x36.Index x36.Facts)).set ((s0.2.2).toNat) (Stmt.mk x43.Kind x43.Var x43.Event (Term.mk x43.Sum.Const r48.2) x43.Index x43.Facts)).set ((s0.2.2).toNat) (Stmt.mk x52.Kind x52.Var x52.Event x52.Sum (Term.mk r48.1 x52.Index.Coeffs) x52.Facts)).set ((s0.2.2).toNat) (Stmt.mk x59.Kind x59.Var x59.Event x59.Sum (Term.mk x59.Index.Const r64.2) x59.Facts)) s0.2.2).bind fun (x67 : Stmt) =>
    (m_laws_markTermS x67.Facts r64.1).bind fun (r71 : Int × (List Term)) =>
    some (.next (((((((((s0.1.set ((s0.2.2).toNat) (Stmt.mk s0.2.1 x15.Var x15.Event x15.Sum x15.Index x15.Facts)).set ((s0.2.2).toNat) (Stmt.mk x22.Kind (w64 (s0.2.1 + (1 : Int))) x22.Event x22.Sum x22.Index x22.Facts)).set ((s0.2.2).toNat) (Stmt.mk x29.Kind x29.Var (w64 ((w64 (s0.2.1 + (1 : Int))) + (1 : Int))) x29.Sum x29.Index x29.Facts)).set ((s0.2.2).toNat) (Stmt.mk x36.Kind x36.Var x36.Event (Term.mk (w64 ((w64 ((w64 (s0.2.1 + (1 : Int))) + (1 : Int))) + (1 : Int))) x36.Sum.Coeffs) x36.Index x36.Facts)).set ((s0.2.2).toNat) (Stmt.mk x43.Kind x43.Var x43.Event (Term.mk x43.Sum.Const r48.2) x43.Index x43.Facts)).set ((s0.2.2).toNat) (Stmt.mk x52.Kind x52.Var x52.Event x52.Sum (Term.mk r48.1 x52.Index.Coeffs) x52.Facts)).set ((s0.2.2).toNat) (Stmt.mk x59.Kind x59.Var x59.Event x59.Sum (Term.mk x59.Index.Const r64.2) x59.Facts)).set ((s0.2.2).toNat) (Stmt.mk x67.Kind x67.Var x67.Event x67.Sum x67.Index r71.2)), r71.1, (w64 (s0.2.2 + (1 : Int)))))
  else
    some (.out (s0.2.1, s0.1))
noncomputable def m_laws_markStmtS_A0 (u0 : (Int × (List Stmt))) : Option (Int × (List Stmt)) :=
  some (u0.1, u0.2)
noncomputable def m_laws_markStmtS (p0 : List Stmt) (p1 : Int) : Option (Int × (List Stmt)) :=
  (iter (m_laws_markStmtS_L0) (p0, p1, (0 : Int))).bind fun (u0 : (Int × (List Stmt))) =>
  m_laws_markStmtS_A0 u0
noncomputable def m_laws_heldInt64S_L0 (p0 : List Int) (s0 : Int × Int) : Option (Ctl (Int × Int) (Int ⊕ Int)) :=
  bif (decide (s0.2 < (p0.length : Int))) then
    (getI p0 s0.2).bind fun (x14 : Int) =>
    bif (!decide (x14 = s0.1)) then
      some (.out (.inr (-1 : Int)))
    else
      some (.next ((w64 (s0.1 + (1 : Int))), (w64 (s0.2 + (1 : Int)))))
  else
    some (.out (.inl s0.1))
noncomputable def m_laws_heldInt64S_A0 (u0 : Int ⊕ Int) : Option Int :=
  match u0 with
  | .inl u0 =>
    some u0
  | .inr u0 =>
    some u0
noncomputable def m_laws_heldInt64S (p0 : List Int) (p1 : Int) : Option Int :=
  (iter (m_laws_heldInt64S_L0 p0) (p1, (0 : Int))).bind fun (u0 : Int ⊕ Int) =>
  m_laws_heldInt64S_A0 u0
noncomputable def m_laws_heldTermS_L0 (p0 : List Term) (s0 : Int × Int) : Option (Ctl (Int × Int) (Int ⊕ Int)) :=
  bif (decide (s0.2 < (p0.length : Int))) then
    (getI p0 s0.2).bind fun (x14 : Term) =>
    bif (!decide (x14.Const = s0.1)) then
      some (.out (.inr (-1 : Int)))
    else
      (m_laws_heldInt64S x14.Coeffs (w64 (s0.1 + (1 : Int)))).bind fun (r27 : Int) =>
      bif (decide (r27 < (0 : Int))) then
        some (.out (.inr (-1 : Int)))
      else
        some (.next (r27, (w64 (s0.2 + (1 : Int)))))
  else
    some (.out (.inl s0.1))
noncomputable def m_laws_heldTermS_A0 (u0 : Int ⊕ Int) : Option Int :=
  match u0 with
  | .inl u0 =>
    some u0
  | .inr u0 =>
    some u0
noncomputable def m_laws_heldTermS (p0 : List Term) (p1 : Int) : Option Int :=
  (iter (m_laws_heldTermS_L0 p0) (p1, (0 : Int))).bind fun (u0 : Int ⊕ Int) =>
  m_laws_heldTermS_A0 u0
noncomputable def m_laws_heldStmtS_L0 (p0 : List Stmt) (s0 : Int × Int) : Option (Ctl (Int × Int) (Int ⊕ Int)) :=
  bif (decide (s0.2 < (p0.length : Int))) then
    (getI p0 s0.2).bind fun (x14 : Stmt) =>
    bif (!decide (x14.Kind = s0.1)) then
      some (.out (.inr (-1 : Int)))
    else
      bif (!decide (x14.Var = (w64 (s0.1 + (1 : Int))))) then
        some (.out (.inr (-1 : Int)))
      else
        bif (!decide (x14.Event = (w64 ((w64 (s0.1 + (1 : Int))) + (1 : Int))))) then
          some (.out (.inr (-1 : Int)))
        else
          bif (!decide (x14.Sum.Const = (w64 ((w64 ((w64 (s0.1 + (1 : Int))) + (1 : Int))) + (1 : Int))))) then
            some (.out (.inr (-1 : Int)))
          else
            (m_laws_heldInt64S x14.Sum.Coeffs (w64 ((w64 ((w64 ((w64 (s0.1 + (1 : Int))) + (1 : Int))) + (1 : Int))) + (1 : Int)))).bind fun (r56 : Int) =>
            bif (decide (r56 < (0 : Int))) then
              some (.out (.inr (-1 : Int)))
            else
              bif (!decide (x14.Index.Const = r56)) then
                some (.out (.inr (-1 : Int)))
              else
                (m_laws_heldInt64S x14.Index.Coeffs (w64 (r56 + (1 : Int)))).bind fun (r76 : Int) =>
                bif (decide (r76 < (0 : Int))) then
                  some (.out (.inr (-1 : Int)))
                else
                  (m_laws_heldTermS x14.Facts r76).bind fun (r85 : Int) =>
                  bif (decide (r85 < (0 : Int))) then
                    some (.out (.inr (-1 : Int)))
                  else
                    some (.next (r85, (w64 (s0.2 + (1 : Int)))))
  else
    some (.out (.inl s0.1))
noncomputable def m_laws_heldStmtS_A0 (u0 : Int ⊕ Int) : Option Int :=
  match u0 with
  | .inl u0 =>
    some u0
  | .inr u0 =>
    some u0
noncomputable def m_laws_heldStmtS (p0 : List Stmt) (p1 : Int) : Option Int :=
  (iter (m_laws_heldStmtS_L0 p0) (p1, (0 : Int))).bind fun (u0 : Int ⊕ Int) =>
  m_laws_heldStmtS_A0 u0
noncomputable def m_laws_FnExactNormalBody (p0 : List Stmt) : Option Bool :=
  (m_laws_szStmtS p0 (1048576 : Int)).bind fun (r16 : Int) =>
  bif (decide (r16 < (0 : Int))) then
    some true
  else
    (m_laws_toStmtS p0).bind fun (r21 : List Stmt) =>
    (m_spec_NormalBody r21).bind fun (r22 : (List Stmt) × Bool) =>
    (m_laws_toStmtS p0).bind fun (r26 : List Stmt) =>
    (m_impl_NormalBody r26).bind fun (r29 : (List Stmt) × Bool) =>
    (m_laws_eqStmtS r29.1 r22.1).bind fun (r34 : Bool) =>
    bif ((!r34) || (!(r29.2 == r22.2))) then
      some false
    else
      (m_laws_toStmtS p0).bind fun (r43 : List Stmt) =>
      (m_laws_eqStmtS r26 r43).bind fun (r44 : Bool) =>
      bif (!r44) then
        some false
      else
        (m_laws_markStmtS r26 (1 : Int)).bind fun (r48 : Int × (List Stmt)) =>
        bif (decide (r48.1 < (0 : Int))) then
          some false
        else
          (m_laws_eqStmtS r29.1 r22.1).bind fun (r54 : Bool) =>
          bif ((!r54) || (!(r29.2 == r22.2))) then
            some false
          else
            (m_laws_markStmtS r29.1 (1 : Int)).bind fun (r64 : Int × (List Stmt)) =>
            (m_laws_heldStmtS r64.2 (1 : Int)).bind fun (r67 : Int) =>
            bif (decide (r67 < (0 : Int))) then
              some false
            else
              bif (!decide (r67 = r64.1)) then
                some false
              else
                (m_laws_toStmtS p0).bind fun (r75 : List Stmt) =>
                (m_impl_NormalBody r75).bind fun (r76 : (List Stmt) × Bool) =>
                (m_laws_eqStmtS r76.1 r22.1).bind fun (r81 : Bool) =>
                bif ((!r81) || (!(r76.2 == r22.2))) then
                  some false
                else
                  (m_laws_heldStmtS r64.2 (1 : Int)).bind fun (r90 : Int) =>
                  bif (decide (r90 < (0 : Int))) then
                    some false
                  else
                    bif (!decide (r90 = r64.1)) then
                      some false
                    else
                      some true
end Go.Mod

namespace Go.Mod
open Go.AM
set_option linter.unusedVariables false
set_option linter.unusedSimpArgs false
theorem pl_mem_sum {α : Type} {c : α → Nat} {xs : List α} {x : α} (h : x ∈ xs) : c x ≤ (xs.map c).sum := by
  induction xs with
  | nil => cases h
  | cons y r ih =>
    simp only [List.map_cons, List.sum_cons]
    rcases List.mem_cons.1 h with rfl | h
    · omega
    · have := ih h; omega
theorem pl_sum_len {α : Type} {q : α → Nat} {xs : List α} (h : ∀ x, q x ≤ 8 + 8 * 0) : (xs.map q).sum ≤ 8 * xs.length := by
  induction xs with
  | nil => simp
  | cons y r ih => have := h y; simp only [List.map_cons, List.sum_cons, List.length_cons]; omega
theorem pl_sum_le {α : Type} {q c : α → Nat} {xs : List α} (h : ∀ x, q x ≤ 8 + 8 * c x) : (xs.map q).sum ≤ 8 * (xs.length + (xs.map c).sum) := by
  induction xs with
  | nil => simp
  | cons y r ih => have := h y; simp only [List.map_cons, List.sum_cons, List.length_cons]; omega
theorem pl_szB {m : Option Int} {c d b : Nat} {F : Int → Option Int} (h : m = some (szOut c b)) (g : c ≤ b → F ((b - c : Nat) : Int) = some (szOut d (b - c))) :
    (m.bind fun r => bif decide (r < 0) then some (-1) else F r) = some (szOut (c + d) b) := by
  rw [h, Option.bind_some]
  by_cases hc : c ≤ b
  · rw [szOut_ok hc, decide_eq_false (by omega), cond_false, g hc]
    unfold szOut
    by_cases h2 : d ≤ b - c
    · rw [if_pos h2, if_pos (by omega)]; congr 2; omega
    · rw [if_neg h2, if_neg (by omega)]
  · rw [szOut_no hc, szOut_no (by omega)]; rfl
theorem pl_szL {m : Option Int} {c b : Nat} (h : m = some (szOut c b)) : (m.bind fun r => bif decide (r < 0) then some (-1) else some r) = some (szOut c b) := by
  have := pl_szB (d := 0) (F := fun r => some r) h (fun hc => by rw [szOut_ok (Nat.zero_le _)]; rfl)
  simpa using this
theorem pl_eqB {p q : Prop} [Decidable p] [Decidable q] {F : Option Bool} (h : F = some (decide q)) : (bif !decide p then some false else F) = some (decide (p ∧ q)) := by
  by_cases hp : p <;> by_cases hq : q <;> simp [h, hp, hq]
theorem pl_eqL {p : Prop} [Decidable p] : (bif !decide p then some false else some true) = some (decide p) := by
  by_cases hp : p <;> simp [hp]
theorem pl_eqM {m : Option Bool} {p q : Prop} [Decidable p] [Decidable q] {F : Option Bool} (hm : m = some (decide p)) (h : F = some (decide q)) : (m.bind fun r => bif !r then some false else F) = some (decide (p ∧ q)) := by
  rw [hm, Option.bind_some]; exact pl_eqB h
theorem pl_eqML {m : Option Bool} {p : Prop} [Decidable p] (hm : m = some (decide p)) : (m.bind fun r => bif !r then some false else some true) = some (decide p) := by
  rw [hm, Option.bind_some]; exact pl_eqL
theorem pl_neg1 : decide ((-1 : Int) < 0) = true := rfl
theorem pl_condB {α β : Type} {b : Bool} {x y : Option α} {f : α → Option β} : (cond b x y).bind f = cond b (x.bind f) (y.bind f) := by cases b <;> rfl
theorem pl_cond2 {α : Type} {b : Bool} {x y z : α} : cond b x (cond b y z) = cond b x z := by cases b <;> rfl
section
variable {α : Type} {ys : List α} {n : Nat} {a b c d e f g : α} (h : n < ys.length)
include h
theorem pl_get_set : getI (ys.set n a) (n : Int) = some a := getI_some (by rw [List.getElem?_set_self h])
theorem pl_get_set2 : getI ((ys.set n a).set n b) (n : Int) = some b := getI_some (by rw [List.set_set, List.getElem?_set_self h])
theorem pl_get_set3 : getI (((ys.set n a).set n b).set n c) (n : Int) = some c := getI_some (by rw [List.set_set, List.set_set, List.getElem?_set_self h])
theorem pl_get_set4 : getI ((((ys.set n a).set n b).set n c).set n d) (n : Int) = some d := getI_some (by simp only [List.set_set]; rw [List.getElem?_set_self h])
theorem pl_get_set5 : getI (((((ys.set n a).set n b).set n c).set n d).set n e) (n : Int) = some e := getI_some (by simp only [List.set_set]; rw [List.getElem?_set_self h])
theorem pl_get_set6 : getI ((((((ys.set n a).set n b).set n c).set n d).set n e).set n f) (n : Int) = some f := getI_some (by simp only [List.set_set]; rw [List.getElem?_set_self h])
theorem pl_get_set7 : getI (((((((ys.set n a).set n b).set n c).set n d).set n e).set n f).set n g) (n : Int) = some g := getI_some (by simp only [List.set_set]; rw [List.getElem?_set_self h])
end
def pc_Int64S (xs : List Int) : Nat := xs.length
theorem pc_Int64S_len {xs : List Int} : xs.length ≤ pc_Int64S xs := by unfold pc_Int64S; omega
theorem pz_Int64S {xs : List Int} (k : kLa_i64 xs) : SzP m_laws_szInt64S pc_Int64S xs := fun _ hb => sz_flat k.1 hb
theorem pt_Int64S {xs : List Int} (hl : pc_Int64S xs ≤ 1048576) : m_laws_toInt64S xs = some xs := by
  have hlen : xs.length ≤ 1048576 := Nat.le_trans pc_Int64S_len hl
  unfold m_laws_toInt64S
  rw [makeI_some (by omega), Option.bind_some, iter_to (xs := xs) (z := (0 : Int)) (cp := some)
    (fun n x ys hx => by unfold m_laws_toInt64S_L0; rw [dec_lt (get_lt hx), cond_true, getI_some hx]; rfl)
    (fun ys => by unfold m_laws_toInt64S_L0; rw [dec_self]; rfl) hlen (fun x hx => rfl)]
  rfl
theorem pe_Int64S {xs ys : List Int} (hl : pc_Int64S xs ≤ 1048576) : m_laws_eqInt64S xs ys = some (decide (xs = ys)) := by
  have hlen : xs.length ≤ 1048576 := Nat.le_trans pc_Int64S_len hl
  unfold m_laws_eqInt64S
  by_cases h : xs.length = ys.length
  · rw [decide_eq_true (by omega), Bool.not_true, cond_false, iter_eq (xs := xs) (ys := ys) (eq := fun x y => some (decide (x = y)))
      (fun n x y hx hy => by unfold m_laws_eqInt64S_L0; rw [dec_lt (get_lt hx), cond_true, getI_some hx, getI_some hy]; rfl)
      (by unfold m_laws_eqInt64S_L0; rw [dec_self]; rfl) (by omega) h (fun x hx y => rfl)]
    by_cases e : xs = ys
    · rw [if_pos e, decide_eq_true e]; rfl
    · rw [if_neg e, decide_eq_false e]; rfl
  · rw [decide_eq_false (by omega), decide_eq_false (fun e => h (by rw [e]))]; rfl
def pqE_Int64S (x : Int) : Nat := 1
def pq_Int64S (xs : List Int) : Nat := (xs.map pqE_Int64S).sum
theorem pqE_Int64S_le (x : Int) : pqE_Int64S x ≤ 8 + 8 * 0 := by
  unfold pqE_Int64S
  omega
theorem pq_Int64S_le (xs : List Int) : pq_Int64S xs ≤ 8 * pc_Int64S xs := by
  unfold pq_Int64S pc_Int64S
  exact pl_sum_len (fun x => pqE_Int64S_le x)
noncomputable def pmk_Int64S (x : Int) (k : Int) : Option (Int × Int) := some ((w64 (k + 1)), k)
noncomputable def phe_Int64S (x : Int) (k : Int) : Option Int := bif !decide (x = k) then some (-1) else some (w64 (k + 1))
theorem pmE_Int64S (x : Int) : ∀ k : Nat, k + pqE_Int64S x ≤ 4611686018427387904 → ∃ x', pmk_Int64S x k = some (((k + pqE_Int64S x : Nat) : Int), x') ∧ phe_Int64S x' k = some ((k + pqE_Int64S x : Nat) : Int) := fun k hk => by
  unfold pqE_Int64S at hk ⊢
  have tot : ((k + 1 : Nat) : Int) = ((k + (1) : Nat) : Int) := by omega
  have w0 : w64 (((k : Nat) : Int) + 1) = ((k + 1 : Nat) : Int) := w64_succ (by omega)
  refine ⟨((k : Nat) : Int), ?_, ?_⟩
  · unfold pmk_Int64S; simp only [w0, Option.bind_some] <;> rw [← tot]
  · unfold phe_Int64S; simp only [w0, Option.bind_some, decide_true, Bool.not_true, cond_false] <;> rw [← tot]
theorem pm_Int64S {xs : List Int} (hl : pc_Int64S xs ≤ 1048576) {k : Nat} (hk : k + pq_Int64S xs ≤ 4611686018427387904) : ∃ xs', m_laws_markInt64S xs k = some (((k + pq_Int64S xs : Nat) : Int), xs') ∧ m_laws_heldInt64S xs' k = some ((k + pq_Int64S xs : Nat) : Int) := by
  obtain ⟨xs', h1, h2, h3⟩ := iter_mark (xs := xs) (m := pqE_Int64S) (mk := pmk_Int64S) (held := phe_Int64S) (step := m_laws_markInt64S_L0) (hstep := m_laws_heldInt64S_L0)
    (fun n ys x k hk hx => by
      have hn := get_lt hx
      have gen : ∀ k1 : Int, w64 ((k : Int) + 1) = k1 → m_laws_markInt64S_L0 (ys, (k : Int), (n : Int)) = (pmk_Int64S x k).bind fun r => some (.next (ys.set n r.2, r.1, w64 ((n : Int) + 1))) := by
        intro k1 h1
        unfold m_laws_markInt64S_L0 pmk_Int64S
        simp only [h1, dec_lt hn, cond_true, getI_some hx, Option.bind_some, Int.toNat_natCast, pl_get_set hn, pl_get_set2 hn, pl_get_set3 hn, pl_get_set4 hn, pl_get_set5 hn, pl_get_set6 hn, pl_get_set7 hn, List.set_set, Option.bind_assoc]
      exact gen _ rfl)
    (fun ys k => by unfold m_laws_markInt64S_L0; rw [dec_self]; rfl)
    (fun n ys x k hk hx => by
      unfold m_laws_heldInt64S_L0 phe_Int64S
      rw [dec_lt (get_lt hx), cond_true, getI_some hx]
      have w0 : w64 (((k : Nat) : Int) + 1) = ((k + 1 : Nat) : Int) := w64_succ (by omega)
      simp only [Option.bind_some, pl_condB, pl_cond2, Option.bind_assoc, pl_neg1, cond_true, cond_false, dec_neg, w0])
    (fun ys k => by unfold m_laws_heldInt64S_L0; rw [dec_self]; rfl)
    (by have := pc_Int64S_len (xs := xs); omega) (fun x hx => pmE_Int64S x) (k := k) hk
  exact ⟨xs', by unfold m_laws_markInt64S; rw [h1]; rfl, by unfold m_laws_heldInt64S; rw [h3]; rfl⟩
def pc_Term (x : Term) : Nat := pc_Int64S x.Coeffs
theorem pi_Term (x y : Term) : (x.Const = y.Const ∧ x.Coeffs = y.Coeffs) ↔ x = y := by cases x; cases y; simp
theorem pz_Term {x : Term} (k : k_Term x) : SzP m_laws_szTerm pc_Term x := fun b hb => by
  unfold m_laws_szTerm pc_Term
  rw [show pc_Int64S x.Coeffs = pc_Int64S x.Coeffs by omega]
  exact pl_szL (pz_Int64S k.2 (b) (by omega))
theorem pt_Term {x : Term} (hl : pc_Term x ≤ 1048576) : m_laws_toTerm x = some x := by
  unfold pc_Term at hl
  unfold m_laws_toTerm
  simp only [pt_Int64S (xs := x.Coeffs) (by omega), Option.bind_some]
theorem pe_Term {x y : Term} (hl : pc_Term x ≤ 1048576) : m_laws_eqTerm x y = some (decide (x = y)) := by
  unfold pc_Term at hl
  unfold m_laws_eqTerm
  rw [← decide_eq_decide.2 (pi_Term x y)]
  exact pl_eqB (pl_eqML (pe_Int64S (by omega)))
def pc_TermS (xs : List Term) : Nat := xs.length + (xs.map pc_Term).sum
theorem pc_TermS_mem {xs : List Term} {x : Term} (h : x ∈ xs) : pc_Term x ≤ pc_TermS xs := by have := pl_mem_sum (c := pc_Term) h; unfold pc_TermS; omega
theorem pc_TermS_len {xs : List Term} : xs.length ≤ pc_TermS xs := by unfold pc_TermS; omega
theorem pz_TermS {xs : List Term} (k : kLa_Term xs) : SzP m_laws_szTermS pc_TermS xs := fun b hb => by
  unfold m_laws_szTermS pc_TermS
  rw [szW k.1 hb]
  by_cases h : xs.length ≤ b
  · rw [decide_eq_false (by omega), cond_false, show (b : Int) - (xs.length : Int) = ((b - xs.length : Nat) : Int) by omega,
      iter_sz (xs := xs) (c := pc_Term) (sz := m_laws_szTerm)
        (fun n x b hx => by unfold m_laws_szTermS_L0; rw [dec_lt (get_lt hx), cond_true, getI_some hx]; rfl)
        (fun b => by unfold m_laws_szTermS_L0; rw [dec_self]; rfl) k.1 (fun x hx => pz_Term (k.2 x hx)) (by omega), Option.bind_some]
    by_cases h2 : (xs.map pc_Term).sum ≤ b - xs.length
    · rw [if_pos h2, szOut_ok (by omega)]
      unfold m_laws_szTermS_A0; simp only; congr 2; omega
    · rw [if_neg h2, szOut_no (by omega)]; rfl
  · rw [decide_eq_true (by omega), szOut_no (by omega)]; rfl
theorem pt_TermS {xs : List Term} (hl : pc_TermS xs ≤ 1048576) : m_laws_toTermS xs = some xs := by
  have hlen : xs.length ≤ 1048576 := Nat.le_trans pc_TermS_len hl
  unfold m_laws_toTermS
  rw [makeI_some (by omega), Option.bind_some, iter_to (xs := xs) (z := (Term.mk (0 : Int) ([] : List Int))) (cp := m_laws_toTerm)
    (fun n x ys hx => by unfold m_laws_toTermS_L0; rw [dec_lt (get_lt hx), cond_true, getI_some hx]; rfl)
    (fun ys => by unfold m_laws_toTermS_L0; rw [dec_self]; rfl) hlen (fun x hx => pt_Term (by have := pc_TermS_mem hx; omega))]
  rfl
theorem pe_TermS {xs ys : List Term} (hl : pc_TermS xs ≤ 1048576) : m_laws_eqTermS xs ys = some (decide (xs = ys)) := by
  have hlen : xs.length ≤ 1048576 := Nat.le_trans pc_TermS_len hl
  unfold m_laws_eqTermS
  by_cases h : xs.length = ys.length
  · rw [decide_eq_true (by omega), Bool.not_true, cond_false, iter_eq (xs := xs) (ys := ys) (eq := m_laws_eqTerm)
      (fun n x y hx hy => by unfold m_laws_eqTermS_L0; rw [dec_lt (get_lt hx), cond_true, getI_some hx, getI_some hy]; rfl)
      (by unfold m_laws_eqTermS_L0; rw [dec_self]; rfl) (by omega) h (fun x hx y => pe_Term (by have := pc_TermS_mem hx; omega))]
    by_cases e : xs = ys
    · rw [if_pos e, decide_eq_true e]; rfl
    · rw [if_neg e, decide_eq_false e]; rfl
  · rw [decide_eq_false (by omega), decide_eq_false (fun e => h (by rw [e]))]; rfl
def pqE_TermS (x : Term) : Nat := 1 + pq_Int64S x.Coeffs
def pq_TermS (xs : List Term) : Nat := (xs.map pqE_TermS).sum
theorem pqE_TermS_le (x : Term) : pqE_TermS x ≤ 8 + 8 * pc_Term x := by
  unfold pqE_TermS
  have h0 := pq_Int64S_le x.Coeffs
  unfold pc_Term
  omega
theorem pq_TermS_le (xs : List Term) : pq_TermS xs ≤ 8 * pc_TermS xs := by
  unfold pq_TermS pc_TermS
  exact pl_sum_le (fun x => pqE_TermS_le x)
noncomputable def pmk_TermS (x : Term) (k : Int) : Option (Int × Term) := (m_laws_markInt64S x.Coeffs (w64 (k + 1))).bind fun r0 => some (r0.1, (Term.mk k r0.2))
noncomputable def phe_TermS (x : Term) (k : Int) : Option Int := bif !decide (x.Const = k) then some (-1) else (m_laws_heldInt64S x.Coeffs (w64 (k + 1))).bind fun r1 => bif decide (r1 < 0) then some (-1) else some r1
theorem pmE_TermS (x : Term) (hc : pc_Term x ≤ 1048576) : ∀ k : Nat, k + pqE_TermS x ≤ 4611686018427387904 → ∃ x', pmk_TermS x k = some (((k + pqE_TermS x : Nat) : Int), x') ∧ phe_TermS x' k = some ((k + pqE_TermS x : Nat) : Int) := fun k hk => by
  unfold pqE_TermS at hk ⊢
  unfold pc_Term at hc
  obtain ⟨a0, m0, g0⟩ := pm_Int64S (xs := x.Coeffs) (by omega) (k := k + 1) (by omega)
  have n0 : decide ((((k + 1) + pq_Int64S x.Coeffs : Nat) : Int) < 0) = false := decide_eq_false (by omega)
  have tot : ((k + 1 + pq_Int64S x.Coeffs : Nat) : Int) = ((k + (1 + pq_Int64S x.Coeffs) : Nat) : Int) := by omega
  have w0 : w64 (((k : Nat) : Int) + 1) = ((k + 1 : Nat) : Int) := w64_succ (by omega)
  refine ⟨(Term.mk ((k : Nat) : Int) a0), ?_, ?_⟩
  · unfold pmk_TermS; simp only [w0, m0, Option.bind_some] <;> rw [← tot]
  · unfold phe_TermS; simp only [w0, g0, n0, Option.bind_some, decide_true, Bool.not_true, cond_false] <;> rw [← tot]
theorem pm_TermS {xs : List Term} (hl : pc_TermS xs ≤ 1048576) {k : Nat} (hk : k + pq_TermS xs ≤ 4611686018427387904) : ∃ xs', m_laws_markTermS xs k = some (((k + pq_TermS xs : Nat) : Int), xs') ∧ m_laws_heldTermS xs' k = some ((k + pq_TermS xs : Nat) : Int) := by
  obtain ⟨xs', h1, h2, h3⟩ := iter_mark (xs := xs) (m := pqE_TermS) (mk := pmk_TermS) (held := phe_TermS) (step := m_laws_markTermS_L0) (hstep := m_laws_heldTermS_L0)
    (fun n ys x k hk hx => by
      have hn := get_lt hx
      have gen : ∀ k1 : Int, w64 ((k : Int) + 1) = k1 → m_laws_markTermS_L0 (ys, (k : Int), (n : Int)) = (pmk_TermS x k).bind fun r => some (.next (ys.set n r.2, r.1, w64 ((n : Int) + 1))) := by
        intro k1 h1
        unfold m_laws_markTermS_L0 pmk_TermS
        simp only [h1, dec_lt hn, cond_true, getI_some hx, Option.bind_some, Int.toNat_natCast, pl_get_set hn, pl_get_set2 hn, pl_get_set3 hn, pl_get_set4 hn, pl_get_set5 hn, pl_get_set6 hn, pl_get_set7 hn, List.set_set, Option.bind_assoc]
      exact gen _ rfl)
    (fun ys k => by unfold m_laws_markTermS_L0; rw [dec_self]; rfl)
    (fun n ys x k hk hx => by
      unfold m_laws_heldTermS_L0 phe_TermS
      rw [dec_lt (get_lt hx), cond_true, getI_some hx]
      have w0 : w64 (((k : Nat) : Int) + 1) = ((k + 1 : Nat) : Int) := w64_succ (by omega)
      simp only [Option.bind_some, pl_condB, pl_cond2, Option.bind_assoc, pl_neg1, cond_true, cond_false, dec_neg, w0])
    (fun ys k => by unfold m_laws_heldTermS_L0; rw [dec_self]; rfl)
    (by have := pc_TermS_len (xs := xs); omega) (fun x hx => pmE_TermS x (by have := pc_TermS_mem hx; omega)) (k := k) hk
  exact ⟨xs', by unfold m_laws_markTermS; rw [h1]; rfl, by unfold m_laws_heldTermS; rw [h3]; rfl⟩
def pc_Stmt (x : Stmt) : Nat := pc_Term x.Sum + pc_Term x.Index + pc_TermS x.Facts
theorem pi_Stmt (x y : Stmt) : (x.Kind = y.Kind ∧ x.Var = y.Var ∧ x.Event = y.Event ∧ x.Sum = y.Sum ∧ x.Index = y.Index ∧ x.Facts = y.Facts) ↔ x = y := by cases x; cases y; simp
theorem pz_Stmt {x : Stmt} (k : k_Stmt x) : SzP m_laws_szStmt pc_Stmt x := fun b hb => by
  unfold m_laws_szStmt pc_Stmt
  rw [show pc_Term x.Sum + pc_Term x.Index + pc_TermS x.Facts = pc_Term x.Sum + (pc_Term x.Index + (pc_TermS x.Facts)) by omega]
  exact pl_szB (pz_Term k.2.2.2.1 (b) (by omega)) fun h0 => pl_szB (pz_Term k.2.2.2.2.1 (b - pc_Term x.Sum) (by omega)) fun h1 => pl_szL (pz_TermS k.2.2.2.2.2 (b - pc_Term x.Sum - pc_Term x.Index) (by omega))
theorem pt_Stmt {x : Stmt} (hl : pc_Stmt x ≤ 1048576) : m_laws_toStmt x = some x := by
  unfold pc_Stmt at hl
  unfold m_laws_toStmt
  simp only [pt_Term (x := x.Sum) (by omega), pt_Term (x := x.Index) (by omega), pt_TermS (xs := x.Facts) (by omega), Option.bind_some]
theorem pe_Stmt {x y : Stmt} (hl : pc_Stmt x ≤ 1048576) : m_laws_eqStmt x y = some (decide (x = y)) := by
  unfold pc_Stmt at hl
  unfold m_laws_eqStmt
  rw [← decide_eq_decide.2 (pi_Stmt x y)]
  exact pl_eqB (pl_eqB (pl_eqB (pl_eqM (pe_Term (by omega)) (pl_eqM (pe_Term (by omega)) (pl_eqML (pe_TermS (by omega)))))))
def pc_StmtS (xs : List Stmt) : Nat := xs.length + (xs.map pc_Stmt).sum
theorem pc_StmtS_mem {xs : List Stmt} {x : Stmt} (h : x ∈ xs) : pc_Stmt x ≤ pc_StmtS xs := by have := pl_mem_sum (c := pc_Stmt) h; unfold pc_StmtS; omega
theorem pc_StmtS_len {xs : List Stmt} : xs.length ≤ pc_StmtS xs := by unfold pc_StmtS; omega
theorem pz_StmtS {xs : List Stmt} (k : kLa_Stmt xs) : SzP m_laws_szStmtS pc_StmtS xs := fun b hb => by
  unfold m_laws_szStmtS pc_StmtS
  rw [szW k.1 hb]
  by_cases h : xs.length ≤ b
  · rw [decide_eq_false (by omega), cond_false, show (b : Int) - (xs.length : Int) = ((b - xs.length : Nat) : Int) by omega,
      iter_sz (xs := xs) (c := pc_Stmt) (sz := m_laws_szStmt)
        (fun n x b hx => by unfold m_laws_szStmtS_L0; rw [dec_lt (get_lt hx), cond_true, getI_some hx]; rfl)
        (fun b => by unfold m_laws_szStmtS_L0; rw [dec_self]; rfl) k.1 (fun x hx => pz_Stmt (k.2 x hx)) (by omega), Option.bind_some]
    by_cases h2 : (xs.map pc_Stmt).sum ≤ b - xs.length
    · rw [if_pos h2, szOut_ok (by omega)]
      unfold m_laws_szStmtS_A0; simp only; congr 2; omega
    · rw [if_neg h2, szOut_no (by omega)]; rfl
  · rw [decide_eq_true (by omega), szOut_no (by omega)]; rfl
theorem pt_StmtS {xs : List Stmt} (hl : pc_StmtS xs ≤ 1048576) : m_laws_toStmtS xs = some xs := by
  have hlen : xs.length ≤ 1048576 := Nat.le_trans pc_StmtS_len hl
  unfold m_laws_toStmtS
  rw [makeI_some (by omega), Option.bind_some, iter_to (xs := xs) (z := (Stmt.mk (0 : Int) (0 : Int) (0 : Int) (Term.mk (0 : Int) ([] : List Int)) (Term.mk (0 : Int) ([] : List Int)) ([] : List Term))) (cp := m_laws_toStmt)
    (fun n x ys hx => by unfold m_laws_toStmtS_L0; rw [dec_lt (get_lt hx), cond_true, getI_some hx]; rfl)
    (fun ys => by unfold m_laws_toStmtS_L0; rw [dec_self]; rfl) hlen (fun x hx => pt_Stmt (by have := pc_StmtS_mem hx; omega))]
  rfl
theorem pe_StmtS {xs ys : List Stmt} (hl : pc_StmtS xs ≤ 1048576) : m_laws_eqStmtS xs ys = some (decide (xs = ys)) := by
  have hlen : xs.length ≤ 1048576 := Nat.le_trans pc_StmtS_len hl
  unfold m_laws_eqStmtS
  by_cases h : xs.length = ys.length
  · rw [decide_eq_true (by omega), Bool.not_true, cond_false, iter_eq (xs := xs) (ys := ys) (eq := m_laws_eqStmt)
      (fun n x y hx hy => by unfold m_laws_eqStmtS_L0; rw [dec_lt (get_lt hx), cond_true, getI_some hx, getI_some hy]; rfl)
      (by unfold m_laws_eqStmtS_L0; rw [dec_self]; rfl) (by omega) h (fun x hx y => pe_Stmt (by have := pc_StmtS_mem hx; omega))]
    by_cases e : xs = ys
    · rw [if_pos e, decide_eq_true e]; rfl
    · rw [if_neg e, decide_eq_false e]; rfl
  · rw [decide_eq_false (by omega), decide_eq_false (fun e => h (by rw [e]))]; rfl
def pqE_StmtS (x : Stmt) : Nat := 5 + pq_Int64S x.Sum.Coeffs + pq_Int64S x.Index.Coeffs + pq_TermS x.Facts
def pq_StmtS (xs : List Stmt) : Nat := (xs.map pqE_StmtS).sum
theorem pqE_StmtS_le (x : Stmt) : pqE_StmtS x ≤ 8 + 8 * pc_Stmt x := by
  unfold pqE_StmtS
  have h0 := pq_Int64S_le x.Sum.Coeffs
  have h1 := pq_Int64S_le x.Index.Coeffs
  have h2 := pq_TermS_le x.Facts
  unfold pc_Stmt
  unfold pc_Term
  omega
theorem pq_StmtS_le (xs : List Stmt) : pq_StmtS xs ≤ 8 * pc_StmtS xs := by
  unfold pq_StmtS pc_StmtS
  exact pl_sum_le (fun x => pqE_StmtS_le x)
noncomputable def pmk_StmtS (x : Stmt) (k : Int) : Option (Int × Stmt) := (m_laws_markInt64S x.Sum.Coeffs (w64 ((w64 ((w64 ((w64 (k + 1)) + 1)) + 1)) + 1))).bind fun r0 => (m_laws_markInt64S x.Index.Coeffs (w64 (r0.1 + 1))).bind fun r1 => (m_laws_markTermS x.Facts r1.1).bind fun r2 => some (r2.1, (Stmt.mk k (w64 (k + 1)) (w64 ((w64 (k + 1)) + 1)) (Term.mk (w64 ((w64 ((w64 (k + 1)) + 1)) + 1)) r0.2) (Term.mk r0.1 r1.2) r2.2))
noncomputable def phe_StmtS (x : Stmt) (k : Int) : Option Int := bif !decide (x.Kind = k) then some (-1) else bif !decide (x.Var = (w64 (k + 1))) then some (-1) else bif !decide (x.Event = (w64 ((w64 (k + 1)) + 1))) then some (-1) else bif !decide (x.Sum.Const = (w64 ((w64 ((w64 (k + 1)) + 1)) + 1))) then some (-1) else (m_laws_heldInt64S x.Sum.Coeffs (w64 ((w64 ((w64 ((w64 (k + 1)) + 1)) + 1)) + 1))).bind fun r4 => bif decide (r4 < 0) then some (-1) else bif !decide (x.Index.Const = r4) then some (-1) else (m_laws_heldInt64S x.Index.Coeffs (w64 (r4 + 1))).bind fun r6 => bif decide (r6 < 0) then some (-1) else (m_laws_heldTermS x.Facts r6).bind fun r7 => bif decide (r7 < 0) then some (-1) else some r7
theorem pmE_StmtS (x : Stmt) (hc : pc_Stmt x ≤ 1048576) : ∀ k : Nat, k + pqE_StmtS x ≤ 4611686018427387904 → ∃ x', pmk_StmtS x k = some (((k + pqE_StmtS x : Nat) : Int), x') ∧ phe_StmtS x' k = some ((k + pqE_StmtS x : Nat) : Int) := fun k hk => by
  unfold pqE_StmtS at hk ⊢
  unfold pc_Stmt at hc
  unfold pc_Term at hc
  obtain ⟨a0, m0, g0⟩ := pm_Int64S (xs := x.Sum.Coeffs) (by omega) (k := k + 1 + 1 + 1 + 1) (by omega)
  have n0 : decide ((((k + 1 + 1 + 1 + 1) + pq_Int64S x.Sum.Coeffs : Nat) : Int) < 0) = false := decide_eq_false (by omega)
  obtain ⟨a1, m1, g1⟩ := pm_Int64S (xs := x.Index.Coeffs) (by omega) (k := k + 1 + 1 + 1 + 1 + pq_Int64S x.Sum.Coeffs + 1) (by omega)
  have n1 : decide ((((k + 1 + 1 + 1 + 1 + pq_Int64S x.Sum.Coeffs + 1) + pq_Int64S x.Index.Coeffs : Nat) : Int) < 0) = false := decide_eq_false (by omega)
  obtain ⟨a2, m2, g2⟩ := pm_TermS (xs := x.Facts) (by omega) (k := k + 1 + 1 + 1 + 1 + pq_Int64S x.Sum.Coeffs + 1 + pq_Int64S x.Index.Coeffs) (by omega)
  have n2 : decide ((((k + 1 + 1 + 1 + 1 + pq_Int64S x.Sum.Coeffs + 1 + pq_Int64S x.Index.Coeffs) + pq_TermS x.Facts : Nat) : Int) < 0) = false := decide_eq_false (by omega)
  have tot : ((k + 1 + 1 + 1 + 1 + pq_Int64S x.Sum.Coeffs + 1 + pq_Int64S x.Index.Coeffs + pq_TermS x.Facts : Nat) : Int) = ((k + (5 + pq_Int64S x.Sum.Coeffs + pq_Int64S x.Index.Coeffs + pq_TermS x.Facts) : Nat) : Int) := by omega
  obtain ⟨w0, w1, w2, w3, w4⟩ : w64 (((k : Nat) : Int) + 1) = ((k + 1 : Nat) : Int) ∧ w64 (((k + 1 : Nat) : Int) + 1) = ((k + 1 + 1 : Nat) : Int) ∧ w64 (((k + 1 + 1 : Nat) : Int) + 1) = ((k + 1 + 1 + 1 : Nat) : Int) ∧ w64 (((k + 1 + 1 + 1 : Nat) : Int) + 1) = ((k + 1 + 1 + 1 + 1 : Nat) : Int) ∧ w64 (((k + 1 + 1 + 1 + 1 + pq_Int64S x.Sum.Coeffs : Nat) : Int) + 1) = ((k + 1 + 1 + 1 + 1 + pq_Int64S x.Sum.Coeffs + 1 : Nat) : Int) := ⟨w64_succ (by omega), w64_succ (by omega), w64_succ (by omega), w64_succ (by omega), w64_succ (by omega)⟩
  refine ⟨(Stmt.mk ((k : Nat) : Int) ((k + 1 : Nat) : Int) ((k + 1 + 1 : Nat) : Int) (Term.mk ((k + 1 + 1 + 1 : Nat) : Int) a0) (Term.mk ((k + 1 + 1 + 1 + 1 + pq_Int64S x.Sum.Coeffs : Nat) : Int) a1) a2), ?_, ?_⟩
  · unfold pmk_StmtS; simp only [w0, w1, w2, w3, w4, m0, m1, m2, Option.bind_some] <;> rw [← tot]
  · unfold phe_StmtS; simp only [w0, w1, w2, w3, w4, g0, g1, g2, n0, n1, n2, Option.bind_some, decide_true, Bool.not_true, cond_false] <;> rw [← tot]
theorem pm_StmtS {xs : List Stmt} (hl : pc_StmtS xs ≤ 1048576) {k : Nat} (hk : k + pq_StmtS xs ≤ 4611686018427387904) : ∃ xs', m_laws_markStmtS xs k = some (((k + pq_StmtS xs : Nat) : Int), xs') ∧ m_laws_heldStmtS xs' k = some ((k + pq_StmtS xs : Nat) : Int) := by
  obtain ⟨xs', h1, h2, h3⟩ := iter_mark (xs := xs) (m := pqE_StmtS) (mk := pmk_StmtS) (held := phe_StmtS) (step := m_laws_markStmtS_L0) (hstep := m_laws_heldStmtS_L0)
    (fun n ys x k hk hx => by
      have hn := get_lt hx
      have gen : ∀ k1 k2 k3 k4 : Int, w64 ((k : Int) + 1) = k1 → w64 (k1 + 1) = k2 → w64 (k2 + 1) = k3 → w64 (k3 + 1) = k4 → m_laws_markStmtS_L0 (ys, (k : Int), (n : Int)) = (pmk_StmtS x k).bind fun r => some (.next (ys.set n r.2, r.1, w64 ((n : Int) + 1))) := by
        intro k1 k2 k3 k4 h1 h2 h3 h4
        unfold m_laws_markStmtS_L0 pmk_StmtS
        simp only [h1, h2, h3, h4, dec_lt hn, cond_true, getI_some hx, Option.bind_some, Int.toNat_natCast, pl_get_set hn, pl_get_set2 hn, pl_get_set3 hn, pl_get_set4 hn, pl_get_set5 hn, pl_get_set6 hn, pl_get_set7 hn, List.set_set, Option.bind_assoc]
      exact gen _ _ _ _ rfl rfl rfl rfl)
    (fun ys k => by unfold m_laws_markStmtS_L0; rw [dec_self]; rfl)
    (fun n ys x k hk hx => by
      unfold m_laws_heldStmtS_L0 phe_StmtS
      rw [dec_lt (get_lt hx), cond_true, getI_some hx]
      obtain ⟨w0, w1, w2, w3⟩ : w64 (((k : Nat) : Int) + 1) = ((k + 1 : Nat) : Int) ∧ w64 (((k + 1 : Nat) : Int) + 1) = ((k + 1 + 1 : Nat) : Int) ∧ w64 (((k + 1 + 1 : Nat) : Int) + 1) = ((k + 1 + 1 + 1 : Nat) : Int) ∧ w64 (((k + 1 + 1 + 1 : Nat) : Int) + 1) = ((k + 1 + 1 + 1 + 1 : Nat) : Int) := ⟨w64_succ (by omega), w64_succ (by omega), w64_succ (by omega), w64_succ (by omega)⟩
      simp only [Option.bind_some, pl_condB, pl_cond2, Option.bind_assoc, pl_neg1, cond_true, cond_false, dec_neg, w0, w1, w2, w3])
    (fun ys k => by unfold m_laws_heldStmtS_L0; rw [dec_self]; rfl)
    (by have := pc_StmtS_len (xs := xs); omega) (fun x hx => pmE_StmtS x (by have := pc_StmtS_mem hx; omega)) (k := k) hk
  exact ⟨xs', by unfold m_laws_markStmtS; rw [h1]; rfl, by unfold m_laws_heldStmtS; rw [h3]; rfl⟩
end Go.Mod

namespace Go.Mod
open Go.AM
set_option linter.unusedVariables false
set_option linter.unusedSimpArgs false
def cTerm (t : Term) : Nat := t.Coeffs.length
def inR (c : Int) : Bool := decide (-1000000 ≤ c) && decide (c ≤ 1000000)
def lastOK (xs : List Int) : Bool := match xs.getLast? with | none => true | some x => !decide (x = 0)
def vT (t : Term) : Bool := inR t.Const && decide (t.Coeffs.length ≤ 10) && lastOK t.Coeffs && t.Coeffs.all inR
theorem getI_last {xs : List Int} (h0 : 0 < xs.length) (hl : xs.length ≤ 9223372036854775807) : getI xs (w64 ((xs.length : Int) - 1)) = xs.getLast? := by
  rw [w64_pred h0 hl, getI_nat, List.getLast?_eq_getElem?]
theorem spec_number (c : Int) : m_spec_l02Number c = some (inR c) := rfl
theorem spec_is_loop {t : Term} (hl : t.Coeffs.length ≤ 1048576) : iter (m_spec_l02Is_L0 t) 0 = some (bif t.Coeffs.all inR then .inl () else .inr false) := by
  have h := iter_for (step := m_spec_l02Is_L0 t) t.Coeffs (fun n (_ : Unit) => (n : Int)) (fun _ x _ => bif inR x then some (.next ()) else some (.out (.inr false))) (fun _ => .inl ())
    (fun n x r hx => by
      unfold m_spec_l02Is_L0
      rw [dec_lt (get_lt hx), cond_true, getI_some hx, Option.bind_some, spec_number, Option.bind_some]
      have hw : w64 ((n : Int) + 1) = ((n + 1 : Nat) : Int) := w64_succ (by have := get_lt hx; omega)
      cases inR x
      · rfl
      · rw [hw]; rfl)
    (fun r => by unfold m_spec_l02Is_L0; rw [dec_self]; rfl) ()
  rw [forL_all inR _ _ (fun n x _ => rfl)] at h
  exact h
theorem spec_is {t : Term} (hl : cTerm t ≤ 1048576) : m_spec_l02Is t = some (vT t) := by
  unfold cTerm at hl
  have hJ : m_spec_l02Is_J0 t () = some (t.Coeffs.all inR) := by
    unfold m_spec_l02Is_J0
    rw [spec_is_loop hl, Option.bind_some]
    cases t.Coeffs.all inR <;> rfl
  unfold m_spec_l02Is
  rw [spec_number, Option.bind_some]
  unfold vT
  cases h1 : inR t.Const with
  | false => rfl
  | true =>
    by_cases h2 : t.Coeffs.length ≤ 10
    · rw [decide_eq_true h2, decide_eq_false (show ¬ (10 : Int) < (t.Coeffs.length : Int) by omega)]
      simp only [Bool.not_true, Bool.false_or, cond_false, Bool.true_and]
      by_cases h3 : 0 < t.Coeffs.length
      · rw [decide_eq_true (show (0 : Int) < (t.Coeffs.length : Int) by omega), cond_true, getI_last h3 (by omega)]
        unfold lastOK
        cases h4 : t.Coeffs.getLast? with
        | none => rw [List.getLast?_eq_none_iff] at h4; rw [h4] at h3; exact absurd h3 (by simp)
        | some x =>
          simp only [Option.bind_some]
          by_cases h5 : x = 0
          · rw [decide_eq_true h5]; rfl
          · rw [decide_eq_false h5, cond_false, hJ]; rfl
      · rw [decide_eq_false (show ¬ (0 : Int) < (t.Coeffs.length : Int) by omega), cond_false, hJ]
        have : t.Coeffs = [] := List.length_eq_zero_iff.1 (by omega)
        rw [this]; rfl
    · rw [decide_eq_false h2, decide_eq_true (show (10 : Int) < (t.Coeffs.length : Int) by omega)]; rfl
theorem impl_all {xs : List Int} {a b : Int} : m_impl_allWithin xs a b = some (xs.all fun x => decide (a ≤ x) && decide (x ≤ b)) := by
  unfold m_impl_allWithin
  rw [forL_all (fun x => decide (a ≤ x) && decide (x ≤ b)) (f := .inr false) xs 0 (fun n x _ => by
    unfold m_impl_allWithin_L0 m_impl_within
    rw [Option.bind_some]
    cases (decide (a ≤ x) && decide (x ≤ b)) <;> rfl), Option.bind_some]
  cases xs.all fun x => decide (a ≤ x) && decide (x ≤ b) <;> rfl
theorem impl_valid (t : Term) : m_impl_ValidTerm t = some (vT t) := by
  unfold m_impl_ValidTerm vT
  by_cases h2 : t.Coeffs.length ≤ 10
  · rw [decide_eq_true h2, decide_eq_true (show (t.Coeffs.length : Int) ≤ (10 : Int) by omega), cond_true]
    rw [show m_impl_isCoeff t.Const = some (inR t.Const) from rfl, Option.bind_some]
    cases h1 : inR t.Const with
    | false => rfl
    | true =>
      rw [cond_true, impl_all, Option.bind_some]
      change (bif t.Coeffs.all inR then _ else _) = _
      cases h3 : t.Coeffs.all inR with
      | false => simp
      | true =>
        rw [cond_true]
        by_cases h4 : t.Coeffs.length = 0
        · rw [decide_eq_true (by omega), cond_true]
          rw [List.length_eq_zero_iff.1 h4]; rfl
        · rw [decide_eq_false (by omega), cond_false, getI_last (by omega) (by omega)]
          unfold lastOK
          cases h5 : t.Coeffs.getLast? with
          | none => rw [List.getLast?_eq_none_iff] at h5; rw [h5] at h4; exact absurd rfl h4
          | some x => simp
  · rw [decide_eq_false h2, decide_eq_false (show ¬ (t.Coeffs.length : Int) ≤ (10 : Int) by omega)]; simp
def chk (t : Term) : Term × Bool := bif vT t then (t, true) else (Term.mk 0 [], false)
theorem spec_own {xs : List Int} (h : xs.length ≤ 1048576) : m_spec_l00Own xs = some xs := by
  unfold m_spec_l00Own; rw [capI_some (by simp; omega)]; simp
theorem impl_copy {xs : List Int} (h : xs.length ≤ 1048576) : m_impl_copyInts xs = some xs := by
  unfold m_impl_copyInts; rw [capI_some (by simp; omega)]; simp
theorem impl_own {t : Term} (h : t.Coeffs.length ≤ 1048576) : m_impl_Term_own t = some t := by
  unfold m_impl_Term_own; rw [impl_copy h]; rfl
def coef (xs : List Int) (i : Nat) : Int := xs[i]?.getD 0
def sumN (f : Nat → Int) : Nat → Int
  | 0 => 0
  | n + 1 => sumN f n + f n
def tAt (ts : List Term) (k : Nat) : Term := ts[k]?.getD ⟨0, []⟩
def lin (ts : List Term) (ms : List Int) (g : Term → Int) (n : Nat) : Int := sumN (fun k => coef ms k * g (tAt ts k)) n
def cTermS (ts : List Term) : Nat := ts.length + (ts.map cTerm).sum
theorem mem_sum {α : Type} {c : α → Nat} {xs : List α} {x : α} (h : x ∈ xs) : c x ≤ (xs.map c).sum := by
  induction xs with
  | nil => cases h
  | cons y r ih =>
    simp only [List.map_cons, List.sum_cons]
    rcases List.mem_cons.1 h with rfl | h
    · omega
    · have := ih h; omega
theorem cTermS_mem {ts : List Term} {t : Term} (h : t ∈ ts) : cTerm t ≤ cTermS ts := by have := mem_sum (c := cTerm) h; unfold cTermS; omega
theorem foldl_snoc {α : Type} (xs s : List α) : xs.foldl (fun s x => s ++ [x]) s = s ++ xs := by
  induction xs generalizing s with
  | nil => simp
  | cons x r ih => simp [ih]
theorem impl_ownTerms {ts : List Term} (hl : cTermS ts ≤ 1048576) : m_impl_ownTerms ts = some ts := by
  have hlen : ts.length ≤ 1048576 := by unfold cTermS at hl; omega
  unfold m_impl_ownTerms
  rw [forL_fold (fun s x => s ++ [x]) (fun k s => s.length = k) ts 0 [] rfl (fun n x s hx hs => by
    have := get_lt hx
    unfold m_impl_ownTerms_L0
    rw [impl_own (by have := cTermS_mem (List.mem_of_getElem? hx); unfold cTerm at this; omega), Option.bind_some, capI_some (by simp; omega), Option.bind_some]
    exact ⟨rfl, by simp [hs]⟩), Option.bind_some, foldl_snoc]
  rfl
theorem spec_ownAll {ts : List Term} (hl : cTermS ts ≤ 1048576) : m_spec_l02OwnAll ts = some ts := by
  have hlen : ts.length ≤ 1048576 := by unfold cTermS at hl; omega
  have h := iter_for (step := m_spec_l02OwnAll_L0 ts) ts (fun n (s : List Term) => (s, (n : Int))) m_impl_ownTerms_L0 (fun s0 => s0)
    (fun n x r hx => by
      unfold m_spec_l02OwnAll_L0 m_impl_ownTerms_L0 m_spec_l02Own
      have hc := cTermS_mem (List.mem_of_getElem? hx)
      unfold cTerm at hc
      simp only
      rw [dec_lt (get_lt hx), cond_true, getI_some hx, Option.bind_some, spec_own (by omega), Option.bind_some, Option.bind_some, impl_own (by omega), Option.bind_some]
      simp only [List.length_cons, List.length_nil, Nat.zero_add]
      cases capI (r.length + 1) 32 with
      | none => rfl
      | some u => simp only [Option.bind_some]; rw [w64_succ (by have := get_lt hx; omega)]; rfl)
    (fun r => by unfold m_spec_l02OwnAll_L0; simp only; rw [dec_self]; rfl) ([] : List Term)
  have h2 := impl_ownTerms hl
  unfold m_impl_ownTerms at h2
  unfold m_spec_l02OwnAll
  rw [show (0 : Int) = ((0 : Nat) : Int) from rfl, h]
  exact h2
def Src (s : l00Src) (k : Nat) : Prop := (∀ x ∈ s.code, 0 ≤ x ∧ x ≤ 255) ∧ s.code.length ≤ 1048576 ∧ 0 ≤ s.at_ ∧ s.at_ ≤ k
theorem Src.mono {s : l00Src} {k k' : Nat} (h : Src s k) (hk : k ≤ k') : Src s k' := ⟨h.1, h.2.1, h.2.2.1, by have := h.2.2.2; omega⟩
def val (t : Term) (v : List Int) : Int := t.Const + sumN (fun i => coef t.Coeffs i * coef v i) 10
def Vals (v : List Int) : Prop := v.length = 10 ∧ ∀ x ∈ v, -6 ≤ x ∧ x ≤ 6
theorem Vals.coef {v : List Int} (h : Vals v) (i : Nat) : -6 ≤ coef v i ∧ coef v i ≤ 6 := by
  unfold Mod.coef
  cases hx : v[i]? with
  | none => simp
  | some x => exact h.2 x (List.mem_of_getElem? hx)
structure Small (t : Term) : Prop where
  v : vT t = true
  c : -7 ≤ t.Const ∧ t.Const ≤ 7
  f : ∀ i, -4 ≤ coef t.Coeffs i ∧ coef t.Coeffs i ≤ 4
structure Fact (t : Term) (c : Nat) : Prop where
  v : vT t = true
  c : -(c : Int) ≤ t.Const ∧ t.Const ≤ c
  f : ∀ i, -3 ≤ coef t.Coeffs i ∧ coef t.Coeffs i ≤ 3
theorem Fact.mono {t : Term} {c c' : Nat} (h : Fact t c) (hc : c ≤ c') : Fact t c' := ⟨h.v, by have := h.c; omega, h.f⟩
theorem any_index {α : Type} {L0 : Nat → α → Unit → Option (Ctl Unit (Unit ⊕ Int))} (p : α → Bool) : ∀ (xs : List α) (m : Nat), (∀ n, ∀ x ∈ xs, L0 n x () = bif !p x then some (.out (.inr (n : Int))) else some (.next ())) →
    ∃ u, forL L0 (fun s0 => (.inl ())) m xs () = some u ∧ (xs.all p = false → ∃ n : Nat, u = .inr (n : Int)) ∧ (xs.all p = true → u = .inl ()) := by
  intro xs
  induction xs with
  | nil => intro m _; exact ⟨.inl (), rfl, ⟨fun h => by simp at h, fun _ => rfl⟩⟩
  | cons x r ih =>
    intro m h
    obtain ⟨u, hu, h1, h2⟩ := ih (m + 1) (fun n y hy => h n y (List.mem_cons_of_mem _ hy))
    unfold forL
    rw [h m x (by simp), List.all_cons]
    cases hc : p x with
    | false => exact ⟨.inr (m : Int), rfl, fun _ => ⟨m, rfl⟩, fun h => by cases h⟩
    | true => exact ⟨u, hu, fun h => h1 h, fun h => h2 h⟩
theorem dec_nat0 (n : Nat) : decide ((0 : Int) ≤ (n : Int)) = true := decide_eq_true (by omega)
def over (t : Term) : Bool := vT t && decide (t.Coeffs.length ≤ 4)
theorem dec_leC {a c : Nat} : decide ((a : Int) ≤ (c : Int)) = decide (a ≤ c) := by
  by_cases h : a ≤ c
  · rw [decide_eq_true h, decide_eq_true (by omega)]
  · rw [decide_eq_false h, decide_eq_false (by omega)]
theorem impl_over (t : Term) : m_impl_isOver t = some (over t) := by
  unfold m_impl_isOver over
  rw [impl_valid, Option.bind_some, show (4 : Int) = ((4 : Nat) : Int) from rfl, dec_leC]
theorem impl_areOver (ts : List Term) (m : Nat) : m_impl_areOver ts (m : Int) = some (ts.all over && decide (ts.length ≤ m)) := by
  unfold m_impl_areOver
  rw [dec_leC]
  cases decide (ts.length ≤ m) with
  | false => rw [cond_false, Bool.and_false]
  | true =>
    rw [cond_true, Bool.and_true]
    unfold m_slices_ContainsFunc_impl_Term_impl_Term_fareOver_1 m_slices_IndexFunc_impl_Term_impl_Term_fareOver_1
    obtain ⟨u, hu, h1, h2⟩ := any_index (L0 := m_slices_IndexFunc_impl_Term_impl_Term_fareOver_1_L0) over ts 0 (fun n x _ => by
      unfold m_slices_IndexFunc_impl_Term_impl_Term_fareOver_1_L0 m_impl_areOver_1
      rw [impl_over, Option.bind_some, Option.bind_some])
    rw [hu, Option.bind_some]
    unfold m_slices_IndexFunc_impl_Term_impl_Term_fareOver_1_A0
    cases hs : ts.all over with
    | false => obtain ⟨n, rfl⟩ := h1 hs; simp only [Option.bind_some]; rw [dec_nat0]; rfl
    | true => rw [h2 hs]; rfl
end Go.Mod

namespace Go.Mod
open Go.AM
set_option linter.unusedVariables false
set_option linter.unusedSimpArgs false
def zT (t : Term) : Bool := decide (t.Const = 0) && decide (t.Coeffs.length = 0)
def okGiven (ts : List Term) : Bool := ts.all over && decide (ts.length ≤ 6)
def i4 (x : Int) : Bool := decide (0 ≤ x) && decide (x ≤ 3)
def arS (x : Stmt) : Option Nat :=
  bif decide (x.Kind = 0) then (bif decide (x.Var = 0) && decide (x.Event = 0) && zT x.Sum && zT x.Index && decide (x.Facts.length = 0) then some 0 else none)
  else bif decide (x.Kind = 1) then (bif decide (x.Var = 0) && decide (x.Event = 0) && zT x.Sum && zT x.Index && decide (x.Facts.length = 0) then some 2 else none)
  else bif decide (x.Kind = 2) then (bif i4 x.Var && decide (x.Event = 0) && over x.Sum && zT x.Index && decide (x.Facts.length = 0) then some 0 else none)
  else bif decide (x.Kind = 3) then (bif i4 x.Var && decide (x.Event = 0) && zT x.Sum && over x.Index && decide (x.Facts.length = 0) then some 0 else none)
  else bif decide (x.Kind = 4) then (bif decide (x.Var = 0) && decide (x.Event = 0) && over x.Sum && over x.Index && decide (x.Facts.length = 0) then some 0 else none)
  else bif decide (x.Kind = 5) then (bif decide (x.Var = 0) && i4 x.Event && zT x.Sum && zT x.Index && decide (x.Facts.length = 0) then some 0 else none)
  else bif decide (x.Kind = 6) then (bif decide (x.Var = 0) && decide (x.Event = 0) && over x.Sum && zT x.Index && decide (x.Facts.length = 0) then some 0 else none)
  else bif decide (x.Kind = 7) then (bif decide (x.Var = 0) && decide (x.Event = 0) && over x.Sum && zT x.Index && decide (x.Facts.length = 0) then some 2 else none)
  else bif decide (x.Kind = 8) then (bif decide (x.Var = 0) && decide (x.Event = 0) && over x.Sum && zT x.Index && okGiven x.Facts then some 1 else none)
  else none
def arI : Option Nat → Int
  | some n => n
  | none => -1
theorem dec_len0 {α : Type} (xs : List α) : decide ((xs.length : Int) = 0) = decide (xs.length = 0) := by
  by_cases h : xs.length = 0
  · rw [decide_eq_true h, decide_eq_true (by omega)]
  · rw [decide_eq_false h, decide_eq_false (by omega)]
theorem dec_pos0 {α : Type} (xs : List α) : decide ((0 : Int) < (xs.length : Int)) = !decide (xs.length = 0) := by
  by_cases h : xs.length = 0
  · rw [decide_eq_true h, decide_eq_false (by omega)]; rfl
  · rw [decide_eq_false h, decide_eq_true (by omega)]; rfl
theorem impl_zero (t : Term) : m_impl_Term_isZero t = some (zT t) := by unfold m_impl_Term_isZero zT; rw [dec_len0]
theorem spec_zero (t : Term) : m_spec_l05Zero t = some (zT t) := by unfold m_spec_l05Zero zT; rw [dec_len0]
theorem zT_over {t : Term} (h : zT t = true) : over t = true := by
  unfold zT at h
  simp only [Bool.and_eq_true, decide_eq_true_eq] at h
  obtain ⟨h1, h2⟩ := h
  have h3 : t.Coeffs = [] := List.eq_nil_of_length_eq_zero h2
  unfold over vT
  rw [h1, h3]; rfl
theorem impl_given (ts : List Term) : m_impl_areOver ts 6 = some (okGiven ts) := impl_areOver ts 6
theorem len0_given {ts : List Term} (h : ts.length = 0) : okGiven ts = true := by
  have : ts = [] := List.eq_nil_of_length_eq_zero h
  subst this; rfl
theorem kind_cases (k : Int) : k = 0 ∨ k = 1 ∨ k = 2 ∨ k = 3 ∨ k = 4 ∨ k = 5 ∨ k = 6 ∨ k = 7 ∨ k = 8 ∨ (¬ (0 ≤ k ∧ k ≤ 8)) := by omega
theorem impl_kids (x : Stmt) : m_impl_kidsOf x = some (arI (arS x)) := by
  unfold m_impl_kidsOf arS
  simp only [impl_zero, Option.bind_some, impl_over, impl_given, dec_len0, show ∀ n, m_impl_isVar n = some (i4 n) from fun _ => rfl, show ∀ n, m_impl_isEvent n = some (i4 n) from fun _ => rfl]
  rcases kind_cases x.Kind with h | h | h | h | h | h | h | h | h | h
  · simp only [h, decide_true, cond_true]
    cases decide (x.Var = 0) && decide (x.Event = 0) && zT x.Sum && zT x.Index && decide (x.Facts.length = 0) <;> rfl
  · simp only [h, decide_true, cond_true, show decide ((1 : Int) = 0) = false from rfl, cond_false]
    cases decide (x.Var = 0) && decide (x.Event = 0) && zT x.Sum && zT x.Index && decide (x.Facts.length = 0) <;> rfl
  · simp only [h, decide_true, cond_true, show decide ((2 : Int) = 0) = false from rfl, show decide ((2 : Int) = 1) = false from rfl, cond_false]
    cases i4 x.Var <;> cases decide (x.Event = 0) <;> cases over x.Sum <;> cases zT x.Index <;> cases decide (x.Facts.length = 0) <;> rfl
  · simp only [h, decide_true, cond_true, show decide ((3 : Int) = 0) = false from rfl, show decide ((3 : Int) = 1) = false from rfl, show decide ((3 : Int) = 2) = false from rfl, cond_false]
    cases i4 x.Var <;> cases decide (x.Event = 0) <;> cases zT x.Sum <;> cases over x.Index <;> cases decide (x.Facts.length = 0) <;> rfl
  · simp only [h, decide_true, cond_true, show decide ((4 : Int) = 0) = false from rfl, show decide ((4 : Int) = 1) = false from rfl, show decide ((4 : Int) = 2) = false from rfl, show decide ((4 : Int) = 3) = false from rfl, cond_false]
    cases decide (x.Var = 0) <;> cases decide (x.Event = 0) <;> cases over x.Sum <;> cases over x.Index <;> cases decide (x.Facts.length = 0) <;> rfl
  · simp only [h, decide_true, cond_true, show decide ((5 : Int) = 0) = false from rfl, show decide ((5 : Int) = 1) = false from rfl, show decide ((5 : Int) = 2) = false from rfl, show decide ((5 : Int) = 3) = false from rfl, show decide ((5 : Int) = 4) = false from rfl, cond_false]
    cases decide (x.Var = 0) <;> cases i4 x.Event <;> cases zT x.Sum <;> cases zT x.Index <;> cases decide (x.Facts.length = 0) <;> rfl
  · simp only [h, decide_true, cond_true, show decide ((6 : Int) = 0) = false from rfl, show decide ((6 : Int) = 1) = false from rfl, show decide ((6 : Int) = 2) = false from rfl, show decide ((6 : Int) = 3) = false from rfl, show decide ((6 : Int) = 4) = false from rfl, show decide ((6 : Int) = 5) = false from rfl, cond_false]
    cases decide (x.Var = 0) <;> cases decide (x.Event = 0) <;> cases over x.Sum <;> cases zT x.Index <;> cases decide (x.Facts.length = 0) <;> rfl
  · simp only [h, decide_true, cond_true, show decide ((7 : Int) = 0) = false from rfl, show decide ((7 : Int) = 1) = false from rfl, show decide ((7 : Int) = 2) = false from rfl, show decide ((7 : Int) = 3) = false from rfl, show decide ((7 : Int) = 4) = false from rfl, show decide ((7 : Int) = 5) = false from rfl, show decide ((7 : Int) = 6) = false from rfl, cond_false]
    cases decide (x.Var = 0) <;> cases decide (x.Event = 0) <;> cases over x.Sum <;> cases zT x.Index <;> cases decide (x.Facts.length = 0) <;> rfl
  · simp only [h, decide_true, cond_true, show decide ((8 : Int) = 0) = false from rfl, show decide ((8 : Int) = 1) = false from rfl, show decide ((8 : Int) = 2) = false from rfl, show decide ((8 : Int) = 3) = false from rfl, show decide ((8 : Int) = 4) = false from rfl, show decide ((8 : Int) = 5) = false from rfl, show decide ((8 : Int) = 6) = false from rfl, show decide ((8 : Int) = 7) = false from rfl, cond_false]
    cases decide (x.Var = 0) <;> cases decide (x.Event = 0) <;> cases over x.Sum <;> cases zT x.Index <;> cases okGiven x.Facts <;> rfl
  · have e : ∀ n : Int, (0 ≤ n ∧ n ≤ 8) → decide (x.Kind = n) = false := fun n hn => decide_eq_false (fun e => h (e ▸ hn))
    simp only [e 0 (by omega), e 1 (by omega), e 2 (by omega), e 3 (by omega), e 4 (by omega), e 5 (by omega), e 6 (by omega), e 7 (by omega), e 8 (by omega), cond_false]
    rfl
theorem spec_l03Term {t : Term} (h : cTerm t ≤ 1048576) : m_spec_l03Term t = some (over t) := by
  unfold m_spec_l03Term over
  rw [spec_is h, Option.bind_some, show (4 : Int) = ((4 : Nat) : Int) from rfl, dec_leC]
theorem spec_terms {ts : List Term} (hc : cTermS ts ≤ 1048576) (m : Nat) : m_spec_l03Terms ts (m : Int) = some (ts.all over && decide (ts.length ≤ m)) := by
  have hl : ts.length ≤ 1048576 := by unfold cTermS at hc; omega
  have h := iter_for (step := m_spec_l03Terms_L0 ts) ts (fun n (_ : Unit) => (n : Int)) (fun _ x _ => bif over x then some (.next ()) else some (.out (.inr false))) (fun _ => .inl ())
    (fun n x r hx => by
      have hn := get_lt hx
      have hm := cTermS_mem (List.mem_of_getElem? hx)
      unfold m_spec_l03Terms_L0
      rw [dec_lt hn, cond_true, getI_some hx, Option.bind_some, spec_l03Term (by omega), Option.bind_some, w64_succ (by omega)]
      cases over x <;> rfl)
    (fun r => by unfold m_spec_l03Terms_L0; rw [dec_self]; rfl) ()
  unfold m_spec_l03Terms
  rw [show (0 : Int) = ((0 : Nat) : Int) from rfl, h, forL_all over ts 0 (fun _ _ _ => rfl), Option.bind_some]
  unfold m_spec_l03Terms_A0
  cases ts.all over with
  | true => simp only [cond_true, Bool.true_and, dec_leC]
  | false => rfl
theorem spec_given {ts : List Term} (hc : cTermS ts ≤ 1048576) : m_spec_l03Terms ts 6 = some (okGiven ts) := spec_terms hc 6
theorem spec_stmt {x : Stmt} (h1 : cTerm x.Sum ≤ 1048576) (h2 : cTerm x.Index ≤ 1048576) (h3 : cTermS x.Facts ≤ 1048576) : m_spec_l03Stmt x = some (arS x).isSome := by
  have hz : ∀ t, zT t = true → over t = true := fun t => zT_over
  unfold m_spec_l03Stmt m_spec_l03Stmt_J0 m_spec_l03Stmt_J1 arS
  simp only [spec_l03Term h1, spec_l03Term h2, spec_given h3, spec_zero, Option.bind_some, dec_pos0, show ∀ n, m_spec_l00In n 0 3 = some (i4 n) from fun _ => rfl,
    show ∀ n, m_spec_l00In n 0 8 = some (decide (0 ≤ n) && decide (n ≤ 8)) from fun _ => rfl]
  have a1 := hz x.Sum
  have a2 := hz x.Index
  have a3 := @len0_given x.Facts
  generalize over x.Sum = oS at *
  generalize over x.Index = oI at *
  generalize zT x.Sum = zS at *
  generalize zT x.Index = zI at *
  generalize okGiven x.Facts = oG at *
  generalize hL : decide (x.Facts.length = 0) = L0
  have a4 : L0 = true → oG = true := fun h => a3 (by rw [← hL] at h; simpa using h)
  generalize i4 x.Var = iV
  generalize i4 x.Event = iE
  generalize decide (x.Var = 0) = v0
  generalize decide (x.Event = 0) = e0
  clear a3 hL hz
  rcases kind_cases x.Kind with h | h | h | h | h | h | h | h | h | h
  any_goals
    rw [h]
    simp only [Int.reduceEq, Int.reduceLE, decide_true, decide_false, Bool.and_self, Bool.not_true, Bool.not_false, cond_true, cond_false, Bool.or_false, Bool.or_true, Bool.false_or, Bool.true_or, Bool.and_true, Bool.true_and]
    revert a1 a2 a4
    cases zS <;> cases zI <;> cases oS <;> cases oI <;> cases oG <;> cases L0 <;> simp <;> cases iV <;> cases iE <;> cases v0 <;> cases e0 <;> rfl
  have e : ∀ n : Int, (0 ≤ n ∧ n ≤ 8) → decide (x.Kind = n) = false := fun n hn => decide_eq_false (fun e => h (e ▸ hn))
  have e9 : (decide (0 ≤ x.Kind) && decide (x.Kind ≤ 8)) = false := by
    rw [← Bool.not_eq_true, Bool.and_eq_true, decide_eq_true_eq, decide_eq_true_eq]; exact h
  simp only [e 0 (by omega), e 1 (by omega), e 2 (by omega), e 3 (by omega), e 4 (by omega), e 5 (by omega), e 6 (by omega), e 7 (by omega), e 8 (by omega), e9, cond_false, Bool.not_false, cond_true]
  rfl
theorem ar_le {x : Stmt} {n : Nat} (h : arS x = some n) : n ≤ 2 := by
  unfold arS at h
  simp only [Bool.cond_eq_ite] at h
  repeat' split at h
  all_goals (cases h <;> omega)
theorem ar_kind {x : Stmt} {n : Nat} (h : arS x = some n) : (x.Kind = 0 ∧ n = 0) ∨ (x.Kind = 1 ∧ n = 2) ∨ (x.Kind = 2 ∧ n = 0) ∨ (x.Kind = 3 ∧ n = 0) ∨ (x.Kind = 4 ∧ n = 0) ∨ (x.Kind = 5 ∧ n = 0) ∨ (x.Kind = 6 ∧ n = 0) ∨ (x.Kind = 7 ∧ n = 2) ∨ (x.Kind = 8 ∧ n = 1) := by
  unfold arS at h
  simp only [Bool.cond_eq_ite, decide_eq_true_eq] at h
  repeat' split at h
  all_goals (cases h <;> omega)
theorem spec_below {x : Stmt} {n : Nat} (h : arS x = some n) : m_spec_l03Below x.Kind = some (n : Int) := by
  rcases ar_kind h with h | h | h | h | h | h | h | h | h <;> obtain ⟨h1, rfl⟩ := h <;> rw [h1] <;> rfl
def goS : List Stmt → Nat → Option (List Stmt)
  | p, 0 => some p
  | [], _ + 1 => none
  | x :: r, n + 1 => (arS x).bind fun a => goS r (n + a)
theorem goS_zero (p : List Stmt) : goS p 0 = some p := by cases p <;> rfl
theorem goS_add : ∀ (p : List Stmt) (a b : Nat), goS p (a + b) = (goS p a).bind fun r => goS r b := by
  intro p
  induction p with
  | nil =>
    intro a b
    cases a with
    | zero => rw [Nat.zero_add, goS_zero, Option.bind_some]
    | succ a => rw [show a + 1 + b = (a + b) + 1 by omega]; rfl
  | cons x r ih =>
    intro a b
    cases a with
    | zero => rw [Nat.zero_add, goS_zero, Option.bind_some]
    | succ a =>
      rw [show a + 1 + b = (a + b) + 1 by omega]
      show (arS x).bind (fun c => goS r (a + b + c)) = ((arS x).bind fun c => goS r (a + c)).bind fun r => goS r b
      cases arS x with
      | none => rfl
      | some c => simp only [Option.bind_some]; rw [show a + b + c = (a + c) + b by omega]; exact ih _ _
theorem goS_pre : ∀ (p : List Stmt) (n : Nat) {r : List Stmt}, goS p n = some r → ∃ q, p = q ++ r ∧ (∀ x ∈ q, (arS x).isSome = true) ∧ (0 < n → q ≠ []) := by
  intro p
  induction p with
  | nil =>
    intro n r h
    cases n with
    | zero => cases h; exact ⟨[], rfl, by simp, by omega⟩
    | succ n => cases h
  | cons x r ih =>
    intro n s h
    cases n with
    | zero => cases h; exact ⟨[], rfl, by simp, by omega⟩
    | succ n =>
      unfold goS at h
      cases ha : arS x with
      | none => rw [ha] at h; cases h
      | some a =>
        rw [ha, Option.bind_some] at h
        obtain ⟨q, rfl, h1, _⟩ := ih _ h
        refine ⟨x :: q, rfl, ?_, by simp⟩
        intro y hy
        rcases List.mem_cons.1 hy with rfl | hy
        · rw [ha]; rfl
        · exact h1 y hy
theorem goS_len {p r : List Stmt} {n : Nat} (h : goS p n = some r) : r.length + min n 1 ≤ p.length := by
  obtain ⟨q, rfl, _, h2⟩ := goS_pre p n h
  rw [List.length_append]
  cases n with
  | zero => simp
  | succ n =>
    have := List.length_pos_iff.2 (h2 (by omega))
    omega
theorem goS_drop {p r : List Stmt} {n : Nat} (h : goS p n = some r) : r = p.drop (p.length - r.length) := by
  obtain ⟨q, rfl, _, _⟩ := goS_pre p n h
  rw [List.length_append, Nat.add_sub_cancel, List.drop_left]
mutual
def fl : Ptree → List Stmt
  | .nil => []
  | .mk x _ ks => x :: flL ks
def flL : List Ptree → List Stmt
  | [] => []
  | t :: ts => fl t ++ flL ts
end
mutual
def wfT : Nat → Ptree → Prop
  | _, .nil => False
  | k, .mk x at_ ks => at_ = (k : Int) ∧ arS x = some ks.length ∧ wfL (k + 1) ks
def wfL : Nat → List Ptree → Prop
  | _, [] => True
  | k, t :: ts => wfT k t ∧ wfL (k + (fl t).length) ts
end
mutual
def okT : Ptree → Prop
  | .nil => False
  | .mk x _ ks => arS x = some ks.length ∧ okL ks
def okL : List Ptree → Prop
  | [] => True
  | t :: ts => okT t ∧ okL ts
end
mutual
theorem wfT_ok : ∀ (t : Ptree) (k : Nat), wfT k t → okT t
  | .nil, _, h => by unfold wfT at h; exact h.elim
  | .mk x _ ks, k, h => by unfold wfT at h; unfold okT; exact ⟨h.2.1, wfL_ok ks _ h.2.2⟩
theorem wfL_ok : ∀ (ts : List Ptree) (k : Nat), wfL k ts → okL ts
  | [], _, _ => by unfold okL; trivial
  | t :: ts, k, h => by unfold wfL at h; unfold okL; exact ⟨wfT_ok t k h.1, wfL_ok ts _ h.2⟩
end
mutual
theorem okT_go : ∀ (t : Ptree) (r : List Stmt), okT t → goS (fl t ++ r) 1 = some r
  | .nil, _, h => by unfold okT at h; exact h.elim
  | .mk x _ ks, r, h => by
    unfold okT at h
    unfold fl
    show (arS x).bind (fun a => goS (flL ks ++ r) (0 + a)) = some r
    rw [h.1, Option.bind_some, Nat.zero_add]
    exact okL_go ks r h.2
theorem okL_go : ∀ (ts : List Ptree) (r : List Stmt), okL ts → goS (flL ts ++ r) ts.length = some r
  | [], r, _ => by unfold flL; exact goS_zero _
  | t :: ts, r, h => by
    unfold okL at h
    unfold flL
    rw [List.append_assoc, List.length_cons, Nat.add_comm, goS_add, okT_go t _ h.1, Option.bind_some]
    exact okL_go ts r h.2
end
theorem okT_pos {t : Ptree} (h : okT t) : 0 < (fl t).length := by
  cases t with
  | nil => unfold okT at h; exact h.elim
  | mk x a ks => unfold fl; simp
section
variable {p : List Stmt}
theorem sub1 {n : Nat} (h : n ≤ 3) : w64 (((n + 1 : Nat) : Int) - 1) = (n : Int) := by rw [w64_eq (by omega)]; omega
theorem treeAt_ok (hl : p.length ≤ 1048576) : ∀ (fu k : Nat), k ≤ p.length → p.length - k < fu →
    (∀ r, goS (p.drop k) 1 = some r → ∃ t, m_impl_treeAt fu p (k : Int) = some (t, ((p.length - r.length : Nat) : Int), true) ∧ wfT k t ∧ p.drop k = fl t ++ r) ∧
    (goS (p.drop k) 1 = none → m_impl_treeAt fu p (k : Int) = some (.nil, 0, false)) := by
  intro fu
  induction fu with
  | zero => intro k _ h; omega
  | succ fu ih =>
    intro k hk hf
    have loop : ∀ (c k : Nat) (acc : List Ptree), k ≤ p.length → acc.length + c ≤ 2 → p.length - k < fu →
        (∀ r, goS (p.drop k) c = some r → ∃ ts, iter (m_impl_treeAt_F_L0 (m_impl_treeAt fu) p) ((k : Int), (c : Int), acc) = some (.inl (((p.length - r.length : Nat) : Int), acc ++ ts)) ∧ wfL k ts ∧ ts.length = c ∧ p.drop k = flL ts ++ r) ∧
        (goS (p.drop k) c = none → iter (m_impl_treeAt_F_L0 (m_impl_treeAt fu) p) ((k : Int), (c : Int), acc) = some (.inr (.nil, 0, false))) := by
      intro c
      induction c with
      | zero =>
        intro k acc hk hc hf
        rw [goS_zero]
        refine ⟨fun r hr => ?_, fun h => by cases h⟩
        cases hr
        refine ⟨[], ?_, by unfold wfL; trivial, rfl, by unfold flL; rfl⟩
        rw [iter_out (t := .inl ((k : Int), acc))]
        · simp only [List.length_drop, List.append_nil]; rw [show p.length - (p.length - k) = k by omega]
        · rfl
      | succ c ihc =>
        intro k acc hk hc hf
        obtain ⟨i1, i2⟩ := ih k hk hf
        rw [show c + 1 = 1 + c by omega, goS_add]
        have hstep : ∀ y, m_impl_treeAt fu p (k : Int) = some y → m_impl_treeAt_F_L0 (m_impl_treeAt fu) p ((k : Int), ((1 + c : Nat) : Int), acc) = (bif !y.2.2 then some (.out (.inr ((.nil : Ptree), (0 : Int), false))) else some (.next (y.2.1, (c : Int), acc ++ [y.1]))) := by
          intro y hy
          unfold m_impl_treeAt_F_L0
          simp only
          rw [decide_eq_true (by omega), cond_true, hy, Option.bind_some, show 1 + c = c + 1 by omega, sub1 (by omega), capI_some (by simp; omega), Option.bind_some]
        cases hg : goS (p.drop k) 1 with
        | none =>
          refine ⟨fun r hr => (by cases hr), fun _ => iter_out (hstep _ (i2 hg))⟩
        | some r =>
          obtain ⟨t, e1, w1, d1⟩ := i1 r hg
          have h1 := goS_len hg
          have h2 := goS_drop hg
          simp only [List.length_drop, Nat.min_self] at h1
          rw [List.drop_drop, List.length_drop] at h2
          have hlt : k < p.length := by omega
          have hn := iter_next (hstep _ e1)
          have h3 : r = p.drop (p.length - r.length) := h2.trans (by congr 1; omega)
          have hfl : (fl t).length = p.length - r.length - k := by
            have := congrArg List.length d1
            rw [List.length_drop, List.length_append] at this; omega
          obtain ⟨j1, j2⟩ := ihc (p.length - r.length) (acc ++ [t]) (by omega) (by simp; omega) (by omega)
          rw [← h3] at j1 j2
          rw [Option.bind_some]
          refine ⟨fun r2 hr2 => ?_, fun hr2 => by rw [hn]; exact j2 hr2⟩
          obtain ⟨ts, e2, w2, l2, d2⟩ := j1 r2 hr2
          refine ⟨t :: ts, ?_, ?_, by rw [List.length_cons, l2]; omega, ?_⟩
          · rw [hn, e2]; simp
          · unfold wfL; refine ⟨w1, ?_⟩; rw [hfl, show k + (p.length - r.length - k) = p.length - r.length by omega]; exact w2
          · unfold flL; rw [d1, d2, List.append_assoc]
    unfold m_impl_treeAt m_impl_treeAt_F
    by_cases h : p.length ≤ k
    · rw [decide_eq_true (by omega), cond_true, List.drop_eq_nil_iff.2 h]
      exact ⟨fun r hr => (by cases hr), fun _ => rfl⟩
    · have hlt : k < p.length := by omega
      rw [decide_eq_false (by omega), cond_false, getI_some (List.getElem?_eq_getElem hlt), Option.bind_some, impl_kids, Option.bind_some, List.drop_eq_getElem_cons hlt]
      rw [show goS (p[k] :: p.drop (k + 1)) 1 = (arS p[k]).bind fun a => goS (p.drop (k + 1)) (0 + a) from rfl]
      cases ha : arS p[k] with
      | none => exact ⟨fun r hr => (by cases hr), fun _ => rfl⟩
      | some a =>
        have ha2 := ar_le ha
        obtain ⟨j1, j2⟩ := loop a (k + 1) [] (by omega) (by simpa using ha2) (by omega)
        unfold arI
        simp only [Option.bind_some, Nat.zero_add]
        rw [dec_neg, cond_false, w64_succ (by omega)]
        refine ⟨fun r hr => ?_, fun hr => by rw [j2 hr]; rfl⟩
        obtain ⟨ts, e2, w2, l2, d2⟩ := j1 r hr
        refine ⟨.mk p[k] (k : Int) ts, ?_, ?_, ?_⟩
        · rw [e2, Option.bind_some]; rfl
        · unfold wfT; exact ⟨rfl, by rw [ha, l2], w2⟩
        · unfold fl; rw [d2]; rfl
end
def isB (p : List Stmt) : Bool := decide (p.length ≤ 30) && (match goS p 1 with | some [] => true | _ => false)
theorem isB_iff {p : List Stmt} : isB p = true ↔ p.length ≤ 30 ∧ goS p 1 = some [] := by
  unfold isB
  rw [Bool.and_eq_true, decide_eq_true_eq]
  cases hg : goS p 1 with
  | none => simp
  | some r => cases r <;> simp
theorem isB_valid {p : List Stmt} (h : isB p = true) : ∀ x ∈ p, (arS x).isSome = true := by
  obtain ⟨_, h1⟩ := isB_iff.1 h
  obtain ⟨q, hq, h2, _⟩ := goS_pre p 1 h1
  rw [List.append_nil] at hq
  subst hq
  exact h2
theorem impl_treeOf (p : List Stmt) : ∃ t, m_impl_treeOf p = some (t, isB p) ∧ (isB p = true → wfT 0 t ∧ fl t = p) := by
  unfold m_impl_treeOf
  by_cases h : p.length ≤ 30
  · rw [decide_eq_false (by omega), cond_false]
    obtain ⟨i1, i2⟩ := treeAt_ok (p := p) (by omega) 1000 0 (by omega) (by omega)
    rw [List.drop_zero] at i1 i2
    rw [show ((0 : Nat) : Int) = (0 : Int) from rfl] at i1 i2
    unfold isB
    rw [decide_eq_true h, Bool.true_and]
    cases hg : goS p 1 with
    | none => exact ⟨.nil, by rw [i2 hg]; rfl, fun h => by cases h⟩
    | some r =>
      obtain ⟨t, e, w, d⟩ := i1 r hg
      have := goS_len hg
      refine ⟨t, ?_, ?_⟩
      · rw [e, Option.bind_some]
        cases r with
        | nil => simp only [List.length_nil, Nat.sub_zero, decide_true, Bool.and_self]
        | cons x r => simp only [Bool.true_and]; rw [decide_eq_false (by simp at this; simp; omega)]
      · intro hh
        cases r with
        | nil => rw [List.append_nil] at d; exact ⟨w, d.symm⟩
        | cons x r => cases hh
  · refine ⟨.nil, ?_, fun hh => by have := (isB_iff.1 hh).1; omega⟩
    rw [decide_eq_true (by omega), cond_true]
    unfold isB
    rw [decide_eq_false h]; rfl
theorem spec_end_step {p : List Stmt} {k need : Nat} {x : Stmt} {a : Nat} (hx : p[k]? = some x) (ha : arS x = some a) (hl : p.length ≤ 1048576) (hn : need ≤ 1048576) :
    m_spec_l03End_L0 p ((k : Int), ((need + 1 : Nat) : Int)) = some (.next (((k + 1 : Nat) : Int), ((need + a : Nat) : Int))) := by
  have hk := get_lt hx
  have ha2 := ar_le ha
  unfold m_spec_l03End_L0
  simp only
  rw [decide_eq_true (by omega), cond_true, decide_eq_false (by omega), cond_false, getI_some hx, Option.bind_some, spec_below ha, Option.bind_some]
  have w1 : w64 ((k : Int) + 1) = ((k + 1 : Nat) : Int) := w64_succ (by omega)
  have w2 : w64 (((need + 1 : Nat) : Int) + w64 ((a : Int) - 1)) = ((need + a : Nat) : Int) := by
    rw [w64_eq (n := (a : Int) - 1) (by omega), w64_eq (by omega)]; omega
  rw [w1, w2]
theorem spec_end {p : List Stmt} (hl : p.length ≤ 1000) (hv : ∀ x ∈ p, (arS x).isSome = true) : ∀ (q k need : Nat), k + q = p.length → need + 2 * q ≤ 100000 →
    iter (m_spec_l03End_L0 p) ((k : Int), (need : Int)) = some (match goS (p.drop k) need with | some r => .inl ((p.length - r.length : Nat) : Int) | none => .inr (-1)) := by
  intro q
  induction q with
  | zero =>
    intro k need hk hn
    obtain rfl : k = p.length := by omega
    rw [List.drop_length]
    cases need with
    | zero => rw [goS_zero]; exact iter_out rfl
    | succ n =>
      exact iter_out (by unfold m_spec_l03End_L0; simp only; rw [decide_eq_true (by omega), cond_true, decide_true]; rfl)
  | succ q ih =>
    intro k need hk hn
    have hlt : k < p.length := by omega
    cases need with
    | zero =>
      rw [goS_zero, iter_out (t := .inl (k : Int)) rfl]
      simp only [List.length_drop]
      rw [show p.length - (p.length - k) = k by omega]
    | succ n =>
      obtain ⟨a, ha⟩ := Option.isSome_iff_exists.1 (hv _ (List.getElem_mem hlt))
      have ha2 := ar_le ha
      rw [iter_next (spec_end_step (List.getElem?_eq_getElem hlt) ha (by omega) (by omega)), ih (k + 1) (n + a) (by omega) (by omega), List.drop_eq_getElem_cons hlt]
      have e : goS (p[k] :: p.drop (k + 1)) (n + 1) = (arS p[k]).bind fun a => goS (p.drop (k + 1)) (n + a) := rfl
      rw [e, ha, Option.bind_some]
theorem spec_l03End {p : List Stmt} (hl : p.length ≤ 1000) (hv : ∀ x ∈ p, (arS x).isSome = true) {k : Nat} (hk : k ≤ p.length) :
    m_spec_l03End p (k : Int) = some (match goS (p.drop k) 1 with | some r => ((p.length - r.length : Nat) : Int) | none => -1) := by
  unfold m_spec_l03End
  rw [show (1 : Int) = ((1 : Nat) : Int) from rfl, spec_end hl hv (p.length - k) k 1 (by omega) (by omega), Option.bind_some]
  unfold m_spec_l03End_A0
  cases goS (p.drop k) 1 <;> rfl
theorem spec_isB {p : List Stmt} (hc : pc_StmtS p ≤ 1048576) : m_spec_l03Body p = some (isB p) := by
  have hl : p.length ≤ 1048576 := Nat.le_trans pc_StmtS_len hc
  have h := iter_for (step := m_spec_l03Body_L0 p) p (fun n (_ : Unit) => (n : Int)) (fun _ x _ => bif (arS x).isSome then some (.next ()) else some (.out (.inr false))) (fun _ => .inl ())
    (fun n x r hx => by
      have hn := get_lt hx
      have hm := pc_StmtS_mem (List.mem_of_getElem? hx)
      unfold pc_Stmt at hm
      have e1 : pc_Term x.Sum = cTerm x.Sum := rfl
      have e2 : pc_Term x.Index = cTerm x.Index := rfl
      have e3 : pc_TermS x.Facts = cTermS x.Facts := rfl
      unfold m_spec_l03Body_L0
      rw [dec_lt hn, cond_true, getI_some hx, Option.bind_some, spec_stmt (by omega) (by omega) (by omega), Option.bind_some, w64_succ (by omega)]
      cases (arS x).isSome <;> rfl)
    (fun r => by unfold m_spec_l03Body_L0; rw [dec_self]; rfl) ()
  unfold m_spec_l03Body isB
  rw [show m_spec_l00In (p.length : Int) 1 30 = some (decide (1 ≤ (p.length : Int)) && decide ((p.length : Int) ≤ 30)) from rfl, Option.bind_some]
  by_cases h60 : p.length ≤ 30
  · by_cases h1 : 1 ≤ p.length
    · rw [decide_eq_true (by omega), decide_eq_true (by omega), Bool.true_and, Bool.not_true, cond_false, decide_eq_true h60, Bool.true_and]
      rw [show (0 : Int) = ((0 : Nat) : Int) from rfl, h, forL_all (fun x => (arS x).isSome) p 0 (fun _ _ _ => rfl), Option.bind_some]
      cases hv : p.all (fun x => (arS x).isSome) with
      | true =>
        rw [cond_true]
        unfold m_spec_l03Body_A0
        simp only
        rw [show (0 : Int) = ((0 : Nat) : Int) from rfl, spec_l03End (by omega) (by simpa using hv) (Nat.zero_le _), Option.bind_some, List.drop_zero]
        cases hg : goS p 1 with
        | none => simp only; rw [decide_eq_false (by omega)]
        | some r =>
          have := goS_len hg
          cases r with
          | nil => simp only [List.length_nil, Nat.sub_zero, decide_true]
          | cons x r => simp only; rw [decide_eq_false (by simp at this; simp; omega)]
      | false =>
        rw [cond_false]
        unfold m_spec_l03Body_A0
        simp only
        cases hg : goS p 1 with
        | none => rfl
        | some r =>
          obtain ⟨q, hq, h2, _⟩ := goS_pre p 1 hg
          cases r with
          | cons x r => rfl
          | nil =>
            rw [List.append_nil] at hq
            subst hq
            have : p.all (fun x => (arS x).isSome) = true := by simpa using h2
            rw [this] at hv; cases hv
    · have : p = [] := List.eq_nil_of_length_eq_zero (by omega)
      subst this
      rfl
  · rw [decide_eq_false (p := (p.length : Int) ≤ 30) (by omega), Bool.and_false, decide_eq_false h60]; rfl
end Go.Mod

namespace Go.Mod
open Go.AM
set_option linter.unusedVariables false
set_option linter.unusedSimpArgs false
theorem pc_StmtS_cons (x : Stmt) (b : List Stmt) : pc_StmtS (x :: b) = 1 + pc_Stmt x + pc_StmtS b := by
  unfold pc_StmtS; rw [List.length_cons, List.map_cons, List.sum_cons]; omega
theorem impl_ownStmt {x : Stmt} (h : pc_Stmt x ≤ 1048576) : m_impl_ownStmt x = some x := by
  unfold pc_Stmt pc_Term at h
  have e3 : pc_TermS x.Facts = cTermS x.Facts := rfl
  have e4 : pc_Int64S x.Sum.Coeffs = x.Sum.Coeffs.length := rfl
  have e5 : pc_Int64S x.Index.Coeffs = x.Index.Coeffs.length := rfl
  unfold m_impl_ownStmt
  rw [impl_own (by omega), Option.bind_some, impl_own (by omega), Option.bind_some, impl_ownTerms (by omega), Option.bind_some]
theorem spec_l02Own {t : Term} (h : t.Coeffs.length ≤ 1048576) : m_spec_l02Own t = some t := by
  unfold m_spec_l02Own; rw [spec_own h]; rfl
theorem spec_ownStmt {x : Stmt} (h : pc_Stmt x ≤ 1048576) : m_spec_l03OwnStmt x = some x := by
  unfold pc_Stmt pc_Term at h
  have e3 : pc_TermS x.Facts = cTermS x.Facts := rfl
  have e4 : pc_Int64S x.Sum.Coeffs = x.Sum.Coeffs.length := rfl
  have e5 : pc_Int64S x.Index.Coeffs = x.Index.Coeffs.length := rfl
  unfold m_spec_l03OwnStmt
  rw [spec_l02Own (by omega), Option.bind_some, spec_l02Own (by omega), Option.bind_some, spec_ownAll (by omega), Option.bind_some]
theorem over_len {t : Term} (h : over t = true) : t.Coeffs.length ≤ 4 := by
  unfold over at h; simp only [Bool.and_eq_true, decide_eq_true_eq] at h; exact h.2
theorem zT_len {t : Term} (h : zT t = true) : t.Coeffs.length ≤ 4 := by
  unfold zT at h; simp only [Bool.and_eq_true, decide_eq_true_eq] at h; omega
theorem sum_small : ∀ (ts : List Term), (∀ t ∈ ts, t.Coeffs.length ≤ 4) → (ts.map pc_Term).sum ≤ 4 * ts.length
  | [], _ => by simp
  | t :: ts, h => by
    have h1 := h t (by simp)
    have h2 := sum_small ts (fun u hu => h u (List.mem_cons_of_mem _ hu))
    have e : pc_Term t = t.Coeffs.length := rfl
    rw [List.map_cons, List.sum_cons, List.length_cons]; omega
theorem given_small {ts : List Term} (h : okGiven ts = true) : pc_TermS ts ≤ 30 := by
  unfold okGiven at h
  simp only [Bool.and_eq_true, List.all_eq_true, decide_eq_true_eq] at h
  have := sum_small ts (fun t ht => over_len (h.1 t ht))
  unfold pc_TermS; omega
theorem ar_small {x : Stmt} {n : Nat} (h : arS x = some n) : pc_Stmt x ≤ 40 := by
  have z : ∀ ts : List Term, ts.length = 0 → pc_TermS ts ≤ 30 := fun ts h => by
    have : ts = [] := List.eq_nil_of_length_eq_zero h
    subst this; decide
  have key : ∀ (a b c : Nat), a ≤ 4 → b ≤ 4 → c ≤ 30 → a + b + c ≤ 40 := fun a b c _ _ _ => by omega
  have e1 : pc_Term x.Sum = x.Sum.Coeffs.length := rfl
  have e2 : pc_Term x.Index = x.Index.Coeffs.length := rfl
  unfold pc_Stmt
  rw [e1, e2]
  unfold arS at h
  simp only [Bool.cond_eq_ite, Bool.and_eq_true, decide_eq_true_eq] at h
  repeat' split at h
  all_goals first
    | cases h; done
    | (rename_i hh; obtain ⟨⟨⟨_, h1⟩, h2⟩, h3⟩ := hh
       exact key _ _ _ (by first | exact over_len h1 | exact zT_len h1) (by first | exact over_len h2 | exact zT_len h2) (by first | exact z _ h3 | exact given_small h3))
theorem body_small : ∀ (p : List Stmt), (∀ x ∈ p, (arS x).isSome = true) → pc_StmtS p ≤ 41 * p.length
  | [], _ => by decide
  | x :: p, h => by
    obtain ⟨n, hn⟩ := Option.isSome_iff_exists.1 (h x (by simp))
    have h1 := ar_small hn
    have h2 := body_small p (fun y hy => h y (List.mem_cons_of_mem _ hy))
    rw [pc_StmtS_cons, List.length_cons]; omega
theorem isB_small {p : List Stmt} (h : isB p = true) : pc_StmtS p ≤ 1230 := by
  have h1 := body_small p (isB_valid h)
  have h2 := (isB_iff.1 h).1
  omega
theorem isB_len {p : List Stmt} (h : isB p = true) : p.length ≤ 30 := (isB_iff.1 h).1
end Go.Mod

namespace Go.Mod
open Go.AM
set_option linter.unusedVariables false
set_option linter.unusedSimpArgs false
def evL (vs : List Int) : Nat → List Int → Int → Int
  | _, [], a => a
  | n, c :: r, a => evL vs (n + 1) r (w64 (a + w64 (c * vs.getD n 0)))
def evT (t : Term) (vs : List Int) : Int := evL vs 0 t.Coeffs t.Const
def running.vs (s : running) : List Int := s.state.Vars
def running.cs (s : running) : List Int := s.state.Cells
def tick (s : running) : running := running.mk s.state s.events s.fuel (s.steps + 1) s.out
def halt (s : running) (o : Int) : running := running.mk s.state s.events s.fuel s.steps o
def inCell (n : Int) : Bool := decide (0 ≤ n) && decide (n ≤ 7)
def inInt (n : Int) : Bool := decide (-1000000000 ≤ n) && decide (n ≤ 1000000000)
def act (x : Stmt) (s : running) : Bool × running :=
  bif (decide (x.Kind = 3) || decide (x.Kind = 4)) && !inCell (evT x.Index s.state.Vars) then (false, halt s 2)
  else bif (decide (x.Kind = 2) || decide (x.Kind = 4)) && !inInt (evT x.Sum s.state.Vars) then (false, halt s 4)
  else bif decide (x.Kind = 2) then (true, running.mk ⟨s.state.Vars.set x.Var.toNat (evT x.Sum s.state.Vars), s.state.Cells⟩ s.events s.fuel s.steps s.out)
  else bif decide (x.Kind = 3) then (true, running.mk ⟨s.state.Vars.set x.Var.toNat (s.state.Cells.getD (evT x.Index s.state.Vars).toNat 0), s.state.Cells⟩ s.events s.fuel s.steps s.out)
  else bif decide (x.Kind = 4) then (true, running.mk ⟨s.state.Vars, s.state.Cells.set (evT x.Index s.state.Vars).toNat (evT x.Sum s.state.Vars)⟩ s.events s.fuel s.steps s.out)
  else bif decide (x.Kind = 5) then (true, running.mk s.state (s.events ++ [x.Event]) s.fuel s.steps s.out)
  else bif decide (x.Kind = 6) && decide (evT x.Sum s.state.Vars < 0) then (false, halt s 3)
  else (true, s)
inductive Run : Ptree → running → Bool → running → Prop
  | seqT {x a l r s s1 s2 b} : x.Kind = 1 → Run l s true s1 → Run r s1 b s2 → Run (.mk x a [l, r]) s b s2
  | seqF {x a l r s s1} : x.Kind = 1 → Run l s false s1 → Run (.mk x a [l, r]) s false s1
  | stop {x a ks s} : x.Kind ≠ 1 → s.steps = s.fuel → Run (.mk x a ks) s false (halt s 1)
  | act {x a ks s} : x.Kind ≠ 1 → x.Kind ≠ 7 → x.Kind ≠ 8 → s.steps ≠ s.fuel → Run (.mk x a ks) s (act x (tick s)).1 (act x (tick s)).2
  | ifT {x a l r s b s'} : x.Kind = 7 → s.steps ≠ s.fuel → 0 ≤ evT x.Sum s.state.Vars → Run l (tick s) b s' → Run (.mk x a [l, r]) s b s'
  | ifF {x a l r s b s'} : x.Kind = 7 → s.steps ≠ s.fuel → ¬ 0 ≤ evT x.Sum s.state.Vars → Run r (tick s) b s' → Run (.mk x a [l, r]) s b s'
  | whE {x a l s} : x.Kind = 8 → s.steps ≠ s.fuel → ¬ 0 ≤ evT x.Sum s.state.Vars → Run (.mk x a [l]) s true (tick s)
  | whF {x a l s s'} : x.Kind = 8 → s.steps ≠ s.fuel → 0 ≤ evT x.Sum s.state.Vars → Run l (tick s) false s' → Run (.mk x a [l]) s false s'
  | whT {x a l s s1 b s2} : x.Kind = 8 → s.steps ≠ s.fuel → 0 ≤ evT x.Sum s.state.Vars → Run l (tick s) true s1 → Run (.mk x a [l]) s1 b s2 → Run (.mk x a [l]) s b s2
structure Vr (s : running) : Prop where
  vs : s.state.Vars.length = 4
  cs : s.state.Cells.length = 8
  s0 : 0 ≤ s.steps
  s1 : s.steps ≤ s.fuel
  f : s.fuel ≤ 2000
  ev : (s.events.length : Int) ≤ s.steps
theorem Vr.tick {s : running} (h : Vr s) (hn : s.steps ≠ s.fuel) : Vr (tick s) :=
  ⟨h.vs, h.cs, by have := h.s0; show 0 ≤ s.steps + 1; omega, by have := h.s1; show s.steps + 1 ≤ s.fuel; omega, h.f, by have := h.ev; show (s.events.length : Int) ≤ s.steps + 1; omega⟩
theorem act_keep (x : Stmt) (s : running) : (act x s).2.fuel = s.fuel ∧ (act x s).2.steps = s.steps ∧ (act x s).2.state.Vars.length = s.state.Vars.length ∧ (act x s).2.state.Cells.length = s.state.Cells.length ∧ (act x s).2.events.length ≤ s.events.length + 1 := by
  unfold act
  simp only [Bool.cond_eq_ite]
  repeat' split
  all_goals simp [halt]
theorem act_vr {x : Stmt} {s : running} (h : Vr s) (hn : s.steps ≠ s.fuel) : Vr (act x (Go.Mod.tick s)).2 := by
  have ht := h.tick hn
  obtain ⟨h1, h2, h3, h4, h5⟩ := act_keep x (Go.Mod.tick s)
  refine ⟨by rw [h3]; exact ht.vs, by rw [h4]; exact ht.cs, by rw [h2]; exact ht.s0, by rw [h1, h2]; exact ht.s1, by rw [h1]; exact ht.f, ?_⟩
  rw [h2]
  have h6 := h.ev
  have e1 : (Go.Mod.tick s).events.length = s.events.length := rfl
  have e2 : (Go.Mod.tick s).steps = s.steps + 1 := rfl
  rw [e1] at h5
  rw [e2]; omega
theorem Run.keep {t : Ptree} {s s' : running} {b : Bool} (h : Run t s b s') : Vr s → Vr s' ∧ s'.fuel = s.fuel ∧ s.steps ≤ s'.steps := by
  induction h with
  | seqT _ _ _ ih1 ih2 => intro v; obtain ⟨a1, a2, a3⟩ := ih1 v; obtain ⟨b1, b2, b3⟩ := ih2 a1; exact ⟨b1, b2.trans a2, Int.le_trans a3 b3⟩
  | seqF _ _ ih => exact ih
  | stop _ _ => intro v; exact ⟨⟨v.vs, v.cs, v.s0, v.s1, v.f, v.ev⟩, rfl, Int.le_refl _⟩
  | @act x a ks s _ _ _ hn =>
    intro v
    obtain ⟨h1, h2, _⟩ := act_keep x (tick s)
    exact ⟨act_vr v hn, h1, by rw [h2]; show s.steps ≤ s.steps + 1; omega⟩
  | @ifT x a l r s b s' _ hn _ _ ih => intro v; obtain ⟨a1, a2, a3⟩ := ih (v.tick hn); exact ⟨a1, a2, Int.le_trans (show s.steps ≤ s.steps + 1 by omega) a3⟩
  | @ifF x a l r s b s' _ hn _ _ ih => intro v; obtain ⟨a1, a2, a3⟩ := ih (v.tick hn); exact ⟨a1, a2, Int.le_trans (show s.steps ≤ s.steps + 1 by omega) a3⟩
  | @whE x a l s _ hn _ => intro v; exact ⟨v.tick hn, rfl, show s.steps ≤ s.steps + 1 by omega⟩
  | @whF x a l s s' _ hn _ _ ih => intro v; obtain ⟨a1, a2, a3⟩ := ih (v.tick hn); exact ⟨a1, a2, Int.le_trans (show s.steps ≤ s.steps + 1 by omega) a3⟩
  | @whT x a l s s1 b s2 _ hn _ _ _ ih1 ih2 =>
    intro v
    obtain ⟨a1, a2, a3⟩ := ih1 (v.tick hn)
    obtain ⟨b1, b2, b3⟩ := ih2 a1
    exact ⟨b1, b2.trans a2, Int.le_trans (Int.le_trans (show s.steps ≤ s.steps + 1 by omega) a3) b3⟩
theorem two {ks : List Ptree} (h : 2 = ks.length) : ∃ l r, ks = [l, r] := by
  match ks, h with
  | [l, r], _ => exact ⟨l, r, rfl⟩
theorem one' {ks : List Ptree} (h : 1 = ks.length) : ∃ l, ks = [l] := by
  match ks, h with
  | [l], _ => exact ⟨l, rfl⟩
end Go.Mod

namespace Go.Mod
open Go.AM
set_option linter.unusedVariables false
set_option linter.unusedSimpArgs false
def tup (s : running) : (List Int) × (List Int) × (List Int) × Int × Int × Int := (s.state.Vars, s.state.Cells, s.events, s.fuel, s.steps, s.out)
mutual
def dp : Ptree → Nat
  | .nil => 0
  | .mk _ _ ks => 1 + dpL ks
def dpL : List Ptree → Nat
  | [] => 0
  | t :: ts => max (dp t) (dpL ts)
end
mutual
theorem dp_le : ∀ t : Ptree, dp t ≤ (fl t).length
  | .nil => by unfold dp; omega
  | .mk x a ks => by unfold dp fl; rw [List.length_cons]; have := dpL_le ks; omega
theorem dpL_le : ∀ ts : List Ptree, dpL ts ≤ (flL ts).length
  | [] => by unfold dpL; omega
  | t :: ts => by unfold dpL flL; rw [List.length_append]; have := dp_le t; have := dpL_le ts; omega
end
end Go.Mod

namespace Go.Mod
open Go.AM
set_option linter.unusedVariables false
set_option linter.unusedSimpArgs false
section
variable {p : Program} {s : running} {w : List Int} {k : Nat} {x : Stmt} {m : Nat}
end
theorem end_ok {p : List Stmt} (hb : isB p = true) {k : Nat} {t : Ptree} {r : List Stmt} (ht : okT t) (hd : p.drop k = fl t ++ r) : m_spec_l03End p (k : Int) = some ((k + (fl t).length : Nat) : Int) := by
  have hpos := okT_pos ht
  have hl := congrArg List.length hd
  rw [List.length_drop, List.length_append] at hl
  rw [spec_l03End (by have := isB_len hb; omega) (isB_valid hb) (by omega), hd, okT_go t r ht]
  simp only
  congr 2; omega
theorem flL2 (a b : Ptree) : flL [a, b] = fl a ++ fl b := by unfold flL; rw [show flL [b] = fl b by (unfold flL; rw [show flL [] = [] from rfl, List.append_nil])]
theorem flL1 (a : Ptree) : flL [a] = fl a := by unfold flL; rw [show flL [] = [] from rfl, List.append_nil]
theorem okL1 {a : Ptree} (h : okL [a]) : okT a := by unfold okL at h; exact h.1
theorem okL2 {a b : Ptree} (h : okL [a, b]) : okT a ∧ okT b := by
  unfold okL at h
  have h2 := h.2
  unfold okL at h2
  exact ⟨h.1, h2.1⟩
end Go.Mod

namespace Go.Mod
open Go.AM
set_option linter.unusedVariables false
set_option linter.unusedSimpArgs false
end Go.Mod

namespace Go.Mod
open Go.AM
set_option linter.unusedVariables false
set_option linter.unusedSimpArgs false
def wf (s : running) (g : Int) : running := running.mk s.state s.events g s.steps s.out
theorem act_wf (x : Stmt) (s : running) (g : Int) : act x (wf s g) = ((act x s).1, wf (act x s).2 g) := by
  unfold act wf
  simp only [Bool.cond_eq_ite]
  repeat' split
  all_goals rfl
theorem act_out (x : Stmt) (s : running) : ((act x s).1 = true → (act x s).2.out = s.out) ∧ ((act x s).1 = false → (act x s).2.out = 2 ∨ (act x s).2.out = 3 ∨ (act x s).2.out = 4) := by
  unfold act
  simp only [Bool.cond_eq_ite]
  repeat' split
  all_goals simp [halt]
theorem act_events (x : Stmt) (s : running) : ∃ e, (act x s).2.events = s.events ++ e := by
  unfold act
  simp only [Bool.cond_eq_ite]
  repeat' split
  all_goals first | exact ⟨[_], rfl⟩ | exact ⟨[], by simp [halt]⟩
theorem Run.out {t : Ptree} {s s' : running} {b : Bool} (h : Run t s b s') : (b = true → s'.out = s.out) ∧ (b = false → (s'.out = 1 ∧ s'.steps = s'.fuel) ∨ s'.out = 2 ∨ s'.out = 3 ∨ s'.out = 4) := by
  induction h with
  | seqT _ _ _ ih1 ih2 => exact ⟨fun hb => (ih2.1 hb).trans (ih1.1 rfl), ih2.2⟩
  | seqF _ _ ih => exact ih
  | stop _ hf => exact ⟨fun h => (by cases h), fun _ => .inl ⟨rfl, hf⟩⟩
  | act _ _ _ _ => obtain ⟨h1, h2⟩ := act_out _ _; exact ⟨fun hb => h1 hb, fun hb => .inr (h2 hb)⟩
  | ifT _ _ _ _ ih => exact ih
  | ifF _ _ _ _ ih => exact ih
  | whE _ _ _ => exact ⟨fun _ => rfl, fun h => by cases h⟩
  | whF _ _ _ _ ih => exact ih
  | whT _ _ _ _ _ ih1 ih2 => exact ⟨fun hb => (ih2.1 hb).trans (ih1.1 rfl), ih2.2⟩
theorem Run.events {t : Ptree} {s s' : running} {b : Bool} (h : Run t s b s') : ∃ e, s'.events = s.events ++ e := by
  induction h with
  | seqT _ _ _ ih1 ih2 => obtain ⟨e1, h1⟩ := ih1; obtain ⟨e2, h2⟩ := ih2; exact ⟨e1 ++ e2, by rw [h2, h1, List.append_assoc]⟩
  | seqF _ _ ih => exact ih
  | stop _ _ => exact ⟨[], by simp [halt]⟩
  | @act x a ks s _ _ _ _ => exact act_events x (tick s)
  | ifT _ _ _ _ ih => exact ih
  | ifF _ _ _ _ ih => exact ih
  | whE _ _ _ => exact ⟨[], by simp [tick]⟩
  | whF _ _ _ _ ih => exact ih
  | whT _ _ _ _ _ ih1 ih2 => obtain ⟨e1, h1⟩ := ih1; obtain ⟨e2, h2⟩ := ih2; exact ⟨e1 ++ e2, by rw [h2, h1, List.append_assoc]; rfl⟩
theorem Run.le {t : Ptree} {s s' : running} {b : Bool} (h : Run t s b s') : s.steps ≤ s'.steps := by
  induction h with
  | seqT _ _ _ ih1 ih2 => exact Int.le_trans ih1 ih2
  | seqF _ _ ih => exact ih
  | stop _ _ => exact Int.le_refl _
  | @act x a ks s _ _ _ _ => rw [(act_keep x (tick s)).2.1]; show s.steps ≤ s.steps + 1; omega
  | @ifT x a l r s b s' _ _ _ _ ih => have : (tick s).steps = s.steps + 1 := rfl; omega
  | @ifF x a l r s b s' _ _ _ _ ih => have : (tick s).steps = s.steps + 1 := rfl; omega
  | @whE x a l s _ _ _ => show s.steps ≤ s.steps + 1; omega
  | @whF x a l s s' _ _ _ _ ih => have : (tick s).steps = s.steps + 1 := rfl; omega
  | @whT x a l s s1 b s2 _ _ _ _ _ ih1 ih2 => have : (tick s).steps = s.steps + 1 := rfl; omega
theorem Run.fuel {t : Ptree} {s s' : running} {b : Bool} (h : Run t s b s') : ∀ g, s'.steps ≤ g → (b = true ∨ s'.out ≠ 1) → Run t (wf s g) b (wf s' g) := by
  induction h with
  | @seqT x a l r s s1 s2 b hk h1 h2 ih1 ih2 =>
    intro g hg ho
    exact .seqT hk (ih1 g (Int.le_trans h2.le hg) (.inl rfl)) (ih2 g hg ho)
  | seqF hk h1 ih => intro g hg ho; exact .seqF hk (ih g hg ho)
  | stop _ _ => intro g hg ho; rcases ho with h | h; cases h; exact absurd rfl h
  | @act x a ks s h1 h7 h8 hf =>
    intro g hg ho
    rw [(act_keep x (tick s)).2.1] at hg
    have e := act_wf x (tick s) g
    have := Run.act (a := a) (ks := ks) (s := wf s g) h1 h7 h8 (by show s.steps ≠ g; have : s.steps + 1 ≤ g := hg; omega)
    rw [show tick (wf s g) = wf (tick s) g from rfl, e] at this
    exact this
  | @ifT x a l r s b s' hk hf hs h1 ih => intro g hg ho; have := h1.le; have e : (tick s).steps = s.steps + 1 := rfl; exact .ifT hk (by show s.steps ≠ g; omega) hs (ih g hg ho)
  | @ifF x a l r s b s' hk hf hs h1 ih => intro g hg ho; have := h1.le; have e : (tick s).steps = s.steps + 1 := rfl; exact .ifF hk (by show s.steps ≠ g; omega) hs (ih g hg ho)
  | @whE x a l s hk hf hs => intro g hg ho; exact .whE hk (by show s.steps ≠ g; have : s.steps + 1 ≤ g := hg; omega) hs
  | @whF x a l s s' hk hf hs h1 ih => intro g hg ho; have := h1.le; have e : (tick s).steps = s.steps + 1 := rfl; exact .whF hk (by show s.steps ≠ g; omega) hs (ih g hg ho)
  | @whT x a l s s1 b s2 hk hf hs h1 h2 ih1 ih2 =>
    intro g hg ho
    have := h1.le
    have := h2.le
    have e : (tick s).steps = s.steps + 1 := rfl
    exact .whT hk (by show s.steps ≠ g; omega) hs (ih1 g (by omega) (.inl rfl)) (ih2 g hg ho)
theorem fl_two {a b c d : Ptree} (ha : okT a) (hb : okT b) (hc : okT c) (hd : okT d) (h : fl a ++ fl b = fl c ++ fl d) : fl a = fl c ∧ fl b = fl d := by
  have h1 := okT_go a (fl b) ha
  have h2 := okT_go c (fl d) hc
  rw [h, h2] at h1
  have e : fl d = fl b := Option.some.inj h1
  rw [e] at h
  exact ⟨List.append_cancel_right h, e.symm⟩
theorem ks2 {x : Stmt} {a : Int} {l r : Ptree} {t : Ptree} (h : okT (.mk x a [l, r])) (ht : okT t) (hf : fl (.mk x a [l, r]) = fl t) : ∃ a' l' r', t = .mk x a' [l', r'] ∧ okT l ∧ okT r ∧ okT l' ∧ okT r' ∧ fl l = fl l' ∧ fl r = fl r' := by
  cases t with
  | nil => unfold okT at ht; exact ht.elim
  | mk x' a' ks =>
    unfold fl at hf
    obtain ⟨rfl, hf2⟩ := List.cons.inj hf
    unfold okT at h ht
    have : ks.length = 2 := by have := h.1.symm.trans ht.1; simpa using this.symm
    obtain ⟨l', r', rfl⟩ := two this.symm
    obtain ⟨o1, o2⟩ := okL2 h.2
    obtain ⟨o3, o4⟩ := okL2 ht.2
    rw [flL2, flL2] at hf2
    obtain ⟨f1, f2⟩ := fl_two o1 o2 o3 o4 hf2
    exact ⟨a', l', r', rfl, o1, o2, o3, o4, f1, f2⟩
theorem ks1 {x : Stmt} {a : Int} {l : Ptree} {t : Ptree} (h : okT (.mk x a [l])) (ht : okT t) (hf : fl (.mk x a [l]) = fl t) : ∃ a' l', t = .mk x a' [l'] ∧ okT l ∧ okT l' ∧ fl l = fl l' := by
  cases t with
  | nil => unfold okT at ht; exact ht.elim
  | mk x' a' ks =>
    unfold fl at hf
    obtain ⟨rfl, hf2⟩ := List.cons.inj hf
    unfold okT at h ht
    have : ks.length = 1 := by have := h.1.symm.trans ht.1; simpa using this.symm
    obtain ⟨l', rfl⟩ := one' this.symm
    rw [flL1, flL1] at hf2
    exact ⟨a', l', rfl, okL1 h.2, okL1 ht.2, hf2⟩
theorem Run.same {t : Ptree} {s s' : running} {b : Bool} (h : Run t s b s') : ∀ t', okT t → okT t' → fl t = fl t' → Run t' s b s' := by
  induction h with
  | seqT hk _ _ ih1 ih2 => intro t' h1 h2 hf; obtain ⟨a', l', r', rfl, o1, o2, o3, o4, f1, f2⟩ := ks2 h1 h2 hf; exact .seqT hk (ih1 _ o1 o3 f1) (ih2 _ o2 o4 f2)
  | seqF hk _ ih => intro t' h1 h2 hf; obtain ⟨a', l', r', rfl, o1, o2, o3, o4, f1, f2⟩ := ks2 h1 h2 hf; exact .seqF hk (ih _ o1 o3 f1)
  | @stop x a ks s hk hn =>
    intro t' h1 h2 hf
    cases t' with
    | nil => unfold okT at h2; exact h2.elim
    | mk x' a' ks' => unfold fl at hf; obtain ⟨rfl, _⟩ := List.cons.inj hf; exact .stop hk hn
  | @act x a ks s k1 k7 k8 hn =>
    intro t' h1 h2 hf
    cases t' with
    | nil => unfold okT at h2; exact h2.elim
    | mk x' a' ks' => unfold fl at hf; obtain ⟨rfl, _⟩ := List.cons.inj hf; exact .act k1 k7 k8 hn
  | ifT hk hn hs _ ih => intro t' h1 h2 hf; obtain ⟨a', l', r', rfl, o1, o2, o3, o4, f1, f2⟩ := ks2 h1 h2 hf; exact .ifT hk hn hs (ih _ o1 o3 f1)
  | ifF hk hn hs _ ih => intro t' h1 h2 hf; obtain ⟨a', l', r', rfl, o1, o2, o3, o4, f1, f2⟩ := ks2 h1 h2 hf; exact .ifF hk hn hs (ih _ o2 o4 f2)
  | whE hk hn hs => intro t' h1 h2 hf; obtain ⟨a', l', rfl, o1, o2, f1⟩ := ks1 h1 h2 hf; exact .whE hk hn hs
  | whF hk hn hs _ ih => intro t' h1 h2 hf; obtain ⟨a', l', rfl, o1, o2, f1⟩ := ks1 h1 h2 hf; exact .whF hk hn hs (ih _ o1 o2 f1)
  | whT hk hn hs _ _ ih1 ih2 => intro t' h1 h2 hf; have h3 := h2; obtain ⟨a', l', rfl, o1, o2, f1⟩ := ks1 h1 h2 hf; exact .whT hk hn hs (ih1 _ o1 o2 f1) (ih2 _ h1 h3 hf)
theorem all_set {xs : List Int} {i : Nat} {v : Int} (h : xs.all inInt = true) (hv : inInt v = true) : (xs.set i v).all inInt = true := by
  rw [List.all_eq_true] at *
  intro x hx
  rcases List.mem_or_eq_of_mem_set hx with hx | rfl
  · exact h x hx
  · exact hv
theorem act_ok {x : Stmt} {s : running} (h : s.state.Vars.all inInt = true ∧ s.state.Cells.all inInt = true) : (act x s).2.state.Vars.all inInt = true ∧ (act x s).2.state.Cells.all inInt = true := by
  have hg : inInt (s.state.Cells.getD (evT x.Index s.state.Vars).toNat 0) = true := by
    rw [List.getD_eq_getElem?_getD]
    cases hc : s.state.Cells[(evT x.Index s.state.Vars).toNat]? with
    | none => rfl
    | some v => exact (List.all_eq_true.1 h.2) v (List.mem_of_getElem? hc)
  unfold act
  generalize evT x.Sum s.state.Vars = n
  generalize evT x.Index s.state.Vars = i at *
  simp only [Bool.cond_eq_ite, Bool.and_eq_true, Bool.or_eq_true, decide_eq_true_eq, Bool.not_eq_true']
  repeat' split
  all_goals first
    | exact h
    | (refine ⟨all_set h.1 ?_, h.2⟩; rename_i h1 h2 h3; cases hb : inInt n with
        | true => rfl
        | false => exact absurd ⟨.inl h3, hb⟩ h2)
    | exact ⟨all_set h.1 hg, h.2⟩
    | (refine ⟨h.1, all_set h.2 ?_⟩; rename_i h1 h2 h3 h4 h5; cases hb : inInt n with
        | true => rfl
        | false => exact absurd ⟨.inr h5, hb⟩ h2)
theorem Run.state {t : Ptree} {s s' : running} {b : Bool} (h : Run t s b s') : s.state.Vars.all inInt = true ∧ s.state.Cells.all inInt = true → s'.state.Vars.all inInt = true ∧ s'.state.Cells.all inInt = true := by
  induction h with
  | seqT _ _ _ ih1 ih2 => exact fun h => ih2 (ih1 h)
  | seqF _ _ ih => exact ih
  | stop _ _ => exact fun h => h
  | @act x a ks s _ _ _ _ => exact fun h => act_ok (s := tick s) h
  | ifT _ _ _ _ ih => exact ih
  | ifF _ _ _ _ ih => exact ih
  | whE _ _ _ => exact fun h => h
  | whF _ _ _ _ ih => exact ih
  | whT _ _ _ _ _ ih1 ih2 => exact fun h => ih2 (ih1 h)
end Go.Mod

namespace Go.Mod
open Go.AM
set_option linter.unusedVariables false
set_option linter.unusedSimpArgs false
theorem bytes {a : List Int} (h : kLa_u8 a) : ∀ x ∈ a, 0 ≤ x ∧ x ≤ 255 := fun x hx => h.2 x hx
end Go.Mod

namespace Go.Mod
open Go.AM
set_option linter.unusedVariables false
set_option linter.unusedSimpArgs false
def seqS : Stmt := Stmt.mk 1 0 0 (Term.mk 0 []) (Term.mk 0 []) []
theorem ar_seq : arS seqS = some 2 := rfl
def hd : Ptree → Int
  | .nil => 0
  | .mk x _ _ => x.Kind
def jn : List Ptree → Ptree
  | [] => .nil
  | [p] => p
  | p :: q :: r => .mk seqS 0 [p, jn (q :: r)]
mutual
def np : Ptree → List Ptree
  | .nil => []
  | .mk x a ks => bif decide (x.Kind = 1) then npA ks else [.mk x 0 (npL ks)]
def npA : List Ptree → List Ptree
  | [] => []
  | k :: r => np k ++ npA r
def npL : List Ptree → List Ptree
  | [] => []
  | k :: r => jn (np k) :: npL r
end
mutual
def pts : Ptree → List Ptree
  | .nil => []
  | .mk x a ks => bif decide (x.Kind = 1) then ptsA ks else [.mk x a ks]
def ptsA : List Ptree → List Ptree
  | [] => []
  | k :: r => pts k ++ ptsA r
end
def outOf : Ptree → Ptree
  | .nil => .nil
  | .mk x _ ks => .mk x 0 (npL ks)
theorem flL_append : ∀ (a b : List Ptree), flL (a ++ b) = flL a ++ flL b
  | [], b => by unfold flL; rfl
  | t :: a, b => by
    have := flL_append a b
    show fl t ++ flL (a ++ b) = (fl t ++ flL a) ++ flL b
    rw [this, List.append_assoc]
theorem okL_iff : ∀ (a : List Ptree), okL a ↔ ∀ t ∈ a, okT t
  | [] => by unfold okL; simp
  | t :: a => by
    have := okL_iff a
    unfold okL
    rw [this]; simp
theorem jn_cons {p : Ptree} {r : List Ptree} (h : r ≠ []) : jn (p :: r) = .mk seqS 0 [p, jn r] := by
  cases r with
  | nil => exact absurd rfl h
  | cons q r => rfl
theorem jn_ok : ∀ ps, (∀ t ∈ ps, okT t) → ps ≠ [] → okT (jn ps) ∧ (fl (jn ps)).length + 1 = (flL ps).length + ps.length
  | [], _, h => absurd rfl h
  | [p], h, _ => ⟨h p (by simp), by rw [flL1]; rfl⟩
  | p :: q :: r, h, _ => by
    obtain ⟨h1, h2⟩ := jn_ok (q :: r) (fun t ht => h t (List.mem_cons_of_mem _ ht)) (by simp)
    rw [jn_cons (by simp)]
    refine ⟨?_, ?_⟩
    · unfold okT okL okL okL; exact ⟨ar_seq, h p (by simp), h1, trivial⟩
    · have e : fl (Ptree.mk seqS 0 [p, jn (q :: r)]) = seqS :: flL [p, jn (q :: r)] := by conv => lhs; unfold fl
      have e2 : flL (p :: q :: r) = fl p ++ flL (q :: r) := by conv => lhs; unfold flL
      rw [e, flL2, e2, List.length_cons, List.length_append, List.length_append, List.length_cons (a := p)]
      omega
theorem okT_iff {x : Stmt} {a : Int} {ks : List Ptree} : okT (.mk x a ks) ↔ arS x = some ks.length ∧ ∀ t ∈ ks, okT t := by
  rw [← okL_iff]
  conv => lhs; unfold okT
theorem seq_two {x : Stmt} {n : Nat} (h : arS x = some n) (hk : x.Kind = 1) : n = 2 := by
  have := ar_kind h; omega
theorem fl_mk (x : Stmt) (a : Int) (ks : List Ptree) : fl (.mk x a ks) = x :: flL ks := by conv => lhs; unfold fl
theorem np_one {x : Stmt} {a : Int} {ks : List Ptree} (h : x.Kind = 1) : np (.mk x a ks) = npA ks := by
  conv => lhs; unfold np
  rw [decide_eq_true h, cond_true]
theorem np_oth {x : Stmt} {a : Int} {ks : List Ptree} (h : x.Kind ≠ 1) : np (.mk x a ks) = [.mk x 0 (npL ks)] := by
  conv => lhs; unfold np
  rw [decide_eq_false h, cond_false]
theorem npL1 (l : Ptree) : npL [l] = [jn (np l)] := by
  conv => lhs; unfold npL
  rw [show npL [] = [] from rfl]
theorem npL2 (l r : Ptree) : npL [l, r] = [jn (np l), jn (np r)] := by
  conv => lhs; unfold npL
  rw [npL1]
theorem npA2 (l r : Ptree) : npA [l, r] = np l ++ np r := by
  conv => lhs; unfold npA
  rw [show npA [r] = np r by (conv => lhs; unfold npA
                              rw [show npA [] = [] from rfl, List.append_nil])]
mutual
theorem np_ok : ∀ t, okT t → np t ≠ [] ∧ (∀ p ∈ np t, okT p ∧ hd p ≠ 1) ∧ (flL (np t)).length + (np t).length = (fl t).length + 1
  | .nil, h => by unfold okT at h; exact h.elim
  | .mk x a ks, h => by
    have h0 := okT_iff.1 h
    obtain ⟨h1, h2⟩ := h0
    have e : fl (Ptree.mk x a ks) = x :: flL ks := by conv => lhs; unfold fl
    rw [e, List.length_cons]
    unfold np
    by_cases hk : x.Kind = 1
    · rw [decide_eq_true hk, cond_true]
      obtain ⟨g1, g2, g3⟩ := npA_ok ks h2
      have := seq_two h1 hk
      exact ⟨g3 (by intro e; rw [e] at this; cases this), g1, by omega⟩
    · rw [decide_eq_false hk, cond_false]
      obtain ⟨g1, g2, g3⟩ := npL_ok ks h2
      have e2 : fl (Ptree.mk x 0 (npL ks)) = x :: flL (npL ks) := by conv => lhs; unfold fl
      refine ⟨by simp, fun p hp => ?_, ?_⟩
      · rw [List.mem_singleton] at hp
        subst hp
        exact ⟨okT_iff.2 ⟨by rw [g2]; exact h1, g1⟩, hk⟩
      · rw [flL1, e2]; simp only [List.length_cons, List.length_nil]; omega
theorem npA_ok : ∀ ks, (∀ t ∈ ks, okT t) → (∀ p ∈ npA ks, okT p ∧ hd p ≠ 1) ∧ (flL (npA ks)).length + (npA ks).length = (flL ks).length + ks.length ∧ (ks ≠ [] → npA ks ≠ [])
  | [], _ => by unfold npA flL; simp
  | t :: ks, h => by
    obtain ⟨a1, a2, a3⟩ := np_ok t (h t (by simp))
    obtain ⟨b1, b2, _⟩ := npA_ok ks (fun u hu => h u (List.mem_cons_of_mem _ hu))
    have e : npA (t :: ks) = np t ++ npA ks := by conv => lhs; unfold npA
    have e2 : flL (t :: ks) = fl t ++ flL ks := by conv => lhs; unfold flL
    rw [e, e2, flL_append]
    simp only [List.length_append, List.length_cons, List.mem_append]
    exact ⟨fun p hp => hp.elim (a2 p) (b1 p), by omega, fun _ => by simp [a1]⟩
theorem npL_ok : ∀ ks, (∀ t ∈ ks, okT t) → (∀ p ∈ npL ks, okT p) ∧ (npL ks).length = ks.length ∧ (flL (npL ks)).length = (flL ks).length
  | [], _ => by unfold npL flL; simp
  | t :: ks, h => by
    obtain ⟨a1, a2, a3⟩ := np_ok t (h t (by simp))
    obtain ⟨b1, b2, b3⟩ := npL_ok ks (fun u hu => h u (List.mem_cons_of_mem _ hu))
    obtain ⟨c1, c2⟩ := jn_ok (np t) (fun u hu => (a2 u hu).1) a1
    have e : npL (t :: ks) = jn (np t) :: npL ks := by conv => lhs; unfold npL
    have e2 : flL (t :: ks) = fl t ++ flL ks := by conv => lhs; unfold flL
    have e3 : flL (jn (np t) :: npL ks) = fl (jn (np t)) ++ flL (npL ks) := by conv => lhs; unfold flL
    rw [e, e2, e3]
    simp only [List.length_append, List.length_cons, List.mem_cons]
    exact ⟨fun p hp => hp.elim (fun e => e ▸ c1) (b1 p), by omega, by omega⟩
end
theorem nrm_ok {t : Ptree} (h : okT t) : okT (jn (np t)) ∧ (fl (jn (np t))).length = (fl t).length := by
  obtain ⟨a1, a2, a3⟩ := np_ok t h
  obtain ⟨c1, c2⟩ := jn_ok (np t) (fun u hu => (a2 u hu).1) a1
  exact ⟨c1, by omega⟩
mutual
theorem np_pts : ∀ t, np t = (pts t).map outOf
  | .nil => by unfold np pts; rfl
  | .mk x a ks => by
    unfold np pts
    by_cases hk : x.Kind = 1
    · rw [decide_eq_true hk, cond_true, cond_true]; exact npA_pts ks
    · rw [decide_eq_false hk, cond_false, cond_false]; rfl
theorem npA_pts : ∀ ks, npA ks = (ptsA ks).map outOf
  | [] => by unfold npA ptsA; rfl
  | t :: ks => by
    have e : npA (t :: ks) = np t ++ npA ks := by conv => lhs; unfold npA
    have e2 : ptsA (t :: ks) = pts t ++ ptsA ks := by conv => lhs; unfold ptsA
    rw [e, e2, List.map_append, np_pts t, npA_pts ks]
end
theorem kid_dp {x : Stmt} {a : Int} {ks : List Ptree} {t : Ptree} (h : t ∈ ks) : dp t + 1 ≤ dp (.mk x a ks) ∧ (fl t).length + 1 ≤ (fl (.mk x a ks)).length := by
  have e : dp (.mk x a ks) = 1 + dpL ks := by conv => lhs; unfold dp
  have e2 : fl (.mk x a ks) = x :: flL ks := by conv => lhs; unfold fl
  rw [e, e2, List.length_cons]
  have : ∀ ks : List Ptree, t ∈ ks → dp t ≤ dpL ks ∧ (fl t).length ≤ (flL ks).length := by
    intro ks
    induction ks with
    | nil => intro h; cases h
    | cons u ks ih =>
      intro h
      have e3 : dpL (u :: ks) = max (dp u) (dpL ks) := by conv => lhs; unfold dpL
      have e4 : flL (u :: ks) = fl u ++ flL ks := by conv => lhs; unfold flL
      rw [e3, e4, List.length_append]
      rcases List.mem_cons.1 h with rfl | h
      · omega
      · have := ih h; omega
  have := this ks h
  omega
mutual
theorem pts_mem : ∀ t, okT t → (pts t).length ≤ (fl t).length ∧ ∀ p ∈ pts t, okT p ∧ dp p ≤ dp t ∧ (fl p).length ≤ (fl t).length
  | .nil, h => by unfold okT at h; exact h.elim
  | .mk x a ks, h => by
    have h0 := okT_iff.1 h
    unfold pts
    by_cases hk : x.Kind = 1
    · rw [decide_eq_true hk, cond_true]
      obtain ⟨h1, h2⟩ := ptsA_mem ks h0.2
      have e2 : fl (.mk x a ks) = x :: flL ks := by conv => lhs; unfold fl
      refine ⟨by rw [e2, List.length_cons]; omega, fun p hp => ?_⟩
      obtain ⟨h3, u, hu, h4, h5⟩ := h2 p hp
      obtain ⟨h6, h7⟩ := kid_dp (x := x) (a := a) hu
      exact ⟨h3, by omega, by omega⟩
    · rw [decide_eq_false hk, cond_false]
      refine ⟨by unfold fl; simp, fun p hp => ?_⟩
      rw [List.mem_singleton] at hp
      subst hp
      exact ⟨h, Nat.le_refl _, Nat.le_refl _⟩
theorem ptsA_mem : ∀ ks, (∀ t ∈ ks, okT t) → (ptsA ks).length ≤ (flL ks).length ∧ ∀ p ∈ ptsA ks, okT p ∧ ∃ u ∈ ks, dp p ≤ dp u ∧ (fl p).length ≤ (fl u).length
  | [], _ => by unfold ptsA flL; simp
  | t :: ks, h => by
    have e : ptsA (t :: ks) = pts t ++ ptsA ks := by conv => lhs; unfold ptsA
    have e2 : flL (t :: ks) = fl t ++ flL ks := by conv => lhs; unfold flL
    obtain ⟨a1, a2⟩ := pts_mem t (h t (by simp))
    obtain ⟨b1, b2⟩ := ptsA_mem ks (fun u hu => h u (List.mem_cons_of_mem _ hu))
    rw [e, e2]
    simp only [List.length_append, List.mem_append]
    refine ⟨by omega, fun p hp => ?_⟩
    rcases hp with hp | hp
    · obtain ⟨c1, c2, c3⟩ := a2 p hp
      exact ⟨c1, t, by simp, c2, c3⟩
    · obtain ⟨c1, u, hu, c2, c3⟩ := b2 p hp
      exact ⟨c1, u, List.mem_cons_of_mem _ hu, c2, c3⟩
end
theorem impl_parts : ∀ (n : Nat) (t : Ptree), dp t ≤ n → okT t → (fl t).length ≤ 1000 → m_impl_tree_parts n t = some (pts t)
  | 0, .nil, _, h, _ => by unfold okT at h; exact h.elim
  | 0, .mk x a ks, hn, _, _ => by have e : dp (.mk x a ks) = 1 + dpL ks := by conv => lhs; unfold dp
                                  omega
  | n + 1, .nil, _, h, _ => by unfold okT at h; exact h.elim
  | n + 1, .mk x a ks, hn, h, hl => by
    have h0 := okT_iff.1 h
    show m_impl_tree_parts_F (m_impl_tree_parts n) (.mk x a ks) = _
    unfold m_impl_tree_parts_F
    show (bif (!decide (x.Kind = 1)) then some [Ptree.mk x a ks] else _) = _
    unfold pts
    by_cases hk : x.Kind = 1
    · have h2 := seq_two h0.1 hk
      match ks, h2, hn, h, hl, h0 with
      | [l, r], _, hn, h, hl, h0 =>
        have kl := kid_dp (x := x) (a := a) (ks := [l, r]) (t := l) (by simp)
        have kr := kid_dp (x := x) (a := a) (ks := [l, r]) (t := r) (by simp)
        have ol := h0.2 l (by simp)
        have or_ := h0.2 r (by simp)
        have pl := (pts_mem l ol).1
        have pr := (pts_mem r or_).1
        rw [decide_eq_true hk, Bool.not_true, cond_false, cond_true]
        show (m_impl_tree_parts n l).bind _ = _
        rw [impl_parts n l (by omega) ol (by omega), Option.bind_some]
        show (m_impl_tree_parts n r).bind _ = _
        rw [impl_parts n r (by omega) or_ (by omega), Option.bind_some, capI_some (by omega), Option.bind_some]
        unfold ptsA ptsA ptsA
        rw [List.append_nil]
    · rw [decide_eq_false hk, Bool.not_false, cond_true, cond_false]
theorem impl_joined : ∀ (n : Nat) (ps : List Ptree), ps.length ≤ n → ps ≠ [] → ps.length ≤ 1000 → m_impl_joined n ps = some (jn ps)
  | n, [], _, h, _ => absurd rfl h
  | 0, p :: r, hn, _, _ => by simp at hn
  | n + 1, [p], _, _, _ => rfl
  | n + 1, p :: q :: r, hn, _, hl => by
    simp only [List.length_cons] at hn hl
    show m_impl_joined_F (m_impl_joined n) (p :: q :: r) = _
    unfold m_impl_joined_F
    rw [decide_eq_false (by simp only [List.length_cons]; omega), cond_false, show getI (p :: q :: r) (0 : Int) = some p from rfl, Option.bind_some,
      show sliceI (p :: q :: r) (1 : Int) ((p :: q :: r).length : Int) = some (((p :: q :: r).drop 1).take ((p :: q :: r).length - 1)) from sliceI_some (l := 1) (by simp) (Nat.le_refl _), Option.bind_some,
      show ((p :: q :: r).drop 1).take ((p :: q :: r).length - 1) = q :: r by simp, impl_joined n (q :: r) (by simp only [List.length_cons]; omega) (by simp) (by simp only [List.length_cons]; omega), Option.bind_some]
    rfl
theorem normal_kids {rec : Ptree → Option Ptree} : ∀ (ks : List Ptree) (k : Nat) (s : List Ptree), (∀ t ∈ ks, rec t = some (jn (np t))) → s.length + ks.length ≤ 1000000 →
    forL (m_impl_tree_normal_F_L1 rec) (fun s1 => s1) k ks s = some (s ++ npL ks)
  | [], k, s, _, _ => by unfold forL npL; rw [List.append_nil]
  | t :: ks, k, s, h, hl => by
    simp only [List.length_cons] at hl
    have e : npL (t :: ks) = jn (np t) :: npL ks := by conv => lhs; unfold npL
    have st : m_impl_tree_normal_F_L1 rec k t s = some (.next (s ++ [jn (np t)])) := by
      unfold m_impl_tree_normal_F_L1
      rw [h t (by simp), Option.bind_some, capI_some (by simp; omega), Option.bind_some]
    unfold forL
    rw [st, e]
    exact (normal_kids ks (k + 1) (s ++ [jn (np t)]) (fun u hu => h u (List.mem_cons_of_mem _ hu)) (by simp; omega)).trans (by simp)
theorem normal_parts {rec : Ptree → Option Ptree} : ∀ (ps : List Ptree) (k : Nat) (s : List Ptree), (∀ p ∈ ps, okT p ∧ (fl p).length ≤ 1000) → (∀ x a ks, Ptree.mk x a ks ∈ ps → ∀ t ∈ ks, rec t = some (jn (np t))) → s.length + ps.length ≤ 1000000 →
    forL (m_impl_tree_normal_F_L0 rec) (fun s0 => s0) k ps s = some (s ++ ps.map outOf)
  | [], k, s, _, _, _ => by unfold forL; simp
  | .nil :: ps, k, s, hk, h, hl => by have := (hk .nil (by simp)).1; unfold okT at this; exact this.elim
  | .mk x a ks :: ps, k, s, hk, h, hl => by
    simp only [List.length_cons] at hl
    have hks : ks.length ≤ 2 := ar_le (okT_iff.1 (hk _ (List.mem_cons_self ..)).1).1
    have st : m_impl_tree_normal_F_L0 rec k (.mk x a ks) s = some (.next (s ++ [.mk x 0 (npL ks)])) := by
      unfold m_impl_tree_normal_F_L0
      show (forL (m_impl_tree_normal_F_L1 rec) (fun s1 => s1) 0 ks []).bind (fun u1 => m_impl_tree_normal_F_A1 s ⟨x, a, ks⟩ u1) = _
      rw [normal_kids ks 0 [] (h x a ks (by simp)) (by simp; omega), Option.bind_some, List.nil_append]
      unfold m_impl_tree_normal_F_A1
      rw [capI_some (by simp; omega), Option.bind_some]
      rfl
    unfold forL
    rw [st]
    have q := normal_parts ps (k + 1) (s ++ [.mk x 0 (npL ks)]) (fun p hp => hk p (List.mem_cons_of_mem _ hp)) (fun x a ks hm => h x a ks (List.mem_cons_of_mem _ hm)) (by simp; omega)
    rw [List.append_assoc] at q
    exact q
theorem impl_normal : ∀ (n : Nat) (t : Ptree), dp t ≤ n → okT t → (fl t).length ≤ 1000 → m_impl_tree_normal n t = some (jn (np t))
  | 0, .nil, _, h, _ => by unfold okT at h; exact h.elim
  | 0, .mk x a ks, hn, _, _ => by have e : dp (.mk x a ks) = 1 + dpL ks := by conv => lhs; unfold dp
                                  omega
  | n + 1, t, hn, h, hl => by
    obtain ⟨a1, a2⟩ := pts_mem t h
    obtain ⟨b1, b2, b3⟩ := np_ok t h
    have e := np_pts t
    have hd := dp_le t
    show m_impl_tree_normal_F (m_impl_tree_normal n) t = _
    unfold m_impl_tree_normal_F
    rw [impl_parts 1000 t (by omega) h hl, Option.bind_some, normal_parts (pts t) 0 [] (fun p hp => ⟨(a2 p hp).1, by have := (a2 p hp).2.2; omega⟩) (fun x a ks hm u hu => by
      obtain ⟨c1, c2, c3⟩ := a2 _ hm
      obtain ⟨d1, d2⟩ := kid_dp (x := x) (a := a) hu
      exact impl_normal n u (by omega) ((okT_iff.1 c1).2 u hu) (by omega)) (by simp; omega), Option.bind_some, List.nil_append, ← e]
    unfold m_impl_tree_normal_F_A0
    have hlen : (np t).length = (pts t).length := by rw [e, List.length_map]
    rw [impl_joined 1000 (np t) (by omega) b1 (by omega)]
    rfl
theorem body_kids {rec : Ptree → Option (List Stmt)} : ∀ (ks : List Ptree) (k : Nat) (s : List Stmt), (∀ t ∈ ks, rec t = some (fl t)) → s.length + (flL ks).length ≤ 1000000 →
    forL (m_impl_tree_body_F_L0 rec) (fun s0 => s0) k ks s = some (s ++ flL ks)
  | [], k, s, _, _ => by unfold forL flL; rw [List.append_nil]
  | t :: ks, k, s, h, hl => by
    have e : flL (t :: ks) = fl t ++ flL ks := by conv => lhs; unfold flL
    rw [e, List.length_append] at hl
    have st : m_impl_tree_body_F_L0 rec k t s = some (.next (s ++ fl t)) := by
      unfold m_impl_tree_body_F_L0
      rw [h t (by simp), Option.bind_some, capI_some (by omega), Option.bind_some]
    unfold forL
    rw [st, e]
    exact (body_kids ks (k + 1) (s ++ fl t) (fun u hu => h u (List.mem_cons_of_mem _ hu)) (by rw [List.length_append]; omega)).trans (by simp)
theorem impl_body : ∀ (n : Nat) (t : Ptree), dp t ≤ n → okT t → (fl t).length ≤ 1000 → m_impl_tree_body n t = some (fl t)
  | 0, .nil, _, h, _ => by unfold okT at h; exact h.elim
  | 0, .mk x a ks, hn, _, _ => by have e : dp (.mk x a ks) = 1 + dpL ks := by conv => lhs; unfold dp
                                  omega
  | n + 1, .nil, _, h, _ => by unfold okT at h; exact h.elim
  | n + 1, .mk x a ks, hn, h, hl => by
    have h0 := okT_iff.1 h
    have e : fl (.mk x a ks) = x :: flL ks := by conv => lhs; unfold fl
    rw [e, List.length_cons] at hl
    rw [e]
    show m_impl_tree_body_F (m_impl_tree_body n) (.mk x a ks) = _
    unfold m_impl_tree_body_F
    show (m_impl_ownStmt x).bind (fun r10 => (forL (m_impl_tree_body_F_L0 (m_impl_tree_body n)) (fun s0 => s0) 0 ks [r10]).bind fun u0 => m_impl_tree_body_F_A0 u0) = _
    have hsm := ar_small h0.1
    rw [impl_ownStmt (by omega), Option.bind_some, body_kids ks 0 [x] (fun t ht => by
      obtain ⟨d1, d2⟩ := kid_dp (x := x) (a := a) ht
      rw [e, List.length_cons] at d2
      exact impl_body n t (by omega) (h0.2 t ht) (by omega)) (by simp; omega)]
    rfl
theorem fl_isB {t : Ptree} (h : okT t) (hl : (fl t).length ≤ 30) : isB (fl t) = true :=
  isB_iff.2 ⟨hl, by have := okT_go t [] h; rwa [List.append_nil] at this⟩
def ini : List Ptree → List Stmt
  | [] => []
  | [_] => []
  | p :: q :: r => seqS :: (fl p ++ ini (q :: r))
def las : List Ptree → List Stmt
  | [] => []
  | [p] => fl p
  | _ :: q :: r => las (q :: r)
theorem fl_seq (a b : Ptree) (k : Int) : fl (.mk seqS k [a, b]) = seqS :: (fl a ++ fl b) := by
  have e : fl (.mk seqS k [a, b]) = seqS :: flL [a, b] := by conv => lhs; unfold fl
  rw [e, flL2]
theorem jn_split : ∀ ps, ps ≠ [] → fl (jn ps) = ini ps ++ las ps
  | [], h => absurd rfl h
  | [p], _ => rfl
  | p :: q :: r, _ => by
    rw [jn_cons (by simp), fl_seq, jn_split (q :: r) (by simp)]
    show _ = seqS :: (fl p ++ ini (q :: r)) ++ las (q :: r)
    simp
theorem jn_append : ∀ ps qs, ps ≠ [] → qs ≠ [] → fl (jn (ps ++ qs)) = ini ps ++ [seqS] ++ las ps ++ fl (jn qs)
  | [], _, h, _ => absurd rfl h
  | [p], qs, _, hq => by
    show fl (jn (p :: qs)) = _
    rw [jn_cons hq, fl_seq]
    show _ = [] ++ [seqS] ++ fl p ++ _
    simp
  | p :: q :: r, qs, _, hq => by
    have := jn_append (q :: r) qs (by simp) hq
    show fl (jn (p :: (q :: r ++ qs))) = _
    rw [jn_cons (by simp), fl_seq, this]
    show _ = seqS :: (fl p ++ ini (q :: r)) ++ [seqS] ++ las (q :: r) ++ _
    simp
theorem fl_head {t : Ptree} (h : okT t) : ∃ x r, fl t = x :: r ∧ hd t = x.Kind := by
  cases t with
  | nil => unfold okT at h; exact h.elim
  | mk x a ks => exact ⟨x, flL ks, by conv => lhs; unfold fl, rfl⟩
theorem slice_mid {α : Type} (a b c : List α) : sliceI (a ++ b ++ c) (a.length : Int) ((a.length + b.length : Nat) : Int) = some b := by
  rw [sliceI_some (Nat.le_add_right _ _) (by simp), List.append_assoc, List.drop_left, Nat.add_sub_cancel_left, List.take_left]
theorem normal_loop : ∀ (ps : List Ptree) (acc : List Stmt), ps ≠ [] → (∀ p ∈ ps, okT p ∧ hd p ≠ 1) → (fl (jn ps)).length ≤ 30 → acc.length + (fl (jn ps)).length ≤ 1000 →
    iter m_spec_l03Normal_F_L0 (fl (jn ps), acc) = some (las ps, acc ++ ini ps)
  | [], _, h, _, _, _ => absurd rfl h
  | [p], acc, _, h, _, _ => by
    obtain ⟨h1, h2⟩ := h p (by simp)
    obtain ⟨x, r, e, e2⟩ := fl_head h1
    refine iter_out ?_
    show m_spec_l03Normal_F_L0 (fl p, acc) = some (.out (fl p, acc ++ []))
    rw [List.append_nil]
    unfold m_spec_l03Normal_F_L0
    simp only
    rw [e, decide_eq_true (by simp only [List.length_cons]; omega), cond_true, show getI (x :: r) (0 : Int) = some x from rfl, Option.bind_some, decide_eq_false (by rw [← e2]; exact h2), cond_false]
  | p :: q :: r, acc, _, h, hl, ha => by
    have hp := (h p (by simp)).1
    have hqr := jn_ok (q :: r) (fun t ht => (h t (List.mem_cons_of_mem _ ht)).1) (by simp)
    have hall := jn_ok (p :: q :: r) (fun t ht => (h t ht).1) (by simp)
    have hB := fl_isB hall.1 hl
    rw [jn_cons (by simp)] at hB hl ha ⊢
    rw [fl_seq] at hB hl ha ⊢
    simp only [List.length_cons, List.length_append] at hl ha
    have en := end_ok hB (k := 1) (t := p) (r := fl (jn (q :: r))) hp rfl
    have en' : m_spec_l03End (seqS :: (fl p ++ fl (jn (q :: r)))) (1 : Int) = some ((1 + (fl p).length : Nat) : Int) := en
    have s1 : sliceI (seqS :: (fl p ++ fl (jn (q :: r)))) (0 : Int) ((1 + (fl p).length : Nat) : Int) = some (seqS :: fl p) := by
      have := slice_mid [] (seqS :: fl p) (fl (jn (q :: r)))
      simpa [Nat.add_comm] using this
    have s2 : sliceI (seqS :: (fl p ++ fl (jn (q :: r)))) ((1 + (fl p).length : Nat) : Int) ((seqS :: (fl p ++ fl (jn (q :: r)))).length : Int) = some (fl (jn (q :: r))) := by
      have := slice_mid (seqS :: fl p) (fl (jn (q :: r))) []
      have e : (seqS :: (fl p ++ fl (jn (q :: r)))).length = (seqS :: fl p).length + (fl (jn (q :: r))).length := by simp; omega
      have e2 : 1 + (fl p).length = (seqS :: fl p).length := by simp; omega
      rw [e, e2]
      simpa using this
    have st : m_spec_l03Normal_F_L0 (seqS :: (fl p ++ fl (jn (q :: r))), acc) = some (.next (fl (jn (q :: r)), acc ++ (seqS :: fl p))) := by
      unfold m_spec_l03Normal_F_L0
      simp only
      rw [decide_eq_true (by simp only [List.length_cons]; omega), cond_true, show getI (seqS :: (fl p ++ fl (jn (q :: r)))) (0 : Int) = some seqS from rfl, Option.bind_some, decide_eq_true (show seqS.Kind = 1 from rfl), cond_true,
        en', Option.bind_some, s1, Option.bind_some, capI_some (by simp; omega), Option.bind_some, s2, Option.bind_some]
    rw [iter_next st]
    refine (normal_loop (q :: r) (acc ++ (seqS :: fl p)) (by simp) (fun t ht => h t (List.mem_cons_of_mem _ ht)) (by omega) (by simp; omega)).trans ?_
    show some (las (q :: r), _) = some (las (q :: r), acc ++ (seqS :: (fl p ++ ini (q :: r))))
    simp
theorem spec_normal : ∀ (n : Nat) (t : Ptree), dp t ≤ n → okT t → (fl t).length ≤ 30 → m_spec_l03Normal n (fl t) = some (fl (jn (np t)))
  | 0, .nil, _, h, _ => by unfold okT at h; exact h.elim
  | 0, .mk x a ks, hn, _, _ => by have e : dp (.mk x a ks) = 1 + dpL ks := by conv => lhs; unfold dp
                                  omega
  | n + 1, .nil, _, h, _ => by unfold okT at h; exact h.elim
  | n + 1, .mk x a ks, hn, h, hl => by
    have h0 := okT_iff.1 h
    have hB := fl_isB h hl
    have e : fl (.mk x a ks) = x :: flL ks := by conv => lhs; unfold fl
    rw [e] at hB hl ⊢
    simp only [List.length_cons] at hl
    have hsm := ar_small h0.1
    show m_spec_l03Normal_F (m_spec_l03Normal n) (x :: flL ks) = _
    unfold m_spec_l03Normal_F
    rw [show getI (x :: flL ks) (0 : Int) = some x from rfl, Option.bind_some, spec_ownStmt (by omega), Option.bind_some, spec_below h0.1, Option.bind_some]
    have hkd := ar_kind h0.1
    match ks, h0, hB, hl, hn, hkd with
    | [], h0, hB, hl, hn, hkd =>
      simp only [List.length_nil] at hkd
      rw [decide_eq_true (by rfl), cond_true]
      have hk1 : x.Kind ≠ 1 := by omega
      rw [np_oth hk1]
      rfl
    | [l], h0, hB, hl, hn, hkd =>
      simp only [List.length_cons, List.length_nil] at hkd
      have hk8 : x.Kind = 8 := by omega
      have ol := h0.2 l (by simp)
      have kl := kid_dp (x := x) (a := a) (ks := [l]) (t := l) (by simp)
      rw [flL1] at hB hl ⊢
      have en : m_spec_l03End (x :: fl l) (1 : Int) = some ((1 + (fl l).length : Nat) : Int) := end_ok hB (k := 1) (t := l) (r := []) ol (by simp)
      have s1 : sliceI (x :: fl l) (1 : Int) ((x :: fl l).length : Int) = some (fl l) := by
        have := slice_mid [x] (fl l) []
        simpa [Nat.add_comm] using this
      rw [decide_eq_false (by simp), cond_false, en, Option.bind_some, decide_eq_true hk8, cond_true, s1, Option.bind_some, spec_normal n l (by omega) ol (by omega), Option.bind_some]
      have hn2 := (nrm_ok ol).2
      rw [capI_some (by simp; omega), Option.bind_some]
      rw [np_oth (by omega), npL1]
      show _ = some (fl (.mk x 0 [jn (np l)]))
      rw [fl_mk, flL1]
      rfl
    | [l, r], h0, hB, hl, hn, hkd =>
      simp only [List.length_cons, List.length_nil] at hkd
      have ol := h0.2 l (by simp)
      have or_ := h0.2 r (by simp)
      have kl := kid_dp (x := x) (a := a) (ks := [l, r]) (t := l) (by simp)
      have kr := kid_dp (x := x) (a := a) (ks := [l, r]) (t := r) (by simp)
      rw [flL2] at hB hl ⊢
      rw [List.length_append] at hl
      have en : m_spec_l03End (x :: (fl l ++ fl r)) (1 : Int) = some ((1 + (fl l).length : Nat) : Int) := end_ok hB (k := 1) (t := l) (r := fl r) ol rfl
      have s1 : sliceI (x :: (fl l ++ fl r)) (1 : Int) ((1 + (fl l).length : Nat) : Int) = some (fl l) := by
        have := slice_mid [x] (fl l) (fl r)
        simpa using this
      have s2 : sliceI (x :: (fl l ++ fl r)) ((1 + (fl l).length : Nat) : Int) ((x :: (fl l ++ fl r)).length : Int) = some (fl r) := by
        have := slice_mid (x :: fl l) (fl r) []
        have e : (x :: (fl l ++ fl r)).length = (x :: fl l).length + (fl r).length := by simp; omega
        have e2 : 1 + (fl l).length = (x :: fl l).length := by simp; omega
        rw [e, e2]
        simpa using this
      rw [decide_eq_false (by simp), cond_false, en, Option.bind_some, decide_eq_false (by omega), cond_false, s1, Option.bind_some, spec_normal n l (by omega) ol (by omega), Option.bind_some, s2, Option.bind_some,
        spec_normal n r (by omega) or_ (by omega), Option.bind_some]
      have hn2 := (nrm_ok ol).2
      have hn3 := (nrm_ok or_).2
      by_cases hk : x.Kind = 7
      · rw [decide_eq_true hk, cond_true, capI_some (by simp; omega), Option.bind_some, capI_some (by simp; omega), Option.bind_some, np_oth (by omega), npL2]
        show _ = some (fl (.mk x 0 [jn (np l), jn (np r)]))
        rw [fl_mk, flL2]
        simp
      · have hk1 : x.Kind = 1 := by omega
        rw [decide_eq_false hk, cond_false, np_one hk1]
        obtain ⟨a1, a2, _⟩ := np_ok l ol
        obtain ⟨b1, b2, _⟩ := np_ok r or_
        have js := jn_split (np l) a1
        have jl := congrArg List.length js
        rw [List.length_append] at jl
        rw [normal_loop (np l) [] a1 a2 (by omega) (by simp; omega), Option.bind_some, List.nil_append]
        unfold m_spec_l03Normal_F_A0
        simp only
        have cs : ([(Stmt.mk (1 : Int) (0 : Int) (0 : Int) (Term.mk (0 : Int) ([] : List Int)) (Term.mk (0 : Int) ([] : List Int)) ([] : List Term))]) = [seqS] := rfl
        rw [cs, capI_some (by simp; omega), Option.bind_some, capI_some (by simp; omega), Option.bind_some, capI_some (by simp; omega), Option.bind_some]
        rw [npA2, jn_append (np l) (np r) a1 b1]
theorem same_NormalBody (p0 : List Stmt) (k0 : kLa_Stmt p0) (h0 : pc_StmtS p0 ≤ 1048576) :
    ∃ r, m_spec_NormalBody p0 = some r ∧ m_impl_NormalBody p0 = some r ∧ pc_StmtS r.1 ≤ 1048576 := by
  obtain ⟨t, e, hw⟩ := impl_treeOf p0
  unfold m_spec_NormalBody m_impl_NormalBody
  rw [spec_isB h0, e, Option.bind_some, Option.bind_some]
  cases hB : isB p0 with
  | false => exact ⟨_, rfl, rfl, by decide⟩
  | true =>
    obtain ⟨w1, w2⟩ := hw hB
    have ht := wfT_ok t 0 w1
    have hl := isB_len hB
    rw [← w2] at hl
    have hd := dp_le t
    obtain ⟨n1, n2⟩ := nrm_ok ht
    have hd2 := dp_le (jn (np t))
    refine ⟨(fl (jn (np t)), true), ?_, ?_, ?_⟩
    · rw [Bool.not_true, cond_false, ← w2, spec_normal 1000 t (by omega) ht hl]; rfl
    · rw [Bool.not_true, cond_false]
      show (m_impl_tree_normal 1000 t).bind _ = _
      rw [impl_normal 1000 t (by omega) ht (by omega), Option.bind_some, impl_body 1000 _ (by omega) n1 (by omega)]; rfl
    · have := isB_small (fl_isB n1 (by omega))
      show pc_StmtS (fl (jn (np t))) ≤ 1048576
      omega
end Go.Mod

namespace Go.Mod
open Go.AM
set_option linter.unusedVariables false
set_option linter.unusedSimpArgs false
theorem law_NormalBody {p0 : List Stmt} (k0 : kLa_Stmt p0) : m_laws_FnExactNormalBody p0 = some true := by
  unfold m_laws_FnExactNormalBody
  rw [show (1048576 : Int) = ((1048576 : Nat) : Int) from rfl]
  rw [pz_StmtS k0 _ (by omega), Option.bind_some]
  by_cases h0 : pc_StmtS p0 ≤ 1048576
  · rw [szOut_ok h0, dec_neg, cond_false]
    obtain ⟨⟨r0_, r1_⟩, e1, e2, b0⟩ := same_NormalBody p0 k0 (show pc_StmtS p0 ≤ 1048576 by omega)
    have q0 := pq_StmtS_le p0
    have qr0 := pq_StmtS_le r0_
    try simp only at b0 qr0
    obtain ⟨am0_0, m0, -⟩ := pm_StmtS (show pc_StmtS p0 ≤ 1048576 by omega) (k := 1) (by omega)
    replace m0 : m_laws_markStmtS p0 1 = _ := m0
    obtain ⟨rm0_0, mr0, gr0⟩ := pm_StmtS (show pc_StmtS r0_ ≤ 1048576 by omega) (k := 1) (by omega)
    replace mr0 : m_laws_markStmtS r0_ 1 = _ := mr0
    replace gr0 : m_laws_heldStmtS _ 1 = _ := gr0
    simp only [Option.bind_some, cond_false, cond_true, dec_neg, e1, e2, decide_true, bool_beq, Bool.not_true, Bool.or_false, Bool.false_eq_true, pt_StmtS (show pc_StmtS p0 ≤ 1048576 by omega), pe_StmtS (show pc_StmtS p0 ≤ 1048576 by omega), m0, pe_StmtS (show pc_StmtS r0_ ≤ 1048576 by omega), mr0, gr0]
  · rw [szOut_no h0]; rfl
end Go.Mod
