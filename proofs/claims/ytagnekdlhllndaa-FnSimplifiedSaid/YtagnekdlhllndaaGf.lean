import Derived.Test.YtagnekdlhllndaaRows
import Derived.Test.YtagnekdlhllndaaGc
import Derived.Test.YtagnekdlhllndaaGd
namespace Go.Mod
open Go Go.AM Go.Proofs
set_option linter.unusedVariables false
set_option linter.unusedSimpArgs false
set_option maxRecDepth 100000
set_option maxHeartbeats 8000000
def a_u8 (x : Int) : AV := .int .u8 x
def aLa_u8 (x : List Int) : AV := .sl 1 (List.map a_u8 x)
def Qf (x : Int) : AV := .int .i64 x
def Qq (x : Term) : AV := .agg [.int .i64 x.Const, .sl 1 (List.map Qf x.Coeffs)]
def QZ (x : Stmt) : AV := .agg [.int .i64 x.Kind, .int .i64 x.Var, .int .i64 x.Event, .int .i64 x.Sum.Const, .sl 1 (List.map Qf x.Sum.Coeffs), .int .i64 x.Index.Const, .sl 1 (List.map Qf x.Index.Coeffs), .sl 2 (List.map Qq x.Facts)]
mutual
def r_Ptree : Ptree → AV
 | .nil => .nilp
 | .mk f0 f1 f2 => .cp [.int .i64 f0.Kind, .int .i64 f0.Var, .int .i64 f0.Event, .int .i64 f0.Sum.Const, .sl 1 (List.map Qf f0.Sum.Coeffs), .int .i64 f0.Index.Const, .sl 1 (List.map Qf f0.Index.Coeffs), .sl 2 (List.map Qq f0.Facts), .int .i64 f1, .sl 1 (rL_Ptree f2)]
def rL_Ptree : List Ptree → List AV
 | [] => []
 | x :: r => .tr (r_Ptree x) :: rL_Ptree r
end
def Qg (x : Ptree) : AV := .tr (r_Ptree x)
theorem rL_Ptree_eq (l : List Ptree) : rL_Ptree l = List.map Qg l := by
 induction l with
 | nil => rfl
 | cons a l ih => simp only [rL_Ptree, List.map, ih]; rfl
theorem QV {e : Ptree} {n : tree} (h : XE e = some n) : r_Ptree e = .cp [.int .i64 n.Stmt.Kind, .int .i64 n.Stmt.Var, .int .i64 n.Stmt.Event, .int .i64 n.Stmt.Sum.Const, .sl 1 (List.map Qf n.Stmt.Sum.Coeffs), .int .i64 n.Stmt.Index.Const, .sl 1 (List.map Qf n.Stmt.Index.Coeffs), .sl 2 (List.map Qq n.Stmt.Facts), .int .i64 n.at_, .sl 1 (List.map Qg n.kids)] := by
 cases e with
 | nil => cases h
 | mk f0 f1 f2 => cases h; first | (simp only [r_Ptree, rL_Ptree_eq]; done) | (simp only [r_Ptree, rL_Ptree_eq]; rfl)
theorem re_tree_eq (n : tree) : r_Ptree (re_tree n) = .cp [.int .i64 n.Stmt.Kind, .int .i64 n.Stmt.Var, .int .i64 n.Stmt.Event, .int .i64 n.Stmt.Sum.Const, .sl 1 (List.map Qf n.Stmt.Sum.Coeffs), .int .i64 n.Stmt.Index.Const, .sl 1 (List.map Qf n.Stmt.Index.Coeffs), .sl 2 (List.map Qq n.Stmt.Facts), .int .i64 n.at_, .sl 1 (List.map Qg n.kids)] := QV rfl
theorem ag108 : tyAgg Try.prog 108 = some false := by kernel_rfl
theorem ag129 : tyAgg Try.prog 129 = some false := by kernel_rfl
theorem ag2 : tyAgg Try.prog 2 = some false := by kernel_rfl
theorem ag22 : tyAgg Try.prog 22 = some false := by kernel_rfl
theorem ag24 : tyAgg Try.prog 24 = some false := by kernel_rfl
theorem ag25 : tyAgg Try.prog 25 = some false := by kernel_rfl
theorem ag27 : tyAgg Try.prog 27 = some true := by kernel_rfl
theorem ag29 : tyAgg Try.prog 29 = some false := by kernel_rfl
theorem ag3 : tyAgg Try.prog 3 = some false := by kernel_rfl
theorem ag31 : tyAgg Try.prog 31 = some true := by kernel_rfl
theorem ag5 : tyAgg Try.prog 5 = some false := by kernel_rfl
theorem ag75 : tyAgg Try.prog 75 = some true := by kernel_rfl
theorem ag77 : tyAgg Try.prog 77 = some true := by kernel_rfl
theorem ag88 : tyAgg Try.prog 88 = some false := by kernel_rfl
theorem el129 : tyElem Try.prog 129 = some (88, 1) := by kernel_rfl
theorem el22 : tyElem Try.prog 22 = some (5, 1) := by kernel_rfl
theorem el24 : tyElem Try.prog 24 = some (75, 2) := by kernel_rfl
theorem el25 : tyElem Try.prog 25 = some (77, 8) := by kernel_rfl
theorem el29 : tyElem Try.prog 29 = some (2, 1) := by kernel_rfl
theorem fa110_0 : tyField Try.prog 110 0 = some 0 := by kernel_rfl
theorem fa110_1 : tyField Try.prog 110 1 = some 1 := by kernel_rfl
theorem fa110_2 : tyField Try.prog 110 2 = some 2 := by kernel_rfl
theorem fa132_0 : tyField Try.prog 132 0 = some 0 := by kernel_rfl
theorem fa132_2 : tyField Try.prog 132 2 = some 9 := by kernel_rfl
theorem fa27_0 : tyField Try.prog 27 0 = some 0 := by kernel_rfl
theorem fa27_1 : tyField Try.prog 27 1 = some 1 := by kernel_rfl
theorem fa27_2 : tyField Try.prog 27 2 = some 2 := by kernel_rfl
theorem fa31_0 : tyField Try.prog 31 0 = some 0 := by kernel_rfl
theorem fa31_1 : tyField Try.prog 31 1 = some 1 := by kernel_rfl
theorem fa73_0 : tyField Try.prog 73 0 = some 0 := by kernel_rfl
theorem fa73_1 : tyField Try.prog 73 1 = some 2 := by kernel_rfl
theorem fa73_2 : tyField Try.prog 73 2 = some 3 := by kernel_rfl
theorem fa73_3 : tyField Try.prog 73 3 = some 4 := by kernel_rfl
theorem fa73_4 : tyField Try.prog 73 4 = some 5 := by kernel_rfl
theorem fa75_0 : tyField Try.prog 75 0 = some 0 := by kernel_rfl
theorem fa75_1 : tyField Try.prog 75 1 = some 1 := by kernel_rfl
theorem fa77_0 : tyField Try.prog 77 0 = some 0 := by kernel_rfl
theorem fa77_1 : tyField Try.prog 77 1 = some 1 := by kernel_rfl
theorem fa77_2 : tyField Try.prog 77 2 = some 2 := by kernel_rfl
theorem fa77_3 : tyField Try.prog 77 3 = some 3 := by kernel_rfl
theorem fa77_4 : tyField Try.prog 77 4 = some 5 := by kernel_rfl
theorem fa77_5 : tyField Try.prog 77 5 = some 7 := by kernel_rfl
theorem mix : Try.prog.follows .mixedOrders = true := by kernel_rfl
theorem pl110 : tyPlaces Try.prog 110 = some [(0, 1), (1, 1), (2, 1)] := by kernel_rfl
theorem pl132 : tyPlaces Try.prog 132 = some [(0, 8), (8, 1), (9, 1)] := by kernel_rfl
theorem pl27 : tyPlaces Try.prog 27 = some [(0, 1), (1, 1), (2, 1)] := by kernel_rfl
theorem pl31 : tyPlaces Try.prog 31 = some [(0, 1), (1, 1)] := by kernel_rfl
theorem pl73 : tyPlaces Try.prog 73 = some [(0, 2), (2, 1), (3, 1), (4, 1), (5, 1)] := by kernel_rfl
theorem pl75 : tyPlaces Try.prog 75 = some [(0, 1), (1, 1)] := by kernel_rfl
theorem pl77 : tyPlaces Try.prog 77 = some [(0, 1), (1, 1), (2, 1), (3, 2), (5, 2), (7, 1)] := by kernel_rfl
theorem sz108 : tySize Try.prog 108 = some 1 := by kernel_rfl
theorem sz129 : tySize Try.prog 129 = some 1 := by kernel_rfl
theorem sz2 : tySize Try.prog 2 = some 1 := by kernel_rfl
theorem sz24 : tySize Try.prog 24 = some 1 := by kernel_rfl
theorem sz25 : tySize Try.prog 25 = some 1 := by kernel_rfl
theorem sz27 : tySize Try.prog 27 = some 3 := by kernel_rfl
theorem sz29 : tySize Try.prog 29 = some 1 := by kernel_rfl
theorem sz3 : tySize Try.prog 3 = some 1 := by kernel_rfl
theorem sz31 : tySize Try.prog 31 = some 2 := by kernel_rfl
theorem sz75 : tySize Try.prog 75 = some 2 := by kernel_rfl
theorem sz77 : tySize Try.prog 77 = some 8 := by kernel_rfl
theorem z110 : tyZero Try.prog 110 = some (.agg #[.slice none 0 0, .int .i64 0, .int .u64 0], 3, 40) := by kernel_rfl
theorem z132 : tyZero Try.prog 132 = some (.agg #[.int .i64 0, .int .i64 0, .int .i64 0, .int .i64 0, .slice none 0 0, .int .i64 0, .slice none 0 0, .slice none 0 0, .int .i64 0, .slice none 0 0], 10, 144) := by kernel_rfl
theorem z2 : tyZero Try.prog 2 = some (.int .i64 0, 1, 8) := by kernel_rfl
theorem z27 : tyZero Try.prog 27 = some (.agg #[.slice none 0 0, .slice none 0 0, .slice none 0 0], 3, 72) := by kernel_rfl
theorem z31 : tyZero Try.prog 31 = some (.agg #[.slice none 0 0, .slice none 0 0], 2, 48) := by kernel_rfl
theorem z73 : tyZero Try.prog 73 = some (.agg #[.slice none 0 0, .slice none 0 0, .slice none 0 0, .int .i64 0, .int .i64 0, .int .i64 0], 6, 96) := by kernel_rfl
theorem z75 : tyZero Try.prog 75 = some (.agg #[.int .i64 0, .slice none 0 0], 2, 32) := by kernel_rfl
theorem z77 : tyZero Try.prog 77 = some (.agg #[.int .i64 0, .int .i64 0, .int .i64 0, .int .i64 0, .slice none 0 0, .int .i64 0, .slice none 0 0, .slice none 0 0], 8, 112) := by kernel_rfl
theorem z88 : tyZero Try.prog 88 = some (.pointer none, 1, 8) := by kernel_rfl
theorem c_laws_r8Long (p0 : List Int) (p1 : List Int) (out : Bool) (hm : m_laws_r8Long p0 p1 = some out) : ACall Try.prog 10 [.sl 1 (List.map a_u8 p0), .sl 1 (List.map a_u8 p1)] [] (.bool out) [] := by
 refine ACall.intro Try.func10 rfl Try.ntmps10 rfl (fun F hF => ?_)
 unfold m_laws_r8Long at hm
 refine Qn ?_
 refine Qc ?_
 refine Qa rfl rfl rfl rfl (Qb rfl) ?_
 refine Qe ?_
 refine Qn ?_
 refine Qc ?_
 refine Qa rfl rfl rfl rfl (Qd rfl) ?_
 refine Qa rfl rfl rfl rfl (Xm Try.underlying22 rfl (List.length_map _)) ?_
 refine Xy (fun _ _ _ hr => RelP.slLen (i := 5) rfl hr) (fun hlen6 => ?_)
 rw [List.length_map] at hlen6
 refine Qa rfl rfl rfl rfl (op_gtr rfl rfl) ?_
 refine Qa rfl rfl rfl rfl (Qd rfl) ?_
 refine Xb 4 (fun _ : Unit => ⟨[(12, .bool ((decide ((48 : Int) < (p0.length : Int))) || (decide ((48 : Int) < (p1.length : Int)))))], []⟩) (fun _ => True) (fun _ _ => ?_) (fun hjj => ?_)
 ·refine Qa rfl rfl rfl rfl (Qb rfl) ?_
  refine Qe ?_
  refine Qo [4] [] rfl rfl rfl rfl (by rw [hF]; rfl) ?_
  refine QB ?_
  obtain rfl := Qw hm
  refine ⟨[_], [], ⟨rfl, trivial⟩, ?_, rfl, rfl, rfl, rfl⟩
  rfl
 ·refine Qy 8 rfl rfl rfl (fun hq => ?_) (fun hq => ?_)
  ·refine Qh rfl rfl rfl rfl rfl rfl rfl ?_
   refine Qh rfl rfl rfl rfl rfl rfl rfl ?_
   refine Qh rfl rfl rfl rfl rfl rfl rfl ?_
   refine Qa rfl rfl rfl rfl (Qp rfl rfl) ?_
   refine Qx [12] [] rfl rfl rfl rfl (by rw [hF]; rfl) ?_
   exact QA _ (by first | (rw [hq, Bool.true_or]; done) | (rw [hq]; rfl)) (hjj () trivial)
  ·refine Qm rfl rfl ?_
   refine Qa rfl rfl rfl rfl (Qd rfl) ?_
   refine Qm rfl rfl ?_
   refine Qa rfl rfl rfl rfl (Xm Try.underlying22 rfl (List.length_map _)) ?_
   refine Xy (fun _ _ _ hr => RelP.slLen (i := 9) rfl hr) (fun hlen10 => ?_)
   rw [List.length_map] at hlen10
   refine Qm rfl rfl ?_
   refine Qa rfl rfl rfl rfl (op_gtr rfl rfl) ?_
   refine Qa rfl rfl rfl rfl (Qk rfl rfl) ?_
   refine Qx [12] [] rfl rfl rfl rfl (by rw [hF]; rfl) ?_
   exact QA _ (by first | (rw [hq, Bool.false_or]; done) | (rw [hq]; rfl)) (hjj () trivial)
theorem c_spec_l00From (p0 : List Int) (out : l00Src) (hm : m_spec_l00From p0 = some out) : ACall Try.prog 42 [.sl 1 (List.map a_u8 p0)] [] (.ptr 1000 0 0) [(1000, .box [.sl 1 (List.map a_u8 out.code), .int .i64 out.at_, .int .u64 out.seed])] := by
 refine ACall.intro Try.func42 rfl Try.ntmps42 rfl (fun F hF => ?_)
 unfold m_spec_l00From at hm
 refine Qn ?_
 refine Qc ?_
 refine Qa rfl rfl rfl rfl (Qb rfl) ?_
 refine Qe ?_
 refine Qn ?_
 refine Qc ?_
 refine Qa rfl rfl rfl rfl (Qd rfl) ?_
 refine Qa rfl rfl rfl rfl (Xn pl110 z110 rfl rfl rfl rfl rfl) ?_
 refine TL_box 11 rfl rfl rfl rfl rfl rfl rfl ?_
 refine Qa rfl rfl rfl rfl (Qb rfl) ?_
 refine Qe ?_
 refine Qo [2] [11] rfl rfl rfl rfl (by rw [hF]; rfl) ?_
 refine T_ren [(11, 1000)] rfl rfl rfl (by rw [hF]; rfl) ?_
 refine QB ?_
 obtain rfl := Qw hm
 refine ⟨[_], [1000], ⟨rfl, trivial⟩, ?_, rfl, rfl, rfl, rfl⟩
 rfl
theorem c_spec_l00Src_next (p0 : l00Src) (out : Int × l00Src) (hm : m_spec_l00Src_next p0 = some out) : ACall Try.prog 113 [.ptr 0 0 0] [(0, .box [.sl 1 (List.map a_u8 p0.code), .int .i64 p0.at_, .int .u64 p0.seed])] (.int .i64 out.1) [(0, .box [.sl 1 (List.map a_u8 out.2.code), .int .i64 out.2.at_, .int .u64 out.2.seed])] := by
 refine ACall.intro Try.func113 rfl Try.ntmps113 rfl (fun F hF => ?_)
 unfold m_spec_l00Src_next at hm
 refine Qn ?_
 refine Qc ?_
 refine Qa rfl rfl rfl rfl (Qb rfl) ?_
 refine Qe ?_
 refine Qn ?_
 refine Qc ?_
 refine Qa rfl rfl rfl rfl (Qb rfl) ?_
 refine Qe ?_
 refine T_join (fun (j0 : Int) => ⟨[(0, .ptr 0 0 0), (3, .int .i64 j0)], [(0, .box [.sl 1 (List.map a_u8 p0.code), .int .i64 p0.at_, .int .u64 p0.seed])]⟩) (fun j0 => m_spec_l00Src_next_J0 p0 j0 = some out) (fun j0 hm => ?_) (fun hj0 => ?_)
 ·unfold m_spec_l00Src_next_J0 at hm
  refine Qn ?_
  refine Qc ?_
  refine Qa rfl rfl rfl rfl (Qd rfl) ?_
  refine Qa rfl rfl rfl rfl (Qs rfl rfl) ?_
  refine Qa rfl rfl rfl rfl (Qi fa110_1 rfl rfl) ?_
  refine Qa rfl rfl rfl rfl (Qj ag3 rfl rfl) ?_
  refine Qa rfl rfl rfl rfl (op_addW rfl rfl) ?_
  refine Qa rfl rfl rfl rfl (Qs rfl rfl) ?_
  refine Qa rfl rfl rfl rfl (Qi fa110_1 rfl rfl) ?_
  refine Qr sz3 rfl rfl rfl rfl rfl rfl rfl rfl rfl ?_
  refine Qe ?_
  refine Qn ?_
  refine Qc ?_
  refine Qa rfl rfl rfl rfl (Qd rfl) ?_
  refine Qa rfl rfl rfl rfl (Qd rfl) ?_
  refine Qa rfl rfl rfl rfl (Qs rfl rfl) ?_
  refine Qa rfl rfl rfl rfl (Qi fa110_2 rfl rfl) ?_
  refine Qa rfl rfl rfl rfl (Qj ag108 rfl rfl) ?_
  refine Qa rfl rfl rfl rfl (op_mulK wrap_u64 rfl rfl) ?_
  refine Qa rfl rfl rfl rfl (Qd rfl) ?_
  refine Qa rfl rfl rfl rfl (op_convK wrap_u64 ⟨_, Try.underlying3⟩ Try.underlying108 rfl) ?_
  refine Qa rfl rfl rfl rfl (op_addK wrap_u64 rfl rfl) ?_
  refine Qa rfl rfl rfl rfl (op_addK wrap_u64 rfl rfl) ?_
  refine Qa rfl rfl rfl rfl (Qs rfl rfl) ?_
  refine Qa rfl rfl rfl rfl (Qi fa110_2 rfl rfl) ?_
  refine Qr sz108 rfl rfl rfl rfl rfl rfl rfl rfl rfl ?_
  refine Qe ?_
  refine Qn ?_
  refine Qn ?_
  refine T_drawZ [] mix (by kernel_rfl) rfl ?_
  refine Ql 0 (by kernel_rfl) rfl rfl rfl rfl rfl (Qd rfl) ?_
  refine Ql 1 (by kernel_rfl) rfl rfl rfl rfl rfl (Qs rfl rfl) ?_
  refine Ql 2 (by kernel_rfl) rfl rfl rfl rfl rfl (Qi fa110_1 rfl rfl) ?_
  refine Ql 3 (by kernel_rfl) rfl rfl rfl rfl rfl (Qj ag3 rfl rfl) ?_
  refine Ql 4 (by kernel_rfl) rfl rfl rfl rfl rfl (Qd rfl) ?_
  refine Ql 5 (by kernel_rfl) rfl rfl rfl rfl rfl (Qs rfl rfl) ?_
  refine Ql 6 (by kernel_rfl) rfl rfl rfl rfl rfl (Qi fa110_0 rfl rfl) ?_
  refine Ql 7 (by kernel_rfl) rfl rfl rfl rfl rfl (Qj ag22 rfl rfl) ?_
  refine Ql 8 (by kernel_rfl) rfl rfl rfl rfl rfl (Xm Try.underlying22 rfl (List.length_map _)) ?_
  refine TZ_fact (fun _ _ _ hr => RelP.slLen (i := 51) rfl hr) (fun hlen52 => ?_)
  rw [List.length_map] at hlen52
  refine Ql 9 (by kernel_rfl) rfl rfl rfl rfl rfl (op_leq rfl rfl) ?_
  refine Q8 (by kernel_rfl) ?_
  refine QI rfl (fun hq => ?_) (fun hq => ?_)
  ·replace hm := QO hq hm
   refine Qn ?_
   refine Qc ?_
   refine Qa rfl rfl rfl rfl (Qd rfl) ?_
   refine Qa rfl rfl rfl rfl (Qb rfl) ?_
   refine Qe ?_
   refine Qo [2] [0] rfl rfl rfl rfl (by rw [hF]; rfl) ?_
   refine QB ?_
   obtain rfl := Qw hm
   refine ⟨[_], [0], ⟨rfl, trivial⟩, ?_, rfl, rfl, rfl, rfl⟩
   rfl
  ·replace hm := QM hq hm
   refine QL ?_
   refine Qn ?_
   refine Qc ?_
   refine Qa rfl rfl rfl rfl (Qd rfl) ?_
   refine Qa rfl rfl rfl rfl (Qs rfl rfl) ?_
   refine Qa rfl rfl rfl rfl (Qi fa110_2 rfl rfl) ?_
   refine Qa rfl rfl rfl rfl (Qj ag108 rfl rfl) ?_
   refine Qa rfl rfl rfl rfl (op_shrC (n := 40) rfl (by decide) rfl rfl) ?_
   refine Qa rfl rfl rfl rfl (op_andU rfl rfl) ?_
   refine Qa rfl rfl rfl rfl (op_convW ⟨_, Try.underlying108⟩ Try.underlying2 rfl) ?_
   refine Qa rfl rfl rfl rfl (Qb rfl) ?_
   refine Qe ?_
   refine Qo [2] [0] rfl rfl rfl rfl (by rw [hF]; rfl) ?_
   refine QB ?_
   obtain rfl := Qw hm
   refine ⟨[_], [0], ⟨rfl, trivial⟩, ?_, rfl, rfl, rfl, rfl⟩
   rfl
 ·refine Qn ?_
  refine T_drawZ [] mix (by kernel_rfl) rfl ?_
  refine Ql 0 (by kernel_rfl) rfl rfl rfl rfl rfl (Qd rfl) ?_
  refine Ql 1 (by kernel_rfl) rfl rfl rfl rfl rfl (Qs rfl rfl) ?_
  refine Ql 2 (by kernel_rfl) rfl rfl rfl rfl rfl (Qi fa110_1 rfl rfl) ?_
  refine Ql 3 (by kernel_rfl) rfl rfl rfl rfl rfl (Qj ag3 rfl rfl) ?_
  refine Ql 4 (by kernel_rfl) rfl rfl rfl rfl rfl (Qd rfl) ?_
  refine Ql 5 (by kernel_rfl) rfl rfl rfl rfl rfl (Qs rfl rfl) ?_
  refine Ql 6 (by kernel_rfl) rfl rfl rfl rfl rfl (Qi fa110_0 rfl rfl) ?_
  refine Ql 7 (by kernel_rfl) rfl rfl rfl rfl rfl (Qj ag22 rfl rfl) ?_
  refine Ql 8 (by kernel_rfl) rfl rfl rfl rfl rfl (Xm Try.underlying22 rfl (List.length_map _)) ?_
  refine TZ_fact (fun _ _ _ hr => RelP.slLen (i := 11) rfl hr) (fun hlen12 => ?_)
  rw [List.length_map] at hlen12
  refine Ql 9 (by kernel_rfl) rfl rfl rfl rfl rfl (op_lss rfl rfl) ?_
  refine Q8 (by kernel_rfl) ?_
  refine QI rfl (fun hq => ?_) (fun hq => ?_)
  ·replace hm := QO hq hm
   refine T_drawZ [] mix (by kernel_rfl) rfl ?_
   obtain ⟨x22, hx22, hm⟩ := Qv hm
   refine Ql 0 (by kernel_rfl) rfl rfl rfl rfl rfl (Qd rfl) ?_
   refine Ql 1 (by kernel_rfl) rfl rfl rfl rfl rfl (Qs rfl rfl) ?_
   refine Ql 2 (by kernel_rfl) rfl rfl rfl rfl rfl (Qi fa110_0 rfl rfl) ?_
   refine Ql 3 (by kernel_rfl) rfl rfl rfl rfl rfl (Qj ag22 rfl rfl) ?_
   refine Ql 4 (by kernel_rfl) rfl rfl rfl rfl rfl (Qd rfl) ?_
   refine Ql 5 (by kernel_rfl) rfl rfl rfl rfl rfl (Qs rfl rfl) ?_
   refine Ql 6 (by kernel_rfl) rfl rfl rfl rfl rfl (Qi fa110_1 rfl rfl) ?_
   refine Ql 7 (by kernel_rfl) rfl rfl rfl rfl rfl (Qj ag3 rfl rfl) ?_
   refine Ql 8 (by kernel_rfl) rfl rfl rfl rfl rfl (Xi el22 rfl rfl hx22 rfl) ?_
   refine Ql 9 (by kernel_rfl) rfl rfl rfl rfl rfl (Qj ag5 rfl rfl) ?_
   refine Ql 10 (by kernel_rfl) rfl rfl rfl rfl rfl (op_convW ⟨_, Try.underlying5⟩ Try.underlying3 rfl) ?_
   refine Ql 11 (by kernel_rfl) rfl rfl rfl rfl rfl (Qb rfl) ?_
   refine Q8 (by kernel_rfl) ?_
   refine Qo [0, 3] [0] rfl rfl rfl rfl (by rw [hF]; rfl) ?_
   exact hj0 (w64 x22) hm
  ·replace hm := QM hq hm
   refine QL ?_
   refine Qo [0, 3] [0] rfl rfl rfl rfl (by rw [hF]; rfl) ?_
   exact hj0 (0 : Int) hm
theorem QY (p0 : l00Src) (p1 : Int) (out : Int × l00Src) (hm : QP p0 p1 = some out) : ACall Try.prog 80 [.ptr 0 0 0, .int .i64 p1] [(0, .box [.sl 1 (List.map a_u8 p0.code), .int .i64 p0.at_, .int .u64 p0.seed])] (.int .i64 out.1) [(0, .box [.sl 1 (List.map a_u8 out.2.code), .int .i64 out.2.at_, .int .u64 out.2.seed])] := by
 refine ACall.intro Try.func80 rfl Try.ntmps80 rfl (fun F hF => ?_)
 unfold QP at hm
 refine Qn ?_
 refine Qc ?_
 refine Qa rfl rfl rfl rfl (Qb rfl) ?_
 refine Qe ?_
 refine Qn ?_
 refine Qn ?_
 refine Qc ?_
 refine Qa rfl rfl rfl rfl (Qd rfl) ?_
 refine Qa rfl rfl rfl rfl (op_leq rfl rfl) ?_
 refine Qe ?_
 refine QI rfl (fun hq => ?_) (fun hq => ?_)
 ·replace hm := QO hq hm
  refine Qn ?_
  refine Qc ?_
  refine Qa rfl rfl rfl rfl (Qb rfl) ?_
  refine Qe ?_
  refine Qo [4] [0] rfl rfl rfl rfl (by rw [hF]; rfl) ?_
  refine QB ?_
  obtain rfl := Qw hm
  refine ⟨[_], [0], ⟨rfl, trivial⟩, ?_, rfl, rfl, rfl, rfl⟩
  rfl
 ·replace hm := QM hq hm
  refine QL ?_
  refine Qn ?_
  refine Qc ?_
  refine Qa rfl rfl rfl rfl (Qd rfl) ?_
  obtain ⟨r9, hr9, hm⟩ := Qv hm
  refine Q2 [(0, 0)] [] [] (c_spec_l00Src_next p0 r9 hr9) Try.call113 rfl rfl rfl rfl rfl ⟨rfl, trivial⟩ rfl rfl rfl rfl rfl rfl rfl rfl rfl rfl rfl ?_
  refine Qa rfl rfl rfl rfl (Qb rfl) ?_
  refine Qe ?_
  refine Qn ?_
  refine Qn ?_
  refine Qc ?_
  refine Qa rfl rfl rfl rfl (Qd rfl) ?_
  refine Qa rfl rfl rfl rfl (op_gtr rfl rfl) ?_
  refine Qe ?_
  refine QI rfl (fun hq => ?_) (fun hq => ?_)
  ·replace hm := QO hq hm
   refine Qc ?_
   refine Qa rfl rfl rfl rfl (Qd rfl) ?_
   refine Qa rfl rfl rfl rfl (op_mulW rfl rfl) ?_
   refine Qa rfl rfl rfl rfl (Qd rfl) ?_
   obtain ⟨r15, hr15, hm⟩ := Qv hm
   refine Q2 [(0, 0)] [] [] (c_spec_l00Src_next r9.2 r15 hr15) Try.call113 rfl rfl rfl rfl rfl ⟨rfl, trivial⟩ rfl rfl rfl rfl rfl rfl rfl rfl rfl rfl rfl ?_
   refine Qa rfl rfl rfl rfl (op_addW rfl rfl) ?_
   refine Qa rfl rfl rfl rfl (Qb rfl) ?_
   refine Qe ?_
   refine Qn ?_
   refine Qc ?_
   refine Qa rfl rfl rfl rfl (Qd rfl) ?_
   refine Qa rfl rfl rfl rfl (Qd rfl) ?_
   obtain ⟨q19, hq19, hm⟩ := Qv hm
   refine Qa rfl rfl rfl rfl (op_remT rfl rfl hq19) ?_
   refine Qa rfl rfl rfl rfl (Qb rfl) ?_
   refine Qe ?_
   refine Qo [4] [0] rfl rfl rfl rfl (by rw [hF]; rfl) ?_
   refine QB ?_
   obtain rfl := Qw hm
   refine ⟨[_], [0], ⟨rfl, trivial⟩, ?_, rfl, rfl, rfl, rfl⟩
   rfl
  ·replace hm := QM hq hm
   refine QL ?_
   refine Qn ?_
   refine Qc ?_
   refine Qa rfl rfl rfl rfl (Qd rfl) ?_
   refine Qa rfl rfl rfl rfl (Qd rfl) ?_
   obtain ⟨q19, hq19, hm⟩ := Qv hm
   refine Qa rfl rfl rfl rfl (op_remT rfl rfl hq19) ?_
   refine Qa rfl rfl rfl rfl (Qb rfl) ?_
   refine Qe ?_
   refine Qo [4] [0] rfl rfl rfl rfl (by rw [hF]; rfl) ?_
   refine QB ?_
   obtain rfl := Qw hm
   refine ⟨[_], [0], ⟨rfl, trivial⟩, ?_, rfl, rfl, rfl, rfl⟩
   rfl
theorem c_spec_l00Own (p0 : List Int) (out : List Int) (hm : m_spec_l00Own p0 = some out) : ACall Try.prog 126 [.sl 1 (List.map Qf p0)] [] (.ow 1000) [(1000, .arr ⟨false, true⟩ 1 2 (List.map Qf out))] := by
 refine ACall.intro Try.func126 rfl Try.ntmps126 rfl (fun F hF => ?_)
 unfold m_spec_l00Own at hm
 refine Qn ?_
 refine Qc ?_
 refine Qa rfl rfl rfl rfl (Qb rfl) ?_
 refine Qe ?_
 refine Qn ?_
 refine Qc ?_
 refine QD 11 (es := List.map Qf ([] : List Int)) el29 z2 rfl rfl rfl rfl rfl rfl rfl rfl rfl ?_
 refine Qa rfl rfl rfl rfl (Qd rfl) ?_
 obtain ⟨q5, hq5, hm⟩ := Qv hm
 refine Xc (f := Qf) (a := ([] : List Int)) (b := p0) el29 z2 rfl rfl rfl rfl rfl rfl rfl (Xa hq5) rfl rfl rfl rfl rfl ?_
 refine Qa rfl rfl rfl rfl (Qb rfl) ?_
 refine Qe ?_
 refine Qo [2] [11] rfl rfl rfl rfl (by rw [hF]; rfl) ?_
 refine T_deepen 11 (p' := false) (List.map Qf (([] : List Int) ++ p0)) (by rw [hF]; rfl) rfl (ElR.map (f := Qf) (g := Qf) (fun _ => ⟨⟨rfl, rfl⟩, trivial⟩) (([] : List Int) ++ p0)) rfl rfl rfl ?_
 refine T_ren [(11, 1000)] rfl rfl rfl (by rw [hF]; rfl) ?_
 refine QB ?_
 obtain rfl := Qw hm
 refine ⟨[_], [1000], ⟨rfl, trivial⟩, ?_, rfl, rfl, rfl, rfl⟩
 rfl
theorem c_spec_l00In (p0 : Int) (p1 : Int) (p2 : Int) (out : Bool) (hm : m_spec_l00In p0 p1 p2 = some out) : ACall Try.prog 92 [.int .i64 p0, .int .i64 p1, .int .i64 p2] [] (.bool out) [] := by
 refine ACall.intro Try.func92 rfl Try.ntmps92 rfl (fun F hF => ?_)
 unfold m_spec_l00In at hm
 refine Qn ?_
 refine Qc ?_
 refine Qa rfl rfl rfl rfl (Qb rfl) ?_
 refine Qe ?_
 refine Qn ?_
 refine Qc ?_
 refine Qa rfl rfl rfl rfl (Qd rfl) ?_
 refine Qa rfl rfl rfl rfl (Qd rfl) ?_
 refine Qa rfl rfl rfl rfl (op_geq rfl rfl) ?_
 refine Qa rfl rfl rfl rfl (Qd rfl) ?_
 refine Xb 4 (fun _ : Unit => ⟨[(14, .bool ((decide (p1 ≤ p0)) && (decide (p0 ≤ p2))))], []⟩) (fun _ => True) (fun _ _ => ?_) (fun hjj => ?_)
 ·refine Qa rfl rfl rfl rfl (Qb rfl) ?_
  refine Qe ?_
  refine Qo [6] [] rfl rfl rfl rfl (by rw [hF]; rfl) ?_
  refine QB ?_
  obtain rfl := Qw hm
  refine ⟨[_], [], ⟨rfl, trivial⟩, ?_, rfl, rfl, rfl, rfl⟩
  rfl
 ·refine Qy 10 rfl rfl rfl (fun hq => ?_) (fun hq => ?_)
  ·refine Qm rfl rfl ?_
   refine Qa rfl rfl rfl rfl (Qd rfl) ?_
   refine Qm rfl rfl ?_
   refine Qa rfl rfl rfl rfl (Qd rfl) ?_
   refine Qm rfl rfl ?_
   refine Qa rfl rfl rfl rfl (op_leq rfl rfl) ?_
   refine Qa rfl rfl rfl rfl (Qp rfl rfl) ?_
   refine Qx [14] [] rfl rfl rfl rfl (by rw [hF]; rfl) ?_
   exact QA _ (by first | (rw [hq, Bool.true_and]; done) | (rw [hq]; rfl)) (hjj () trivial)
  ·refine Qh rfl rfl rfl rfl rfl rfl rfl ?_
   refine Qh rfl rfl rfl rfl rfl rfl rfl ?_
   refine Qh rfl rfl rfl rfl rfl rfl rfl ?_
   refine Qa rfl rfl rfl rfl (Qk rfl rfl) ?_
   refine Qx [14] [] rfl rfl rfl rfl (by rw [hF]; rfl) ?_
   exact QA _ (by first | (rw [hq, Bool.false_and]; done) | (rw [hq]; rfl)) (hjj () trivial)
theorem c_spec_l02Number (p0 : Int) (out : Bool) (hm : m_spec_l02Number p0 = some out) : ACall Try.prog 144 [.int .i64 p0] [] (.bool out) [] := by
 refine ACall.intro Try.func144 rfl Try.ntmps144 rfl (fun F hF => ?_)
 unfold m_spec_l02Number at hm
 refine Qn ?_
 refine Qc ?_
 refine Qa rfl rfl rfl rfl (Qb rfl) ?_
 refine Qe ?_
 refine Qn ?_
 refine Qc ?_
 refine Qa rfl rfl rfl rfl (Qd rfl) ?_
 obtain ⟨r4, hr4, hm⟩ := Qv hm
 refine QG (c_spec_l00In p0 (-1000000 : Int) (1000000 : Int) r4 hr4) Try.call92 rfl rfl rfl rfl rfl ?_
 refine Qa rfl rfl rfl rfl (Qb rfl) ?_
 refine Qe ?_
 refine Qo [2] [] rfl rfl rfl rfl (by rw [hF]; rfl) ?_
 refine QB ?_
 obtain rfl := Qw hm
 refine ⟨[_], [], ⟨rfl, trivial⟩, ?_, rfl, rfl, rfl, rfl⟩
 rfl
theorem c_spec_l02Is (p0 : Term) (out : Bool) (hm : m_spec_l02Is p0 = some out) : ACall Try.prog 136 [.cp [.int .i64 p0.Const, .sl 1 (List.map Qf p0.Coeffs)]] [] (.bool out) [] := by
 refine ACall.intro Try.func136 rfl Try.ntmps136 rfl (fun F hF => ?_)
 unfold m_spec_l02Is at hm
 refine Qn ?_
 refine Qc ?_
 refine Qa rfl rfl rfl rfl (Qb rfl) ?_
 refine Qe ?_
 refine Qn ?_
 refine Qc ?_
 refine Qa rfl rfl rfl rfl (Qd rfl) ?_
 refine Qa rfl rfl rfl rfl (Qs rfl rfl) ?_
 refine Qa rfl rfl rfl rfl (Qi fa75_1 rfl rfl) ?_
 refine Qa rfl rfl rfl rfl (Qj ag29 rfl rfl) ?_
 refine Qa rfl rfl rfl rfl (Xm Try.underlying29 rfl (List.length_map _)) ?_
 refine Xy (fun _ _ _ hr => RelP.slLen (i := 8) rfl hr) (fun hlen9 => ?_)
 rw [List.length_map] at hlen9
 refine Qa rfl rfl rfl rfl (Qb rfl) ?_
 refine Qe ?_
 refine T_join (fun (j0 : Unit) => ⟨[(0, .cp [.int .i64 p0.Const, .sl 1 (List.map Qf p0.Coeffs)]), (3, .int .i64 (p0.Coeffs.length : Int))], []⟩) (fun j0 => m_spec_l02Is_J0 p0 j0 = some out) (fun j0 hm => ?_) (fun hj0 => ?_)
 ·unfold m_spec_l02Is_J0 at hm
  refine Qn ?_
  refine Qn ?_
  refine Qc ?_
  refine Qa rfl rfl rfl rfl (Qb rfl) ?_
  refine Qe ?_
  refine Xd ?_
  refine Qo [0, 3, 4] [] rfl rfl rfl rfl (by rw [hF]; rfl) ?_
  refine T_loop ?_
  obtain ⟨u0, hl0, hm⟩ := Qv hm
  refine TR_iter2 (m_spec_l02Is_L0 p0) (fun (s0 : Int) => ⟨[(0, .cp [.int .i64 p0.Const, .sl 1 (List.map Qf p0.Coeffs)]), (3, .int .i64 (p0.Coeffs.length : Int)), (4, .int .i64 s0)], []⟩) (fun u0 => match u0 with | .inl u0 => .exit 0 | .inr u0 => .ret) (fun u0 => match u0 with | .inl u0 => ⟨[], []⟩ | .inr u0 => ⟨[(2, .bool u0)], []⟩) (fun u0 => m_spec_l02Is_A0 u0 = some out) hl0 hm (fun u0 hm => ?_) (fun hx0 s0 c0 hm hc0 => ?_)
  ·rcases u0 with u0 | u0
   ·unfold m_spec_l02Is_A0 at hm
    refine Qn ?_
    refine Qc ?_
    refine Qa rfl rfl rfl rfl (Qb rfl) ?_
    refine Qe ?_
    refine Qo [2] [] rfl rfl rfl rfl (by rw [hF]; rfl) ?_
    refine QB ?_
    obtain rfl := Qw hm
    refine ⟨[_], [], ⟨rfl, trivial⟩, ?_, rfl, rfl, rfl, rfl⟩
    rfl
   ·unfold m_spec_l02Is_A0 at hm
    obtain rfl := Qw hm
    refine ⟨[_], [], ⟨rfl, trivial⟩, ?_, rfl, rfl, rfl, rfl⟩
    rfl
  ·unfold m_spec_l02Is_L0 at hm
   refine Qn ?_
   refine Qn ?_
   refine Qc ?_
   refine Qa rfl rfl rfl rfl (Qd rfl) ?_
   refine Qa rfl rfl rfl rfl (Qd rfl) ?_
   refine Qa rfl rfl rfl rfl (op_lss rfl rfl) ?_
   refine Qe ?_
   refine QI rfl (fun hq => ?_) (fun hq => ?_)
   ·replace hm := QO hq hm
    refine QL ?_
    refine Qn ?_
    refine Xd ?_
    refine Qn ?_
    refine Qc ?_
    refine Qa rfl rfl rfl rfl (Qd rfl) ?_
    refine Qa rfl rfl rfl rfl (Qs rfl rfl) ?_
    refine Qa rfl rfl rfl rfl (Qi fa75_1 rfl rfl) ?_
    refine Qa rfl rfl rfl rfl (Qj ag29 rfl rfl) ?_
    refine Qa rfl rfl rfl rfl (Qd rfl) ?_
    obtain ⟨x45, hx45, hm⟩ := Qv hm
    refine Qa rfl rfl rfl rfl (Xi el29 rfl rfl hx45 rfl) ?_
    refine Qa rfl rfl rfl rfl (Qj ag2 rfl rfl) ?_
    obtain ⟨r47, hr47, hm⟩ := Qv hm
    refine QG (c_spec_l02Number x45 r47 hr47) Try.call144 rfl rfl rfl rfl rfl ?_
    refine Qa rfl rfl rfl rfl (op_not rfl) ?_
    refine Qe ?_
    refine QI rfl (fun hq => ?_) (fun hq => ?_)
    ·replace hm := QO hq hm
     refine Qn ?_
     refine Qc ?_
     refine Qa rfl rfl rfl rfl (Qb rfl) ?_
     refine Qe ?_
     refine Qo [2] [] rfl rfl rfl rfl (by rw [hF]; rfl) ?_
     refine QB ?_
     obtain rfl := Qw hm
     have hn := Xv hc0
     exact hx0 (.inr false) hn
    ·replace hm := QM hq hm
     refine QL ?_
     refine Qc ?_
     refine Qa rfl rfl rfl rfl (Qd rfl) ?_
     refine Qa rfl rfl rfl rfl (op_addW rfl rfl) ?_
     refine Qa rfl rfl rfl rfl (Qb rfl) ?_
     refine Qe ?_
     refine Xw [0, 3, 4] [] rfl rfl rfl rfl (by rw [hF]; rfl) ?_
     obtain rfl := Qw hm
     have hn := Q7 hc0
     exact hn _ rfl
   ·replace hm := QM hq hm
    refine Qo [] [] rfl rfl rfl rfl (by rw [hF]; rfl) ?_
    refine T_exit ?_
    obtain rfl := Qw hm
    have hn := Xv hc0
    exact hx0 (.inl ()) hn
 ·refine Qn ?_
  refine Qc ?_
  refine Qa rfl rfl rfl rfl (Qd rfl) ?_
  refine Qa rfl rfl rfl rfl (Qs rfl rfl) ?_
  refine Qa rfl rfl rfl rfl (Qu (n := 1) fa75_0 rfl rfl rfl) ?_
  refine Qa rfl rfl rfl rfl (Qj ag2 rfl rfl) ?_
  obtain ⟨r14, hr14, hm⟩ := Qv hm
  refine QG (c_spec_l02Number p0.Const r14 hr14) Try.call144 rfl rfl rfl rfl rfl ?_
  refine Qa rfl rfl rfl rfl (op_not rfl) ?_
  refine Qa rfl rfl rfl rfl (Qd rfl) ?_
  refine Xb 3 (fun _ : Unit => ⟨[(0, .cp [.int .i64 p0.Const, .sl 1 (List.map Qf p0.Coeffs)]), (3, .int .i64 (p0.Coeffs.length : Int)), (19, .bool ((!r14) || (decide ((10 : Int) < (p0.Coeffs.length : Int)))))], []⟩) (fun _ => True) (fun _ _ => ?_) (fun hjj => ?_)
  ·refine Qa rfl rfl rfl rfl (Qd rfl) ?_
   refine Qy 20 rfl rfl rfl (fun hq => ?_) (fun hq => ?_)
   ·replace hm := QO hq hm
    refine Qh rfl rfl rfl rfl rfl rfl rfl ?_
    refine Qh rfl rfl rfl rfl rfl rfl rfl ?_
    refine Qh rfl rfl rfl rfl rfl rfl rfl ?_
    refine Xl rfl rfl rfl rfl rfl rfl ?_
    refine Xl rfl rfl rfl rfl rfl rfl ?_
    refine Xl rfl rfl rfl rfl rfl rfl ?_
    refine Xl rfl rfl rfl rfl rfl rfl ?_
    refine Xl rfl rfl rfl rfl rfl rfl ?_
    refine Xl rfl rfl rfl rfl rfl rfl ?_
    refine Xl rfl rfl rfl rfl rfl rfl ?_
    refine Xl rfl rfl rfl rfl rfl rfl ?_
    refine Xl rfl rfl rfl rfl rfl rfl ?_
    refine Qh rfl rfl rfl rfl rfl rfl rfl ?_
    refine Qa rfl rfl rfl rfl (Qp rfl rfl) ?_
    refine Qe ?_
    refine T_cond_true rfl ?_
    refine Qn ?_
    refine Qc ?_
    refine Qa rfl rfl rfl rfl (Qb rfl) ?_
    refine Qe ?_
    refine Qo [2] [] rfl rfl rfl rfl (by rw [hF]; rfl) ?_
    refine QB ?_
    obtain rfl := Qw hm
    refine ⟨[_], [], ⟨rfl, trivial⟩, ?_, rfl, rfl, rfl, rfl⟩
    rfl
   ·replace hm := QM hq hm
    refine Qm rfl rfl ?_
    refine Qa rfl rfl rfl rfl (Qd rfl) ?_
    refine Qm rfl rfl ?_
    refine Qa rfl rfl rfl rfl (op_gtr rfl rfl) ?_
    refine Qm rfl rfl ?_
    refine Qa rfl rfl rfl rfl (Qd rfl) ?_
    refine Qy 23 rfl rfl rfl (fun hq => ?_) (fun hq => ?_)
    ·replace hm := QO hq hm
     refine Qm rfl rfl ?_
     refine Qa rfl rfl rfl rfl (Qd rfl) ?_
     refine Qm rfl rfl ?_
     refine Qa rfl rfl rfl rfl (Qs rfl rfl) ?_
     refine Qm rfl rfl ?_
     refine Qa rfl rfl rfl rfl (Qi fa75_1 rfl rfl) ?_
     refine Qm rfl rfl ?_
     refine Qa rfl rfl rfl rfl (Qj ag29 rfl rfl) ?_
     refine Qm rfl rfl ?_
     refine Qa rfl rfl rfl rfl (Qd rfl) ?_
     refine Qm rfl rfl ?_
     refine Qa rfl rfl rfl rfl (op_subW rfl rfl) ?_
     refine Qm rfl rfl ?_
     obtain ⟨x30, hx30, hm⟩ := Qv hm
     refine Qa rfl rfl rfl rfl (Xi el29 rfl rfl hx30 rfl) ?_
     refine Qm rfl rfl ?_
     refine Qa rfl rfl rfl rfl (Qj ag2 rfl rfl) ?_
     refine Qm rfl rfl ?_
     refine Qa rfl rfl rfl rfl (Xq rfl rfl) ?_
     refine Qm rfl rfl ?_
     refine Qa rfl rfl rfl rfl (Qp rfl rfl) ?_
     refine Qa rfl rfl rfl rfl (Qk rfl rfl) ?_
     refine Qe ?_
     refine QI rfl (fun hq => ?_) (fun hq => ?_)
     ·replace hm := QO hq hm
      refine Qn ?_
      refine Qc ?_
      refine Qa rfl rfl rfl rfl (Qb rfl) ?_
      refine Qe ?_
      refine Qo [2] [] rfl rfl rfl rfl (by rw [hF]; rfl) ?_
      refine QB ?_
      obtain rfl := Qw hm
      refine ⟨[_], [], ⟨rfl, trivial⟩, ?_, rfl, rfl, rfl, rfl⟩
      rfl
     ·replace hm := QM hq hm
      refine QL ?_
      refine Qo [0, 3] [] rfl rfl rfl rfl (by rw [hF]; rfl) ?_
      exact hj0 () hm
    ·replace hm := QM hq hm
     refine Qh rfl rfl rfl rfl rfl rfl rfl ?_
     refine Qh rfl rfl rfl rfl rfl rfl rfl ?_
     refine Qh rfl rfl rfl rfl rfl rfl rfl ?_
     refine Qh rfl rfl rfl rfl rfl rfl rfl ?_
     refine Qh rfl rfl rfl rfl rfl rfl rfl ?_
     refine Qh rfl rfl rfl rfl rfl rfl rfl ?_
     refine Qh rfl rfl rfl rfl rfl rfl rfl ?_
     refine Qh rfl rfl rfl rfl rfl rfl rfl ?_
     refine Qh rfl rfl rfl rfl rfl rfl rfl ?_
     refine Qm rfl rfl ?_
     refine Qa rfl rfl rfl rfl (Qk rfl rfl) ?_
     refine Qa rfl rfl rfl rfl (Qk rfl rfl) ?_
     refine Qe ?_
     refine Xz rfl ?_
     refine QL ?_
     refine Qo [0, 3] [] rfl rfl rfl rfl (by rw [hF]; rfl) ?_
     exact hj0 () hm
  ·refine Qy 16 rfl rfl rfl (fun hq => ?_) (fun hq => ?_)
   ·refine Qh rfl rfl rfl rfl rfl rfl rfl ?_
    refine Qh rfl rfl rfl rfl rfl rfl rfl ?_
    refine Qa rfl rfl rfl rfl (Qp rfl rfl) ?_
    refine Qx [0, 3, 19] [] rfl rfl rfl rfl (by rw [hF]; rfl) ?_
    exact QA _ (by first | (rw [hq, Bool.true_or]; done) | (rw [hq]; rfl)) (hjj () trivial)
   ·refine Qm rfl rfl ?_
    refine Qa rfl rfl rfl rfl (Qd rfl) ?_
    refine Qm rfl rfl ?_
    refine Qa rfl rfl rfl rfl (op_gtr rfl rfl) ?_
    refine Qa rfl rfl rfl rfl (Qk rfl rfl) ?_
    refine Qx [0, 3, 19] [] rfl rfl rfl rfl (by rw [hF]; rfl) ?_
    exact QA _ (by first | (rw [hq, Bool.false_or]; done) | (rw [hq]; rfl)) (hjj () trivial)
theorem c_spec_l02Make (p0 : Int) (p1 : List Int) (out : Term × Bool) (hm : m_spec_l02Make p0 p1 = some out) : ACall Try.prog 134 [.int .i64 p0, .sl 1 (List.map Qf p1)] [] (.tup [.agg [.int .i64 out.1.Const, .ow 1000], .bool out.2]) [(1000, .arr ⟨false, true⟩ 1 2 (List.map Qf out.1.Coeffs))] := by
 refine ACall.intro Try.func134 rfl Try.ntmps134 rfl (fun F hF => ?_)
 unfold m_spec_l02Make at hm
 refine Qn ?_
 refine Qc ?_
 refine Xk 11 z75 rfl rfl rfl rfl rfl rfl rfl ?_
 refine Qa rfl rfl rfl rfl (Qb rfl) ?_
 refine Qe ?_
 refine Qn ?_
 refine Qc ?_
 refine Qa rfl rfl rfl rfl (Qd rfl) ?_
 refine Qa rfl rfl rfl rfl (Xm Try.underlying29 rfl (List.length_map _)) ?_
 refine Xy (fun _ _ _ hr => RelP.slLen (i := 8) rfl hr) (fun hlen9 => ?_)
 rw [List.length_map] at hlen9
 refine Qa rfl rfl rfl rfl (Qb rfl) ?_
 refine Qe ?_
 refine Qn ?_
 refine Xd ?_
 refine Qo [0, 1, 4, 6] [11] rfl rfl rfl rfl (by rw [hF]; rfl) ?_
 refine T_loop ?_
 obtain ⟨u0, hl0, hm⟩ := Qv hm
 refine TR_iter2 (m_spec_l02Make_L0 p1) (fun (s0 : Int) => ⟨[(0, .int .i64 p0), (1, .sl 1 (List.map Qf p1)), (4, .ptr 11 0 0), (6, .int .i64 s0)], [(11, .box [.int .i64 (0 : Int), .snil])]⟩) (fun u0 => .exit 0) (fun u0 => ⟨[(0, .int .i64 p0), (1, .sl 1 (List.map Qf p1)), (4, .ptr 11 0 0), (6, .int .i64 u0)], [(11, .box [.int .i64 (0 : Int), .snil])]⟩) (fun u0 => m_spec_l02Make_A0 p0 p1 u0 = some out) hl0 hm (fun u0 hm => ?_) (fun hx0 s0 c0 hm hc0 => ?_)
 ·unfold m_spec_l02Make_A0 at hm
  refine Qn ?_
  refine Qc ?_
  refine Qa rfl rfl rfl rfl (Qd rfl) ?_
  refine Qa rfl rfl rfl rfl (Qd rfl) ?_
  refine Qa rfl rfl rfl rfl (Qd rfl) ?_
  obtain ⟨y25, hy25, hm⟩ := Qv hm
  refine Qa rfl rfl rfl rfl (op_sliceI el29 rfl ⟨rfl, ⟨_, rfl⟩⟩ hy25) ?_
  obtain ⟨r26, hr26, hm⟩ := Qv hm
  refine TL_callO [(1000, 12)] (c_spec_l00Own y25 r26 hr26) Try.call126 rfl rfl rfl rfl rfl rfl rfl rfl rfl rfl rfl rfl rfl ?_
  refine Qa rfl rfl rfl rfl (Xn pl75 z75 rfl rfl rfl rfl rfl) ?_
  refine Xk 13 z75 rfl rfl rfl rfl rfl rfl rfl ?_
  refine Qr sz75 rfl rfl rfl rfl rfl rfl rfl rfl rfl ?_
  refine Qe ?_
  refine Qn ?_
  refine Qn ?_
  refine Qc ?_
  obtain ⟨r28, hr28, hm⟩ := Qv hm
  refine QG (c_spec_l02Is (Term.mk p0 r26) r28 hr28) Try.call136 rfl rfl rfl rfl rfl ?_
  refine Qa rfl rfl rfl rfl (op_not rfl) ?_
  refine Qe ?_
  refine QI rfl (fun hq => ?_) (fun hq => ?_)
  ·replace hm := QO hq hm
   refine Qn ?_
   refine Qc ?_
   refine Qa rfl rfl rfl rfl (Xn pl75 z75 rfl rfl rfl rfl rfl) ?_
   refine Qr sz75 rfl rfl rfl rfl rfl rfl rfl rfl rfl ?_
   refine Qa rfl rfl rfl rfl (Qb rfl) ?_
   refine Qe ?_
   refine Xo 11 1 14 ⟨false, true⟩ 2 rfl rfl rfl (sz := 1) rfl rfl rfl rfl ?_
   refine Qo [4, 5] [11, 14] rfl rfl rfl rfl (by rw [hF]; rfl) ?_
   refine T_ren [(11, 11), (14, 1000)] rfl rfl rfl (by rw [hF]; rfl) ?_
   refine QB ?_
   obtain rfl := Qw hm
   refine ⟨[_, _], [1000], ⟨⟨_, _, rfl, rfl, .inr ⟨ag75, _, _, sz75, rfl, rfl⟩⟩, rfl, trivial⟩, ?_, rfl, rfl, rfl, rfl⟩
   rfl
  ·replace hm := QM hq hm
   refine QL ?_
   refine Qn ?_
   refine Qc ?_
   refine Qa rfl rfl rfl rfl (Qt ag75 sz75 rfl rfl rfl) ?_
   refine Qr sz75 rfl rfl rfl rfl rfl rfl rfl rfl rfl ?_
   refine Qa rfl rfl rfl rfl (Qb rfl) ?_
   refine Qe ?_
   refine Qo [4, 5] [11, 12] rfl rfl rfl rfl (by rw [hF]; rfl) ?_
   refine T_ren [(11, 11), (12, 1000)] rfl rfl rfl (by rw [hF]; rfl) ?_
   refine QB ?_
   obtain rfl := Qw hm
   refine ⟨[_, _], [1000], ⟨⟨_, _, rfl, rfl, .inr ⟨ag75, _, _, sz75, rfl, rfl⟩⟩, rfl, trivial⟩, ?_, rfl, rfl, rfl, rfl⟩
   rfl
 ·unfold m_spec_l02Make_L0 at hm
  refine Qn ?_
  refine Qn ?_
  refine Qc ?_
  refine Qa rfl rfl rfl rfl (Qd rfl) ?_
  refine Qa rfl rfl rfl rfl (op_gtr rfl rfl) ?_
  refine Qa rfl rfl rfl rfl (Qd rfl) ?_
  refine Qy 12 rfl rfl rfl (fun hq => ?_) (fun hq => ?_)
  ·replace hm := QO hq hm
   refine Qm rfl rfl ?_
   refine Qa rfl rfl rfl rfl (Qd rfl) ?_
   refine Qm rfl rfl ?_
   refine Qa rfl rfl rfl rfl (Qd rfl) ?_
   refine Qm rfl rfl ?_
   refine Qa rfl rfl rfl rfl (op_subW rfl rfl) ?_
   refine Qm rfl rfl ?_
   obtain ⟨x16, hx16, hm⟩ := Qv hm
   refine Qa rfl rfl rfl rfl (Xi el29 rfl rfl hx16 rfl) ?_
   refine Qm rfl rfl ?_
   refine Qa rfl rfl rfl rfl (Qj ag2 rfl rfl) ?_
   refine Qm rfl rfl ?_
   refine Qa rfl rfl rfl rfl (Xq rfl rfl) ?_
   refine Qa rfl rfl rfl rfl (Qp rfl rfl) ?_
   refine Qe ?_
   refine QI rfl (fun hq => ?_) (fun hq => ?_)
   ·replace hm := QO hq hm
    refine QL ?_
    refine Xd ?_
    refine Qc ?_
    refine Qa rfl rfl rfl rfl (Qd rfl) ?_
    refine Qa rfl rfl rfl rfl (op_subW rfl rfl) ?_
    refine Qa rfl rfl rfl rfl (Qb rfl) ?_
    refine Qe ?_
    refine Xw [0, 1, 4, 6] [11] rfl rfl rfl rfl (by rw [hF]; rfl) ?_
    obtain rfl := Qw hm
    have hn := Q7 hc0
    exact hn _ rfl
   ·replace hm := QM hq hm
    refine Qo [0, 1, 4, 6] [11] rfl rfl rfl rfl (by rw [hF]; rfl) ?_
    refine T_exit ?_
    obtain rfl := Qw hm
    have hn := Xv hc0
    exact hx0 s0 hn
  ·replace hm := QM hq hm
   refine Qh rfl rfl rfl rfl rfl rfl rfl ?_
   refine Qh rfl rfl rfl rfl rfl rfl rfl ?_
   refine Qh rfl rfl rfl rfl rfl rfl rfl ?_
   refine Qh rfl rfl rfl rfl rfl rfl rfl ?_
   refine Qh rfl rfl rfl rfl rfl rfl rfl ?_
   refine Qh rfl rfl rfl rfl rfl rfl rfl ?_
   refine Qa rfl rfl rfl rfl (Qk rfl rfl) ?_
   refine Qe ?_
   refine Xz rfl ?_
   refine Qo [0, 1, 4, 6] [11] rfl rfl rfl rfl (by rw [hF]; rfl) ?_
   refine T_exit ?_
   obtain rfl := Qw hm
   have hn := Xv hc0
   exact hx0 s0 hn
theorem c_spec_l00Src_one (p0 : l00Src) (p1 : Int) (out : Bool × l00Src) (hm : XF p0 p1 = some out) : ACall Try.prog 82 [.ptr 0 0 0, .int .i64 p1] [(0, .box [.sl 1 (List.map a_u8 p0.code), .int .i64 p0.at_, .int .u64 p0.seed])] (.bool out.1) [(0, .box [.sl 1 (List.map a_u8 out.2.code), .int .i64 out.2.at_, .int .u64 out.2.seed])] := by
 refine ACall.intro Try.func82 rfl Try.ntmps82 rfl (fun F hF => ?_)
 unfold XF at hm
 refine Qn ?_
 refine Qc ?_
 refine Qa rfl rfl rfl rfl (Qb rfl) ?_
 refine Qe ?_
 refine Qn ?_
 refine Qc ?_
 refine Qa rfl rfl rfl rfl (Qd rfl) ?_
 refine Qa rfl rfl rfl rfl (Qd rfl) ?_
 obtain ⟨r7, hr7, hm⟩ := Qv hm
 refine Q2 [(0, 0)] [] [] (QY p0 p1 r7 hr7) Try.call80 rfl rfl rfl rfl rfl ⟨rfl, trivial⟩ rfl rfl rfl rfl rfl rfl rfl rfl rfl rfl rfl ?_
 refine Qa rfl rfl rfl rfl (Xq rfl rfl) ?_
 refine Qa rfl rfl rfl rfl (Qb rfl) ?_
 refine Qe ?_
 refine Qo [4] [0] rfl rfl rfl rfl (by rw [hF]; rfl) ?_
 refine QB ?_
 obtain rfl := Qw hm
 refine ⟨[_], [0], ⟨rfl, trivial⟩, ?_, rfl, rfl, rfl, rfl⟩
 rfl
theorem c_spec_l00Src_among (p0 : l00Src) (p1 : List Int) (out : Int × l00Src) (hm : m_spec_l00Src_among p0 p1 = some out) : ACall Try.prog 83 [.ptr 0 0 0, .sl 1 (List.map Qf p1)] [(0, .box [.sl 1 (List.map a_u8 p0.code), .int .i64 p0.at_, .int .u64 p0.seed])] (.int .i64 out.1) [(0, .box [.sl 1 (List.map a_u8 out.2.code), .int .i64 out.2.at_, .int .u64 out.2.seed])] := by
 refine ACall.intro Try.func83 rfl Try.ntmps83 rfl (fun F hF => ?_)
 unfold m_spec_l00Src_among at hm
 refine Qn ?_
 refine Qc ?_
 refine Qa rfl rfl rfl rfl (Qb rfl) ?_
 refine Qe ?_
 refine Qn ?_
 refine Qc ?_
 refine Qa rfl rfl rfl rfl (Qd rfl) ?_
 refine Qa rfl rfl rfl rfl (Qd rfl) ?_
 refine Qa rfl rfl rfl rfl (Qd rfl) ?_
 refine Qa rfl rfl rfl rfl (Xm Try.underlying29 rfl (List.length_map _)) ?_
 refine Xy (fun _ _ _ hr => RelP.slLen (i := 7) rfl hr) (fun hlen8 => ?_)
 rw [List.length_map] at hlen8
 obtain ⟨r9, hr9, hm⟩ := Qv hm
 refine Q2 [(0, 0)] [] [] (QY p0 (p1.length : Int) r9 hr9) Try.call80 rfl rfl rfl rfl rfl ⟨rfl, trivial⟩ rfl rfl rfl rfl rfl rfl rfl rfl rfl rfl rfl ?_
 obtain ⟨x10, hx10, hm⟩ := Qv hm
 refine Qa rfl rfl rfl rfl (Xi el29 rfl rfl hx10 rfl) ?_
 refine Qa rfl rfl rfl rfl (Qj ag2 rfl rfl) ?_
 refine Qa rfl rfl rfl rfl (Qb rfl) ?_
 refine Qe ?_
 refine Qo [4] [0] rfl rfl rfl rfl (by rw [hF]; rfl) ?_
 refine QB ?_
 obtain rfl := Qw hm
 refine ⟨[_], [0], ⟨rfl, trivial⟩, ?_, rfl, rfl, rfl, rfl⟩
 rfl
theorem c_spec_l03DrawTerm (p0 : l00Src) (out : Term × l00Src) (hm : Xt p0 = some out) : ACall Try.prog 112 [.ptr 0 0 0] [(0, .box [.sl 1 (List.map a_u8 p0.code), .int .i64 p0.at_, .int .u64 p0.seed])] (.agg [.int .i64 out.1.Const, .ow 1000]) [(0, .box [.sl 1 (List.map a_u8 out.2.code), .int .i64 out.2.at_, .int .u64 out.2.seed]), (1000, .arr ⟨false, true⟩ 1 2 (List.map Qf out.1.Coeffs))] := by
 refine ACall.intro Try.func112 rfl Try.ntmps112 rfl (fun F hF => ?_)
 unfold Xt at hm
 refine Qn ?_
 refine Qc ?_
 refine Xk 11 z75 rfl rfl rfl rfl rfl rfl rfl ?_
 refine Qe ?_
 refine Qn ?_
 refine Qc ?_
 refine QD 12 (es := List.map Qf ([] : List Int)) el29 z2 rfl rfl rfl rfl rfl rfl rfl rfl rfl ?_
 refine Qa rfl rfl rfl rfl (Qb rfl) ?_
 refine Qe ?_
 refine Qn ?_
 refine Qn ?_
 refine Qc ?_
 refine Qa rfl rfl rfl rfl (Qd rfl) ?_
 obtain ⟨r9, hr9, hm⟩ := Qv hm
 refine Q2 [(0, 0)] [] [] (QY p0 (5 : Int) r9 hr9) Try.call80 rfl rfl rfl rfl rfl ⟨rfl, trivial⟩ rfl rfl rfl rfl rfl rfl rfl rfl rfl rfl rfl ?_
 refine Qa rfl rfl rfl rfl (Qb rfl) ?_
 refine Qe ?_
 refine Xd ?_
 refine Qo [0, 2, 3, 4] [0, 11, 12] rfl rfl rfl rfl (by rw [hF]; rfl) ?_
 refine T_loop ?_
 obtain ⟨u0, hl0, hm⟩ := Qv hm
 refine TR_iter2 (m_spec_l03DrawTerm_L0) (fun (s0 : (List Int) × Int × Int × (List Int) × Int) => ⟨[(0, .ptr 0 0 0), (2, .ptr 11 0 0), (3, .ow 12), (4, .int .i64 s0.2.2.2.2)], [(0, .box [.sl 1 (List.map a_u8 s0.1), .int .i64 s0.2.1, .int .u64 s0.2.2.1]), (11, .box [.int .i64 (0 : Int), .snil]), (12, .arr ⟨false, false⟩ 1 2 (List.map Qf s0.2.2.2.1))]⟩) (fun u0 => .exit 0) (fun u0 => ⟨[(0, .ptr 0 0 0), (2, .ptr 11 0 0), (3, .ow 12)], [(0, .box [.sl 1 (List.map a_u8 u0.1), .int .i64 u0.2.1, .int .u64 u0.2.2.1]), (11, .box [.int .i64 (0 : Int), .snil]), (12, .arr ⟨false, false⟩ 1 2 (List.map Qf u0.2.2.2))]⟩) (fun u0 => m_spec_l03DrawTerm_A0 u0 = some out) hl0 hm (fun u0 hm => ?_) (fun hx0 s0 c0 hm hc0 => ?_)
 ·unfold m_spec_l03DrawTerm_A0 at hm
  refine Qn ?_
  refine Qc ?_
  refine Qa rfl rfl rfl rfl (Qd rfl) ?_
  obtain ⟨r22, hr22, hm⟩ := Qv hm
  refine Q2 [(0, 0)] [] [] (QY (l00Src.mk u0.1 u0.2.1 u0.2.2.1) (9 : Int) r22 hr22) Try.call80 rfl rfl rfl rfl rfl ⟨rfl, trivial⟩ rfl rfl rfl rfl rfl rfl rfl rfl rfl rfl rfl ?_
  refine Qa rfl rfl rfl rfl (op_subW rfl rfl) ?_
  refine Qa rfl rfl rfl rfl (Qd rfl) ?_
  obtain ⟨r25, hr25, hm⟩ := Qv hm
  refine TL_callO [(1000, 16)] (c_spec_l02Make (w64 (r22.1 - (4 : Int))) u0.2.2.2 r25 hr25) Try.call134 rfl rfl rfl rfl rfl rfl rfl rfl rfl rfl rfl rfl rfl ?_
  refine Qa rfl rfl rfl rfl (Qd rfl) ?_
  refine Qa rfl rfl rfl rfl (QH rfl rfl) ?_
  refine Qa rfl rfl rfl rfl (QH rfl rfl) ?_
  refine Xk 17 z75 rfl rfl rfl rfl rfl rfl rfl ?_
  refine Qr sz75 rfl rfl rfl rfl rfl rfl rfl rfl rfl ?_
  refine Qa rfl rfl rfl rfl (Qb rfl) ?_
  refine Qe ?_
  refine Qn ?_
  refine Qn ?_
  refine Qc ?_
  refine Qa rfl rfl rfl rfl (Qd rfl) ?_
  obtain ⟨r29, hr29, hm⟩ := Qv hm
  refine Q2 [(0, 0)] [] [] (c_spec_l00Src_one r22.2 (30 : Int) r29 hr29) Try.call82 rfl rfl rfl rfl rfl ⟨rfl, trivial⟩ rfl rfl rfl rfl rfl rfl rfl rfl rfl rfl rfl ?_
  refine Qe ?_
  refine QI rfl (fun hq => ?_) (fun hq => ?_)
  ·replace hm := QO hq hm
   refine Qc ?_
   refine Qa rfl rfl rfl rfl (Qd rfl) ?_
   refine QD 18 (es := List.map Qf [(1000000 : Int), (-1000000 : Int)]) el29 z2 rfl rfl rfl rfl rfl rfl rfl rfl rfl ?_
   refine TL_freeze 18 (by rw [hF]; rfl) rfl rfl rfl ?_
   obtain ⟨r32, hr32, hm⟩ := Qv hm
   refine Q2 [(0, 0)] [] [] (c_spec_l00Src_among r29.2 [(1000000 : Int), (-1000000 : Int)] r32 hr32) Try.call83 rfl rfl rfl rfl rfl ⟨rfl, trivial⟩ rfl rfl rfl rfl rfl rfl rfl rfl rfl rfl rfl ?_
   refine Qa rfl rfl rfl rfl (Qi fa75_0 rfl rfl) ?_
   refine Qr sz2 rfl rfl rfl rfl rfl rfl rfl rfl rfl ?_
   refine Qe ?_
   refine Qn ?_
   refine Qc ?_
   refine Qa rfl rfl rfl rfl (Qt ag75 sz75 rfl rfl rfl) ?_
   refine Qr sz75 rfl rfl rfl rfl rfl rfl rfl rfl rfl ?_
   refine Qe ?_
   refine Qo [2] [0, 11, 16] rfl rfl rfl rfl (by rw [hF]; rfl) ?_
   refine T_ren [(0, 0), (11, 11), (16, 1000)] rfl rfl rfl (by rw [hF]; rfl) ?_
   refine QB ?_
   obtain rfl := Qw hm
   refine ⟨[_], [0, 1000], ⟨⟨_, _, rfl, rfl, .inr ⟨ag75, _, _, sz75, rfl, rfl⟩⟩, trivial⟩, ?_, rfl, rfl, rfl, rfl⟩
   rfl
  ·replace hm := QM hq hm
   refine QL ?_
   refine Qn ?_
   refine Qc ?_
   refine Qa rfl rfl rfl rfl (Qt ag75 sz75 rfl rfl rfl) ?_
   refine Qr sz75 rfl rfl rfl rfl rfl rfl rfl rfl rfl ?_
   refine Qe ?_
   refine Qo [2] [0, 11, 16] rfl rfl rfl rfl (by rw [hF]; rfl) ?_
   refine T_ren [(0, 0), (11, 11), (16, 1000)] rfl rfl rfl (by rw [hF]; rfl) ?_
   refine QB ?_
   obtain rfl := Qw hm
   refine ⟨[_], [0, 1000], ⟨⟨_, _, rfl, rfl, .inr ⟨ag75, _, _, sz75, rfl, rfl⟩⟩, trivial⟩, ?_, rfl, rfl, rfl, rfl⟩
   rfl
 ·unfold m_spec_l03DrawTerm_L0 at hm
  refine Qn ?_
  refine Qn ?_
  refine Qc ?_
  refine Qa rfl rfl rfl rfl (Qd rfl) ?_
  refine Qa rfl rfl rfl rfl (op_gtr rfl rfl) ?_
  refine Qe ?_
  refine QI rfl (fun hq => ?_) (fun hq => ?_)
  ·replace hm := QO hq hm
   refine QL ?_
   refine Qn ?_
   refine Xd ?_
   refine Qc ?_
   refine Qa rfl rfl rfl rfl (Qd rfl) ?_
   refine Qa rfl rfl rfl rfl (Qd rfl) ?_
   obtain ⟨r16, hr16, hm⟩ := Qv hm
   refine Q2 [(0, 0)] [] [] (QY (l00Src.mk s0.1 s0.2.1 s0.2.2.1) (5 : Int) r16 hr16) Try.call80 rfl rfl rfl rfl rfl ⟨rfl, trivial⟩ rfl rfl rfl rfl rfl rfl rfl rfl rfl rfl rfl ?_
   refine Qa rfl rfl rfl rfl (op_subW rfl rfl) ?_
   refine QD 15 (es := List.map Qf [(w64 (r16.1 - (2 : Int)))]) el29 z2 rfl rfl rfl rfl rfl rfl rfl rfl rfl ?_
   obtain ⟨q19, hq19, hm⟩ := Qv hm
   refine Xc (f := Qf) (a := s0.2.2.2.1) (b := [(w64 (r16.1 - (2 : Int)))]) el29 z2 rfl rfl rfl rfl rfl rfl rfl (Xa hq19) rfl rfl rfl rfl rfl ?_
   refine Qa rfl rfl rfl rfl (Qb rfl) ?_
   refine Qe ?_
   refine Qc ?_
   refine Qa rfl rfl rfl rfl (Qd rfl) ?_
   refine Qa rfl rfl rfl rfl (op_subW rfl rfl) ?_
   refine Qa rfl rfl rfl rfl (Qb rfl) ?_
   refine Qe ?_
   refine Xw [0, 2, 3, 4] [0, 11, 12] rfl rfl rfl rfl (by rw [hF]; rfl) ?_
   obtain rfl := Qw hm
   have hn := Q7 hc0
   exact hn _ rfl
  ·replace hm := QM hq hm
   refine Qo [0, 2, 3] [0, 11, 12] rfl rfl rfl rfl (by rw [hF]; rfl) ?_
   refine T_exit ?_
   obtain rfl := Qw hm
   have hn := Xv hc0
   exact hx0 (s0.1, s0.2.1, s0.2.2.1, s0.2.2.2.1) hn
theorem c_spec_l03DrawFacts (p0 : l00Src) (out : (List Term) × l00Src) (hm : m_spec_l03DrawFacts p0 = some out) : ACall Try.prog 79 [.ptr 0 0 0] [(0, .box [.sl 1 (List.map a_u8 p0.code), .int .i64 p0.at_, .int .u64 p0.seed])] (.ow 1000) [(0, .box [.sl 1 (List.map a_u8 out.2.code), .int .i64 out.2.at_, .int .u64 out.2.seed]), (1000, .arr ⟨false, true⟩ 2 75 (List.map Qq out.1))] := by
 refine ACall.intro Try.func79 rfl Try.ntmps79 rfl (fun F hF => ?_)
 unfold m_spec_l03DrawFacts at hm
 refine Qn ?_
 refine Qc ?_
 refine Qa rfl rfl rfl rfl (Qb rfl) ?_
 refine Qe ?_
 refine Qn ?_
 refine Qc ?_
 refine QD 11 (es := List.map Qq ([] : List Term)) el24 z75 rfl rfl rfl rfl rfl rfl rfl rfl rfl ?_
 refine Qa rfl rfl rfl rfl (Qb rfl) ?_
 refine Qe ?_
 refine Qn ?_
 refine Qn ?_
 refine Qc ?_
 refine Qa rfl rfl rfl rfl (Qd rfl) ?_
 obtain ⟨r7, hr7, hm⟩ := Qv hm
 refine Q2 [(0, 0)] [] [] (QY p0 (3 : Int) r7 hr7) Try.call80 rfl rfl rfl rfl rfl ⟨rfl, trivial⟩ rfl rfl rfl rfl rfl rfl rfl rfl rfl rfl rfl ?_
 refine Qa rfl rfl rfl rfl (Qb rfl) ?_
 refine Qe ?_
 refine Xd ?_
 refine Qo [0, 3, 4] [0, 11] rfl rfl rfl rfl (by rw [hF]; rfl) ?_
 refine T_deepen 11 (p' := false) (List.map Qq ([] : List Term)) (by rw [hF]; rfl) rfl (ElR.nil) rfl rfl rfl ?_
 refine T_loop ?_
 obtain ⟨u0, hl0, hm⟩ := Qv hm
 refine TR_iter2 (m_spec_l03DrawFacts_L0) (fun (s0 : (List Int) × Int × Int × (List Term) × Int) => ⟨[(0, .ptr 0 0 0), (3, .ow 11), (4, .int .i64 s0.2.2.2.2)], [(0, .box [.sl 1 (List.map a_u8 s0.1), .int .i64 s0.2.1, .int .u64 s0.2.2.1]), (11, .arr ⟨false, true⟩ 2 75 (List.map Qq s0.2.2.2.1))]⟩) (fun u0 => .exit 0) (fun u0 => ⟨[(3, .ow 11)], [(0, .box [.sl 1 (List.map a_u8 u0.2.1), .int .i64 u0.2.2.1, .int .u64 u0.2.2.2]), (11, .arr ⟨false, true⟩ 2 75 (List.map Qq u0.1))]⟩) (fun u0 => m_spec_l03DrawFacts_A0 u0 = some out) hl0 hm (fun u0 hm => ?_) (fun hx0 s0 c0 hm hc0 => ?_)
 ·unfold m_spec_l03DrawFacts_A0 at hm
  refine Qn ?_
  refine Qc ?_
  refine Qa rfl rfl rfl rfl (Qd rfl) ?_
  refine Qa rfl rfl rfl rfl (Qb rfl) ?_
  refine Qe ?_
  refine Qo [2] [0, 11] rfl rfl rfl rfl (by rw [hF]; rfl) ?_
  refine T_ren [(0, 0), (11, 1000)] rfl rfl rfl (by rw [hF]; rfl) ?_
  refine QB ?_
  obtain rfl := Qw hm
  refine ⟨[_], [0, 1000], ⟨rfl, trivial⟩, ?_, rfl, rfl, rfl, rfl⟩
  rfl
 ·unfold m_spec_l03DrawFacts_L0 at hm
  refine Qn ?_
  refine Qn ?_
  refine Qc ?_
  refine Qa rfl rfl rfl rfl (Qd rfl) ?_
  refine Qa rfl rfl rfl rfl (op_gtr rfl rfl) ?_
  refine Qe ?_
  refine QI rfl (fun hq => ?_) (fun hq => ?_)
  ·replace hm := QO hq hm
   refine QL ?_
   refine Qn ?_
   refine Xd ?_
   refine Qc ?_
   refine Qa rfl rfl rfl rfl (Qd rfl) ?_
   refine Qa rfl rfl rfl rfl (Qd rfl) ?_
   obtain ⟨r14, hr14, hm⟩ := Qv hm
   refine Q2 [(0, 0)] [(1000, 16)] [] (c_spec_l03DrawTerm (l00Src.mk s0.1 s0.2.1 s0.2.2.1) r14 hr14) Try.call112 rfl rfl rfl rfl rfl ⟨rfl, trivial⟩ rfl rfl rfl rfl rfl rfl rfl rfl rfl rfl rfl ?_
   refine TL_buildSliceD (ids := [16]) (es := List.map Qq [r14.1]) 17 el24 z75 rfl rfl rfl rfl rfl rfl (by rw [hF]; intro j hj; simp only [List.mem_cons, List.not_mem_nil, or_false] at hj; rcases hj with rfl <;> rfl) rfl rfl rfl rfl rfl rfl ?_
   obtain ⟨q16, hq16, hm⟩ := Qv hm
   refine TL_appendDT (f := Qq) (a := s0.2.2.2.1) (b := [r14.1]) el24 z75 rfl rfl rfl rfl rfl rfl rfl rfl (by rw [hF]; rfl) (Xa hq16) rfl rfl rfl rfl rfl ?_
   refine Qa rfl rfl rfl rfl (Qb rfl) ?_
   refine Qe ?_
   refine Qc ?_
   refine Qa rfl rfl rfl rfl (Qd rfl) ?_
   refine Qa rfl rfl rfl rfl (op_subW rfl rfl) ?_
   refine Qa rfl rfl rfl rfl (Qb rfl) ?_
   refine Qe ?_
   refine Xw [0, 3, 4] [0, 11] rfl rfl rfl rfl (by rw [hF]; rfl) ?_
   obtain rfl := Qw hm
   have hn := Q7 hc0
   exact hn _ rfl
  ·replace hm := QM hq hm
   refine Qo [3] [0, 11] rfl rfl rfl rfl (by rw [hF]; rfl) ?_
   refine T_exit ?_
   obtain rfl := Qw hm
   have hn := Xv hc0
   exact hx0 (s0.2.2.2.1, s0.1, s0.2.1, s0.2.2.1) hn
theorem c_spec_l03DrawIndex (p0 : l00Src) (out : Term × l00Src) (hm : m_spec_l03DrawIndex p0 = some out) : ACall Try.prog 114 [.ptr 0 0 0] [(0, .box [.sl 1 (List.map a_u8 p0.code), .int .i64 p0.at_, .int .u64 p0.seed])] (.agg [.int .i64 out.1.Const, .ow 1000]) [(0, .box [.sl 1 (List.map a_u8 out.2.code), .int .i64 out.2.at_, .int .u64 out.2.seed]), (1000, .arr ⟨false, true⟩ 1 2 (List.map Qf out.1.Coeffs))] := by
 refine ACall.intro Try.func114 rfl Try.ntmps114 rfl (fun F hF => ?_)
 unfold m_spec_l03DrawIndex at hm
 refine Qn ?_
 refine Qc ?_
 refine Xk 11 z75 rfl rfl rfl rfl rfl rfl rfl ?_
 refine Qe ?_
 refine Qn ?_
 refine Qn ?_
 refine Qc ?_
 refine Qa rfl rfl rfl rfl (Qd rfl) ?_
 obtain ⟨r4, hr4, hm⟩ := Qv hm
 refine Q2 [(0, 0)] [] [] (c_spec_l00Src_one p0 (2 : Int) r4 hr4) Try.call82 rfl rfl rfl rfl rfl ⟨rfl, trivial⟩ rfl rfl rfl rfl rfl rfl rfl rfl rfl rfl rfl ?_
 refine Qe ?_
 refine QI rfl (fun hq => ?_) (fun hq => ?_)
 ·replace hm := QO hq hm
  refine Qn ?_
  refine Qc ?_
  refine Qa rfl rfl rfl rfl (Qd rfl) ?_
  obtain ⟨r6, hr6, hm⟩ := Qv hm
  refine Q2 [(0, 0)] [] [] (QY r4.2 (8 : Int) r6 hr6) Try.call80 rfl rfl rfl rfl rfl ⟨rfl, trivial⟩ rfl rfl rfl rfl rfl rfl rfl rfl rfl rfl rfl ?_
  refine Qa rfl rfl rfl rfl (Xn pl75 z75 rfl rfl rfl rfl rfl) ?_
  refine Qr sz75 rfl rfl rfl rfl rfl rfl rfl rfl rfl ?_
  refine Qe ?_
  refine Xo 11 1 12 ⟨false, true⟩ 2 rfl rfl rfl (sz := 1) rfl rfl rfl rfl ?_
  refine Qo [2] [0, 11, 12] rfl rfl rfl rfl (by rw [hF]; rfl) ?_
  refine T_ren [(0, 0), (11, 11), (12, 1000)] rfl rfl rfl (by rw [hF]; rfl) ?_
  refine QB ?_
  obtain rfl := Qw hm
  refine ⟨[_], [0, 1000], ⟨⟨_, _, rfl, rfl, .inr ⟨ag75, _, _, sz75, rfl, rfl⟩⟩, trivial⟩, ?_, rfl, rfl, rfl, rfl⟩
  rfl
 ·replace hm := QM hq hm
  refine QL ?_
  refine Qn ?_
  refine Qn ?_
  refine Qc ?_
  refine Qa rfl rfl rfl rfl (Qd rfl) ?_
  obtain ⟨r9, hr9, hm⟩ := Qv hm
  refine Q2 [(0, 0)] [] [] (c_spec_l00Src_one r4.2 (2 : Int) r9 hr9) Try.call82 rfl rfl rfl rfl rfl ⟨rfl, trivial⟩ rfl rfl rfl rfl rfl rfl rfl rfl rfl rfl rfl ?_
  refine Qe ?_
  refine QI rfl (fun hq => ?_) (fun hq => ?_)
  ·replace hm := QO hq hm
   refine Qn ?_
   refine Qc ?_
   refine Qa rfl rfl rfl rfl (Qd rfl) ?_
   obtain ⟨r11, hr11, hm⟩ := Qv hm
   refine Q2 [(0, 0)] [] [] (QY r9.2 (3 : Int) r11 hr11) Try.call80 rfl rfl rfl rfl rfl ⟨rfl, trivial⟩ rfl rfl rfl rfl rfl rfl rfl rfl rfl rfl rfl ?_
   refine QD 13 (es := List.map Qf [(1 : Int)]) el29 z2 rfl rfl rfl rfl rfl rfl rfl rfl rfl ?_
   refine Qa rfl rfl rfl rfl (Xn pl75 z75 rfl rfl rfl rfl rfl) ?_
   refine Qr sz75 rfl rfl rfl rfl rfl rfl rfl rfl rfl ?_
   refine Qe ?_
   refine Qo [2] [0, 11, 13] rfl rfl rfl rfl (by rw [hF]; rfl) ?_
   refine T_deepen 13 (p' := false) (List.map Qf [(1 : Int)]) (by rw [hF]; rfl) rfl (ElR.map (f := Qf) (g := Qf) (fun _ => ⟨⟨rfl, rfl⟩, trivial⟩) [(1 : Int)]) rfl rfl rfl ?_
   refine T_ren [(0, 0), (11, 11), (13, 1000)] rfl rfl rfl (by rw [hF]; rfl) ?_
   refine QB ?_
   obtain rfl := Qw hm
   refine ⟨[_], [0, 1000], ⟨⟨_, _, rfl, rfl, .inr ⟨ag75, _, _, sz75, rfl, rfl⟩⟩, trivial⟩, ?_, rfl, rfl, rfl, rfl⟩
   rfl
  ·replace hm := QM hq hm
   refine QL ?_
   refine Qn ?_
   refine Qc ?_
   refine Qa rfl rfl rfl rfl (Qd rfl) ?_
   obtain ⟨r15, hr15, hm⟩ := Qv hm
   refine Q2 [(0, 0)] [(1000, 14)] [] (c_spec_l03DrawTerm r9.2 r15 hr15) Try.call112 rfl rfl rfl rfl rfl ⟨rfl, trivial⟩ rfl rfl rfl rfl rfl rfl rfl rfl rfl rfl rfl ?_
   refine Qr sz75 rfl rfl rfl rfl rfl rfl rfl rfl rfl ?_
   refine Qe ?_
   refine Qo [2] [0, 11, 14] rfl rfl rfl rfl (by rw [hF]; rfl) ?_
   refine T_ren [(0, 0), (11, 11), (14, 1000)] rfl rfl rfl (by rw [hF]; rfl) ?_
   refine QB ?_
   obtain rfl := Qw hm
   refine ⟨[_], [0, 1000], ⟨⟨_, _, rfl, rfl, .inr ⟨ag75, _, _, sz75, rfl, rfl⟩⟩, trivial⟩, ?_, rfl, rfl, rfl, rfl⟩
   rfl
theorem c_spec_l03Below (p0 : Int) (out : Int) (hm : m_spec_l03Below p0 = some out) : ACall Try.prog 96 [.int .i64 p0] [] (.int .i64 out) [] := by
 refine ACall.intro Try.func96 rfl Try.ntmps96 rfl (fun F hF => ?_)
 unfold m_spec_l03Below at hm
 refine Qn ?_
 refine Qc ?_
 refine Qa rfl rfl rfl rfl (Qb rfl) ?_
 refine Qe ?_
 refine Qn ?_
 refine Qn ?_
 refine Qc ?_
 refine Qa rfl rfl rfl rfl (Qd rfl) ?_
 refine Qe ?_
 refine Xd ?_
 refine T_join (fun (j0 : Bool) => ⟨[(3, .int .i64 p0), (4, .bool j0)], []⟩) (fun j0 => m_spec_l03Below_J0 p0 j0 = some out) (fun j0 hm => ?_) (fun hj0 => ?_)
 ·unfold m_spec_l03Below_J0 at hm
  refine QI rfl (fun hq => ?_) (fun hq => ?_)
  ·replace hm := QO hq hm
   refine Qn ?_
   refine Qc ?_
   refine Qa rfl rfl rfl rfl (Qb rfl) ?_
   refine Qe ?_
   refine Qo [2] [] rfl rfl rfl rfl (by rw [hF]; rfl) ?_
   refine QB ?_
   obtain rfl := Qw hm
   refine ⟨[_], [], ⟨rfl, trivial⟩, ?_, rfl, rfl, rfl, rfl⟩
   rfl
  ·replace hm := QM hq hm
   refine Qn ?_
   refine Qc ?_
   refine Qa rfl rfl rfl rfl (Xq rfl rfl) ?_
   refine Qa rfl rfl rfl rfl (Qb rfl) ?_
   refine Qe ?_
   refine QI rfl (fun hq => ?_) (fun hq => ?_)
   ·replace hm := QO hq hm
    refine Qn ?_
    refine Qc ?_
    refine Qa rfl rfl rfl rfl (Qb rfl) ?_
    refine Qe ?_
    refine Qo [2] [] rfl rfl rfl rfl (by rw [hF]; rfl) ?_
    refine QB ?_
    obtain rfl := Qw hm
    refine ⟨[_], [], ⟨rfl, trivial⟩, ?_, rfl, rfl, rfl, rfl⟩
    rfl
   ·replace hm := QM hq hm
    refine QL ?_
    refine Qn ?_
    refine Qc ?_
    refine Qa rfl rfl rfl rfl (Qb rfl) ?_
    refine Qe ?_
    refine Qo [2] [] rfl rfl rfl rfl (by rw [hF]; rfl) ?_
    refine QB ?_
    obtain rfl := Qw hm
    refine ⟨[_], [], ⟨rfl, trivial⟩, ?_, rfl, rfl, rfl, rfl⟩
    rfl
 ·refine Qn ?_
  refine Qc ?_
  refine Qa rfl rfl rfl rfl (Xq rfl rfl) ?_
  refine Qa rfl rfl rfl rfl (Qb rfl) ?_
  refine Qe ?_
  refine QI rfl (fun hq => ?_) (fun hq => ?_)
  ·replace hm := QO hq hm
   refine QL ?_
   refine Qo [3, 4] [] rfl rfl rfl rfl (by rw [hF]; rfl) ?_
   exact hj0 (decide (p0 = (1 : Int))) hm
  ·replace hm := QM hq hm
   refine Qc ?_
   refine Qa rfl rfl rfl rfl (Xq rfl rfl) ?_
   refine Qa rfl rfl rfl rfl (Qb rfl) ?_
   refine Qe ?_
   refine Qo [3, 4] [] rfl rfl rfl rfl (by rw [hF]; rfl) ?_
   exact hj0 (decide (p0 = (7 : Int))) hm
theorem c_spec_l03DrawLoop (p0 : l00Src) (out : (List Stmt) × l00Src) (hm : m_spec_l03DrawLoop p0 = some out) : ACall Try.prog 115 [.ptr 0 0 0] [(0, .box [.sl 1 (List.map a_u8 p0.code), .int .i64 p0.at_, .int .u64 p0.seed])] (.sl 8 (List.map QZ out.1)) [(0, .box [.sl 1 (List.map a_u8 out.2.code), .int .i64 out.2.at_, .int .u64 out.2.seed])] := by
 refine ACall.intro Try.func115 rfl Try.ntmps115 rfl (fun F hF => ?_)
 unfold m_spec_l03DrawLoop at hm
 refine Qn ?_
 refine Qc ?_
 refine Qa rfl rfl rfl rfl (Qb rfl) ?_
 refine Qe ?_
 refine Qn ?_
 refine Qc ?_
 refine Qa rfl rfl rfl rfl (Qd rfl) ?_
 obtain ⟨r10, hr10, hm⟩ := Qv hm
 refine Q2 [(0, 0)] [] [] (QY p0 (4 : Int) r10 hr10) Try.call80 rfl rfl rfl rfl rfl ⟨rfl, trivial⟩ rfl rfl rfl rfl rfl rfl rfl rfl rfl rfl rfl ?_
 refine Qa rfl rfl rfl rfl (Qb rfl) ?_
 refine Qe ?_
 refine Qn ?_
 refine Qc ?_
 refine Qa rfl rfl rfl rfl (Qd rfl) ?_
 obtain ⟨k12, hk12, hm⟩ := Qv hm
 refine TL_make 11 (n := k12) el29 z2 rfl rfl rfl rfl rfl rfl (makeI_spec hk12).1 (makeI_spec hk12).1 (makeI_spec hk12).2 rfl rfl rfl rfl ?_
 refine TL_nils 11 (List.map Qf (List.replicate k12 (0 : Int))) (by rw [hF]; rfl) rfl (ElR.rep (z := .int .i64 (0 : Int)) (g := Qf) (x := (0 : Int)) ⟨⟨rfl, rfl⟩, trivial⟩ k12) rfl ?_
 refine Qa rfl rfl rfl rfl (Qb rfl) ?_
 refine Qe ?_
 refine Qn ?_
 refine Qc ?_
 refine Qa rfl rfl rfl rfl (Qd rfl) ?_
 refine QD 12 (es := List.map Qf [(1 : Int)]) el29 z2 rfl rfl rfl rfl rfl rfl rfl rfl rfl ?_
 obtain ⟨q15, hq15, hm⟩ := Qv hm
 refine Xc (f := Qf) (a := (List.replicate k12 (0 : Int))) (b := [(1 : Int)]) el29 z2 rfl rfl rfl rfl rfl rfl rfl (Xa hq15) rfl rfl rfl rfl rfl ?_
 refine Qa rfl rfl rfl rfl (Xn pl75 z75 rfl rfl rfl rfl rfl) ?_
 refine Xk 13 z75 rfl rfl rfl rfl rfl rfl rfl ?_
 refine Qr sz75 rfl rfl rfl rfl rfl rfl rfl rfl rfl ?_
 refine Qe ?_
 refine Qn ?_
 refine Qc ?_
 refine Qa rfl rfl rfl rfl (Qd rfl) ?_
 obtain ⟨k18, hk18, hm⟩ := Qv hm
 refine TL_make 14 (n := k18) el29 z2 rfl rfl rfl rfl rfl rfl (makeI_spec hk18).1 (makeI_spec hk18).1 (makeI_spec hk18).2 rfl rfl rfl rfl ?_
 refine TL_nils 14 (List.map Qf (List.replicate k18 (0 : Int))) (by rw [hF]; rfl) rfl (ElR.rep (z := .int .i64 (0 : Int)) (g := Qf) (x := (0 : Int)) ⟨⟨rfl, rfl⟩, trivial⟩ k18) rfl ?_
 refine QD 15 (es := List.map Qf [(1 : Int)]) el29 z2 rfl rfl rfl rfl rfl rfl rfl rfl rfl ?_
 obtain ⟨q20, hq20, hm⟩ := Qv hm
 refine Xc (f := Qf) (a := (List.replicate k18 (0 : Int))) (b := [(1 : Int)]) el29 z2 rfl rfl rfl rfl rfl rfl rfl (Xa hq20) rfl rfl rfl rfl rfl ?_
 refine Qa rfl rfl rfl rfl (Xn pl75 z75 rfl rfl rfl rfl rfl) ?_
 refine Xk 16 z75 rfl rfl rfl rfl rfl rfl rfl ?_
 refine Qr sz75 rfl rfl rfl rfl rfl rfl rfl rfl rfl ?_
 refine Qe ?_
 refine Qn ?_
 refine Qc ?_
 refine Qa rfl rfl rfl rfl (Qd rfl) ?_
 obtain ⟨k23, hk23, hm⟩ := Qv hm
 refine TL_make 17 (n := k23) el29 z2 rfl rfl rfl rfl rfl rfl (makeI_spec hk23).1 (makeI_spec hk23).1 (makeI_spec hk23).2 rfl rfl rfl rfl ?_
 refine TL_nils 17 (List.map Qf (List.replicate k23 (0 : Int))) (by rw [hF]; rfl) rfl (ElR.rep (z := .int .i64 (0 : Int)) (g := Qf) (x := (0 : Int)) ⟨⟨rfl, rfl⟩, trivial⟩ k23) rfl ?_
 refine QD 18 (es := List.map Qf [(1 : Int)]) el29 z2 rfl rfl rfl rfl rfl rfl rfl rfl rfl ?_
 obtain ⟨q25, hq25, hm⟩ := Qv hm
 refine Xc (f := Qf) (a := (List.replicate k23 (0 : Int))) (b := [(1 : Int)]) el29 z2 rfl rfl rfl rfl rfl rfl rfl (Xa hq25) rfl rfl rfl rfl rfl ?_
 refine Qa rfl rfl rfl rfl (Xn pl75 z75 rfl rfl rfl rfl rfl) ?_
 refine Xk 19 z75 rfl rfl rfl rfl rfl rfl rfl ?_
 refine Qr sz75 rfl rfl rfl rfl rfl rfl rfl rfl rfl ?_
 refine Qe ?_
 refine Qn ?_
 refine Qc ?_
 refine Qa rfl rfl rfl rfl (Qt ag75 sz75 rfl rfl rfl) ?_
 refine Qa rfl rfl rfl rfl (Qt ag75 sz75 rfl rfl rfl) ?_
 refine TL_freeze 17 (by rw [hF]; rfl) rfl rfl rfl ?_
 refine QD 20 (es := List.map Qq ([(Term.mk (1 : Int) ((List.replicate k23 (0 : Int)) ++ [(1 : Int)]))])) el24 z75 rfl rfl rfl rfl rfl rfl rfl rfl rfl ?_
 refine Qa rfl rfl rfl rfl (Xn pl77 z77 rfl rfl rfl rfl rfl) ?_
 refine TL_freeze 11 (by rw [hF]; rfl) rfl rfl rfl ?_
 refine TL_freeze 20 (by rw [hF]; rfl) rfl rfl rfl ?_
 refine TL_nilAt 30 (x' := .agg [.int .i64 (8 : Int), .int .i64 (0 : Int), .int .i64 (0 : Int), .int .i64 (0 : Int), .sl 1 (List.map Qf ((List.replicate k12 (0 : Int)) ++ [(1 : Int)])), .int .i64 (0 : Int), .sl 1 (List.map Qf ([] : List Int)), .sl 2 (List.map Qq ([(Term.mk (1 : Int) ((List.replicate k23 (0 : Int)) ++ [(1 : Int)]))]))]) rfl (⟨_, rfl, ⟨_, _, rfl, rfl, ⟨_, _, rfl, rfl, ⟨_, _, rfl, rfl, ⟨_, _, rfl, rfl, ⟨_, _, rfl, rfl, ⟨_, _, rfl, rfl, ⟨_, _, rfl, .inr ⟨_, rfl⟩, ⟨_, _, rfl, rfl, rfl⟩⟩⟩⟩⟩⟩⟩⟩⟩) rfl ?_
 refine QD 21 (es := List.map QZ ([(Stmt.mk (8 : Int) (0 : Int) (0 : Int) (Term.mk (0 : Int) ((List.replicate k12 (0 : Int)) ++ [(1 : Int)])) (Term.mk (0 : Int) ([] : List Int)) ([(Term.mk (1 : Int) ((List.replicate k23 (0 : Int)) ++ [(1 : Int)]))]))])) el25 z77 rfl rfl rfl rfl rfl rfl rfl rfl rfl ?_
 refine Qa rfl rfl rfl rfl (Qb rfl) ?_
 refine Qe ?_
 refine Qn ?_
 refine Qc ?_
 refine Qa rfl rfl rfl rfl (Qd rfl) ?_
 refine Qa rfl rfl rfl rfl (Xn pl77 z77 rfl rfl rfl rfl rfl) ?_
 refine TL_ownNilAt 33 4 23 ⟨false, true⟩ 2 rfl rfl rfl (sz := 1) rfl rfl rfl rfl ?_
 refine TL_ownNilAt 33 6 24 ⟨false, true⟩ 2 rfl rfl rfl (sz := 1) rfl rfl rfl rfl ?_
 refine TL_ownNilAt 33 7 25 ⟨false, true⟩ 75 rfl rfl rfl (sz := 2) rfl rfl rfl rfl ?_
 refine TL_buildSliceD (ids := [23, 24, 25]) (es := List.map QZ ([(Stmt.mk (1 : Int) (0 : Int) (0 : Int) (Term.mk (0 : Int) ([] : List Int)) (Term.mk (0 : Int) ([] : List Int)) ([] : List Term))])) 22 el25 z77 rfl rfl rfl rfl rfl rfl (by rw [hF]; intro j hj; simp only [List.mem_cons, List.not_mem_nil, or_false] at hj; rcases hj with rfl | rfl | rfl <;> rfl) rfl rfl rfl rfl rfl rfl ?_
 refine TL_freeze 22 (by rw [hF]; rfl) rfl rfl rfl ?_
 obtain ⟨q35, hq35, hm⟩ := Qv hm
 refine Xc (f := QZ) (a := [(Stmt.mk (8 : Int) (0 : Int) (0 : Int) (Term.mk (0 : Int) ((List.replicate k12 (0 : Int)) ++ [(1 : Int)])) (Term.mk (0 : Int) ([] : List Int)) ([(Term.mk (1 : Int) ((List.replicate k23 (0 : Int)) ++ [(1 : Int)]))]))]) (b := [(Stmt.mk (1 : Int) (0 : Int) (0 : Int) (Term.mk (0 : Int) ([] : List Int)) (Term.mk (0 : Int) ([] : List Int)) ([] : List Term))]) el25 z77 rfl rfl rfl rfl rfl rfl rfl (Xa hq35) rfl rfl rfl rfl rfl ?_
 refine Qa rfl rfl rfl rfl (Qb rfl) ?_
 refine Qe ?_
 refine T_join (fun (j0 : (List Stmt) × (List Int) × Int × Int) => ⟨[(3, .int .i64 r10.1), (6, .ptr 16 0 0), (8, .ow 21)], [(0, .box [.sl 1 (List.map a_u8 j0.2.1), .int .i64 j0.2.2.1, .int .u64 j0.2.2.2]), (14, .arr ⟨false, false⟩ 1 2 (List.map Qf ((List.replicate k18 (0 : Int)) ++ [(1 : Int)]))), (16, .box [.int .i64 (-1 : Int), .ow 14]), (21, .arr ⟨false, false⟩ 8 77 (List.map QZ j0.1))]⟩) (fun j0 => m_spec_l03DrawLoop_J0 r10 k18 j0 = some out) (fun j0 hm => ?_) (fun hj0 => ?_)
 ·unfold m_spec_l03DrawLoop_J0 at hm
  refine Qn ?_
  refine Qc ?_
  refine Qa rfl rfl rfl rfl (Qd rfl) ?_
  refine Qa rfl rfl rfl rfl (Qd rfl) ?_
  refine Qa rfl rfl rfl rfl (Qt ag75 sz75 rfl rfl rfl) ?_
  refine Qa rfl rfl rfl rfl (Xn pl77 z77 rfl rfl rfl rfl rfl) ?_
  refine TL_ownNilAt 54 6 671 ⟨false, true⟩ 2 rfl rfl rfl (sz := 1) rfl rfl rfl rfl ?_
  refine TL_ownNilAt 54 7 672 ⟨false, true⟩ 75 rfl rfl rfl (sz := 2) rfl rfl rfl rfl ?_
  refine TL_deepen 14 (p' := false) (List.map Qf ((List.replicate k18 (0 : Int)) ++ [(1 : Int)])) (by rw [hF]; rfl) rfl (ElR.map (f := Qf) (g := Qf) (fun _ => ⟨⟨rfl, rfl⟩, trivial⟩) ((List.replicate k18 (0 : Int)) ++ [(1 : Int)])) rfl rfl rfl ?_
  refine TL_buildSliceD (ids := [14, 671, 672]) (es := List.map QZ ([(Stmt.mk (2 : Int) r10.1 (0 : Int) (Term.mk (-1 : Int) ((List.replicate k18 (0 : Int)) ++ [(1 : Int)])) (Term.mk (0 : Int) ([] : List Int)) ([] : List Term))])) 670 el25 z77 rfl rfl rfl rfl rfl rfl (by rw [hF]; intro j hj; simp only [List.mem_cons, List.not_mem_nil, or_false] at hj; rcases hj with rfl | rfl | rfl <;> rfl) rfl rfl rfl rfl rfl rfl ?_
  refine TL_freeze 670 (by rw [hF]; rfl) rfl rfl rfl ?_
  obtain ⟨q56, hq56, hm⟩ := Qv hm
  refine Xc (f := QZ) (a := j0.1) (b := [(Stmt.mk (2 : Int) r10.1 (0 : Int) (Term.mk (-1 : Int) ((List.replicate k18 (0 : Int)) ++ [(1 : Int)])) (Term.mk (0 : Int) ([] : List Int)) ([] : List Term))]) el25 z77 rfl rfl rfl rfl rfl rfl rfl (Xa hq56) rfl rfl rfl rfl rfl ?_
  refine Qa rfl rfl rfl rfl (Qb rfl) ?_
  refine Qe ?_
  refine Qo [2] [0, 21] rfl rfl rfl rfl (by rw [hF]; rfl) ?_
  refine T_freeze 21 (by rw [hF]; rfl) rfl rfl rfl ?_
  refine QB ?_
  obtain rfl := Qw hm
  refine ⟨[_], [0], ⟨rfl, trivial⟩, ?_, rfl, rfl, rfl, rfl⟩
  rfl
 ·refine Qn ?_
  refine Qc ?_
  refine Qa rfl rfl rfl rfl (Qd rfl) ?_
  obtain ⟨r37, hr37, hm⟩ := Qv hm
  refine Q2 [(0, 0)] [] [] (c_spec_l00Src_one r10.2 (2 : Int) r37 hr37) Try.call82 rfl rfl rfl rfl rfl ⟨rfl, trivial⟩ rfl rfl rfl rfl rfl rfl rfl rfl rfl rfl rfl ?_
  refine Qe ?_
  refine QI rfl (fun hq => ?_) (fun hq => ?_)
  ·replace hm := QO hq hm
   refine Qc ?_
   refine Qa rfl rfl rfl rfl (Qd rfl) ?_
   refine Qa rfl rfl rfl rfl (Qd rfl) ?_
   obtain ⟨r40, hr40, hm⟩ := Qv hm
   refine Q2 [(0, 0)] [] [] (QY r37.2 (4 : Int) r40 hr40) Try.call80 rfl rfl rfl rfl rfl ⟨rfl, trivial⟩ rfl rfl rfl rfl rfl rfl rfl rfl rfl rfl rfl ?_
   refine Qa rfl rfl rfl rfl (Xn pl77 z77 rfl rfl rfl rfl rfl) ?_
   refine TL_ownNilAt 41 4 674 ⟨false, true⟩ 2 rfl rfl rfl (sz := 1) rfl rfl rfl rfl ?_
   refine TL_ownNilAt 41 6 675 ⟨false, true⟩ 2 rfl rfl rfl (sz := 1) rfl rfl rfl rfl ?_
   refine TL_ownNilAt 41 7 676 ⟨false, true⟩ 75 rfl rfl rfl (sz := 2) rfl rfl rfl rfl ?_
   refine TL_buildSliceD (ids := [674, 675, 676]) (es := List.map QZ ([(Stmt.mk (5 : Int) (0 : Int) r40.1 (Term.mk (0 : Int) ([] : List Int)) (Term.mk (0 : Int) ([] : List Int)) ([] : List Term))])) 673 el25 z77 rfl rfl rfl rfl rfl rfl (by rw [hF]; intro j hj; simp only [List.mem_cons, List.not_mem_nil, or_false] at hj; rcases hj with rfl | rfl | rfl <;> rfl) rfl rfl rfl rfl rfl rfl ?_
   refine TL_freeze 673 (by rw [hF]; rfl) rfl rfl rfl ?_
   obtain ⟨q43, hq43, hm⟩ := Qv hm
   refine Xc (f := QZ) (a := ([(Stmt.mk (8 : Int) (0 : Int) (0 : Int) (Term.mk (0 : Int) ((List.replicate k12 (0 : Int)) ++ [(1 : Int)])) (Term.mk (0 : Int) ([] : List Int)) ([(Term.mk (1 : Int) ((List.replicate k23 (0 : Int)) ++ [(1 : Int)]))]))] ++ [(Stmt.mk (1 : Int) (0 : Int) (0 : Int) (Term.mk (0 : Int) ([] : List Int)) (Term.mk (0 : Int) ([] : List Int)) ([] : List Term))])) (b := [(Stmt.mk (5 : Int) (0 : Int) r40.1 (Term.mk (0 : Int) ([] : List Int)) (Term.mk (0 : Int) ([] : List Int)) ([] : List Term))]) el25 z77 rfl rfl rfl rfl rfl rfl rfl (Xa hq43) rfl rfl rfl rfl rfl ?_
   refine Qa rfl rfl rfl rfl (Qb rfl) ?_
   refine Qe ?_
   refine Qo [3, 6, 8] [0, 14, 16, 21] rfl rfl rfl rfl (by rw [hF]; rfl) ?_
   exact hj0 ((([(Stmt.mk (8 : Int) (0 : Int) (0 : Int) (Term.mk (0 : Int) ((List.replicate k12 (0 : Int)) ++ [(1 : Int)])) (Term.mk (0 : Int) ([] : List Int)) ([(Term.mk (1 : Int) ((List.replicate k23 (0 : Int)) ++ [(1 : Int)]))]))] ++ [(Stmt.mk (1 : Int) (0 : Int) (0 : Int) (Term.mk (0 : Int) ([] : List Int)) (Term.mk (0 : Int) ([] : List Int)) ([] : List Term))]) ++ [(Stmt.mk (5 : Int) (0 : Int) r40.1 (Term.mk (0 : Int) ([] : List Int)) (Term.mk (0 : Int) ([] : List Int)) ([] : List Term))]), r40.2.code, r40.2.at_, r40.2.seed) hm
  ·replace hm := QM hq hm
   refine T_drawZ [2, 5, 6] mix (by kernel_rfl) rfl ?_
   obtain ⟨r46, hr46, hm⟩ := Qv hm
   obtain ⟨q50, hq50, hm⟩ := Qv hm
   refine Ql 0 (by kernel_rfl) rfl rfl rfl rfl rfl (Qd rfl) ?_
   refine Ql 1 (by kernel_rfl) rfl rfl rfl rfl rfl (Qd rfl) ?_
   refine XD 5 [true, true, true, false, false, false, false, false] ⟨[(0, .ptr 0 0 0), (2, .snil), (3, .int .i64 r10.1), (4, .junk), (5, .ptr 13 0 0), (6, .ptr 16 0 0), (7, .ptr 19 0 0), (8, .ow 21), (9, .ptr 0 0 0), (10, .int .i64 r10.1), (11, .int .i64 r10.1), (12, .junk), (13, .junk), (14, .ow 12), (15, .sl 1 (List.map Qf ((List.replicate k12 (0 : Int)) ++ [(1 : Int)]))), (16, .agg [.int .i64 (0 : Int), .sl 1 (List.map Qf ((List.replicate k12 (0 : Int)) ++ [(1 : Int)]))]), (17, .int .i64 r10.1), (18, .junk), (19, .ow 15), (20, .ow 14), (21, .agg [.int .i64 (-1 : Int), .ow 14]), (22, .int .i64 r10.1), (23, .junk), (24, .ow 18), (25, .sl 1 (List.map Qf ((List.replicate k23 (0 : Int)) ++ [(1 : Int)]))), (26, .agg [.int .i64 (1 : Int), .sl 1 (List.map Qf ((List.replicate k23 (0 : Int)) ++ [(1 : Int)]))]), (27, .agg [.int .i64 (0 : Int), .sl 1 (List.map Qf ((List.replicate k12 (0 : Int)) ++ [(1 : Int)]))]), (28, .agg [.int .i64 (1 : Int), .sl 1 (List.map Qf ((List.replicate k23 (0 : Int)) ++ [(1 : Int)]))]), (29, .sl 2 (List.map Qq ([(Term.mk (1 : Int) ((List.replicate k23 (0 : Int)) ++ [(1 : Int)]))]))), (30, .agg [.int .i64 (8 : Int), .int .i64 (0 : Int), .int .i64 (0 : Int), .int .i64 (0 : Int), .sl 1 (List.map Qf ((List.replicate k12 (0 : Int)) ++ [(1 : Int)])), .int .i64 (0 : Int), .sl 1 (List.map Qf ([] : List Int)), .sl 2 (List.map Qq ([(Term.mk (1 : Int) ((List.replicate k23 (0 : Int)) ++ [(1 : Int)]))]))]), (31, .junk), (32, .junk), (33, .junk), (34, .sl 8 (List.map QZ ([(Stmt.mk (1 : Int) (0 : Int) (0 : Int) (Term.mk (0 : Int) ([] : List Int)) (Term.mk (0 : Int) ([] : List Int)) ([] : List Term))]))), (35, .ow 21), (36, .ptr 0 0 0), (37, .bool r37.1), (44, .ow 21), (45, .ptr 0 0 0), (46, .agg [.int .i64 r46.1.Const, .ow 917])], [(0, .box [.sl 1 (List.map a_u8 r46.2.code), .int .i64 r46.2.at_, .int .u64 r46.2.seed]), (12, .arr ⟨false, false⟩ 1 2 (List.map Qf [(1 : Int)])), (13, .box [.int .i64 (0 : Int), .sl 1 (List.map Qf ((List.replicate k12 (0 : Int)) ++ [(1 : Int)]))]), (14, .arr ⟨false, false⟩ 1 2 (List.map Qf ((List.replicate k18 (0 : Int)) ++ [(1 : Int)]))), (15, .arr ⟨false, false⟩ 1 2 (List.map Qf [(1 : Int)])), (16, .box [.int .i64 (-1 : Int), .ow 14]), (18, .arr ⟨false, false⟩ 1 2 (List.map Qf [(1 : Int)])), (19, .box [.int .i64 (1 : Int), .sl 1 (List.map Qf ((List.replicate k23 (0 : Int)) ++ [(1 : Int)]))]), (21, .arr ⟨false, false⟩ 8 77 (List.map QZ ([(Stmt.mk (8 : Int) (0 : Int) (0 : Int) (Term.mk (0 : Int) ((List.replicate k12 (0 : Int)) ++ [(1 : Int)])) (Term.mk (0 : Int) ([] : List Int)) ([(Term.mk (1 : Int) ((List.replicate k23 (0 : Int)) ++ [(1 : Int)]))]))] ++ [(Stmt.mk (1 : Int) (0 : Int) (0 : Int) (Term.mk (0 : Int) ([] : List Int)) (Term.mk (0 : Int) ([] : List Int)) ([] : List Term))]))), (917, .arr ⟨false, true⟩ 1 2 (List.map Qf r46.1.Coeffs))]⟩ ?_ (fun hS676_0 => ?_)
   ·refine QF 3 (by kernel_rfl) rfl ?_
    refine Qa rfl rfl rfl rfl (Qt ag75 sz75 rfl rfl rfl) ?_
    refine Qe ?_
    refine Ql 4 (by kernel_rfl) rfl rfl rfl rfl rfl (Xn pl77 z77 rfl rfl rfl rfl rfl) ?_
    refine QF 5 (by kernel_rfl) rfl ?_
    refine TL_freeze 917 (by rw [hF]; rfl) rfl rfl rfl ?_
    refine TL_nilAt 48 (x' := .agg [.int .i64 (4 : Int), .int .i64 (0 : Int), .int .i64 (0 : Int), .int .i64 (0 : Int), .sl 1 (List.map Qf ((List.replicate k12 (0 : Int)) ++ [(1 : Int)])), .int .i64 r46.1.Const, .sl 1 (List.map Qf r46.1.Coeffs), .sl 2 (List.map Qq ([] : List Term))]) rfl (⟨_, rfl, ⟨_, _, rfl, rfl, ⟨_, _, rfl, rfl, ⟨_, _, rfl, rfl, ⟨_, _, rfl, rfl, ⟨_, _, rfl, rfl, ⟨_, _, rfl, rfl, ⟨_, _, rfl, rfl, ⟨_, _, rfl, .inr ⟨_, rfl⟩, rfl⟩⟩⟩⟩⟩⟩⟩⟩⟩) rfl ?_
    refine QD 1157 (es := List.map QZ ([(Stmt.mk (4 : Int) (0 : Int) (0 : Int) (Term.mk (0 : Int) ((List.replicate k12 (0 : Int)) ++ [(1 : Int)])) r46.1 ([] : List Term))])) el25 z77 rfl rfl rfl rfl rfl rfl rfl rfl rfl ?_
    refine Qe ?_
    refine QF 6 (by kernel_rfl) rfl ?_
    refine Xc (f := QZ) (a := ([(Stmt.mk (8 : Int) (0 : Int) (0 : Int) (Term.mk (0 : Int) ((List.replicate k12 (0 : Int)) ++ [(1 : Int)])) (Term.mk (0 : Int) ([] : List Int)) ([(Term.mk (1 : Int) ((List.replicate k23 (0 : Int)) ++ [(1 : Int)]))]))] ++ [(Stmt.mk (1 : Int) (0 : Int) (0 : Int) (Term.mk (0 : Int) ([] : List Int)) (Term.mk (0 : Int) ([] : List Int)) ([] : List Term))])) (b := [(Stmt.mk (4 : Int) (0 : Int) (0 : Int) (Term.mk (0 : Int) ((List.replicate k12 (0 : Int)) ++ [(1 : Int)])) r46.1 ([] : List Term))]) el25 z77 rfl rfl rfl rfl rfl rfl rfl (Xa hq50) rfl rfl rfl rfl rfl ?_
    refine Qe ?_
    refine Ql 7 (by kernel_rfl) rfl rfl rfl rfl rfl (Qb rfl) ?_
    refine Q8 (by kernel_rfl) ?_
    refine Qo [3, 6, 8] [0, 14, 16, 21] rfl rfl rfl rfl (by rw [hF]; rfl) ?_
    exact hj0 ((([(Stmt.mk (8 : Int) (0 : Int) (0 : Int) (Term.mk (0 : Int) ((List.replicate k12 (0 : Int)) ++ [(1 : Int)])) (Term.mk (0 : Int) ([] : List Int)) ([(Term.mk (1 : Int) ((List.replicate k23 (0 : Int)) ++ [(1 : Int)]))]))] ++ [(Stmt.mk (1 : Int) (0 : Int) (0 : Int) (Term.mk (0 : Int) ([] : List Int)) (Term.mk (0 : Int) ([] : List Int)) ([] : List Term))]) ++ [(Stmt.mk (4 : Int) (0 : Int) (0 : Int) (Term.mk (0 : Int) ((List.replicate k12 (0 : Int)) ++ [(1 : Int)])) r46.1 ([] : List Term))]), r46.2.code, r46.2.at_, r46.2.seed) hm
   refine XD 5 [true, true, false, true, false, false, false, false] ⟨[(0, .ptr 0 0 0), (2, .snil), (3, .int .i64 r10.1), (4, .junk), (5, .ptr 13 0 0), (6, .ptr 16 0 0), (7, .ptr 19 0 0), (8, .ow 21), (9, .ptr 0 0 0), (10, .int .i64 r10.1), (11, .int .i64 r10.1), (12, .junk), (13, .junk), (14, .ow 12), (15, .sl 1 (List.map Qf ((List.replicate k12 (0 : Int)) ++ [(1 : Int)]))), (16, .agg [.int .i64 (0 : Int), .sl 1 (List.map Qf ((List.replicate k12 (0 : Int)) ++ [(1 : Int)]))]), (17, .int .i64 r10.1), (18, .junk), (19, .ow 15), (20, .ow 14), (21, .agg [.int .i64 (-1 : Int), .ow 14]), (22, .int .i64 r10.1), (23, .junk), (24, .ow 18), (25, .sl 1 (List.map Qf ((List.replicate k23 (0 : Int)) ++ [(1 : Int)]))), (26, .agg [.int .i64 (1 : Int), .sl 1 (List.map Qf ((List.replicate k23 (0 : Int)) ++ [(1 : Int)]))]), (27, .agg [.int .i64 (0 : Int), .sl 1 (List.map Qf ((List.replicate k12 (0 : Int)) ++ [(1 : Int)]))]), (28, .agg [.int .i64 (1 : Int), .sl 1 (List.map Qf ((List.replicate k23 (0 : Int)) ++ [(1 : Int)]))]), (29, .sl 2 (List.map Qq ([(Term.mk (1 : Int) ((List.replicate k23 (0 : Int)) ++ [(1 : Int)]))]))), (30, .agg [.int .i64 (8 : Int), .int .i64 (0 : Int), .int .i64 (0 : Int), .int .i64 (0 : Int), .sl 1 (List.map Qf ((List.replicate k12 (0 : Int)) ++ [(1 : Int)])), .int .i64 (0 : Int), .sl 1 (List.map Qf ([] : List Int)), .sl 2 (List.map Qq ([(Term.mk (1 : Int) ((List.replicate k23 (0 : Int)) ++ [(1 : Int)]))]))]), (31, .junk), (32, .junk), (33, .junk), (34, .sl 8 (List.map QZ ([(Stmt.mk (1 : Int) (0 : Int) (0 : Int) (Term.mk (0 : Int) ([] : List Int)) (Term.mk (0 : Int) ([] : List Int)) ([] : List Term))]))), (35, .ow 21), (36, .ptr 0 0 0), (37, .bool r37.1), (44, .ow 21), (45, .ptr 0 0 0), (47, .agg [.int .i64 (0 : Int), .sl 1 (List.map Qf ((List.replicate k12 (0 : Int)) ++ [(1 : Int)]))])], [(0, .box [.sl 1 (List.map a_u8 r37.2.code), .int .i64 r37.2.at_, .int .u64 r37.2.seed]), (12, .arr ⟨false, false⟩ 1 2 (List.map Qf [(1 : Int)])), (13, .box [.int .i64 (0 : Int), .sl 1 (List.map Qf ((List.replicate k12 (0 : Int)) ++ [(1 : Int)]))]), (14, .arr ⟨false, false⟩ 1 2 (List.map Qf ((List.replicate k18 (0 : Int)) ++ [(1 : Int)]))), (15, .arr ⟨false, false⟩ 1 2 (List.map Qf [(1 : Int)])), (16, .box [.int .i64 (-1 : Int), .ow 14]), (18, .arr ⟨false, false⟩ 1 2 (List.map Qf [(1 : Int)])), (19, .box [.int .i64 (1 : Int), .sl 1 (List.map Qf ((List.replicate k23 (0 : Int)) ++ [(1 : Int)]))]), (21, .arr ⟨false, false⟩ 8 77 (List.map QZ ([(Stmt.mk (8 : Int) (0 : Int) (0 : Int) (Term.mk (0 : Int) ((List.replicate k12 (0 : Int)) ++ [(1 : Int)])) (Term.mk (0 : Int) ([] : List Int)) ([(Term.mk (1 : Int) ((List.replicate k23 (0 : Int)) ++ [(1 : Int)]))]))] ++ [(Stmt.mk (1 : Int) (0 : Int) (0 : Int) (Term.mk (0 : Int) ([] : List Int)) (Term.mk (0 : Int) ([] : List Int)) ([] : List Term))])))]⟩ ?_ (fun hS676_1 => ?_)
   ·refine QF 2 (by kernel_rfl) rfl ?_
    refine Q2 [(0, 0)] [(1000, 917)] [] (c_spec_l03DrawIndex r37.2 r46 hr46) Try.call114 rfl rfl rfl rfl rfl ⟨rfl, trivial⟩ rfl rfl rfl rfl rfl rfl rfl rfl rfl rfl rfl ?_
    refine Qe ?_
    refine Ql 4 (by kernel_rfl) rfl rfl rfl rfl rfl (Xn pl77 z77 rfl rfl rfl rfl rfl) ?_
    refine QF 5 (by kernel_rfl) rfl ?_
    refine TL_freeze 917 (by rw [hF]; rfl) rfl rfl rfl ?_
    refine TL_nilAt 48 (x' := .agg [.int .i64 (4 : Int), .int .i64 (0 : Int), .int .i64 (0 : Int), .int .i64 (0 : Int), .sl 1 (List.map Qf ((List.replicate k12 (0 : Int)) ++ [(1 : Int)])), .int .i64 r46.1.Const, .sl 1 (List.map Qf r46.1.Coeffs), .sl 2 (List.map Qq ([] : List Term))]) rfl (⟨_, rfl, ⟨_, _, rfl, rfl, ⟨_, _, rfl, rfl, ⟨_, _, rfl, rfl, ⟨_, _, rfl, rfl, ⟨_, _, rfl, rfl, ⟨_, _, rfl, rfl, ⟨_, _, rfl, rfl, ⟨_, _, rfl, .inr ⟨_, rfl⟩, rfl⟩⟩⟩⟩⟩⟩⟩⟩⟩) rfl ?_
    refine QD 1157 (es := List.map QZ ([(Stmt.mk (4 : Int) (0 : Int) (0 : Int) (Term.mk (0 : Int) ((List.replicate k12 (0 : Int)) ++ [(1 : Int)])) r46.1 ([] : List Term))])) el25 z77 rfl rfl rfl rfl rfl rfl rfl rfl rfl ?_
    refine Qe ?_
    refine QF 6 (by kernel_rfl) rfl ?_
    refine Xc (f := QZ) (a := ([(Stmt.mk (8 : Int) (0 : Int) (0 : Int) (Term.mk (0 : Int) ((List.replicate k12 (0 : Int)) ++ [(1 : Int)])) (Term.mk (0 : Int) ([] : List Int)) ([(Term.mk (1 : Int) ((List.replicate k23 (0 : Int)) ++ [(1 : Int)]))]))] ++ [(Stmt.mk (1 : Int) (0 : Int) (0 : Int) (Term.mk (0 : Int) ([] : List Int)) (Term.mk (0 : Int) ([] : List Int)) ([] : List Term))])) (b := [(Stmt.mk (4 : Int) (0 : Int) (0 : Int) (Term.mk (0 : Int) ((List.replicate k12 (0 : Int)) ++ [(1 : Int)])) r46.1 ([] : List Term))]) el25 z77 rfl rfl rfl rfl rfl rfl rfl (Xa hq50) rfl rfl rfl rfl rfl ?_
    refine Qe ?_
    refine Ql 7 (by kernel_rfl) rfl rfl rfl rfl rfl (Qb rfl) ?_
    refine Q8 (by kernel_rfl) ?_
    refine Qo [3, 6, 8] [0, 14, 16, 21] rfl rfl rfl rfl (by rw [hF]; rfl) ?_
    exact hj0 ((([(Stmt.mk (8 : Int) (0 : Int) (0 : Int) (Term.mk (0 : Int) ((List.replicate k12 (0 : Int)) ++ [(1 : Int)])) (Term.mk (0 : Int) ([] : List Int)) ([(Term.mk (1 : Int) ((List.replicate k23 (0 : Int)) ++ [(1 : Int)]))]))] ++ [(Stmt.mk (1 : Int) (0 : Int) (0 : Int) (Term.mk (0 : Int) ([] : List Int)) (Term.mk (0 : Int) ([] : List Int)) ([] : List Term))]) ++ [(Stmt.mk (4 : Int) (0 : Int) (0 : Int) (Term.mk (0 : Int) ((List.replicate k12 (0 : Int)) ++ [(1 : Int)])) r46.1 ([] : List Term))]), r46.2.code, r46.2.at_, r46.2.seed) hm
   refine TZ_each [2, 3] (by kernel_rfl) rfl ?_
   refine ⟨?_, ?_⟩
   ·refine ⟨_, rfl, ?_⟩
    refine Q2 [(0, 0)] [(1000, 917)] [] (c_spec_l03DrawIndex r37.2 r46 hr46) Try.call114 rfl rfl rfl rfl rfl ⟨rfl, trivial⟩ rfl rfl rfl rfl rfl rfl rfl rfl rfl rfl rfl ?_
    refine Qe ?_
    refine QU [0, 2, 3, 4, 5, 6, 7, 8, 9, 10, 11, 12, 13, 14, 15, 16, 17, 18, 19, 20, 21, 22, 23, 24, 25, 26, 27, 28, 29, 30, 31, 32, 33, 34, 35, 36, 37, 44, 45, 46] [0, 12, 13, 14, 15, 16, 18, 19, 21, 917] rfl rfl rfl rfl (by rw [hF]; rfl) ?_
    exact hS676_0
   ·refine ⟨_, rfl, ?_⟩
    refine Qa rfl rfl rfl rfl (Qt ag75 sz75 rfl rfl rfl) ?_
    refine Qe ?_
    refine QU [0, 2, 3, 4, 5, 6, 7, 8, 9, 10, 11, 12, 13, 14, 15, 16, 17, 18, 19, 20, 21, 22, 23, 24, 25, 26, 27, 28, 29, 30, 31, 32, 33, 34, 35, 36, 37, 44, 45, 47] [0, 12, 13, 14, 15, 16, 18, 19, 21] rfl rfl rfl rfl (by rw [hF]; rfl) ?_
    exact hS676_1
theorem c_spec_l03DrawBody_F (rec_spec_l03DrawBody : l00Src → Int → Option ((List Stmt) × l00Src)) (hrec_spec_l03DrawBody : ∀ (p0 : l00Src) (p1 : Int) (out : (List Stmt) × l00Src), rec_spec_l03DrawBody p0 p1 = some out → ACall Try.prog 81 [.ptr 0 0 0, .int .i64 p1] [(0, .box [.sl 1 (List.map a_u8 p0.code), .int .i64 p0.at_, .int .u64 p0.seed])] (.sl 8 (List.map QZ out.1)) [(0, .box [.sl 1 (List.map a_u8 out.2.code), .int .i64 out.2.at_, .int .u64 out.2.seed])]) (p0 : l00Src) (p1 : Int) (out : (List Stmt) × l00Src) (hm : m_spec_l03DrawBody_F rec_spec_l03DrawBody p0 p1 = some out) : ACall Try.prog 81 [.ptr 0 0 0, .int .i64 p1] [(0, .box [.sl 1 (List.map a_u8 p0.code), .int .i64 p0.at_, .int .u64 p0.seed])] (.sl 8 (List.map QZ out.1)) [(0, .box [.sl 1 (List.map a_u8 out.2.code), .int .i64 out.2.at_, .int .u64 out.2.seed])] := by
 refine ACall.intro Try.func81 rfl Try.ntmps81 rfl (fun F hF => ?_)
 unfold m_spec_l03DrawBody_F at hm
 refine Qn ?_
 refine Qc ?_
 refine Qa rfl rfl rfl rfl (Qb rfl) ?_
 refine Qe ?_
 refine Qn ?_
 refine Qc ?_
 refine Qa rfl rfl rfl rfl (Qd rfl) ?_
 refine QD 11 (es := List.map Qf [(0 : Int), (2 : Int), (2 : Int), (3 : Int), (4 : Int), (5 : Int), (6 : Int)]) el29 z2 rfl rfl rfl rfl rfl rfl rfl rfl rfl ?_
 refine TL_freeze 11 (by rw [hF]; rfl) rfl rfl rfl ?_
 obtain ⟨r11, hr11, hm⟩ := Qv hm
 refine Q2 [(0, 0)] [] [] (c_spec_l00Src_among p0 [(0 : Int), (2 : Int), (2 : Int), (3 : Int), (4 : Int), (5 : Int), (6 : Int)] r11 hr11) Try.call83 rfl rfl rfl rfl rfl ⟨rfl, trivial⟩ rfl rfl rfl rfl rfl rfl rfl rfl rfl rfl rfl ?_
 refine Qa rfl rfl rfl rfl (Qb rfl) ?_
 refine Qe ?_
 refine T_join (fun (j0 : (List Int) × Int × Int × Int) => ⟨[(0, .ptr 0 0 0), (1, .int .i64 p1), (5, .int .i64 j0.2.2.2)], [(0, .box [.sl 1 (List.map a_u8 j0.1), .int .i64 j0.2.1, .int .u64 j0.2.2.1])]⟩) (fun j0 => m_spec_l03DrawBody_F_J0 rec_spec_l03DrawBody p1 j0 = some out) (fun j0 hm => ?_) (fun hj0 => ?_)
 ·unfold m_spec_l03DrawBody_F_J0 at hm
  refine Qn ?_
  refine Qc ?_
  refine Qa rfl rfl rfl rfl (Qd rfl) ?_
  refine Qa rfl rfl rfl rfl (Xn pl77 z77 rfl rfl rfl rfl rfl) ?_
  refine Xk 13 z77 rfl rfl rfl rfl rfl rfl rfl ?_
  refine Qr sz77 rfl rfl rfl rfl rfl rfl rfl rfl rfl ?_
  refine Qe ?_
  refine T_join (fun (j1 : (List Int) × Int × Int × Int × Int × Int × (List Int) × Int × (List Int) × (List Term)) => ⟨[(0, .ptr 0 0 0), (1, .int .i64 p1), (5, .int .i64 j0.2.2.2), (6, .ptr 13 0 0)], [(0, .box [.sl 1 (List.map a_u8 j1.1), .int .i64 j1.2.1, .int .u64 j1.2.2.1]), (13, .box [.int .i64 j0.2.2.2, .int .i64 j1.2.2.2.1, .int .i64 j1.2.2.2.2.1, .int .i64 j1.2.2.2.2.2.1, .ow 14, .int .i64 j1.2.2.2.2.2.2.2.1, .ow 70003, .ow 70004]), (14, .arr ⟨false, true⟩ 1 2 (List.map Qf j1.2.2.2.2.2.2.1)), (70003, .arr ⟨false, true⟩ 1 2 (List.map Qf j1.2.2.2.2.2.2.2.2.1)), (70004, .arr ⟨false, true⟩ 2 75 (List.map Qq j1.2.2.2.2.2.2.2.2.2))]⟩) (fun j1 => Q0 rec_spec_l03DrawBody p1 j0 j1 = some out) (fun j1 hm => ?_) (fun hj1 => ?_)
  ·unfold Q0 at hm
   refine Qn ?_
   refine Qc ?_
   refine Qa rfl rfl rfl rfl (Qt ag77 sz77 rfl rfl rfl) ?_
   refine TL_freeze 14 (by rw [hF]; rfl) rfl rfl rfl ?_
   refine TL_freeze 70003 (by rw [hF]; rfl) rfl rfl rfl ?_
   refine TL_freeze 70004 (by rw [hF]; rfl) rfl rfl rfl ?_
   refine QD 22 (es := List.map QZ [(Stmt.mk j0.2.2.2 j1.2.2.2.1 j1.2.2.2.2.1 (Term.mk j1.2.2.2.2.2.1 j1.2.2.2.2.2.2.1) (Term.mk j1.2.2.2.2.2.2.2.1 j1.2.2.2.2.2.2.2.2.1) j1.2.2.2.2.2.2.2.2.2)]) el25 z77 rfl rfl rfl rfl rfl rfl rfl rfl rfl ?_
   refine Qa rfl rfl rfl rfl (Qb rfl) ?_
   refine Qe ?_
   refine Qn ?_
   refine Qn ?_
   refine Qc ?_
   refine Qa rfl rfl rfl rfl (Qd rfl) ?_
   obtain ⟨r70, hr70, hm⟩ := Qv hm
   refine QG (c_spec_l03Below j0.2.2.2 r70 hr70) Try.call96 rfl rfl rfl rfl rfl ?_
   refine Qa rfl rfl rfl rfl (Qb rfl) ?_
   refine Qe ?_
   refine Xd ?_
   refine Qo [0, 1, 5, 7, 8] [0, 22] rfl rfl rfl rfl (by rw [hF]; rfl) ?_
   refine T_loop ?_
   obtain ⟨u0, hl0, hm⟩ := Qv hm
   refine TR_iter2 (Xu rec_spec_l03DrawBody p1) (fun (s0 : (List Int) × Int × Int × (List Stmt) × Int) => ⟨[(0, .ptr 0 0 0), (1, .int .i64 p1), (5, .int .i64 j0.2.2.2), (7, .ow 22), (8, .int .i64 s0.2.2.2.2)], [(0, .box [.sl 1 (List.map a_u8 s0.1), .int .i64 s0.2.1, .int .u64 s0.2.2.1]), (22, .arr ⟨false, false⟩ 8 77 (List.map QZ s0.2.2.2.1))]⟩) (fun u0 => .exit 1) (fun u0 => ⟨[(0, .ptr 0 0 0), (5, .int .i64 j0.2.2.2), (7, .ow 22)], [(0, .box [.sl 1 (List.map a_u8 u0.1), .int .i64 u0.2.1, .int .u64 u0.2.2.1]), (22, .arr ⟨false, false⟩ 8 77 (List.map QZ u0.2.2.2))]⟩) (fun u0 => m_spec_l03DrawBody_F_A0 j0 u0 = some out) hl0 hm (fun u0 hm => ?_) (fun hx0 s0 c0 hm hc0 => ?_)
   ·unfold m_spec_l03DrawBody_F_A0 at hm
    refine Qn ?_
    refine Qn ?_
    refine Qc ?_
    refine Qa rfl rfl rfl rfl (Qd rfl) ?_
    refine Qa rfl rfl rfl rfl (Xq rfl rfl) ?_
    refine Qa rfl rfl rfl rfl (Qd rfl) ?_
    refine Qy 83 rfl rfl rfl (fun hq => ?_) (fun hq => ?_)
    ·replace hm := QO hq hm
     refine Qm rfl rfl ?_
     refine Qa rfl rfl rfl rfl (Qd rfl) ?_
     refine Qm rfl rfl ?_
     obtain ⟨r85, hr85, hm⟩ := Qv hm
     refine Q2 [(0, 0)] [] [] (c_spec_l00Src_one (l00Src.mk u0.1 u0.2.1 u0.2.2.1) (2 : Int) r85 hr85) Try.call82 rfl rfl rfl rfl rfl ⟨rfl, trivial⟩ rfl rfl rfl rfl rfl rfl rfl rfl rfl rfl rfl ?_
     refine Qa rfl rfl rfl rfl (Qp rfl rfl) ?_
     refine Qe ?_
     refine QI rfl (fun hq => ?_) (fun hq => ?_)
     ·replace hm := QO hq hm
      refine Qn ?_
      refine Qc ?_
      refine Qa rfl rfl rfl rfl (Qd rfl) ?_
      obtain ⟨r88, hr88, hm⟩ := Qv hm
      refine Q2 [(0, 0)] [] [] (c_spec_l03DrawLoop r85.2 r88 hr88) Try.call115 rfl rfl rfl rfl rfl ⟨rfl, trivial⟩ rfl rfl rfl rfl rfl rfl rfl rfl rfl rfl rfl ?_
      refine Qa rfl rfl rfl rfl (Qb rfl) ?_
      refine Qe ?_
      refine Qo [4] [0] rfl rfl rfl rfl (by rw [hF]; rfl) ?_
      refine QB ?_
      obtain rfl := Qw hm
      refine ⟨[_], [0], ⟨rfl, trivial⟩, ?_, rfl, rfl, rfl, rfl⟩
      rfl
     ·replace hm := QM hq hm
      refine QL ?_
      refine Qn ?_
      refine Qc ?_
      refine Qa rfl rfl rfl rfl (Qd rfl) ?_
      refine Qa rfl rfl rfl rfl (Qb rfl) ?_
      refine Qe ?_
      refine Qo [4] [0, 22] rfl rfl rfl rfl (by rw [hF]; rfl) ?_
      refine T_freeze 22 (by rw [hF]; rfl) rfl rfl rfl ?_
      refine QB ?_
      obtain rfl := Qw hm
      refine ⟨[_], [0], ⟨rfl, trivial⟩, ?_, rfl, rfl, rfl, rfl⟩
      rfl
    ·replace hm := QM hq hm
     refine Qh rfl rfl rfl rfl rfl rfl rfl ?_
     refine Qh rfl rfl rfl rfl rfl rfl rfl ?_
     refine Qa rfl rfl rfl rfl (Qk rfl rfl) ?_
     refine Qe ?_
     refine Xz rfl ?_
     refine QL ?_
     refine Qn ?_
     refine Qc ?_
     refine Qa rfl rfl rfl rfl (Qd rfl) ?_
     refine Qa rfl rfl rfl rfl (Qb rfl) ?_
     refine Qe ?_
     refine Qo [4] [0, 22] rfl rfl rfl rfl (by rw [hF]; rfl) ?_
     refine T_freeze 22 (by rw [hF]; rfl) rfl rfl rfl ?_
     refine QB ?_
     obtain rfl := Qw hm
     refine ⟨[_], [0], ⟨rfl, trivial⟩, ?_, rfl, rfl, rfl, rfl⟩
     rfl
   ·unfold Xu at hm
    refine Qn ?_
    refine Qn ?_
    refine Qc ?_
    refine Qa rfl rfl rfl rfl (Qd rfl) ?_
    refine Qa rfl rfl rfl rfl (op_gtr rfl rfl) ?_
    refine Qe ?_
    refine QI rfl (fun hq => ?_) (fun hq => ?_)
    ·replace hm := QO hq hm
     refine QL ?_
     refine Qn ?_
     refine Xd ?_
     refine Qc ?_
     refine Qa rfl rfl rfl rfl (Qd rfl) ?_
     refine Qa rfl rfl rfl rfl (Qd rfl) ?_
     refine Qa rfl rfl rfl rfl (Qd rfl) ?_
     refine Qa rfl rfl rfl rfl (op_subW rfl rfl) ?_
     obtain ⟨r79, hr79, hm⟩ := Qv hm
     refine Q2 [(0, 0)] [] [] (hrec_spec_l03DrawBody (l00Src.mk s0.1 s0.2.1 s0.2.2.1) (w64 (p1 - (1 : Int))) r79 hr79) Try.call81 rfl rfl rfl rfl rfl ⟨rfl, trivial⟩ rfl rfl rfl rfl rfl rfl rfl rfl rfl rfl rfl ?_
     obtain ⟨q80, hq80, hm⟩ := Qv hm
     refine Xc (f := QZ) (a := s0.2.2.2.1) (b := r79.1) el25 z77 rfl rfl rfl rfl rfl rfl rfl (Xa hq80) rfl rfl rfl rfl rfl ?_
     refine Qa rfl rfl rfl rfl (Qb rfl) ?_
     refine Qe ?_
     refine Qc ?_
     refine Qa rfl rfl rfl rfl (Qd rfl) ?_
     refine Qa rfl rfl rfl rfl (op_subW rfl rfl) ?_
     refine Qa rfl rfl rfl rfl (Qb rfl) ?_
     refine Qe ?_
     refine Xw [0, 1, 5, 7, 8] [0, 22] rfl rfl rfl rfl (by rw [hF]; rfl) ?_
     obtain rfl := Qw hm
     have hn := Q7 hc0
     exact hn _ rfl
    ·replace hm := QM hq hm
     refine Qo [0, 5, 7] [0, 22] rfl rfl rfl rfl (by rw [hF]; rfl) ?_
     refine T_exit ?_
     obtain rfl := Qw hm
     have hn := Xv hc0
     exact hx0 (s0.1, s0.2.1, s0.2.2.1, s0.2.2.2.1) hn
  ·refine Qn ?_
   refine Qc ?_
   refine Qa rfl rfl rfl rfl (Qd rfl) ?_
   refine Qe ?_
   refine Xd ?_
   refine Qn ?_
   refine Qc ?_
   refine Qa rfl rfl rfl rfl (Xq rfl rfl) ?_
   refine Qa rfl rfl rfl rfl (Qb rfl) ?_
   refine Qe ?_
   refine QI rfl (fun hq => ?_) (fun hq => ?_)
   ·replace hm := QO hq hm
    refine Qn ?_
    refine Qc ?_
    refine Qa rfl rfl rfl rfl (Qd rfl) ?_
    obtain ⟨r23, hr23, hm⟩ := Qv hm
    refine Q2 [(0, 0)] [] [] (QY (l00Src.mk j0.1 j0.2.1 j0.2.2.1) (4 : Int) r23 hr23) Try.call80 rfl rfl rfl rfl rfl ⟨rfl, trivial⟩ rfl rfl rfl rfl rfl rfl rfl rfl rfl rfl rfl ?_
    refine Qa rfl rfl rfl rfl (Qi fa77_1 rfl rfl) ?_
    refine Qr sz2 rfl rfl rfl rfl rfl rfl rfl rfl rfl ?_
    refine Qe ?_
    refine Qc ?_
    refine Qa rfl rfl rfl rfl (Qd rfl) ?_
    obtain ⟨r26, hr26, hm⟩ := Qv hm
    refine Q2 [(0, 0)] [(1000, 23)] [] (c_spec_l03DrawTerm r23.2 r26 hr26) Try.call112 rfl rfl rfl rfl rfl ⟨rfl, trivial⟩ rfl rfl rfl rfl rfl rfl rfl rfl rfl rfl rfl ?_
    refine Qa rfl rfl rfl rfl (Qi fa77_3 rfl rfl) ?_
    refine Qr sz75 rfl rfl rfl rfl rfl rfl rfl rfl rfl ?_
    refine Qe ?_
    refine Xo 13 6 24 ⟨false, true⟩ 2 rfl rfl rfl (sz := 1) rfl rfl rfl rfl ?_
    refine Xo 13 7 25 ⟨false, true⟩ 75 rfl rfl rfl (sz := 2) rfl rfl rfl rfl ?_
    refine Qo [0, 1, 5, 6] [0, 13, 23, 24, 25] rfl rfl rfl rfl (by rw [hF]; rfl) ?_
    refine T_ren [(0, 0), (13, 13), (23, 14), (24, 70003), (25, 70004)] rfl rfl rfl (by rw [hF]; rfl) ?_
    exact hj1 (r26.2.code, r26.2.at_, r26.2.seed, r23.1, (0 : Int), r26.1.Const, r26.1.Coeffs, (0 : Int), ([] : List Int), ([] : List Term)) hm
   ·replace hm := QM hq hm
    refine Qn ?_
    refine Qc ?_
    refine Qa rfl rfl rfl rfl (Xq rfl rfl) ?_
    refine Qa rfl rfl rfl rfl (Qb rfl) ?_
    refine Qe ?_
    refine QI rfl (fun hq => ?_) (fun hq => ?_)
    ·replace hm := QO hq hm
     refine Qn ?_
     refine Qc ?_
     refine Qa rfl rfl rfl rfl (Qd rfl) ?_
     obtain ⟨r31, hr31, hm⟩ := Qv hm
     refine Q2 [(0, 0)] [] [] (QY (l00Src.mk j0.1 j0.2.1 j0.2.2.1) (4 : Int) r31 hr31) Try.call80 rfl rfl rfl rfl rfl ⟨rfl, trivial⟩ rfl rfl rfl rfl rfl rfl rfl rfl rfl rfl rfl ?_
     refine Qa rfl rfl rfl rfl (Qi fa77_1 rfl rfl) ?_
     refine Qr sz2 rfl rfl rfl rfl rfl rfl rfl rfl rfl ?_
     refine Qe ?_
     refine Qc ?_
     refine Qa rfl rfl rfl rfl (Qd rfl) ?_
     obtain ⟨r34, hr34, hm⟩ := Qv hm
     refine Q2 [(0, 0)] [(1000, 26)] [] (c_spec_l03DrawIndex r31.2 r34 hr34) Try.call114 rfl rfl rfl rfl rfl ⟨rfl, trivial⟩ rfl rfl rfl rfl rfl rfl rfl rfl rfl rfl rfl ?_
     refine Qa rfl rfl rfl rfl (Qi fa77_4 rfl rfl) ?_
     refine Qr sz75 rfl rfl rfl rfl rfl rfl rfl rfl rfl ?_
     refine Qe ?_
     refine Xo 13 4 27 ⟨false, true⟩ 2 rfl rfl rfl (sz := 1) rfl rfl rfl rfl ?_
     refine Xo 13 7 28 ⟨false, true⟩ 75 rfl rfl rfl (sz := 2) rfl rfl rfl rfl ?_
     refine Qo [0, 1, 5, 6] [0, 13, 26, 27, 28] rfl rfl rfl rfl (by rw [hF]; rfl) ?_
     refine T_ren [(0, 0), (13, 13), (26, 70003), (27, 14), (28, 70004)] rfl rfl rfl (by rw [hF]; rfl) ?_
     refine Qo [0, 1, 5, 6] [0, 13, 14, 70003, 70004] rfl rfl rfl rfl (by rw [hF]; rfl) ?_
     exact hj1 (r34.2.code, r34.2.at_, r34.2.seed, r31.1, (0 : Int), (0 : Int), ([] : List Int), r34.1.Const, r34.1.Coeffs, ([] : List Term)) hm
    ·replace hm := QM hq hm
     refine Qn ?_
     refine Qc ?_
     refine Qa rfl rfl rfl rfl (Xq rfl rfl) ?_
     refine Qa rfl rfl rfl rfl (Qb rfl) ?_
     refine Qe ?_
     refine QI rfl (fun hq => ?_) (fun hq => ?_)
     ·replace hm := QO hq hm
      refine Qn ?_
      refine Qc ?_
      refine Qa rfl rfl rfl rfl (Qd rfl) ?_
      obtain ⟨r39, hr39, hm⟩ := Qv hm
      refine Q2 [(0, 0)] [(1000, 29)] [] (c_spec_l03DrawIndex (l00Src.mk j0.1 j0.2.1 j0.2.2.1) r39 hr39) Try.call114 rfl rfl rfl rfl rfl ⟨rfl, trivial⟩ rfl rfl rfl rfl rfl rfl rfl rfl rfl rfl rfl ?_
      refine Qa rfl rfl rfl rfl (Qi fa77_4 rfl rfl) ?_
      refine Qr sz75 rfl rfl rfl rfl rfl rfl rfl rfl rfl ?_
      refine Qe ?_
      refine Qc ?_
      refine Qa rfl rfl rfl rfl (Qd rfl) ?_
      obtain ⟨r42, hr42, hm⟩ := Qv hm
      refine Q2 [(0, 0)] [(1000, 30)] [] (c_spec_l03DrawTerm r39.2 r42 hr42) Try.call112 rfl rfl rfl rfl rfl ⟨rfl, trivial⟩ rfl rfl rfl rfl rfl rfl rfl rfl rfl rfl rfl ?_
      refine Qa rfl rfl rfl rfl (Qi fa77_3 rfl rfl) ?_
      refine Qr sz75 rfl rfl rfl rfl rfl rfl rfl rfl rfl ?_
      refine Qe ?_
      refine Xo 13 7 31 ⟨false, true⟩ 75 rfl rfl rfl (sz := 2) rfl rfl rfl rfl ?_
      refine Qo [0, 1, 5, 6] [0, 13, 29, 30, 31] rfl rfl rfl rfl (by rw [hF]; rfl) ?_
      refine T_ren [(0, 0), (13, 13), (29, 70003), (30, 14), (31, 70004)] rfl rfl rfl (by rw [hF]; rfl) ?_
      refine Qo [0, 1, 5, 6] [0, 13, 14, 70003, 70004] rfl rfl rfl rfl (by rw [hF]; rfl) ?_
      exact hj1 (r42.2.code, r42.2.at_, r42.2.seed, (0 : Int), (0 : Int), r42.1.Const, r42.1.Coeffs, r39.1.Const, r39.1.Coeffs, ([] : List Term)) hm
     ·replace hm := QM hq hm
      refine Qn ?_
      refine Qc ?_
      refine Qa rfl rfl rfl rfl (Xq rfl rfl) ?_
      refine Qa rfl rfl rfl rfl (Qb rfl) ?_
      refine Qe ?_
      refine QI rfl (fun hq => ?_) (fun hq => ?_)
      ·replace hm := QO hq hm
       refine Qc ?_
       refine Qa rfl rfl rfl rfl (Qd rfl) ?_
       obtain ⟨r47, hr47, hm⟩ := Qv hm
       refine Q2 [(0, 0)] [] [] (QY (l00Src.mk j0.1 j0.2.1 j0.2.2.1) (4 : Int) r47 hr47) Try.call80 rfl rfl rfl rfl rfl ⟨rfl, trivial⟩ rfl rfl rfl rfl rfl rfl rfl rfl rfl rfl rfl ?_
       refine Qa rfl rfl rfl rfl (Qi fa77_2 rfl rfl) ?_
       refine Qr sz2 rfl rfl rfl rfl rfl rfl rfl rfl rfl ?_
       refine Qe ?_
       refine Xo 13 4 32 ⟨false, true⟩ 2 rfl rfl rfl (sz := 1) rfl rfl rfl rfl ?_
       refine Xo 13 6 33 ⟨false, true⟩ 2 rfl rfl rfl (sz := 1) rfl rfl rfl rfl ?_
       refine Xo 13 7 34 ⟨false, true⟩ 75 rfl rfl rfl (sz := 2) rfl rfl rfl rfl ?_
       refine Qo [0, 1, 5, 6] [0, 13, 32, 33, 34] rfl rfl rfl rfl (by rw [hF]; rfl) ?_
       refine T_ren [(0, 0), (13, 13), (32, 14), (33, 70003), (34, 70004)] rfl rfl rfl (by rw [hF]; rfl) ?_
       exact hj1 (r47.2.code, r47.2.at_, r47.2.seed, (0 : Int), r47.1, (0 : Int), ([] : List Int), (0 : Int), ([] : List Int), ([] : List Term)) hm
      ·replace hm := QM hq hm
       refine Qn ?_
       refine Qc ?_
       refine Qa rfl rfl rfl rfl (Xq rfl rfl) ?_
       refine Qa rfl rfl rfl rfl (Qb rfl) ?_
       refine Qe ?_
       refine QI rfl (fun hq => ?_) (fun hq => ?_)
       ·replace hm := QO hq hm
        refine Qc ?_
        refine Qa rfl rfl rfl rfl (Qd rfl) ?_
        obtain ⟨r52, hr52, hm⟩ := Qv hm
        refine Q2 [(0, 0)] [(1000, 35)] [] (c_spec_l03DrawTerm (l00Src.mk j0.1 j0.2.1 j0.2.2.1) r52 hr52) Try.call112 rfl rfl rfl rfl rfl ⟨rfl, trivial⟩ rfl rfl rfl rfl rfl rfl rfl rfl rfl rfl rfl ?_
        refine Qa rfl rfl rfl rfl (Qi fa77_3 rfl rfl) ?_
        refine Qr sz75 rfl rfl rfl rfl rfl rfl rfl rfl rfl ?_
        refine Qe ?_
        refine Xo 13 6 36 ⟨false, true⟩ 2 rfl rfl rfl (sz := 1) rfl rfl rfl rfl ?_
        refine Xo 13 7 37 ⟨false, true⟩ 75 rfl rfl rfl (sz := 2) rfl rfl rfl rfl ?_
        refine Qo [0, 1, 5, 6] [0, 13, 35, 36, 37] rfl rfl rfl rfl (by rw [hF]; rfl) ?_
        refine T_ren [(0, 0), (13, 13), (35, 14), (36, 70003), (37, 70004)] rfl rfl rfl (by rw [hF]; rfl) ?_
        exact hj1 (r52.2.code, r52.2.at_, r52.2.seed, (0 : Int), (0 : Int), r52.1.Const, r52.1.Coeffs, (0 : Int), ([] : List Int), ([] : List Term)) hm
       ·replace hm := QM hq hm
        refine Qn ?_
        refine Qc ?_
        refine Qa rfl rfl rfl rfl (Xq rfl rfl) ?_
        refine Qa rfl rfl rfl rfl (Qb rfl) ?_
        refine Qe ?_
        refine QI rfl (fun hq => ?_) (fun hq => ?_)
        ·replace hm := QO hq hm
         refine Qc ?_
         refine Qa rfl rfl rfl rfl (Qd rfl) ?_
         obtain ⟨r57, hr57, hm⟩ := Qv hm
         refine Q2 [(0, 0)] [(1000, 38)] [] (c_spec_l03DrawTerm (l00Src.mk j0.1 j0.2.1 j0.2.2.1) r57 hr57) Try.call112 rfl rfl rfl rfl rfl ⟨rfl, trivial⟩ rfl rfl rfl rfl rfl rfl rfl rfl rfl rfl rfl ?_
         refine Qa rfl rfl rfl rfl (Qi fa77_3 rfl rfl) ?_
         refine Qr sz75 rfl rfl rfl rfl rfl rfl rfl rfl rfl ?_
         refine Qe ?_
         refine Xo 13 6 39 ⟨false, true⟩ 2 rfl rfl rfl (sz := 1) rfl rfl rfl rfl ?_
         refine Xo 13 7 40 ⟨false, true⟩ 75 rfl rfl rfl (sz := 2) rfl rfl rfl rfl ?_
         refine Qo [0, 1, 5, 6] [0, 13, 38, 39, 40] rfl rfl rfl rfl (by rw [hF]; rfl) ?_
         refine T_ren [(0, 0), (13, 13), (38, 14), (39, 70003), (40, 70004)] rfl rfl rfl (by rw [hF]; rfl) ?_
         exact hj1 (r57.2.code, r57.2.at_, r57.2.seed, (0 : Int), (0 : Int), r57.1.Const, r57.1.Coeffs, (0 : Int), ([] : List Int), ([] : List Term)) hm
        ·replace hm := QM hq hm
         refine Qn ?_
         refine Qc ?_
         refine Qa rfl rfl rfl rfl (Xq rfl rfl) ?_
         refine Qa rfl rfl rfl rfl (Qb rfl) ?_
         refine Qe ?_
         refine QI rfl (fun hq => ?_) (fun hq => ?_)
         ·replace hm := QO hq hm
          refine Qn ?_
          refine Qc ?_
          refine Qa rfl rfl rfl rfl (Qd rfl) ?_
          obtain ⟨r62, hr62, hm⟩ := Qv hm
          refine Q2 [(0, 0)] [(1000, 41)] [] (c_spec_l03DrawTerm (l00Src.mk j0.1 j0.2.1 j0.2.2.1) r62 hr62) Try.call112 rfl rfl rfl rfl rfl ⟨rfl, trivial⟩ rfl rfl rfl rfl rfl rfl rfl rfl rfl rfl rfl ?_
          refine Qa rfl rfl rfl rfl (Qi fa77_3 rfl rfl) ?_
          refine Qr sz75 rfl rfl rfl rfl rfl rfl rfl rfl rfl ?_
          refine Qe ?_
          refine Qc ?_
          refine Qa rfl rfl rfl rfl (Qd rfl) ?_
          obtain ⟨r65, hr65, hm⟩ := Qv hm
          refine Q2 [(0, 0)] [(1000, 42)] [] (c_spec_l03DrawFacts r62.2 r65 hr65) Try.call79 rfl rfl rfl rfl rfl ⟨rfl, trivial⟩ rfl rfl rfl rfl rfl rfl rfl rfl rfl rfl rfl ?_
          refine Qa rfl rfl rfl rfl (Qi fa77_5 rfl rfl) ?_
          refine Qr sz24 rfl rfl rfl rfl rfl rfl rfl rfl rfl ?_
          refine Qe ?_
          refine Xo 13 6 43 ⟨false, true⟩ 2 rfl rfl rfl (sz := 1) rfl rfl rfl rfl ?_
          refine Qo [0, 1, 5, 6] [0, 13, 41, 42, 43] rfl rfl rfl rfl (by rw [hF]; rfl) ?_
          refine T_ren [(0, 0), (13, 13), (41, 14), (42, 70004), (43, 70003)] rfl rfl rfl (by rw [hF]; rfl) ?_
          refine Qo [0, 1, 5, 6] [0, 13, 14, 70003, 70004] rfl rfl rfl rfl (by rw [hF]; rfl) ?_
          exact hj1 (r65.2.code, r65.2.at_, r65.2.seed, (0 : Int), (0 : Int), r62.1.Const, r62.1.Coeffs, (0 : Int), ([] : List Int), r65.1) hm
         ·replace hm := QM hq hm
          refine QL ?_
          refine Xo 13 4 44 ⟨false, true⟩ 2 rfl rfl rfl (sz := 1) rfl rfl rfl rfl ?_
          refine Xo 13 6 45 ⟨false, true⟩ 2 rfl rfl rfl (sz := 1) rfl rfl rfl rfl ?_
          refine Xo 13 7 46 ⟨false, true⟩ 75 rfl rfl rfl (sz := 2) rfl rfl rfl rfl ?_
          refine Qo [0, 1, 5, 6] [0, 13, 44, 45, 46] rfl rfl rfl rfl (by rw [hF]; rfl) ?_
          refine T_ren [(0, 0), (13, 13), (44, 14), (45, 70003), (46, 70004)] rfl rfl rfl (by rw [hF]; rfl) ?_
          exact hj1 (j0.1, j0.2.1, j0.2.2.1, (0 : Int), (0 : Int), (0 : Int), ([] : List Int), (0 : Int), ([] : List Int), ([] : List Term)) hm
 ·refine Qn ?_
  refine Qc ?_
  refine Qa rfl rfl rfl rfl (Qd rfl) ?_
  refine Qa rfl rfl rfl rfl (op_gtr rfl rfl) ?_
  refine Qe ?_
  refine QI rfl (fun hq => ?_) (fun hq => ?_)
  ·replace hm := QO hq hm
   refine Qc ?_
   refine Qa rfl rfl rfl rfl (Qd rfl) ?_
   refine QD 47 (es := List.map Qf [(1 : Int), (1 : Int), (1 : Int), (7 : Int), (8 : Int), (2 : Int), (5 : Int), (4 : Int)]) el29 z2 rfl rfl rfl rfl rfl rfl rfl rfl rfl ?_
   refine TL_freeze 47 (by rw [hF]; rfl) rfl rfl rfl ?_
   obtain ⟨r16, hr16, hm⟩ := Qv hm
   refine Q2 [(0, 0)] [] [] (c_spec_l00Src_among r11.2 [(1 : Int), (1 : Int), (1 : Int), (7 : Int), (8 : Int), (2 : Int), (5 : Int), (4 : Int)] r16 hr16) Try.call83 rfl rfl rfl rfl rfl ⟨rfl, trivial⟩ rfl rfl rfl rfl rfl rfl rfl rfl rfl rfl rfl ?_
   refine Qa rfl rfl rfl rfl (Qb rfl) ?_
   refine Qe ?_
   refine Qo [0, 1, 5] [0] rfl rfl rfl rfl (by rw [hF]; rfl) ?_
   exact hj0 (r16.2.code, r16.2.at_, r16.2.seed, r16.1) hm
  ·replace hm := QM hq hm
   refine QL ?_
   refine Qo [0, 1, 5] [0] rfl rfl rfl rfl (by rw [hF]; rfl) ?_
   exact hj0 (r11.2.code, r11.2.at_, r11.2.seed, r11.1) hm
theorem c_spec_l03DrawBody : ∀ (n : Nat) (p0 : l00Src) (p1 : Int) (out : (List Stmt) × l00Src), m_spec_l03DrawBody n p0 p1 = some out → ACall Try.prog 81 [.ptr 0 0 0, .int .i64 p1] [(0, .box [.sl 1 (List.map a_u8 p0.code), .int .i64 p0.at_, .int .u64 p0.seed])] (.sl 8 (List.map QZ out.1)) [(0, .box [.sl 1 (List.map a_u8 out.2.code), .int .i64 out.2.at_, .int .u64 out.2.seed])] := by
 intro n
 induction n with
 | zero => intro p0 p1 out hm; cases hm
 | succ n ih => intro p0 p1 out hm; exact c_spec_l03DrawBody_F (m_spec_l03DrawBody n) ih p0 p1 out hm
theorem c_spec_l03DrawOk (p0 : l00Src) (out : Program × l00Src) (hm : m_spec_l03DrawOk p0 = some out) : ACall Try.prog 43 [.ptr 0 0 0] [(0, .box [.sl 1 (List.map a_u8 p0.code), .int .i64 p0.at_, .int .u64 p0.seed])] (.agg [.sl 2 (List.map Qq out.1.Pre), .sl 8 (List.map QZ out.1.Body), .sl 2 (List.map Qq out.1.Post)]) [(0, .box [.sl 1 (List.map a_u8 out.2.code), .int .i64 out.2.at_, .int .u64 out.2.seed])] := by
 refine ACall.intro Try.func43 rfl Try.ntmps43 rfl (fun F hF => ?_)
 unfold m_spec_l03DrawOk at hm
 refine Qn ?_
 refine Qc ?_
 refine Xk 11 z27 rfl rfl rfl rfl rfl rfl rfl ?_
 refine Qe ?_
 refine Qn ?_
 refine Qc ?_
 refine Qa rfl rfl rfl rfl (Qd rfl) ?_
 obtain ⟨r6, hr6, hm⟩ := Qv hm
 refine Q2 [(0, 0)] [(1000, 12)] [] (c_spec_l03DrawFacts p0 r6 hr6) Try.call79 rfl rfl rfl rfl rfl ⟨rfl, trivial⟩ rfl rfl rfl rfl rfl rfl rfl rfl rfl rfl rfl ?_
 refine Qa rfl rfl rfl rfl (Xn pl27 z27 rfl rfl rfl rfl rfl) ?_
 refine Xk 13 z27 rfl rfl rfl rfl rfl rfl rfl ?_
 refine Qr sz27 rfl rfl rfl rfl rfl rfl rfl rfl rfl ?_
 refine Qe ?_
 refine Qn ?_
 refine Qc ?_
 refine Qa rfl rfl rfl rfl (Qd rfl) ?_
 obtain ⟨r9, hr9, hm⟩ := Qv hm
 refine Q2 [(0, 0)] [] [] (QY r6.2 (4 : Int) r9 hr9) Try.call80 rfl rfl rfl rfl rfl ⟨rfl, trivial⟩ rfl rfl rfl rfl rfl rfl rfl rfl rfl rfl rfl ?_
 refine Qa rfl rfl rfl rfl (Qb rfl) ?_
 refine Qe ?_
 refine Qn ?_
 refine Qc ?_
 refine Qa rfl rfl rfl rfl (Qd rfl) ?_
 refine Qa rfl rfl rfl rfl (Qd rfl) ?_
 obtain ⟨r12, hr12, hm⟩ := Qv hm
 refine Q2 [(0, 0)] [] [] (c_spec_l03DrawBody 1000 r9.2 r9.1 r12 hr12) Try.call81 rfl rfl rfl rfl rfl ⟨rfl, trivial⟩ rfl rfl rfl rfl rfl rfl rfl rfl rfl rfl rfl ?_
 refine Qa rfl rfl rfl rfl (Qi fa27_1 rfl rfl) ?_
 refine Qr sz25 rfl rfl rfl rfl rfl rfl rfl rfl rfl ?_
 refine Qe ?_
 refine Qn ?_
 refine Qc ?_
 refine Qa rfl rfl rfl rfl (Qd rfl) ?_
 obtain ⟨r15, hr15, hm⟩ := Qv hm
 refine Q2 [(0, 0)] [(1000, 14)] [] (c_spec_l03DrawFacts r12.2 r15 hr15) Try.call79 rfl rfl rfl rfl rfl ⟨rfl, trivial⟩ rfl rfl rfl rfl rfl rfl rfl rfl rfl rfl rfl ?_
 refine Qa rfl rfl rfl rfl (Qi fa27_2 rfl rfl) ?_
 refine Qr sz24 rfl rfl rfl rfl rfl rfl rfl rfl rfl ?_
 refine Qe ?_
 refine Qn ?_
 refine Qn ?_
 refine Qc ?_
 refine Qa rfl rfl rfl rfl (Qi fa27_1 rfl rfl) ?_
 refine Qa rfl rfl rfl rfl (Qj ag25 rfl rfl) ?_
 refine Qa rfl rfl rfl rfl (Xm Try.underlying25 rfl (List.length_map _)) ?_
 refine Xy (fun _ _ _ hr => RelP.slLen (i := 18) rfl hr) (fun hlen19 => ?_)
 rw [List.length_map] at hlen19
 refine Qa rfl rfl rfl rfl (op_gtr rfl rfl) ?_
 refine Qe ?_
 refine QI rfl (fun hq => ?_) (fun hq => ?_)
 ·replace hm := QO hq hm
  refine Qc ?_
  refine Qa rfl rfl rfl rfl (Xn pl77 z77 rfl rfl rfl rfl rfl) ?_
  refine TL_ownNilAt 21 4 16 ⟨false, true⟩ 2 rfl rfl rfl (sz := 1) rfl rfl rfl rfl ?_
  refine TL_ownNilAt 21 6 17 ⟨false, true⟩ 2 rfl rfl rfl (sz := 1) rfl rfl rfl rfl ?_
  refine TL_ownNilAt 21 7 18 ⟨false, true⟩ 75 rfl rfl rfl (sz := 2) rfl rfl rfl rfl ?_
  refine TL_buildSliceD (ids := [16, 17, 18]) (es := List.map QZ ([(Stmt.mk (0 : Int) (0 : Int) (0 : Int) (Term.mk (0 : Int) ([] : List Int)) (Term.mk (0 : Int) ([] : List Int)) ([] : List Term))])) 15 el25 z77 rfl rfl rfl rfl rfl rfl (by rw [hF]; intro j hj; simp only [List.mem_cons, List.not_mem_nil, or_false] at hj; rcases hj with rfl | rfl | rfl <;> rfl) rfl rfl rfl rfl rfl rfl ?_
  refine Qa rfl rfl rfl rfl (Qi fa27_1 rfl rfl) ?_
  refine Qr sz25 rfl rfl rfl rfl rfl rfl rfl rfl rfl ?_
  refine Qe ?_
  refine Qn ?_
  refine Qc ?_
  refine Qa rfl rfl rfl rfl (Qt ag27 sz27 rfl rfl rfl) ?_
  refine Qr sz27 rfl rfl rfl rfl rfl rfl rfl rfl rfl ?_
  refine Qe ?_
  refine Qo [2] [0, 11, 12, 14, 15] rfl rfl rfl rfl (by rw [hF]; rfl) ?_
  refine T_freeze 12 (by rw [hF]; rfl) rfl rfl rfl ?_
  refine T_freeze 15 (by rw [hF]; rfl) rfl rfl rfl ?_
  refine T_freeze 14 (by rw [hF]; rfl) rfl rfl rfl ?_
  refine QB ?_
  obtain rfl := Qw hm
  refine ⟨[_], [0], ⟨⟨_, _, rfl, rfl, .inr ⟨ag27, _, _, sz27, rfl, rfl⟩⟩, trivial⟩, ?_, rfl, rfl, rfl, rfl⟩
  rfl
 ·replace hm := QM hq hm
  refine QL ?_
  refine Qn ?_
  refine Qc ?_
  refine Qa rfl rfl rfl rfl (Qt ag27 sz27 rfl rfl rfl) ?_
  refine Qr sz27 rfl rfl rfl rfl rfl rfl rfl rfl rfl ?_
  refine Qe ?_
  refine Qo [2] [0, 11, 12, 14] rfl rfl rfl rfl (by rw [hF]; rfl) ?_
  refine T_freeze 12 (by rw [hF]; rfl) rfl rfl rfl ?_
  refine T_freeze 14 (by rw [hF]; rfl) rfl rfl rfl ?_
  refine QB ?_
  obtain rfl := Qw hm
  refine ⟨[_], [0], ⟨⟨_, _, rfl, rfl, .inr ⟨ag27, _, _, sz27, rfl, rfl⟩⟩, trivial⟩, ?_, rfl, rfl, rfl, rfl⟩
  rfl
theorem c_spec_R8Program (p0 : List Int) (out : Program) (hm : m_spec_R8Program p0 = some out) : ACall Try.prog 11 [.sl 1 (List.map a_u8 p0)] [] (.agg [.sl 2 (List.map Qq out.Pre), .sl 8 (List.map QZ out.Body), .sl 2 (List.map Qq out.Post)]) [] := by
 refine ACall.intro Try.func11 rfl Try.ntmps11 rfl (fun F hF => ?_)
 unfold m_spec_R8Program at hm
 refine Qn ?_
 refine Qc ?_
 refine Xk 11 z27 rfl rfl rfl rfl rfl rfl rfl ?_
 refine Qe ?_
 refine Qn ?_
 refine Qc ?_
 refine Qa rfl rfl rfl rfl (Qd rfl) ?_
 obtain ⟨r5, hr5, hm⟩ := Qv hm
 refine TLE_call [] [(1000, 12)] [] (c_spec_l00From p0 r5 hr5) (fun _ => rfl) Try.call42 rfl rfl rfl rfl rfl trivial rfl rfl rfl rfl rfl rfl rfl rfl rfl rfl rfl ?_
 refine Qa rfl rfl rfl rfl (Qb rfl) ?_
 refine Qe ?_
 refine Qn ?_
 refine Qc ?_
 refine Qa rfl rfl rfl rfl (Qd rfl) ?_
 obtain ⟨r7, hr7, hm⟩ := Qv hm
 refine Q2 [(0, 12)] [] [] (c_spec_l03DrawOk r5 r7 hr7) Try.call43 rfl rfl rfl rfl rfl ⟨rfl, trivial⟩ rfl rfl rfl rfl rfl rfl rfl rfl rfl rfl rfl ?_
 refine Qr sz27 rfl rfl rfl rfl rfl rfl rfl rfl rfl ?_
 refine Qe ?_
 refine Qo [2] [11] rfl rfl rfl rfl (by rw [hF]; rfl) ?_
 refine QB ?_
 obtain rfl := Qw hm
 refine ⟨[_], [], ⟨⟨_, _, rfl, rfl, .inr ⟨ag27, _, _, sz27, rfl, rfl⟩⟩, trivial⟩, ?_, rfl, rfl, rfl, rfl⟩
 rfl
theorem c_spec_l03DrawState (p0 : l00Src) (out : State × l00Src) (hm : m_spec_l03DrawState p0 = some out) : ACall Try.prog 44 [.ptr 0 0 0] [(0, .box [.sl 1 (List.map a_u8 p0.code), .int .i64 p0.at_, .int .u64 p0.seed])] (.agg [.ow 1000, .ow 1001]) [(0, .box [.sl 1 (List.map a_u8 out.2.code), .int .i64 out.2.at_, .int .u64 out.2.seed]), (1000, .arr ⟨false, true⟩ 1 2 (List.map Qf out.1.Vars)), (1001, .arr ⟨false, true⟩ 1 2 (List.map Qf out.1.Cells))] := by
 refine ACall.intro Try.func44 rfl Try.ntmps44 rfl (fun F hF => ?_)
 unfold m_spec_l03DrawState at hm
 refine Qn ?_
 refine Qc ?_
 refine Xk 11 z31 rfl rfl rfl rfl rfl rfl rfl ?_
 refine Qe ?_
 refine Qn ?_
 refine Qc ?_
 refine QD 12 (es := List.map Qf ([] : List Int)) el29 z2 rfl rfl rfl rfl rfl rfl rfl rfl rfl ?_
 refine QD 13 (es := List.map Qf ([] : List Int)) el29 z2 rfl rfl rfl rfl rfl rfl rfl rfl rfl ?_
 refine Qa rfl rfl rfl rfl (Xn pl31 z31 rfl rfl rfl rfl rfl) ?_
 refine Xk 14 z31 rfl rfl rfl rfl rfl rfl rfl ?_
 refine Qr sz31 rfl rfl rfl rfl rfl rfl rfl rfl rfl ?_
 refine Qe ?_
 refine Qn ?_
 refine Qn ?_
 refine Qc ?_
 refine Qa rfl rfl rfl rfl (Qb rfl) ?_
 refine Qe ?_
 refine Xd ?_
 refine Qo [0, 2, 3, 4] [0, 11, 12, 13, 14] rfl rfl rfl rfl (by rw [hF]; rfl) ?_
 refine T_loop ?_
 obtain ⟨u0, hl0, hm⟩ := Qv hm
 refine TR_iter2 (m_spec_l03DrawState_L0) (fun (s0 : (List Int) × Int × Int × (List Int) × Int) => ⟨[(0, .ptr 0 0 0), (2, .ptr 11 0 0), (3, .ptr 14 0 0), (4, .int .i64 s0.2.2.2.2)], [(0, .box [.sl 1 (List.map a_u8 s0.1), .int .i64 s0.2.1, .int .u64 s0.2.2.1]), (11, .box [.snil, .snil]), (12, .arr ⟨false, false⟩ 1 2 (List.map Qf s0.2.2.2.1)), (13, .arr ⟨false, false⟩ 1 2 (List.map Qf ([] : List Int))), (14, .box [.ow 12, .ow 13])]⟩) (fun u0 => .exit 0) (fun u0 => ⟨[(0, .ptr 0 0 0), (2, .ptr 11 0 0), (3, .ptr 14 0 0)], [(0, .box [.sl 1 (List.map a_u8 u0.1), .int .i64 u0.2.1, .int .u64 u0.2.2.1]), (11, .box [.snil, .snil]), (12, .arr ⟨false, false⟩ 1 2 (List.map Qf u0.2.2.2)), (13, .arr ⟨false, false⟩ 1 2 (List.map Qf ([] : List Int))), (14, .box [.ow 12, .ow 13])]⟩) (fun u0 => m_spec_l03DrawState_A0 u0 = some out) hl0 hm (fun u0 hm => ?_) (fun hx0 s0 c0 hm hc0 => ?_)
 ·unfold m_spec_l03DrawState_A0 at hm
  refine Qn ?_
  refine Qn ?_
  refine Qc ?_
  refine Qa rfl rfl rfl rfl (Qb rfl) ?_
  refine Qe ?_
  refine Xd ?_
  refine Qo [0, 2, 3, 5] [0, 11, 12, 13, 14] rfl rfl rfl rfl (by rw [hF]; rfl) ?_
  refine T_loop ?_
  obtain ⟨u1, hl1, hm⟩ := Qv hm
  refine TR_iter2 (m_spec_l03DrawState_L1) (fun (s1 : (List Int) × Int × Int × (List Int) × Int) => ⟨[(0, .ptr 0 0 0), (2, .ptr 11 0 0), (3, .ptr 14 0 0), (5, .int .i64 s1.2.2.2.2)], [(0, .box [.sl 1 (List.map a_u8 s1.1), .int .i64 s1.2.1, .int .u64 s1.2.2.1]), (11, .box [.snil, .snil]), (12, .arr ⟨false, false⟩ 1 2 (List.map Qf u0.2.2.2)), (13, .arr ⟨false, false⟩ 1 2 (List.map Qf s1.2.2.2.1)), (14, .box [.ow 12, .ow 13])]⟩) (fun u1 => .exit 2) (fun u1 => ⟨[(0, .ptr 0 0 0), (2, .ptr 11 0 0), (3, .ptr 14 0 0)], [(0, .box [.sl 1 (List.map a_u8 u1.1), .int .i64 u1.2.1, .int .u64 u1.2.2.1]), (11, .box [.snil, .snil]), (12, .arr ⟨false, false⟩ 1 2 (List.map Qf u0.2.2.2)), (13, .arr ⟨false, false⟩ 1 2 (List.map Qf u1.2.2.2)), (14, .box [.ow 12, .ow 13])]⟩) (fun u1 => m_spec_l03DrawState_A1 u0 u1 = some out) hl1 hm (fun u1 hm => ?_) (fun hx1 s1 c1 hm hc1 => ?_)
  ·unfold m_spec_l03DrawState_A1 at hm
   refine Qn ?_
   refine Qn ?_
   refine Qc ?_
   refine Qa rfl rfl rfl rfl (Qd rfl) ?_
   obtain ⟨r34, hr34, hm⟩ := Qv hm
   refine Q2 [(0, 0)] [] [] (c_spec_l00Src_one (l00Src.mk u1.1 u1.2.1 u1.2.2.1) (8 : Int) r34 hr34) Try.call82 rfl rfl rfl rfl rfl ⟨rfl, trivial⟩ rfl rfl rfl rfl rfl rfl rfl rfl rfl rfl rfl ?_
   refine Qe ?_
   refine QI rfl (fun hq => ?_) (fun hq => ?_)
   ·replace hm := QO hq hm
    refine T_drawZ [3, 4, 6] mix (by kernel_rfl) rfl ?_
    obtain ⟨r39, hr39, hm⟩ := Qv hm
    obtain ⟨x40, hx40, hm⟩ := Qv hm
    refine Ql 0 (by kernel_rfl) rfl rfl rfl rfl rfl (Qi fa31_0 rfl rfl) ?_
    refine Ql 2 (by kernel_rfl) rfl rfl rfl rfl rfl (Qd rfl) ?_
    refine XD 4 [true, true, true, false, false, false, false] ⟨[(0, .ptr 0 0 0), (2, .ptr 11 0 0), (3, .ptr 14 0 0), (33, .ptr 0 0 0), (34, .bool r34.1), (35, .ptr 14 0 0), (36, .ow 12), (37, .ptr 0 0 0)], [(0, .box [.sl 1 (List.map a_u8 r34.2.code), .int .i64 r34.2.at_, .int .u64 r34.2.seed]), (11, .box [.snil, .snil]), (12, .arr ⟨false, false⟩ 1 2 (List.map Qf u0.2.2.2)), (13, .arr ⟨false, false⟩ 1 2 (List.map Qf u1.2.2.2)), (14, .box [.ow 12, .ow 13])]⟩ ?_ (fun hS4334_0 => ?_)
    ·refine QF 3 (by kernel_rfl) rfl ?_
     refine QD 4655 (es := List.map Qf [(1000000000 : Int), (-1000000000 : Int)]) el29 z2 rfl rfl rfl rfl rfl rfl rfl rfl rfl ?_
     refine Qe ?_
     refine QF 4 (by kernel_rfl) rfl ?_
     refine TL_freeze 4655 (by rw [hF]; rfl) rfl rfl rfl ?_
     refine Q2 [(0, 0)] [] [] (c_spec_l00Src_among r34.2 [(1000000000 : Int), (-1000000000 : Int)] r39 hr39) Try.call83 rfl rfl rfl rfl rfl ⟨rfl, trivial⟩ rfl rfl rfl rfl rfl rfl rfl rfl rfl rfl rfl ?_
     refine Qe ?_
     refine Ql 5 (by kernel_rfl) rfl rfl rfl rfl rfl (op_indexO el29 rfl rfl rfl hx40) ?_
     refine QF 6 (by kernel_rfl) rfl ?_
     refine TL_storeT sz2 rfl rfl ((getI_spec hx40).2) (v' := r39.1) rfl rfl rfl rfl rfl rfl rfl rfl rfl rfl ?_
     refine Qe ?_
     refine Q8 (by kernel_rfl) ?_
     refine Qn ?_
     refine Qc ?_
     refine Qa rfl rfl rfl rfl (Qt ag31 sz31 rfl rfl rfl) ?_
     refine Qr sz31 rfl rfl rfl rfl rfl rfl rfl rfl rfl ?_
     refine Qe ?_
     refine Qo [2] [0, 11, 12, 13] rfl rfl rfl rfl (by rw [hF]; rfl) ?_
     refine T_deepen 12 (p' := false) (List.map Qf (u0.2.2.2.set (((0 : Int)).toNat) r39.1)) (by rw [hF]; rfl) rfl (ElR.map (f := Qf) (g := Qf) (fun _ => ⟨⟨rfl, rfl⟩, trivial⟩) (u0.2.2.2.set (((0 : Int)).toNat) r39.1)) rfl rfl rfl ?_
     refine T_deepen 13 (p' := false) (List.map Qf u1.2.2.2) (by rw [hF]; rfl) rfl (ElR.map (f := Qf) (g := Qf) (fun _ => ⟨⟨rfl, rfl⟩, trivial⟩) u1.2.2.2) rfl rfl rfl ?_
     refine T_ren [(0, 0), (11, 11), (12, 1000), (13, 1001)] rfl rfl rfl (by rw [hF]; rfl) ?_
     refine QB ?_
     obtain rfl := Qw hm
     refine ⟨[_], [0, 1000, 1001], ⟨⟨_, _, rfl, rfl, .inr ⟨ag31, _, _, sz31, rfl, rfl⟩⟩, trivial⟩, ?_, rfl, rfl, rfl, rfl⟩
     rfl
    refine XD 3 [true, true, true, true, false, false, false] ⟨[(0, .ptr 0 0 0), (2, .ptr 11 0 0), (3, .ptr 14 0 0), (33, .ptr 0 0 0), (34, .bool r34.1), (35, .ptr 14 0 0), (36, .ow 12), (37, .ptr 0 0 0), (38, .ow 4655)], [(0, .box [.sl 1 (List.map a_u8 r34.2.code), .int .i64 r34.2.at_, .int .u64 r34.2.seed]), (11, .box [.snil, .snil]), (12, .arr ⟨false, false⟩ 1 2 (List.map Qf u0.2.2.2)), (13, .arr ⟨false, false⟩ 1 2 (List.map Qf u1.2.2.2)), (14, .box [.ow 12, .ow 13]), (4655, .arr ⟨false, false⟩ 1 2 (List.map Qf [(1000000000 : Int), (-1000000000 : Int)]))]⟩ ?_ (fun hS4334_1 => ?_)
    ·refine QF 4 (by kernel_rfl) rfl ?_
     refine TL_freeze 4655 (by rw [hF]; rfl) rfl rfl rfl ?_
     refine Q2 [(0, 0)] [] [] (c_spec_l00Src_among r34.2 [(1000000000 : Int), (-1000000000 : Int)] r39 hr39) Try.call83 rfl rfl rfl rfl rfl ⟨rfl, trivial⟩ rfl rfl rfl rfl rfl rfl rfl rfl rfl rfl rfl ?_
     refine Qe ?_
     refine Ql 5 (by kernel_rfl) rfl rfl rfl rfl rfl (op_indexO el29 rfl rfl rfl hx40) ?_
     refine QF 6 (by kernel_rfl) rfl ?_
     refine TL_storeT sz2 rfl rfl ((getI_spec hx40).2) (v' := r39.1) rfl rfl rfl rfl rfl rfl rfl rfl rfl rfl ?_
     refine Qe ?_
     refine Q8 (by kernel_rfl) ?_
     refine Qn ?_
     refine Qc ?_
     refine Qa rfl rfl rfl rfl (Qt ag31 sz31 rfl rfl rfl) ?_
     refine Qr sz31 rfl rfl rfl rfl rfl rfl rfl rfl rfl ?_
     refine Qe ?_
     refine Qo [2] [0, 11, 12, 13] rfl rfl rfl rfl (by rw [hF]; rfl) ?_
     refine T_deepen 12 (p' := false) (List.map Qf (u0.2.2.2.set (((0 : Int)).toNat) r39.1)) (by rw [hF]; rfl) rfl (ElR.map (f := Qf) (g := Qf) (fun _ => ⟨⟨rfl, rfl⟩, trivial⟩) (u0.2.2.2.set (((0 : Int)).toNat) r39.1)) rfl rfl rfl ?_
     refine T_deepen 13 (p' := false) (List.map Qf u1.2.2.2) (by rw [hF]; rfl) rfl (ElR.map (f := Qf) (g := Qf) (fun _ => ⟨⟨rfl, rfl⟩, trivial⟩) u1.2.2.2) rfl rfl rfl ?_
     refine T_ren [(0, 0), (11, 11), (12, 1000), (13, 1001)] rfl rfl rfl (by rw [hF]; rfl) ?_
     refine QB ?_
     obtain rfl := Qw hm
     refine ⟨[_], [0, 1000, 1001], ⟨⟨_, _, rfl, rfl, .inr ⟨ag31, _, _, sz31, rfl, rfl⟩⟩, trivial⟩, ?_, rfl, rfl, rfl, rfl⟩
     rfl
    refine XD 3 [true, false, true, true, true, false, false] ⟨[(0, .ptr 0 0 0), (2, .ptr 11 0 0), (3, .ptr 14 0 0), (33, .ptr 0 0 0), (34, .bool r34.1), (35, .ptr 14 0 0), (37, .ptr 0 0 0), (38, .sl 1 (List.map Qf [(1000000000 : Int), (-1000000000 : Int)])), (39, .int .i64 r39.1)], [(0, .box [.sl 1 (List.map a_u8 r39.2.code), .int .i64 r39.2.at_, .int .u64 r39.2.seed]), (11, .box [.snil, .snil]), (12, .arr ⟨false, false⟩ 1 2 (List.map Qf u0.2.2.2)), (13, .arr ⟨false, false⟩ 1 2 (List.map Qf u1.2.2.2)), (14, .box [.ow 12, .ow 13])]⟩ ?_ (fun hS4334_2 => ?_)
    ·refine Ql 1 (by kernel_rfl) rfl rfl rfl rfl rfl (Qj ag29 rfl rfl) ?_
     refine Ql 5 (by kernel_rfl) rfl rfl rfl rfl rfl (op_indexO el29 rfl rfl rfl hx40) ?_
     refine QF 6 (by kernel_rfl) rfl ?_
     refine TL_storeT sz2 rfl rfl ((getI_spec hx40).2) (v' := r39.1) rfl rfl rfl rfl rfl rfl rfl rfl rfl rfl ?_
     refine Qe ?_
     refine Q8 (by kernel_rfl) ?_
     refine Qn ?_
     refine Qc ?_
     refine Qa rfl rfl rfl rfl (Qt ag31 sz31 rfl rfl rfl) ?_
     refine Qr sz31 rfl rfl rfl rfl rfl rfl rfl rfl rfl ?_
     refine Qe ?_
     refine Qo [2] [0, 11, 12, 13] rfl rfl rfl rfl (by rw [hF]; rfl) ?_
     refine T_deepen 12 (p' := false) (List.map Qf (u0.2.2.2.set (((0 : Int)).toNat) r39.1)) (by rw [hF]; rfl) rfl (ElR.map (f := Qf) (g := Qf) (fun _ => ⟨⟨rfl, rfl⟩, trivial⟩) (u0.2.2.2.set (((0 : Int)).toNat) r39.1)) rfl rfl rfl ?_
     refine T_deepen 13 (p' := false) (List.map Qf u1.2.2.2) (by rw [hF]; rfl) rfl (ElR.map (f := Qf) (g := Qf) (fun _ => ⟨⟨rfl, rfl⟩, trivial⟩) u1.2.2.2) rfl rfl rfl ?_
     refine T_ren [(0, 0), (11, 11), (12, 1000), (13, 1001)] rfl rfl rfl (by rw [hF]; rfl) ?_
     refine QB ?_
     obtain rfl := Qw hm
     refine ⟨[_], [0, 1000, 1001], ⟨⟨_, _, rfl, rfl, .inr ⟨ag31, _, _, sz31, rfl, rfl⟩⟩, trivial⟩, ?_, rfl, rfl, rfl, rfl⟩
     rfl
    refine XD 4 [true, false, true, true, false, false, false] ⟨[(0, .ptr 0 0 0), (2, .ptr 11 0 0), (3, .ptr 14 0 0), (33, .ptr 0 0 0), (34, .bool r34.1), (35, .ptr 14 0 0), (37, .ptr 0 0 0), (38, .ow 4655)], [(0, .box [.sl 1 (List.map a_u8 r34.2.code), .int .i64 r34.2.at_, .int .u64 r34.2.seed]), (11, .box [.snil, .snil]), (12, .arr ⟨false, false⟩ 1 2 (List.map Qf u0.2.2.2)), (13, .arr ⟨false, false⟩ 1 2 (List.map Qf u1.2.2.2)), (14, .box [.ow 12, .ow 13]), (4655, .arr ⟨false, false⟩ 1 2 (List.map Qf [(1000000000 : Int), (-1000000000 : Int)]))]⟩ ?_ (fun hS4334_3 => ?_)
    ·refine TZ_each [1, 4] (by kernel_rfl) rfl ?_
     refine ⟨?_, ?_⟩
     ·refine ⟨_, rfl, ?_⟩
      refine Qa rfl rfl rfl rfl (Qj ag29 rfl rfl) ?_
      refine Qe ?_
      refine QU [0, 2, 3, 33, 34, 35, 36, 37, 38] [0, 11, 12, 13, 14, 4655] rfl rfl rfl rfl (by rw [hF]; rfl) ?_
      exact hS4334_1
     ·refine ⟨_, rfl, ?_⟩
      refine TL_freeze 4655 (by rw [hF]; rfl) rfl rfl rfl ?_
      refine Q2 [(0, 0)] [] [] (c_spec_l00Src_among r34.2 [(1000000000 : Int), (-1000000000 : Int)] r39 hr39) Try.call83 rfl rfl rfl rfl rfl ⟨rfl, trivial⟩ rfl rfl rfl rfl rfl rfl rfl rfl rfl rfl rfl ?_
      refine Qe ?_
      refine QU [0, 2, 3, 33, 34, 35, 37, 38, 39] [0, 11, 12, 13, 14] rfl rfl rfl rfl (by rw [hF]; rfl) ?_
      exact hS4334_2
    refine TZ_each [1, 3] (by kernel_rfl) rfl ?_
    refine ⟨?_, ?_⟩
    ·refine ⟨_, rfl, ?_⟩
     refine Qa rfl rfl rfl rfl (Qj ag29 rfl rfl) ?_
     refine Qe ?_
     refine QU [0, 2, 3, 33, 34, 35, 36, 37] [0, 11, 12, 13, 14] rfl rfl rfl rfl (by rw [hF]; rfl) ?_
     exact hS4334_0
    ·refine ⟨_, rfl, ?_⟩
     refine QD 4655 (es := List.map Qf [(1000000000 : Int), (-1000000000 : Int)]) el29 z2 rfl rfl rfl rfl rfl rfl rfl rfl rfl ?_
     refine Qe ?_
     refine QU [0, 2, 3, 33, 34, 35, 37, 38] [0, 11, 12, 13, 14, 4655] rfl rfl rfl rfl (by rw [hF]; rfl) ?_
     exact hS4334_3
   ·replace hm := QM hq hm
    refine QL ?_
    refine Qn ?_
    refine Qc ?_
    refine Qa rfl rfl rfl rfl (Qt ag31 sz31 rfl rfl rfl) ?_
    refine Qr sz31 rfl rfl rfl rfl rfl rfl rfl rfl rfl ?_
    refine Qe ?_
    refine Qo [2] [0, 11, 12, 13] rfl rfl rfl rfl (by rw [hF]; rfl) ?_
    refine T_deepen 12 (p' := false) (List.map Qf u0.2.2.2) (by rw [hF]; rfl) rfl (ElR.map (f := Qf) (g := Qf) (fun _ => ⟨⟨rfl, rfl⟩, trivial⟩) u0.2.2.2) rfl rfl rfl ?_
    refine T_deepen 13 (p' := false) (List.map Qf u1.2.2.2) (by rw [hF]; rfl) rfl (ElR.map (f := Qf) (g := Qf) (fun _ => ⟨⟨rfl, rfl⟩, trivial⟩) u1.2.2.2) rfl rfl rfl ?_
    refine T_ren [(0, 0), (11, 11), (12, 1000), (13, 1001)] rfl rfl rfl (by rw [hF]; rfl) ?_
    refine QB ?_
    obtain rfl := Qw hm
    refine ⟨[_], [0, 1000, 1001], ⟨⟨_, _, rfl, rfl, .inr ⟨ag31, _, _, sz31, rfl, rfl⟩⟩, trivial⟩, ?_, rfl, rfl, rfl, rfl⟩
    rfl
  ·unfold m_spec_l03DrawState_L1 at hm
   refine Qn ?_
   refine Qn ?_
   refine Qc ?_
   refine Qa rfl rfl rfl rfl (Qd rfl) ?_
   refine Qa rfl rfl rfl rfl (op_lss rfl rfl) ?_
   refine Qe ?_
   refine QI rfl (fun hq => ?_) (fun hq => ?_)
   ·replace hm := QO hq hm
    refine QL ?_
    refine Qn ?_
    refine Xd ?_
    refine T_drawZ [3, 5, 6, 8] mix (by kernel_rfl) rfl ?_
    obtain ⟨r28, hr28, hm⟩ := Qv hm
    obtain ⟨q31, hq31, hm⟩ := Qv hm
    refine Ql 0 (by kernel_rfl) rfl rfl rfl rfl rfl (Qi fa31_1 rfl rfl) ?_
    refine Ql 2 (by kernel_rfl) rfl rfl rfl rfl rfl (Qd rfl) ?_
    refine XD 6 [true, true, true, false, false, false, false, false, false] ⟨[(0, .ptr 0 0 0), (2, .ptr 11 0 0), (3, .ptr 14 0 0), (5, .int .i64 s1.2.2.2.2), (21, .int .i64 s1.2.2.2.2), (22, .bool (decide (s1.2.2.2.2 < (8 : Int)))), (25, .ptr 14 0 1), (26, .ow 13), (27, .ptr 0 0 0)], [(0, .box [.sl 1 (List.map a_u8 s1.1), .int .i64 s1.2.1, .int .u64 s1.2.2.1]), (11, .box [.snil, .snil]), (12, .arr ⟨false, false⟩ 1 2 (List.map Qf u0.2.2.2)), (13, .arr ⟨false, false⟩ 1 2 (List.map Qf s1.2.2.2.1)), (14, .box [.ow 12, .ow 13])]⟩ ?_ (fun hS3614_0 => ?_)
    ·refine QF 3 (by kernel_rfl) rfl ?_
     refine Q2 [(0, 0)] [] [] (QY (l00Src.mk s1.1 s1.2.1 s1.2.2.1) (9 : Int) r28 hr28) Try.call80 rfl rfl rfl rfl rfl ⟨rfl, trivial⟩ rfl rfl rfl rfl rfl rfl rfl rfl rfl rfl rfl ?_
     refine Qe ?_
     refine Ql 4 (by kernel_rfl) rfl rfl rfl rfl rfl (op_subW rfl rfl) ?_
     refine QF 5 (by kernel_rfl) rfl ?_
     refine QD 4095 (es := List.map Qf [(w64 (r28.1 - (2 : Int)))]) el29 z2 rfl rfl rfl rfl rfl rfl rfl rfl rfl ?_
     refine Qe ?_
     refine QF 6 (by kernel_rfl) rfl ?_
     refine Xc (f := Qf) (a := s1.2.2.2.1) (b := [(w64 (r28.1 - (2 : Int)))]) el29 z2 rfl rfl rfl rfl rfl rfl rfl (Xa hq31) rfl rfl rfl rfl rfl ?_
     refine Qe ?_
     refine Ql 7 (by kernel_rfl) rfl rfl rfl rfl rfl (Qi fa31_1 rfl rfl) ?_
     refine QF 8 (by kernel_rfl) rfl ?_
     refine Qr sz29 rfl rfl rfl rfl rfl rfl rfl rfl rfl ?_
     refine Qe ?_
     refine Q8 (by kernel_rfl) ?_
     refine Qc ?_
     refine Qa rfl rfl rfl rfl (Qd rfl) ?_
     refine Qa rfl rfl rfl rfl (op_addW rfl rfl) ?_
     refine Qa rfl rfl rfl rfl (Qb rfl) ?_
     refine Qe ?_
     refine Xw [0, 2, 3, 5] [0, 11, 12, 13, 14] rfl rfl rfl rfl (by rw [hF]; rfl) ?_
     obtain rfl := Qw hm
     have hn := Q7 hc1
     exact hn _ rfl
    refine XD 4 [true, true, true, true, true, false, false, false, false] ⟨[(0, .ptr 0 0 0), (2, .ptr 11 0 0), (3, .ptr 14 0 0), (5, .int .i64 s1.2.2.2.2), (21, .int .i64 s1.2.2.2.2), (22, .bool (decide (s1.2.2.2.2 < (8 : Int)))), (25, .ptr 14 0 1), (26, .ow 13), (27, .ptr 0 0 0), (28, .int .i64 r28.1), (29, .int .i64 (w64 (r28.1 - (2 : Int))))], [(0, .box [.sl 1 (List.map a_u8 r28.2.code), .int .i64 r28.2.at_, .int .u64 r28.2.seed]), (11, .box [.snil, .snil]), (12, .arr ⟨false, false⟩ 1 2 (List.map Qf u0.2.2.2)), (13, .arr ⟨false, false⟩ 1 2 (List.map Qf s1.2.2.2.1)), (14, .box [.ow 12, .ow 13])]⟩ ?_ (fun hS3614_1 => ?_)
    ·refine QF 5 (by kernel_rfl) rfl ?_
     refine QD 4095 (es := List.map Qf [(w64 (r28.1 - (2 : Int)))]) el29 z2 rfl rfl rfl rfl rfl rfl rfl rfl rfl ?_
     refine Qe ?_
     refine QF 6 (by kernel_rfl) rfl ?_
     refine Xc (f := Qf) (a := s1.2.2.2.1) (b := [(w64 (r28.1 - (2 : Int)))]) el29 z2 rfl rfl rfl rfl rfl rfl rfl (Xa hq31) rfl rfl rfl rfl rfl ?_
     refine Qe ?_
     refine Ql 7 (by kernel_rfl) rfl rfl rfl rfl rfl (Qi fa31_1 rfl rfl) ?_
     refine QF 8 (by kernel_rfl) rfl ?_
     refine Qr sz29 rfl rfl rfl rfl rfl rfl rfl rfl rfl ?_
     refine Qe ?_
     refine Q8 (by kernel_rfl) ?_
     refine Qc ?_
     refine Qa rfl rfl rfl rfl (Qd rfl) ?_
     refine Qa rfl rfl rfl rfl (op_addW rfl rfl) ?_
     refine Qa rfl rfl rfl rfl (Qb rfl) ?_
     refine Qe ?_
     refine Xw [0, 2, 3, 5] [0, 11, 12, 13, 14] rfl rfl rfl rfl (by rw [hF]; rfl) ?_
     obtain rfl := Qw hm
     have hn := Q7 hc1
     exact hn _ rfl
    refine XD 4 [true, false, true, true, true, true, false, false, false] ⟨[(0, .ptr 0 0 0), (2, .ptr 11 0 0), (3, .ptr 14 0 0), (5, .int .i64 s1.2.2.2.2), (21, .int .i64 s1.2.2.2.2), (22, .bool (decide (s1.2.2.2.2 < (8 : Int)))), (25, .ptr 14 0 1), (27, .ptr 0 0 0), (28, .int .i64 r28.1), (29, .int .i64 (w64 (r28.1 - (2 : Int)))), (30, .ow 4095)], [(0, .box [.sl 1 (List.map a_u8 r28.2.code), .int .i64 r28.2.at_, .int .u64 r28.2.seed]), (11, .box [.snil, .snil]), (12, .arr ⟨false, false⟩ 1 2 (List.map Qf u0.2.2.2)), (13, .arr ⟨false, false⟩ 1 2 (List.map Qf s1.2.2.2.1)), (14, .box [.ow 12, .ow 13]), (4095, .arr ⟨false, false⟩ 1 2 (List.map Qf [(w64 (r28.1 - (2 : Int)))]))]⟩ ?_ (fun hS3614_2 => ?_)
    ·refine Ql 1 (by kernel_rfl) rfl rfl rfl rfl rfl (Qj ag29 rfl rfl) ?_
     refine QF 6 (by kernel_rfl) rfl ?_
     refine Xc (f := Qf) (a := s1.2.2.2.1) (b := [(w64 (r28.1 - (2 : Int)))]) el29 z2 rfl rfl rfl rfl rfl rfl rfl (Xa hq31) rfl rfl rfl rfl rfl ?_
     refine Qe ?_
     refine Ql 7 (by kernel_rfl) rfl rfl rfl rfl rfl (Qi fa31_1 rfl rfl) ?_
     refine QF 8 (by kernel_rfl) rfl ?_
     refine Qr sz29 rfl rfl rfl rfl rfl rfl rfl rfl rfl ?_
     refine Qe ?_
     refine Q8 (by kernel_rfl) ?_
     refine Qc ?_
     refine Qa rfl rfl rfl rfl (Qd rfl) ?_
     refine Qa rfl rfl rfl rfl (op_addW rfl rfl) ?_
     refine Qa rfl rfl rfl rfl (Qb rfl) ?_
     refine Qe ?_
     refine Xw [0, 2, 3, 5] [0, 11, 12, 13, 14] rfl rfl rfl rfl (by rw [hF]; rfl) ?_
     obtain rfl := Qw hm
     have hn := Q7 hc1
     exact hn _ rfl
    refine XD 6 [true, false, true, true, false, false, false, false, false] ⟨[(0, .ptr 0 0 0), (2, .ptr 11 0 0), (3, .ptr 14 0 0), (5, .int .i64 s1.2.2.2.2), (21, .int .i64 s1.2.2.2.2), (22, .bool (decide (s1.2.2.2.2 < (8 : Int)))), (25, .ptr 14 0 1), (27, .ptr 0 0 0), (28, .int .i64 r28.1)], [(0, .box [.sl 1 (List.map a_u8 r28.2.code), .int .i64 r28.2.at_, .int .u64 r28.2.seed]), (11, .box [.snil, .snil]), (12, .arr ⟨false, false⟩ 1 2 (List.map Qf u0.2.2.2)), (13, .arr ⟨false, false⟩ 1 2 (List.map Qf s1.2.2.2.1)), (14, .box [.ow 12, .ow 13])]⟩ ?_ (fun hS3614_3 => ?_)
    ·refine Ql 4 (by kernel_rfl) rfl rfl rfl rfl rfl (op_subW rfl rfl) ?_
     refine TZ_each [1, 5] (by kernel_rfl) rfl ?_
     refine ⟨?_, ?_⟩
     ·refine ⟨_, rfl, ?_⟩
      refine Qa rfl rfl rfl rfl (Qj ag29 rfl rfl) ?_
      refine Qe ?_
      refine QU [0, 2, 3, 5, 21, 22, 25, 26, 27, 28, 29] [0, 11, 12, 13, 14] rfl rfl rfl rfl (by rw [hF]; rfl) ?_
      exact hS3614_1
     ·refine ⟨_, rfl, ?_⟩
      refine QD 4095 (es := List.map Qf [(w64 (r28.1 - (2 : Int)))]) el29 z2 rfl rfl rfl rfl rfl rfl rfl rfl rfl ?_
      refine Qe ?_
      refine QU [0, 2, 3, 5, 21, 22, 25, 27, 28, 29, 30] [0, 11, 12, 13, 14, 4095] rfl rfl rfl rfl (by rw [hF]; rfl) ?_
      exact hS3614_2
    refine TZ_each [1, 3] (by kernel_rfl) rfl ?_
    refine ⟨?_, ?_⟩
    ·refine ⟨_, rfl, ?_⟩
     refine Qa rfl rfl rfl rfl (Qj ag29 rfl rfl) ?_
     refine Qe ?_
     refine QU [0, 2, 3, 5, 21, 22, 25, 26, 27] [0, 11, 12, 13, 14] rfl rfl rfl rfl (by rw [hF]; rfl) ?_
     exact hS3614_0
    ·refine ⟨_, rfl, ?_⟩
     refine Q2 [(0, 0)] [] [] (QY (l00Src.mk s1.1 s1.2.1 s1.2.2.1) (9 : Int) r28 hr28) Try.call80 rfl rfl rfl rfl rfl ⟨rfl, trivial⟩ rfl rfl rfl rfl rfl rfl rfl rfl rfl rfl rfl ?_
     refine Qe ?_
     refine QU [0, 2, 3, 5, 21, 22, 25, 27, 28] [0, 11, 12, 13, 14] rfl rfl rfl rfl (by rw [hF]; rfl) ?_
     exact hS3614_3
   ·replace hm := QM hq hm
    refine Qo [0, 2, 3] [0, 11, 12, 13, 14] rfl rfl rfl rfl (by rw [hF]; rfl) ?_
    refine T_exit ?_
    obtain rfl := Qw hm
    have hn := Xv hc1
    exact hx1 (s1.1, s1.2.1, s1.2.2.1, s1.2.2.2.1) hn
 ·unfold m_spec_l03DrawState_L0 at hm
  refine Qn ?_
  refine Qn ?_
  refine Qc ?_
  refine Qa rfl rfl rfl rfl (Qd rfl) ?_
  refine Qa rfl rfl rfl rfl (op_lss rfl rfl) ?_
  refine Qe ?_
  refine QI rfl (fun hq => ?_) (fun hq => ?_)
  ·replace hm := QO hq hm
   refine QL ?_
   refine Qn ?_
   refine Xd ?_
   refine T_drawZ [3, 5, 6, 8] mix (by kernel_rfl) rfl ?_
   obtain ⟨r16, hr16, hm⟩ := Qv hm
   obtain ⟨q19, hq19, hm⟩ := Qv hm
   refine Ql 0 (by kernel_rfl) rfl rfl rfl rfl rfl (Qi fa31_0 rfl rfl) ?_
   refine Ql 2 (by kernel_rfl) rfl rfl rfl rfl rfl (Qd rfl) ?_
   refine XD 6 [true, true, true, false, false, false, false, false, false] ⟨[(0, .ptr 0 0 0), (2, .ptr 11 0 0), (3, .ptr 14 0 0), (4, .int .i64 s0.2.2.2.2), (9, .int .i64 s0.2.2.2.2), (10, .bool (decide (s0.2.2.2.2 < (4 : Int)))), (13, .ptr 14 0 0), (14, .ow 12), (15, .ptr 0 0 0)], [(0, .box [.sl 1 (List.map a_u8 s0.1), .int .i64 s0.2.1, .int .u64 s0.2.2.1]), (11, .box [.snil, .snil]), (12, .arr ⟨false, false⟩ 1 2 (List.map Qf s0.2.2.2.1)), (13, .arr ⟨false, false⟩ 1 2 (List.map Qf ([] : List Int))), (14, .box [.ow 12, .ow 13])]⟩ ?_ (fun hS1454_0 => ?_)
   ·refine QF 3 (by kernel_rfl) rfl ?_
    refine Q2 [(0, 0)] [] [] (QY (l00Src.mk s0.1 s0.2.1 s0.2.2.1) (9 : Int) r16 hr16) Try.call80 rfl rfl rfl rfl rfl ⟨rfl, trivial⟩ rfl rfl rfl rfl rfl rfl rfl rfl rfl rfl rfl ?_
    refine Qe ?_
    refine Ql 4 (by kernel_rfl) rfl rfl rfl rfl rfl (op_subW rfl rfl) ?_
    refine QF 5 (by kernel_rfl) rfl ?_
    refine QD 1935 (es := List.map Qf [(w64 (r16.1 - (2 : Int)))]) el29 z2 rfl rfl rfl rfl rfl rfl rfl rfl rfl ?_
    refine Qe ?_
    refine QF 6 (by kernel_rfl) rfl ?_
    refine Xc (f := Qf) (a := s0.2.2.2.1) (b := [(w64 (r16.1 - (2 : Int)))]) el29 z2 rfl rfl rfl rfl rfl rfl rfl (Xa hq19) rfl rfl rfl rfl rfl ?_
    refine Qe ?_
    refine Ql 7 (by kernel_rfl) rfl rfl rfl rfl rfl (Qi fa31_0 rfl rfl) ?_
    refine QF 8 (by kernel_rfl) rfl ?_
    refine Qr sz29 rfl rfl rfl rfl rfl rfl rfl rfl rfl ?_
    refine Qe ?_
    refine Q8 (by kernel_rfl) ?_
    refine Qc ?_
    refine Qa rfl rfl rfl rfl (Qd rfl) ?_
    refine Qa rfl rfl rfl rfl (op_addW rfl rfl) ?_
    refine Qa rfl rfl rfl rfl (Qb rfl) ?_
    refine Qe ?_
    refine Xw [0, 2, 3, 4] [0, 11, 12, 13, 14] rfl rfl rfl rfl (by rw [hF]; rfl) ?_
    obtain rfl := Qw hm
    have hn := Q7 hc0
    exact hn _ rfl
   refine XD 4 [true, true, true, true, true, false, false, false, false] ⟨[(0, .ptr 0 0 0), (2, .ptr 11 0 0), (3, .ptr 14 0 0), (4, .int .i64 s0.2.2.2.2), (9, .int .i64 s0.2.2.2.2), (10, .bool (decide (s0.2.2.2.2 < (4 : Int)))), (13, .ptr 14 0 0), (14, .ow 12), (15, .ptr 0 0 0), (16, .int .i64 r16.1), (17, .int .i64 (w64 (r16.1 - (2 : Int))))], [(0, .box [.sl 1 (List.map a_u8 r16.2.code), .int .i64 r16.2.at_, .int .u64 r16.2.seed]), (11, .box [.snil, .snil]), (12, .arr ⟨false, false⟩ 1 2 (List.map Qf s0.2.2.2.1)), (13, .arr ⟨false, false⟩ 1 2 (List.map Qf ([] : List Int))), (14, .box [.ow 12, .ow 13])]⟩ ?_ (fun hS1454_1 => ?_)
   ·refine QF 5 (by kernel_rfl) rfl ?_
    refine QD 1935 (es := List.map Qf [(w64 (r16.1 - (2 : Int)))]) el29 z2 rfl rfl rfl rfl rfl rfl rfl rfl rfl ?_
    refine Qe ?_
    refine QF 6 (by kernel_rfl) rfl ?_
    refine Xc (f := Qf) (a := s0.2.2.2.1) (b := [(w64 (r16.1 - (2 : Int)))]) el29 z2 rfl rfl rfl rfl rfl rfl rfl (Xa hq19) rfl rfl rfl rfl rfl ?_
    refine Qe ?_
    refine Ql 7 (by kernel_rfl) rfl rfl rfl rfl rfl (Qi fa31_0 rfl rfl) ?_
    refine QF 8 (by kernel_rfl) rfl ?_
    refine Qr sz29 rfl rfl rfl rfl rfl rfl rfl rfl rfl ?_
    refine Qe ?_
    refine Q8 (by kernel_rfl) ?_
    refine Qc ?_
    refine Qa rfl rfl rfl rfl (Qd rfl) ?_
    refine Qa rfl rfl rfl rfl (op_addW rfl rfl) ?_
    refine Qa rfl rfl rfl rfl (Qb rfl) ?_
    refine Qe ?_
    refine Xw [0, 2, 3, 4] [0, 11, 12, 13, 14] rfl rfl rfl rfl (by rw [hF]; rfl) ?_
    obtain rfl := Qw hm
    have hn := Q7 hc0
    exact hn _ rfl
   refine XD 4 [true, false, true, true, true, true, false, false, false] ⟨[(0, .ptr 0 0 0), (2, .ptr 11 0 0), (3, .ptr 14 0 0), (4, .int .i64 s0.2.2.2.2), (9, .int .i64 s0.2.2.2.2), (10, .bool (decide (s0.2.2.2.2 < (4 : Int)))), (13, .ptr 14 0 0), (15, .ptr 0 0 0), (16, .int .i64 r16.1), (17, .int .i64 (w64 (r16.1 - (2 : Int)))), (18, .ow 1935)], [(0, .box [.sl 1 (List.map a_u8 r16.2.code), .int .i64 r16.2.at_, .int .u64 r16.2.seed]), (11, .box [.snil, .snil]), (12, .arr ⟨false, false⟩ 1 2 (List.map Qf s0.2.2.2.1)), (13, .arr ⟨false, false⟩ 1 2 (List.map Qf ([] : List Int))), (14, .box [.ow 12, .ow 13]), (1935, .arr ⟨false, false⟩ 1 2 (List.map Qf [(w64 (r16.1 - (2 : Int)))]))]⟩ ?_ (fun hS1454_2 => ?_)
   ·refine Ql 1 (by kernel_rfl) rfl rfl rfl rfl rfl (Qj ag29 rfl rfl) ?_
    refine QF 6 (by kernel_rfl) rfl ?_
    refine Xc (f := Qf) (a := s0.2.2.2.1) (b := [(w64 (r16.1 - (2 : Int)))]) el29 z2 rfl rfl rfl rfl rfl rfl rfl (Xa hq19) rfl rfl rfl rfl rfl ?_
    refine Qe ?_
    refine Ql 7 (by kernel_rfl) rfl rfl rfl rfl rfl (Qi fa31_0 rfl rfl) ?_
    refine QF 8 (by kernel_rfl) rfl ?_
    refine Qr sz29 rfl rfl rfl rfl rfl rfl rfl rfl rfl ?_
    refine Qe ?_
    refine Q8 (by kernel_rfl) ?_
    refine Qc ?_
    refine Qa rfl rfl rfl rfl (Qd rfl) ?_
    refine Qa rfl rfl rfl rfl (op_addW rfl rfl) ?_
    refine Qa rfl rfl rfl rfl (Qb rfl) ?_
    refine Qe ?_
    refine Xw [0, 2, 3, 4] [0, 11, 12, 13, 14] rfl rfl rfl rfl (by rw [hF]; rfl) ?_
    obtain rfl := Qw hm
    have hn := Q7 hc0
    exact hn _ rfl
   refine XD 6 [true, false, true, true, false, false, false, false, false] ⟨[(0, .ptr 0 0 0), (2, .ptr 11 0 0), (3, .ptr 14 0 0), (4, .int .i64 s0.2.2.2.2), (9, .int .i64 s0.2.2.2.2), (10, .bool (decide (s0.2.2.2.2 < (4 : Int)))), (13, .ptr 14 0 0), (15, .ptr 0 0 0), (16, .int .i64 r16.1)], [(0, .box [.sl 1 (List.map a_u8 r16.2.code), .int .i64 r16.2.at_, .int .u64 r16.2.seed]), (11, .box [.snil, .snil]), (12, .arr ⟨false, false⟩ 1 2 (List.map Qf s0.2.2.2.1)), (13, .arr ⟨false, false⟩ 1 2 (List.map Qf ([] : List Int))), (14, .box [.ow 12, .ow 13])]⟩ ?_ (fun hS1454_3 => ?_)
   ·refine Ql 4 (by kernel_rfl) rfl rfl rfl rfl rfl (op_subW rfl rfl) ?_
    refine TZ_each [1, 5] (by kernel_rfl) rfl ?_
    refine ⟨?_, ?_⟩
    ·refine ⟨_, rfl, ?_⟩
     refine Qa rfl rfl rfl rfl (Qj ag29 rfl rfl) ?_
     refine Qe ?_
     refine QU [0, 2, 3, 4, 9, 10, 13, 14, 15, 16, 17] [0, 11, 12, 13, 14] rfl rfl rfl rfl (by rw [hF]; rfl) ?_
     exact hS1454_1
    ·refine ⟨_, rfl, ?_⟩
     refine QD 1935 (es := List.map Qf [(w64 (r16.1 - (2 : Int)))]) el29 z2 rfl rfl rfl rfl rfl rfl rfl rfl rfl ?_
     refine Qe ?_
     refine QU [0, 2, 3, 4, 9, 10, 13, 15, 16, 17, 18] [0, 11, 12, 13, 14, 1935] rfl rfl rfl rfl (by rw [hF]; rfl) ?_
     exact hS1454_2
   refine TZ_each [1, 3] (by kernel_rfl) rfl ?_
   refine ⟨?_, ?_⟩
   ·refine ⟨_, rfl, ?_⟩
    refine Qa rfl rfl rfl rfl (Qj ag29 rfl rfl) ?_
    refine Qe ?_
    refine QU [0, 2, 3, 4, 9, 10, 13, 14, 15] [0, 11, 12, 13, 14] rfl rfl rfl rfl (by rw [hF]; rfl) ?_
    exact hS1454_0
   ·refine ⟨_, rfl, ?_⟩
    refine Q2 [(0, 0)] [] [] (QY (l00Src.mk s0.1 s0.2.1 s0.2.2.1) (9 : Int) r16 hr16) Try.call80 rfl rfl rfl rfl rfl ⟨rfl, trivial⟩ rfl rfl rfl rfl rfl rfl rfl rfl rfl rfl rfl ?_
    refine Qe ?_
    refine QU [0, 2, 3, 4, 9, 10, 13, 15, 16] [0, 11, 12, 13, 14] rfl rfl rfl rfl (by rw [hF]; rfl) ?_
    exact hS1454_3
  ·replace hm := QM hq hm
   refine Qo [0, 2, 3] [0, 11, 12, 13, 14] rfl rfl rfl rfl (by rw [hF]; rfl) ?_
   refine T_exit ?_
   obtain rfl := Qw hm
   have hn := Xv hc0
   exact hx0 (s0.1, s0.2.1, s0.2.2.1, s0.2.2.2.1) hn
theorem c_spec_R8State (p0 : List Int) (out : State) (hm : m_spec_R8State p0 = some out) : ACall Try.prog 12 [.sl 1 (List.map a_u8 p0)] [] (.agg [.ow 1000, .ow 1001]) [(1000, .arr ⟨false, true⟩ 1 2 (List.map Qf out.Vars)), (1001, .arr ⟨false, true⟩ 1 2 (List.map Qf out.Cells))] := by
 refine ACall.intro Try.func12 rfl Try.ntmps12 rfl (fun F hF => ?_)
 unfold m_spec_R8State at hm
 refine Qn ?_
 refine Qc ?_
 refine Xk 11 z31 rfl rfl rfl rfl rfl rfl rfl ?_
 refine Qe ?_
 refine Qn ?_
 refine Qc ?_
 refine Qa rfl rfl rfl rfl (Qd rfl) ?_
 obtain ⟨r5, hr5, hm⟩ := Qv hm
 refine TLE_call [] [(1000, 12)] [] (c_spec_l00From p0 r5 hr5) (fun _ => rfl) Try.call42 rfl rfl rfl rfl rfl trivial rfl rfl rfl rfl rfl rfl rfl rfl rfl rfl rfl ?_
 refine Qa rfl rfl rfl rfl (Qb rfl) ?_
 refine Qe ?_
 refine Qn ?_
 refine Qc ?_
 refine Qa rfl rfl rfl rfl (Qd rfl) ?_
 obtain ⟨r7, hr7, hm⟩ := Qv hm
 refine Q2 [(0, 12)] [(1000, 13), (1001, 14)] [] (c_spec_l03DrawState r5 r7 hr7) Try.call44 rfl rfl rfl rfl rfl ⟨rfl, trivial⟩ rfl rfl rfl rfl rfl rfl rfl rfl rfl rfl rfl ?_
 refine Qr sz31 rfl rfl rfl rfl rfl rfl rfl rfl rfl ?_
 refine Qe ?_
 refine Qo [2] [11, 13, 14] rfl rfl rfl rfl (by rw [hF]; rfl) ?_
 refine T_ren [(11, 11), (13, 1000), (14, 1001)] rfl rfl rfl (by rw [hF]; rfl) ?_
 refine QB ?_
 obtain rfl := Qw hm
 refine ⟨[_], [1000, 1001], ⟨⟨_, _, rfl, rfl, .inr ⟨ag31, _, _, sz31, rfl, rfl⟩⟩, trivial⟩, ?_, rfl, rfl, rfl, rfl⟩
 rfl
theorem c_impl_Term_isZero (p0 : Term) (out : Bool) (hm : m_impl_Term_isZero p0 = some out) : ACall Try.prog 137 [.agg [.int .i64 p0.Const, .sl 1 (List.map Qf p0.Coeffs)]] [] (.bool out) [] := by
 refine ACall.intro Try.func137 rfl Try.ntmps137 rfl (fun F hF => ?_)
 unfold m_impl_Term_isZero at hm
 refine Qn ?_
 refine Qc ?_
 refine TL_box 11 rfl rfl rfl rfl rfl rfl rfl ?_
 refine Qa rfl rfl rfl rfl (Qb rfl) ?_
 refine Qe ?_
 refine Qn ?_
 refine Qc ?_
 refine Qa rfl rfl rfl rfl (Qi fa75_0 rfl rfl) ?_
 refine Qa rfl rfl rfl rfl (Qj ag2 rfl rfl) ?_
 refine Qa rfl rfl rfl rfl (Xq rfl rfl) ?_
 refine Qa rfl rfl rfl rfl (Qd rfl) ?_
 refine Xb 5 (fun _ : Unit => ⟨[(11, .bool ((decide (p0.Const = (0 : Int))) && (decide ((p0.Coeffs.length : Int) = (0 : Int)))))], []⟩) (fun _ => True) (fun _ _ => ?_) (fun hjj => ?_)
 ·refine Qa rfl rfl rfl rfl (Qb rfl) ?_
  refine Qe ?_
  refine Qo [2] [] rfl rfl rfl rfl (by rw [hF]; rfl) ?_
  refine QB ?_
  obtain rfl := Qw hm
  refine ⟨[_], [], ⟨rfl, trivial⟩, ?_, rfl, rfl, rfl, rfl⟩
  rfl
 ·refine Qy 6 rfl rfl rfl (fun hq => ?_) (fun hq => ?_)
  ·refine Qm rfl rfl ?_
   refine Qa rfl rfl rfl rfl (Qi fa75_1 rfl rfl) ?_
   refine Qm rfl rfl ?_
   refine Qa rfl rfl rfl rfl (Qj ag29 rfl rfl) ?_
   refine Qm rfl rfl ?_
   refine Qa rfl rfl rfl rfl (Xm Try.underlying29 rfl (List.length_map _)) ?_
   refine Xy (fun _ _ _ hr => RelP.slLen (i := 8) rfl hr) (fun hlen9 => ?_)
   rw [List.length_map] at hlen9
   refine Qm rfl rfl ?_
   refine Qa rfl rfl rfl rfl (Xq rfl rfl) ?_
   refine Qa rfl rfl rfl rfl (Qp rfl rfl) ?_
   refine Qx [11] [] rfl rfl rfl rfl (by rw [hF]; rfl) ?_
   exact QA _ (by first | (rw [hq, Bool.true_and]; done) | (rw [hq]; rfl)) (hjj () trivial)
  ·refine Qh rfl rfl rfl rfl rfl rfl rfl ?_
   refine Qh rfl rfl rfl rfl rfl rfl rfl ?_
   refine Qh rfl rfl rfl rfl rfl rfl rfl ?_
   refine Qh rfl rfl rfl rfl rfl rfl rfl ?_
   refine Qa rfl rfl rfl rfl (Qk rfl rfl) ?_
   refine Qx [11] [] rfl rfl rfl rfl (by rw [hF]; rfl) ?_
   exact QA _ (by first | (rw [hq, Bool.false_and]; done) | (rw [hq]; rfl)) (hjj () trivial)
theorem c_impl_within (p0 : Int) (p1 : Int) (p2 : Int) (out : Bool) (hm : m_impl_within p0 p1 p2 = some out) : ACall Try.prog 84 [.int .i64 p0, .int .i64 p1, .int .i64 p2] [] (.bool out) [] := by
 refine ACall.intro Try.func84 rfl Try.ntmps84 rfl (fun F hF => ?_)
 unfold m_impl_within at hm
 refine Qn ?_
 refine Qc ?_
 refine Qa rfl rfl rfl rfl (Qb rfl) ?_
 refine Qe ?_
 refine Qn ?_
 refine Qc ?_
 refine Qa rfl rfl rfl rfl (Qd rfl) ?_
 refine Qa rfl rfl rfl rfl (Qd rfl) ?_
 refine Qa rfl rfl rfl rfl (op_leq rfl rfl) ?_
 refine Qa rfl rfl rfl rfl (Qd rfl) ?_
 refine Xb 4 (fun _ : Unit => ⟨[(14, .bool ((decide (p1 ≤ p0)) && (decide (p0 ≤ p2))))], []⟩) (fun _ => True) (fun _ _ => ?_) (fun hjj => ?_)
 ·refine Qa rfl rfl rfl rfl (Qb rfl) ?_
  refine Qe ?_
  refine Qo [6] [] rfl rfl rfl rfl (by rw [hF]; rfl) ?_
  refine QB ?_
  obtain rfl := Qw hm
  refine ⟨[_], [], ⟨rfl, trivial⟩, ?_, rfl, rfl, rfl, rfl⟩
  rfl
 ·refine Qy 10 rfl rfl rfl (fun hq => ?_) (fun hq => ?_)
  ·refine Qm rfl rfl ?_
   refine Qa rfl rfl rfl rfl (Qd rfl) ?_
   refine Qm rfl rfl ?_
   refine Qa rfl rfl rfl rfl (Qd rfl) ?_
   refine Qm rfl rfl ?_
   refine Qa rfl rfl rfl rfl (op_leq rfl rfl) ?_
   refine Qa rfl rfl rfl rfl (Qp rfl rfl) ?_
   refine Qx [14] [] rfl rfl rfl rfl (by rw [hF]; rfl) ?_
   exact QA _ (by first | (rw [hq, Bool.true_and]; done) | (rw [hq]; rfl)) (hjj () trivial)
  ·refine Qh rfl rfl rfl rfl rfl rfl rfl ?_
   refine Qh rfl rfl rfl rfl rfl rfl rfl ?_
   refine Qh rfl rfl rfl rfl rfl rfl rfl ?_
   refine Qa rfl rfl rfl rfl (Qk rfl rfl) ?_
   refine Qx [14] [] rfl rfl rfl rfl (by rw [hF]; rfl) ?_
   exact QA _ (by first | (rw [hq, Bool.false_and]; done) | (rw [hq]; rfl)) (hjj () trivial)
theorem c_impl_isVar (p0 : Int) (out : Bool) (hm : m_impl_isVar p0 = some out) : ACall Try.prog 138 [.int .i64 p0] [] (.bool out) [] := by
 refine ACall.intro Try.func138 rfl Try.ntmps138 rfl (fun F hF => ?_)
 unfold m_impl_isVar at hm
 refine Qn ?_
 refine Qc ?_
 refine Qa rfl rfl rfl rfl (Qb rfl) ?_
 refine Qe ?_
 refine Qn ?_
 refine Qc ?_
 refine Qa rfl rfl rfl rfl (Qd rfl) ?_
 obtain ⟨r4, hr4, hm⟩ := Qv hm
 refine QG (c_impl_within p0 (0 : Int) (3 : Int) r4 hr4) Try.call84 rfl rfl rfl rfl rfl ?_
 refine Qa rfl rfl rfl rfl (Qb rfl) ?_
 refine Qe ?_
 refine Qo [2] [] rfl rfl rfl rfl (by rw [hF]; rfl) ?_
 refine QB ?_
 obtain rfl := Qw hm
 refine ⟨[_], [], ⟨rfl, trivial⟩, ?_, rfl, rfl, rfl, rfl⟩
 rfl
theorem c_impl_isCoeff (p0 : Int) (out : Bool) (hm : m_impl_isCoeff p0 = some out) : ACall Try.prog 135 [.int .i64 p0] [] (.bool out) [] := by
 refine ACall.intro Try.func135 rfl Try.ntmps135 rfl (fun F hF => ?_)
 unfold m_impl_isCoeff at hm
 refine Qn ?_
 refine Qc ?_
 refine Qa rfl rfl rfl rfl (Qb rfl) ?_
 refine Qe ?_
 refine Qn ?_
 refine Qc ?_
 refine Qa rfl rfl rfl rfl (Qd rfl) ?_
 obtain ⟨r4, hr4, hm⟩ := Qv hm
 refine QG (c_impl_within p0 (-1000000 : Int) (1000000 : Int) r4 hr4) Try.call84 rfl rfl rfl rfl rfl ?_
 refine Qa rfl rfl rfl rfl (Qb rfl) ?_
 refine Qe ?_
 refine Qo [2] [] rfl rfl rfl rfl (by rw [hF]; rfl) ?_
 refine QB ?_
 obtain rfl := Qw hm
 refine ⟨[_], [], ⟨rfl, trivial⟩, ?_, rfl, rfl, rfl, rfl⟩
 rfl
theorem c_impl_allWithin (p0 : List Int) (p1 : Int) (p2 : Int) (out : Bool) (hm : m_impl_allWithin p0 p1 p2 = some out) : ACall Try.prog 50 [.sl 1 (List.map Qf p0), .int .i64 p1, .int .i64 p2] [] (.bool out) [] := by
 refine ACall.intro Try.func50 rfl Try.ntmps50 rfl (fun F hF => ?_)
 unfold m_impl_allWithin at hm
 refine Qn ?_
 refine Qc ?_
 refine Qa rfl rfl rfl rfl (Qb rfl) ?_
 refine Qe ?_
 refine Qn ?_
 refine Qn ?_
 refine Qc ?_
 refine Qa rfl rfl rfl rfl (Qd rfl) ?_
 refine Qa rfl rfl rfl rfl (Xm Try.underlying29 rfl (List.length_map _)) ?_
 refine Xy (fun _ _ _ hr => RelP.slLen (i := 9) rfl hr) (fun hlen10 => ?_)
 rw [List.length_map] at hlen10
 refine Qa rfl rfl rfl rfl (Qd rfl) ?_
 refine Qe ?_
 refine Xd ?_
 refine Qo [1, 2, 9, 10, 11] [] rfl rfl rfl rfl (by rw [hF]; rfl) ?_
 refine T_loop ?_
 obtain ⟨u0, hl0, hm⟩ := Qv hm
 refine TR_forL2 p0 (m_impl_allWithin_L0 p1 p2) (fun (s0 : Unit) => (.inl ())) (fun n0 (s0 : Unit) => ⟨[(1, .int .i64 p1), (2, .int .i64 p2), (9, .sl 1 (List.map Qf p0)), (10, .int .i64 (p0.length : Int)), (11, .int .i64 (n0 : Int))], []⟩) (fun u0 => match u0 with | .inl u0 => .exit 0 | .inr u0 => .ret) (fun u0 => match u0 with | .inl u0 => ⟨[], []⟩ | .inr u0 => ⟨[(6, .bool u0)], []⟩) (fun u0 => m_impl_allWithin_A0 u0 = some out) hl0 hm (fun u0 hm => ?_) (fun hx0 s0 hm => ?_) (fun hx0 n0 x0 s0 c0 hxn0 hlt0 hm hc0 => ?_)
 ·rcases u0 with u0 | u0
  ·unfold m_impl_allWithin_A0 at hm
   refine Qn ?_
   refine Qc ?_
   refine Qa rfl rfl rfl rfl (Qb rfl) ?_
   refine Qe ?_
   refine Qo [6] [] rfl rfl rfl rfl (by rw [hF]; rfl) ?_
   refine QB ?_
   obtain rfl := Qw hm
   refine ⟨[_], [], ⟨rfl, trivial⟩, ?_, rfl, rfl, rfl, rfl⟩
   rfl
  ·unfold m_impl_allWithin_A0 at hm
   obtain rfl := Qw hm
   refine ⟨[_], [], ⟨rfl, trivial⟩, ?_, rfl, rfl, rfl, rfl⟩
   rfl
 ·refine Qn ?_
  refine Qc ?_
  refine Qa rfl rfl rfl rfl (op_lss rfl rfl) ?_
  refine Qe ?_
  refine Qn ?_
  refine T_if_false rfl (decide_eq_false (by simp)) ?_
  refine Qo [] [] rfl rfl rfl rfl (by rw [hF]; rfl) ?_
  refine T_exit ?_
  exact hx0 (.inl ()) hm
 ·unfold m_impl_allWithin_L0 at hm
  refine Qn ?_
  refine Qc ?_
  refine Qa rfl rfl rfl rfl (op_lss rfl rfl) ?_
  refine Qe ?_
  refine Qn ?_
  refine T_if_true rfl (decide_eq_true (Int.ofNat_lt.2 hlt0)) ?_
  refine QL ?_
  refine Qn ?_
  refine Xd ?_
  refine Qn ?_
  refine Qc ?_
  refine Qa rfl rfl rfl rfl (op_index_sl el29 rfl rfl rfl (get_map hxn0) rfl) ?_
  refine Qa rfl rfl rfl rfl (Qj ag2 rfl rfl) ?_
  refine Qa rfl rfl rfl rfl (Qb rfl) ?_
  refine Qe ?_
  refine Qn ?_
  refine Qc ?_
  refine Qa rfl rfl rfl rfl (Qd rfl) ?_
  refine Qa rfl rfl rfl rfl (Qd rfl) ?_
  refine Qa rfl rfl rfl rfl (Qd rfl) ?_
  obtain ⟨r18, hr18, hm⟩ := Qv hm
  refine QG (c_impl_within x0 p1 p2 r18 hr18) Try.call84 rfl rfl rfl rfl rfl ?_
  refine Qa rfl rfl rfl rfl (op_not rfl) ?_
  refine Qe ?_
  refine QI rfl (fun hq => ?_) (fun hq => ?_)
  ·replace hm := QO hq hm
   refine Qn ?_
   refine Qc ?_
   refine Qa rfl rfl rfl rfl (Qb rfl) ?_
   refine Qe ?_
   refine Qo [6] [] rfl rfl rfl rfl (by rw [hF]; rfl) ?_
   refine QB ?_
   obtain rfl := Qw hm
   have hn := Xv hc0
   exact hx0 (.inr false) hn
  ·replace hm := QM hq hm
   refine QL ?_
   refine Qc ?_
   refine Qa rfl rfl rfl rfl (op_addN rfl rfl (Nat.lt_of_lt_of_le hlt0 hlen10)) ?_
   refine Qa rfl rfl rfl rfl (Qd rfl) ?_
   refine Qe ?_
   refine Xw [1, 2, 9, 10, 11] [] rfl rfl rfl rfl (by rw [hF]; rfl) ?_
   obtain rfl := Qw hm
   have hn := Q7 hc0
   exact hn _ rfl
theorem c_impl_ValidTerm (p0 : Term) (out : Bool) (hm : m_impl_ValidTerm p0 = some out) : ACall Try.prog 122 [.agg [.int .i64 p0.Const, .sl 1 (List.map Qf p0.Coeffs)]] [] (.bool out) [] := by
 refine ACall.intro Try.func122 rfl Try.ntmps122 rfl (fun F hF => ?_)
 unfold m_impl_ValidTerm at hm
 refine Qn ?_
 refine Qc ?_
 refine TL_box 11 rfl rfl rfl rfl rfl rfl rfl ?_
 refine Qa rfl rfl rfl rfl (Qb rfl) ?_
 refine Qe ?_
 refine Qn ?_
 refine Qc ?_
 refine Qa rfl rfl rfl rfl (Qi fa75_1 rfl rfl) ?_
 refine Qa rfl rfl rfl rfl (Qj ag29 rfl rfl) ?_
 refine Qa rfl rfl rfl rfl (Xm Try.underlying29 rfl (List.length_map _)) ?_
 refine Xy (fun _ _ _ hr => RelP.slLen (i := 5) rfl hr) (fun hlen6 => ?_)
 rw [List.length_map] at hlen6
 refine Qa rfl rfl rfl rfl (Qb rfl) ?_
 refine Qe ?_
 refine Qn ?_
 refine Qc ?_
 refine Qa rfl rfl rfl rfl (Qd rfl) ?_
 refine Qa rfl rfl rfl rfl (op_leq rfl rfl) ?_
 refine Qa rfl rfl rfl rfl (Qd rfl) ?_
 refine Qy 9 rfl rfl rfl (fun hq => ?_) (fun hq => ?_)
 ·replace hm := QO hq hm
  refine Qm rfl rfl ?_
  refine Qa rfl rfl rfl rfl (Qi fa75_0 rfl rfl) ?_
  refine Qm rfl rfl ?_
  refine Qa rfl rfl rfl rfl (Qj ag2 rfl rfl) ?_
  refine Qm rfl rfl ?_
  obtain ⟨r12, hr12, hm⟩ := Qv hm
  refine QG (c_impl_isCoeff p0.Const r12 hr12) Try.call135 rfl rfl rfl rfl rfl ?_
  refine Qa rfl rfl rfl rfl (Qp rfl rfl) ?_
  refine Qa rfl rfl rfl rfl (Qd rfl) ?_
  refine Qy 14 rfl rfl rfl (fun hq => ?_) (fun hq => ?_)
  ·replace hm := QO hq hm
   refine Qm rfl rfl ?_
   refine Qa rfl rfl rfl rfl (Qi fa75_1 rfl rfl) ?_
   refine Qm rfl rfl ?_
   refine Qa rfl rfl rfl rfl (Qj ag29 rfl rfl) ?_
   refine Qm rfl rfl ?_
   obtain ⟨r17, hr17, hm⟩ := Qv hm
   refine QG (c_impl_allWithin p0.Coeffs (-1000000 : Int) (1000000 : Int) r17 hr17) Try.call50 rfl rfl rfl rfl rfl ?_
   refine Qa rfl rfl rfl rfl (Qp rfl rfl) ?_
   refine Qa rfl rfl rfl rfl (Qd rfl) ?_
   refine Qy 19 rfl rfl rfl (fun hq => ?_) (fun hq => ?_)
   ·replace hm := QO hq hm
    refine Qm rfl rfl ?_
    refine Qa rfl rfl rfl rfl (Qd rfl) ?_
    refine Qm rfl rfl ?_
    refine Qa rfl rfl rfl rfl (Xq rfl rfl) ?_
    refine Qm rfl rfl ?_
    refine Qa rfl rfl rfl rfl (Qd rfl) ?_
    refine Qy 22 rfl rfl rfl (fun hq => ?_) (fun hq => ?_)
    ·replace hm := QO hq hm
     refine Qh rfl rfl rfl rfl rfl rfl rfl ?_
     refine Qh rfl rfl rfl rfl rfl rfl rfl ?_
     refine Qh rfl rfl rfl rfl rfl rfl rfl ?_
     refine Qh rfl rfl rfl rfl rfl rfl rfl ?_
     refine Qh rfl rfl rfl rfl rfl rfl rfl ?_
     refine Qh rfl rfl rfl rfl rfl rfl rfl ?_
     refine Qh rfl rfl rfl rfl rfl rfl rfl ?_
     refine Qm rfl rfl ?_
     refine Qa rfl rfl rfl rfl (Qp rfl rfl) ?_
     refine Qa rfl rfl rfl rfl (Qp rfl rfl) ?_
     refine Qa rfl rfl rfl rfl (Qb rfl) ?_
     refine Qe ?_
     refine Qo [2] [] rfl rfl rfl rfl (by rw [hF]; rfl) ?_
     refine QB ?_
     obtain rfl := Qw hm
     refine ⟨[_], [], ⟨rfl, trivial⟩, ?_, rfl, rfl, rfl, rfl⟩
     rfl
    ·replace hm := QM hq hm
     refine Qm rfl rfl ?_
     refine Qa rfl rfl rfl rfl (Qi fa75_1 rfl rfl) ?_
     refine Qm rfl rfl ?_
     refine Qa rfl rfl rfl rfl (Qj ag29 rfl rfl) ?_
     refine Qm rfl rfl ?_
     refine Qa rfl rfl rfl rfl (Qd rfl) ?_
     refine Qm rfl rfl ?_
     refine Qa rfl rfl rfl rfl (op_subW rfl rfl) ?_
     refine Qm rfl rfl ?_
     obtain ⟨x27, hx27, hm⟩ := Qv hm
     refine Qa rfl rfl rfl rfl (Xi el29 rfl rfl hx27 rfl) ?_
     refine Qm rfl rfl ?_
     refine Qa rfl rfl rfl rfl (Qj ag2 rfl rfl) ?_
     refine Qm rfl rfl ?_
     refine Qa rfl rfl rfl rfl (op_neq rfl rfl) ?_
     refine Qm rfl rfl ?_
     refine Qa rfl rfl rfl rfl (Qk rfl rfl) ?_
     refine Qa rfl rfl rfl rfl (Qp rfl rfl) ?_
     refine Qa rfl rfl rfl rfl (Qb rfl) ?_
     refine Qe ?_
     refine Qo [2] [] rfl rfl rfl rfl (by rw [hF]; rfl) ?_
     refine QB ?_
     obtain rfl := Qw hm
     refine ⟨[_], [], ⟨rfl, trivial⟩, ?_, rfl, rfl, rfl, rfl⟩
     rfl
   ·replace hm := QM hq hm
    refine Qh rfl rfl rfl rfl rfl rfl rfl ?_
    refine Qh rfl rfl rfl rfl rfl rfl rfl ?_
    refine Qh rfl rfl rfl rfl rfl rfl rfl ?_
    refine Xl rfl rfl rfl rfl rfl rfl ?_
    refine Xl rfl rfl rfl rfl rfl rfl ?_
    refine Xl rfl rfl rfl rfl rfl rfl ?_
    refine Xl rfl rfl rfl rfl rfl rfl ?_
    refine Xl rfl rfl rfl rfl rfl rfl ?_
    refine Xl rfl rfl rfl rfl rfl rfl ?_
    refine Xl rfl rfl rfl rfl rfl rfl ?_
    refine Qh rfl rfl rfl rfl rfl rfl rfl ?_
    refine Qa rfl rfl rfl rfl (Qk rfl rfl) ?_
    refine Qa rfl rfl rfl rfl (Qb rfl) ?_
    refine Qe ?_
    refine Qo [2] [] rfl rfl rfl rfl (by rw [hF]; rfl) ?_
    refine QB ?_
    obtain rfl := Qw hm
    refine ⟨[_], [], ⟨rfl, trivial⟩, ?_, rfl, rfl, rfl, rfl⟩
    rfl
  ·replace hm := QM hq hm
   refine Qh rfl rfl rfl rfl rfl rfl rfl ?_
   refine Qh rfl rfl rfl rfl rfl rfl rfl ?_
   refine Qh rfl rfl rfl rfl rfl rfl rfl ?_
   refine Qa rfl rfl rfl rfl (Qk rfl rfl) ?_
   refine Qa rfl rfl rfl rfl (Qd rfl) ?_
   refine Qh rfl rfl rfl rfl rfl rfl rfl ?_
   refine Qh rfl rfl rfl rfl rfl rfl rfl ?_
   refine Qh rfl rfl rfl rfl rfl rfl rfl ?_
   refine Xl rfl rfl rfl rfl rfl rfl ?_
   refine Xl rfl rfl rfl rfl rfl rfl ?_
   refine Xl rfl rfl rfl rfl rfl rfl ?_
   refine Xl rfl rfl rfl rfl rfl rfl ?_
   refine Xl rfl rfl rfl rfl rfl rfl ?_
   refine Xl rfl rfl rfl rfl rfl rfl ?_
   refine Xl rfl rfl rfl rfl rfl rfl ?_
   refine Qh rfl rfl rfl rfl rfl rfl rfl ?_
   refine Qa rfl rfl rfl rfl (Qk rfl rfl) ?_
   refine Qa rfl rfl rfl rfl (Qb rfl) ?_
   refine Qe ?_
   refine Qo [2] [] rfl rfl rfl rfl (by rw [hF]; rfl) ?_
   refine QB ?_
   obtain rfl := Qw hm
   refine ⟨[_], [], ⟨rfl, trivial⟩, ?_, rfl, rfl, rfl, rfl⟩
   rfl
 ·replace hm := QM hq hm
  refine Qh rfl rfl rfl rfl rfl rfl rfl ?_
  refine Qh rfl rfl rfl rfl rfl rfl rfl ?_
  refine Qh rfl rfl rfl rfl rfl rfl rfl ?_
  refine Qa rfl rfl rfl rfl (Qk rfl rfl) ?_
  refine Qa rfl rfl rfl rfl (Qd rfl) ?_
  refine Qh rfl rfl rfl rfl rfl rfl rfl ?_
  refine Qh rfl rfl rfl rfl rfl rfl rfl ?_
  refine Qh rfl rfl rfl rfl rfl rfl rfl ?_
  refine Qa rfl rfl rfl rfl (Qk rfl rfl) ?_
  refine Qa rfl rfl rfl rfl (Qd rfl) ?_
  refine Qh rfl rfl rfl rfl rfl rfl rfl ?_
  refine Qh rfl rfl rfl rfl rfl rfl rfl ?_
  refine Qh rfl rfl rfl rfl rfl rfl rfl ?_
  refine Xl rfl rfl rfl rfl rfl rfl ?_
  refine Xl rfl rfl rfl rfl rfl rfl ?_
  refine Xl rfl rfl rfl rfl rfl rfl ?_
  refine Xl rfl rfl rfl rfl rfl rfl ?_
  refine Xl rfl rfl rfl rfl rfl rfl ?_
  refine Xl rfl rfl rfl rfl rfl rfl ?_
  refine Xl rfl rfl rfl rfl rfl rfl ?_
  refine Qh rfl rfl rfl rfl rfl rfl rfl ?_
  refine Qa rfl rfl rfl rfl (Qk rfl rfl) ?_
  refine Qa rfl rfl rfl rfl (Qb rfl) ?_
  refine Qe ?_
  refine Qo [2] [] rfl rfl rfl rfl (by rw [hF]; rfl) ?_
  refine QB ?_
  obtain rfl := Qw hm
  refine ⟨[_], [], ⟨rfl, trivial⟩, ?_, rfl, rfl, rfl, rfl⟩
  rfl
theorem c_impl_isOver (p0 : Term) (out : Bool) (hm : m_impl_isOver p0 = some out) : ACall Try.prog 90 [.agg [.int .i64 p0.Const, .sl 1 (List.map Qf p0.Coeffs)]] [] (.bool out) [] := by
 refine ACall.intro Try.func90 rfl Try.ntmps90 rfl (fun F hF => ?_)
 unfold m_impl_isOver at hm
 refine Qn ?_
 refine Qc ?_
 refine TL_box 11 rfl rfl rfl rfl rfl rfl rfl ?_
 refine Qa rfl rfl rfl rfl (Qb rfl) ?_
 refine Qe ?_
 refine Qn ?_
 refine Qc ?_
 refine Qa rfl rfl rfl rfl (Qt ag75 sz75 rfl rfl rfl) ?_
 obtain ⟨r4, hr4, hm⟩ := Qv hm
 refine QG (c_impl_ValidTerm p0 r4 hr4) Try.call122 rfl rfl rfl rfl rfl ?_
 refine Qa rfl rfl rfl rfl (Qd rfl) ?_
 refine Xb 5 (fun _ : Unit => ⟨[(10, .bool (r4 && (decide ((p0.Coeffs.length : Int) ≤ (4 : Int)))))], []⟩) (fun _ => True) (fun _ _ => ?_) (fun hjj => ?_)
 ·refine Qa rfl rfl rfl rfl (Qb rfl) ?_
  refine Qe ?_
  refine Qo [2] [] rfl rfl rfl rfl (by rw [hF]; rfl) ?_
  refine QB ?_
  obtain rfl := Qw hm
  refine ⟨[_], [], ⟨rfl, trivial⟩, ?_, rfl, rfl, rfl, rfl⟩
  rfl
 ·refine Qy 5 rfl rfl rfl (fun hq => ?_) (fun hq => ?_)
  ·refine Qm rfl rfl ?_
   refine Qa rfl rfl rfl rfl (Qi fa75_1 rfl rfl) ?_
   refine Qm rfl rfl ?_
   refine Qa rfl rfl rfl rfl (Qj ag29 rfl rfl) ?_
   refine Qm rfl rfl ?_
   refine Qa rfl rfl rfl rfl (Xm Try.underlying29 rfl (List.length_map _)) ?_
   refine Xy (fun _ _ _ hr => RelP.slLen (i := 7) rfl hr) (fun hlen8 => ?_)
   rw [List.length_map] at hlen8
   refine Qm rfl rfl ?_
   refine Qa rfl rfl rfl rfl (op_leq rfl rfl) ?_
   refine Qa rfl rfl rfl rfl (Qp rfl rfl) ?_
   refine Qx [10] [] rfl rfl rfl rfl (by rw [hF]; rfl) ?_
   exact QA _ (by first | (rw [hq, Bool.true_and]; done) | (rw [hq]; rfl)) (hjj () trivial)
  ·refine Qh rfl rfl rfl rfl rfl rfl rfl ?_
   refine Qh rfl rfl rfl rfl rfl rfl rfl ?_
   refine Qh rfl rfl rfl rfl rfl rfl rfl ?_
   refine Qh rfl rfl rfl rfl rfl rfl rfl ?_
   refine Qa rfl rfl rfl rfl (Qk rfl rfl) ?_
   refine Qx [10] [] rfl rfl rfl rfl (by rw [hF]; rfl) ?_
   exact QA _ (by first | (rw [hq, Bool.false_and]; done) | (rw [hq]; rfl)) (hjj () trivial)
theorem c_impl_isEvent (p0 : Int) (out : Bool) (hm : m_impl_isEvent p0 = some out) : ACall Try.prog 139 [.int .i64 p0] [] (.bool out) [] := by
 refine ACall.intro Try.func139 rfl Try.ntmps139 rfl (fun F hF => ?_)
 unfold m_impl_isEvent at hm
 refine Qn ?_
 refine Qc ?_
 refine Qa rfl rfl rfl rfl (Qb rfl) ?_
 refine Qe ?_
 refine Qn ?_
 refine Qc ?_
 refine Qa rfl rfl rfl rfl (Qd rfl) ?_
 obtain ⟨r4, hr4, hm⟩ := Qv hm
 refine QG (c_impl_within p0 (0 : Int) (3 : Int) r4 hr4) Try.call84 rfl rfl rfl rfl rfl ?_
 refine Qa rfl rfl rfl rfl (Qb rfl) ?_
 refine Qe ?_
 refine Qo [2] [] rfl rfl rfl rfl (by rw [hF]; rfl) ?_
 refine QB ?_
 obtain rfl := Qw hm
 refine ⟨[_], [], ⟨rfl, trivial⟩, ?_, rfl, rfl, rfl, rfl⟩
 rfl
theorem c_impl_areOver_1 (p0 : Term) (out : Bool) (hm : m_impl_areOver_1 p0 = some out) : ACall Try.prog 89 [.agg [.int .i64 p0.Const, .sl 1 (List.map Qf p0.Coeffs)]] [] (.bool out) [] := by
 refine ACall.intro Try.func89 rfl Try.ntmps89 rfl (fun F hF => ?_)
 unfold m_impl_areOver_1 at hm
 refine Qn ?_
 refine Qc ?_
 refine TL_box 11 rfl rfl rfl rfl rfl rfl rfl ?_
 refine Qa rfl rfl rfl rfl (Qb rfl) ?_
 refine Qe ?_
 refine Qn ?_
 refine Qc ?_
 refine Qa rfl rfl rfl rfl (Qt ag75 sz75 rfl rfl rfl) ?_
 obtain ⟨r4, hr4, hm⟩ := Qv hm
 refine QG (c_impl_isOver p0 r4 hr4) Try.call90 rfl rfl rfl rfl rfl ?_
 refine Qa rfl rfl rfl rfl (op_not rfl) ?_
 refine Qa rfl rfl rfl rfl (Qb rfl) ?_
 refine Qe ?_
 refine Qo [2] [] rfl rfl rfl rfl (by rw [hF]; rfl) ?_
 refine QB ?_
 obtain rfl := Qw hm
 refine ⟨[_], [], ⟨rfl, trivial⟩, ?_, rfl, rfl, rfl, rfl⟩
 rfl
theorem c_slices_IndexFunc_impl_Term_impl_Term_fareOver_1 (p0 : List Term) (out : Int) (hm : Q9 p0 = some out) : ACall Try.prog 121 [.sl 2 (List.map Qq p0), .fn (.func 89) [] []] [] (.int .i64 out) [] := by
 refine ACall.intro Try.func121 rfl Try.ntmps121 rfl (fun F hF => ?_)
 unfold Q9 at hm
 refine Qn ?_
 refine Qc ?_
 refine Qa rfl rfl rfl rfl (Qb rfl) ?_
 refine Qe ?_
 refine Qn ?_
 refine Qn ?_
 refine Qc ?_
 refine Qa rfl rfl rfl rfl (Qd rfl) ?_
 refine Qa rfl rfl rfl rfl (Xm Try.underlying24 rfl (List.length_map _)) ?_
 refine Xy (fun _ _ _ hr => RelP.slLen (i := 6) rfl hr) (fun hlen7 => ?_)
 rw [List.length_map] at hlen7
 refine Qa rfl rfl rfl rfl (Qd rfl) ?_
 refine Qe ?_
 refine Xd ?_
 refine Qo [0, 1, 7, 8] [] rfl rfl rfl rfl (by rw [hF]; rfl) ?_
 refine T_loop ?_
 obtain ⟨u0, hl0, hm⟩ := Qv hm
 refine TR_forL2 p0 (QW) (fun (s0 : Unit) => (.inl ())) (fun n0 (s0 : Unit) => ⟨[(0, .sl 2 (List.map Qq p0)), (1, .fn (.func 89) [] []), (7, .int .i64 (p0.length : Int)), (8, .int .i64 (n0 : Int))], []⟩) (fun u0 => match u0 with | .inl u0 => .exit 0 | .inr u0 => .ret) (fun u0 => match u0 with | .inl u0 => ⟨[], []⟩ | .inr u0 => ⟨[(4, .int .i64 u0)], []⟩) (fun u0 => QX u0 = some out) hl0 hm (fun u0 hm => ?_) (fun hx0 s0 hm => ?_) (fun hx0 n0 x0 s0 c0 hxn0 hlt0 hm hc0 => ?_)
 ·rcases u0 with u0 | u0
  ·unfold QX at hm
   refine Qn ?_
   refine Qc ?_
   refine Qa rfl rfl rfl rfl (Qb rfl) ?_
   refine Qe ?_
   refine Qo [4] [] rfl rfl rfl rfl (by rw [hF]; rfl) ?_
   refine QB ?_
   obtain rfl := Qw hm
   refine ⟨[_], [], ⟨rfl, trivial⟩, ?_, rfl, rfl, rfl, rfl⟩
   rfl
  ·unfold QX at hm
   obtain rfl := Qw hm
   refine ⟨[_], [], ⟨rfl, trivial⟩, ?_, rfl, rfl, rfl, rfl⟩
   rfl
 ·refine Qn ?_
  refine Qc ?_
  refine Qa rfl rfl rfl rfl (op_lss rfl rfl) ?_
  refine Qe ?_
  refine Qn ?_
  refine T_if_false rfl (decide_eq_false (by simp)) ?_
  refine Qo [] [] rfl rfl rfl rfl (by rw [hF]; rfl) ?_
  refine T_exit ?_
  exact hx0 (.inl ()) hm
 ·unfold QW at hm
  refine Qn ?_
  refine Qc ?_
  refine Qa rfl rfl rfl rfl (op_lss rfl rfl) ?_
  refine Qe ?_
  refine Qn ?_
  refine T_if_true rfl (decide_eq_true (Int.ofNat_lt.2 hlt0)) ?_
  refine QL ?_
  refine Qn ?_
  refine Xd ?_
  refine Qn ?_
  refine Qc ?_
  refine Qa rfl rfl rfl rfl (Qd rfl) ?_
  refine Qa rfl rfl rfl rfl (Qb rfl) ?_
  refine Qe ?_
  refine Qn ?_
  refine Qc ?_
  refine Qa rfl rfl rfl rfl (Qd rfl) ?_
  refine Qa rfl rfl rfl rfl (Qd rfl) ?_
  refine Qa rfl rfl rfl rfl (Qd rfl) ?_
  refine Qa rfl rfl rfl rfl (op_index_sl el24 rfl rfl rfl (get_map hxn0) rfl) ?_
  refine Qa rfl rfl rfl rfl (Qt ag75 sz75 rfl rfl rfl) ?_
  obtain ⟨r16, hr16, hm⟩ := Qv hm
  refine TL_callV rfl (c_impl_areOver_1 x0 r16 hr16) Try.call89 rfl rfl rfl rfl rfl ?_
  refine Qe ?_
  refine QI rfl (fun hq => ?_) (fun hq => ?_)
  ·replace hm := QO hq hm
   refine Qn ?_
   refine Qc ?_
   refine Qa rfl rfl rfl rfl (Qd rfl) ?_
   refine Qa rfl rfl rfl rfl (Qb rfl) ?_
   refine Qe ?_
   refine Qo [4] [] rfl rfl rfl rfl (by rw [hF]; rfl) ?_
   refine QB ?_
   obtain rfl := Qw hm
   have hn := Xv hc0
   exact hx0 (.inr (n0 : Int)) hn
  ·replace hm := QM hq hm
   refine QL ?_
   refine Qc ?_
   refine Qa rfl rfl rfl rfl (op_addN rfl rfl (Nat.lt_of_lt_of_le hlt0 hlen7)) ?_
   refine Qa rfl rfl rfl rfl (Qd rfl) ?_
   refine Qe ?_
   refine Xw [0, 1, 7, 8] [] rfl rfl rfl rfl (by rw [hF]; rfl) ?_
   obtain rfl := Qw hm
   have hn := Q7 hc0
   exact hn _ rfl
theorem c_slices_ContainsFunc_impl_Term_impl_Term_fareOver_1 (p0 : List Term) (out : Bool) (hm : Q4 p0 = some out) : ACall Try.prog 88 [.sl 2 (List.map Qq p0), .fn (.func 89) [] []] [] (.bool out) [] := by
 refine ACall.intro Try.func88 rfl Try.ntmps88 rfl (fun F hF => ?_)
 unfold Q4 at hm
 refine Qn ?_
 refine Qc ?_
 refine Qa rfl rfl rfl rfl (Qb rfl) ?_
 refine Qe ?_
 refine Qn ?_
 refine Qc ?_
 refine Qa rfl rfl rfl rfl (Qd rfl) ?_
 refine Qa rfl rfl rfl rfl (Qd rfl) ?_
 obtain ⟨r7, hr7, hm⟩ := Qv hm
 refine QG (c_slices_IndexFunc_impl_Term_impl_Term_fareOver_1 p0 r7 hr7) Try.call121 rfl rfl rfl rfl rfl ?_
 refine Qa rfl rfl rfl rfl (op_geq rfl rfl) ?_
 refine Qa rfl rfl rfl rfl (Qb rfl) ?_
 refine Qe ?_
 refine Qo [4] [] rfl rfl rfl rfl (by rw [hF]; rfl) ?_
 refine QB ?_
 obtain rfl := Qw hm
 refine ⟨[_], [], ⟨rfl, trivial⟩, ?_, rfl, rfl, rfl, rfl⟩
 rfl
theorem c_impl_areOver (p0 : List Term) (p1 : Int) (out : Bool) (hm : m_impl_areOver p0 p1 = some out) : ACall Try.prog 49 [.sl 2 (List.map Qq p0), .int .i64 p1] [] (.bool out) [] := by
 refine ACall.intro Try.func49 rfl Try.ntmps49 rfl (fun F hF => ?_)
 unfold m_impl_areOver at hm
 refine Qn ?_
 refine Qc ?_
 refine Qa rfl rfl rfl rfl (Qb rfl) ?_
 refine Qe ?_
 refine Qn ?_
 refine Qc ?_
 refine Qa rfl rfl rfl rfl (Qd rfl) ?_
 refine Qa rfl rfl rfl rfl (Xm Try.underlying24 rfl (List.length_map _)) ?_
 refine Xy (fun _ _ _ hr => RelP.slLen (i := 5) rfl hr) (fun hlen6 => ?_)
 rw [List.length_map] at hlen6
 refine Qa rfl rfl rfl rfl (Qd rfl) ?_
 refine Qa rfl rfl rfl rfl (op_leq rfl rfl) ?_
 refine Qa rfl rfl rfl rfl (Qd rfl) ?_
 refine Qy 9 rfl rfl rfl (fun hq => ?_) (fun hq => ?_)
 ·replace hm := QO hq hm
  refine Qm rfl rfl ?_
  refine Qa rfl rfl rfl rfl (Qd rfl) ?_
  refine Qm rfl rfl ?_
  obtain ⟨r11, hr11, hm⟩ := Qv hm
  refine QG (c_slices_ContainsFunc_impl_Term_impl_Term_fareOver_1 p0 r11 hr11) Try.call88 rfl rfl rfl rfl rfl ?_
  refine Qm rfl rfl ?_
  refine Qa rfl rfl rfl rfl (op_not rfl) ?_
  refine Qa rfl rfl rfl rfl (Qp rfl rfl) ?_
  refine Qa rfl rfl rfl rfl (Qb rfl) ?_
  refine Qe ?_
  refine Qo [4] [] rfl rfl rfl rfl (by rw [hF]; rfl) ?_
  refine QB ?_
  obtain rfl := Qw hm
  refine ⟨[_], [], ⟨rfl, trivial⟩, ?_, rfl, rfl, rfl, rfl⟩
  rfl
 ·replace hm := QM hq hm
  refine Qh rfl rfl rfl rfl rfl rfl rfl ?_
  refine Qh rfl rfl rfl rfl rfl rfl rfl ?_
  refine Qh rfl rfl rfl rfl rfl rfl rfl ?_
  refine Qa rfl rfl rfl rfl (Qk rfl rfl) ?_
  refine Qa rfl rfl rfl rfl (Qb rfl) ?_
  refine Qe ?_
  refine Qo [4] [] rfl rfl rfl rfl (by rw [hF]; rfl) ?_
  refine QB ?_
  obtain rfl := Qw hm
  refine ⟨[_], [], ⟨rfl, trivial⟩, ?_, rfl, rfl, rfl, rfl⟩
  rfl
end Go.Mod
