import Derived.Test.YtmnjgboladaklaaRows
import Derived.Test.YtmnjgboladaklaaGc
import Derived.Test.YtmnjgboladaklaaGd
namespace Go.Mod
open Go Go.AM Go.Proofs
set_option linter.unusedVariables false
set_option linter.unusedSimpArgs false
set_option maxRecDepth 100000
set_option maxHeartbeats 8000000
def a_u8 (x : Int) : AV := .int .u8 x
def aLa_u8 (x : List Int) : AV := .sl 1 (List.map a_u8 x)
def a_i64 (x : Int) : AV := .int .i64 x
def a_Term (x : Term) : AV := .agg [.int .i64 x.Const, .sl 1 (List.map a_i64 x.Coeffs)]
def a_Stmt (x : Stmt) : AV := .agg [.int .i64 x.Kind, .int .i64 x.Var, .int .i64 x.Event, .int .i64 x.Sum.Const, .sl 1 (List.map a_i64 x.Sum.Coeffs), .int .i64 x.Index.Const, .sl 1 (List.map a_i64 x.Index.Coeffs), .sl 2 (List.map a_Term x.Facts)]
mutual
def r_Ptree : Ptree → AV
  | .nil => .nilp
  | .mk f0 f1 f2 => .cp [.int .i64 f0.Kind, .int .i64 f0.Var, .int .i64 f0.Event, .int .i64 f0.Sum.Const, .sl 1 (List.map a_i64 f0.Sum.Coeffs), .int .i64 f0.Index.Const, .sl 1 (List.map a_i64 f0.Index.Coeffs), .sl 2 (List.map a_Term f0.Facts), .int .i64 f1, .sl 1 (rL_Ptree f2)]
def rL_Ptree : List Ptree → List AV
  | [] => []
  | x :: r => .tr (r_Ptree x) :: rL_Ptree r
end
def a_Ptree (x : Ptree) : AV := .tr (r_Ptree x)
theorem rL_Ptree_eq (l : List Ptree) : rL_Ptree l = List.map a_Ptree l := by
  induction l with
  | nil => rfl
  | cons a l ih => simp only [rL_Ptree, List.map, ih]; rfl
theorem un_tree_eq {e : Ptree} {n : tree} (h : un_tree e = some n) : r_Ptree e = .cp [.int .i64 n.Stmt.Kind, .int .i64 n.Stmt.Var, .int .i64 n.Stmt.Event, .int .i64 n.Stmt.Sum.Const, .sl 1 (List.map a_i64 n.Stmt.Sum.Coeffs), .int .i64 n.Stmt.Index.Const, .sl 1 (List.map a_i64 n.Stmt.Index.Coeffs), .sl 2 (List.map a_Term n.Stmt.Facts), .int .i64 n.at_, .sl 1 (List.map a_Ptree n.kids)] := by
  cases e with
  | nil => cases h
  | mk f0 f1 f2 => cases h; first | (simp only [r_Ptree, rL_Ptree_eq]; done) | (simp only [r_Ptree, rL_Ptree_eq]; rfl)
theorem re_tree_eq (n : tree) : r_Ptree (re_tree n) = .cp [.int .i64 n.Stmt.Kind, .int .i64 n.Stmt.Var, .int .i64 n.Stmt.Event, .int .i64 n.Stmt.Sum.Const, .sl 1 (List.map a_i64 n.Stmt.Sum.Coeffs), .int .i64 n.Stmt.Index.Const, .sl 1 (List.map a_i64 n.Stmt.Index.Coeffs), .sl 2 (List.map a_Term n.Stmt.Facts), .int .i64 n.at_, .sl 1 (List.map a_Ptree n.kids)] := un_tree_eq rfl
def a_Instr (x : Instr) : AV := .agg [.int .i64 x.Op, .int .i64 x.Arg]
def a_Point (x : Point) : AV := .agg [.int .i64 x.At, .sl 2 (List.map a_Term x.Facts)]
theorem ag144 : tyAgg Try.prog 144 = some false := by kernel_rfl
theorem ag172 : tyAgg Try.prog 172 = some true := by kernel_rfl
theorem ag2 : tyAgg Try.prog 2 = some false := by kernel_rfl
theorem ag27 : tyAgg Try.prog 27 = some false := by kernel_rfl
theorem ag3 : tyAgg Try.prog 3 = some false := by kernel_rfl
theorem ag30 : tyAgg Try.prog 30 = some false := by kernel_rfl
theorem ag31 : tyAgg Try.prog 31 = some false := by kernel_rfl
theorem ag33 : tyAgg Try.prog 33 = some true := by kernel_rfl
theorem ag5 : tyAgg Try.prog 5 = some false := by kernel_rfl
theorem ag54 : tyAgg Try.prog 54 = some false := by kernel_rfl
theorem ag60 : tyAgg Try.prog 60 = some false := by kernel_rfl
theorem ag61 : tyAgg Try.prog 61 = some false := by kernel_rfl
theorem ag63 : tyAgg Try.prog 63 = some true := by kernel_rfl
theorem ag67 : tyAgg Try.prog 67 = some true := by kernel_rfl
theorem ag69 : tyAgg Try.prog 69 = some true := by kernel_rfl
theorem ag71 : tyAgg Try.prog 71 = some true := by kernel_rfl
theorem ag87 : tyAgg Try.prog 87 = some false := by kernel_rfl
theorem ag88 : tyAgg Try.prog 88 = some false := by kernel_rfl
theorem el27 : tyElem Try.prog 27 = some (2, 1) := by kernel_rfl
theorem el30 : tyElem Try.prog 30 = some (67, 2) := by kernel_rfl
theorem el31 : tyElem Try.prog 31 = some (69, 8) := by kernel_rfl
theorem el54 : tyElem Try.prog 54 = some (5, 1) := by kernel_rfl
theorem el60 : tyElem Try.prog 60 = some (172, 2) := by kernel_rfl
theorem el61 : tyElem Try.prog 61 = some (71, 2) := by kernel_rfl
theorem el88 : tyElem Try.prog 88 = some (87, 1) := by kernel_rfl
theorem fa114_0 : tyField Try.prog 114 0 = some 0 := by kernel_rfl
theorem fa114_1 : tyField Try.prog 114 1 = some 1 := by kernel_rfl
theorem fa114_2 : tyField Try.prog 114 2 = some 2 := by kernel_rfl
theorem fa114_3 : tyField Try.prog 114 3 = some 3 := by kernel_rfl
theorem fa146_0 : tyField Try.prog 146 0 = some 0 := by kernel_rfl
theorem fa146_1 : tyField Try.prog 146 1 = some 1 := by kernel_rfl
theorem fa146_2 : tyField Try.prog 146 2 = some 2 := by kernel_rfl
theorem fa172_0 : tyField Try.prog 172 0 = some 0 := by kernel_rfl
theorem fa172_1 : tyField Try.prog 172 1 = some 1 := by kernel_rfl
theorem fa33_0 : tyField Try.prog 33 0 = some 0 := by kernel_rfl
theorem fa33_1 : tyField Try.prog 33 1 = some 1 := by kernel_rfl
theorem fa33_2 : tyField Try.prog 33 2 = some 2 := by kernel_rfl
theorem fa63_0 : tyField Try.prog 63 0 = some 0 := by kernel_rfl
theorem fa63_1 : tyField Try.prog 63 1 = some 1 := by kernel_rfl
theorem fa63_2 : tyField Try.prog 63 2 = some 2 := by kernel_rfl
theorem fa63_3 : tyField Try.prog 63 3 = some 3 := by kernel_rfl
theorem fa67_0 : tyField Try.prog 67 0 = some 0 := by kernel_rfl
theorem fa67_1 : tyField Try.prog 67 1 = some 1 := by kernel_rfl
theorem fa69_0 : tyField Try.prog 69 0 = some 0 := by kernel_rfl
theorem fa69_1 : tyField Try.prog 69 1 = some 1 := by kernel_rfl
theorem fa69_2 : tyField Try.prog 69 2 = some 2 := by kernel_rfl
theorem fa69_3 : tyField Try.prog 69 3 = some 3 := by kernel_rfl
theorem fa69_4 : tyField Try.prog 69 4 = some 5 := by kernel_rfl
theorem fa69_5 : tyField Try.prog 69 5 = some 7 := by kernel_rfl
theorem fa71_0 : tyField Try.prog 71 0 = some 0 := by kernel_rfl
theorem fa71_1 : tyField Try.prog 71 1 = some 1 := by kernel_rfl
theorem fa94_0 : tyField Try.prog 94 0 = some 0 := by kernel_rfl
theorem fa94_1 : tyField Try.prog 94 1 = some 8 := by kernel_rfl
theorem fa94_2 : tyField Try.prog 94 2 = some 9 := by kernel_rfl
theorem mix : Try.prog.follows .mixedOrders = true := by kernel_rfl
theorem pl114 : tyPlaces Try.prog 114 = some [(0, 1), (1, 1), (2, 1), (3, 1)] := by kernel_rfl
theorem pl146 : tyPlaces Try.prog 146 = some [(0, 1), (1, 1), (2, 1)] := by kernel_rfl
theorem pl172 : tyPlaces Try.prog 172 = some [(0, 1), (1, 1)] := by kernel_rfl
theorem pl33 : tyPlaces Try.prog 33 = some [(0, 1), (1, 1), (2, 1)] := by kernel_rfl
theorem pl63 : tyPlaces Try.prog 63 = some [(0, 1), (1, 1), (2, 1), (3, 1)] := by kernel_rfl
theorem pl67 : tyPlaces Try.prog 67 = some [(0, 1), (1, 1)] := by kernel_rfl
theorem pl69 : tyPlaces Try.prog 69 = some [(0, 1), (1, 1), (2, 1), (3, 2), (5, 2), (7, 1)] := by kernel_rfl
theorem pl71 : tyPlaces Try.prog 71 = some [(0, 1), (1, 1)] := by kernel_rfl
theorem pl94 : tyPlaces Try.prog 94 = some [(0, 8), (8, 1), (9, 1)] := by kernel_rfl
theorem sz144 : tySize Try.prog 144 = some 1 := by kernel_rfl
theorem sz172 : tySize Try.prog 172 = some 2 := by kernel_rfl
theorem sz2 : tySize Try.prog 2 = some 1 := by kernel_rfl
theorem sz3 : tySize Try.prog 3 = some 1 := by kernel_rfl
theorem sz30 : tySize Try.prog 30 = some 1 := by kernel_rfl
theorem sz31 : tySize Try.prog 31 = some 1 := by kernel_rfl
theorem sz33 : tySize Try.prog 33 = some 3 := by kernel_rfl
theorem sz60 : tySize Try.prog 60 = some 1 := by kernel_rfl
theorem sz61 : tySize Try.prog 61 = some 1 := by kernel_rfl
theorem sz63 : tySize Try.prog 63 = some 4 := by kernel_rfl
theorem sz67 : tySize Try.prog 67 = some 2 := by kernel_rfl
theorem sz69 : tySize Try.prog 69 = some 8 := by kernel_rfl
theorem sz71 : tySize Try.prog 71 = some 2 := by kernel_rfl
theorem sz88 : tySize Try.prog 88 = some 1 := by kernel_rfl
theorem z114 : tyZero Try.prog 114 = some (.agg #[.slice none 0 0, .slice none 0 0, .slice none 0 0, .slice none 0 0], 4, 96) := by kernel_rfl
theorem z146 : tyZero Try.prog 146 = some (.agg #[.slice none 0 0, .int .i64 0, .int .u64 0], 3, 40) := by kernel_rfl
theorem z172 : tyZero Try.prog 172 = some (.agg #[.int .i64 0, .int .i64 0], 2, 16) := by kernel_rfl
theorem z2 : tyZero Try.prog 2 = some (.int .i64 0, 1, 8) := by kernel_rfl
theorem z33 : tyZero Try.prog 33 = some (.agg #[.slice none 0 0, .slice none 0 0, .slice none 0 0], 3, 72) := by kernel_rfl
theorem z63 : tyZero Try.prog 63 = some (.agg #[.slice none 0 0, .slice none 0 0, .slice none 0 0, .slice none 0 0], 4, 96) := by kernel_rfl
theorem z67 : tyZero Try.prog 67 = some (.agg #[.int .i64 0, .slice none 0 0], 2, 32) := by kernel_rfl
theorem z69 : tyZero Try.prog 69 = some (.agg #[.int .i64 0, .int .i64 0, .int .i64 0, .int .i64 0, .slice none 0 0, .int .i64 0, .slice none 0 0, .slice none 0 0], 8, 112) := by kernel_rfl
theorem z71 : tyZero Try.prog 71 = some (.agg #[.int .i64 0, .slice none 0 0], 2, 32) := by kernel_rfl
theorem z87 : tyZero Try.prog 87 = some (.pointer none, 1, 8) := by kernel_rfl
theorem z94 : tyZero Try.prog 94 = some (.agg #[.int .i64 0, .int .i64 0, .int .i64 0, .int .i64 0, .slice none 0 0, .int .i64 0, .slice none 0 0, .slice none 0 0, .int .i64 0, .slice none 0 0], 10, 144) := by kernel_rfl
theorem c_laws_r8Long (p0 : List Int) (p1 : List Int) (out : Bool) (hm : m_laws_r8Long p0 p1 = some out) : ACall Try.prog 29 [.sl 1 (List.map a_u8 p0), .sl 1 (List.map a_u8 p1)] [] (.bool out) [] := by
  refine ACall.intro Try.func29 rfl Try.ntmps29 rfl (fun F hF => ?_)
  unfold m_laws_r8Long at hm
  refine T_seq ?_
  refine T_region ?_
  refine TL_pure rfl rfl rfl rfl (op_assign rfl) ?_
  refine TL_nil ?_
  refine T_seq ?_
  refine T_region ?_
  refine TL_pure rfl rfl rfl rfl (op_move rfl) ?_
  refine TL_pure rfl rfl rfl rfl (op_lenT Try.underlying54 rfl (List.length_map _)) ?_
  refine TL_fact (fun _ _ _ hr => RelP.slLen (i := 5) rfl hr) (fun hlen6 => ?_)
  rw [List.length_map] at hlen6
  refine TL_pure rfl rfl rfl rfl (op_gtr rfl rfl) ?_
  refine TL_pure rfl rfl rfl rfl (op_move rfl) ?_
  refine TL_join 4 (fun _ : Unit => ⟨[(12, .bool ((decide ((48 : Int) < (p0.length : Int))) || (decide ((48 : Int) < (p1.length : Int)))))], []⟩) (fun _ => True) (fun _ _ => ?_) (fun hjj => ?_)
  · refine TL_pure rfl rfl rfl rfl (op_assign rfl) ?_
    refine TL_nil ?_
    refine T_keepH [4] [] rfl rfl rfl rfl (by rw [hF]; rfl) ?_
    refine T_ret ?_
    obtain rfl := someI hm
    refine ⟨[_], [], ⟨rfl, trivial⟩, ?_, rfl, rfl, rfl, rfl⟩
    rfl
  · refine TL_split 8 rfl rfl rfl (fun hq => ?_) (fun hq => ?_)
    · refine TL_pass rfl rfl rfl rfl rfl rfl rfl ?_
      refine TL_pass rfl rfl rfl rfl rfl rfl rfl ?_
      refine TL_pass rfl rfl rfl rfl rfl rfl rfl ?_
      refine TL_pure rfl rfl rfl rfl (op_pick_true rfl rfl) ?_
      refine TL_keepH [12] [] rfl rfl rfl rfl (by rw [hF]; rfl) ?_
      exact TL_cast _ (by first | (rw [hq, Bool.true_or]; done) | (rw [hq]; rfl)) (hjj () trivial)
    · refine TL_want rfl rfl ?_
      refine TL_pure rfl rfl rfl rfl (op_move rfl) ?_
      refine TL_want rfl rfl ?_
      refine TL_pure rfl rfl rfl rfl (op_lenT Try.underlying54 rfl (List.length_map _)) ?_
      refine TL_fact (fun _ _ _ hr => RelP.slLen (i := 9) rfl hr) (fun hlen10 => ?_)
      rw [List.length_map] at hlen10
      refine TL_want rfl rfl ?_
      refine TL_pure rfl rfl rfl rfl (op_gtr rfl rfl) ?_
      refine TL_pure rfl rfl rfl rfl (op_pick_false rfl rfl) ?_
      refine TL_keepH [12] [] rfl rfl rfl rfl (by rw [hF]; rfl) ?_
      exact TL_cast _ (by first | (rw [hq, Bool.false_or]; done) | (rw [hq]; rfl)) (hjj () trivial)
theorem c_spec_l00From (p0 : List Int) (out : l00Src) (hm : m_spec_l00From p0 = some out) : ACall Try.prog 57 [.sl 1 (List.map a_u8 p0)] [] (.ptr 1000 0 0) [(1000, .box [.sl 1 (List.map a_u8 out.code), .int .i64 out.at_, .int .u64 out.seed])] := by
  refine ACall.intro Try.func57 rfl Try.ntmps57 rfl (fun F hF => ?_)
  unfold m_spec_l00From at hm
  refine T_seq ?_
  refine T_region ?_
  refine TL_pure rfl rfl rfl rfl (op_assign rfl) ?_
  refine TL_nil ?_
  refine T_seq ?_
  refine T_region ?_
  refine TL_pure rfl rfl rfl rfl (op_move rfl) ?_
  refine TL_pure rfl rfl rfl rfl (op_buildP pl146 z146 rfl rfl rfl rfl rfl) ?_
  refine TL_box 11 rfl rfl rfl rfl rfl rfl rfl ?_
  refine TL_pure rfl rfl rfl rfl (op_assign rfl) ?_
  refine TL_nil ?_
  refine T_keepH [2] [11] rfl rfl rfl rfl (by rw [hF]; rfl) ?_
  refine T_ren [(11, 1000)] rfl rfl rfl (by rw [hF]; rfl) ?_
  refine T_ret ?_
  obtain rfl := someI hm
  refine ⟨[_], [1000], ⟨rfl, trivial⟩, ?_, rfl, rfl, rfl, rfl⟩
  rfl
theorem c_spec_l00Src_next (p0 : l00Src) (out : Int × l00Src) (hm : m_spec_l00Src_next p0 = some out) : ACall Try.prog 106 [.ptr 0 0 0] [(0, .box [.sl 1 (List.map a_u8 p0.code), .int .i64 p0.at_, .int .u64 p0.seed])] (.int .i64 out.1) [(0, .box [.sl 1 (List.map a_u8 out.2.code), .int .i64 out.2.at_, .int .u64 out.2.seed])] := by
  refine ACall.intro Try.func106 rfl Try.ntmps106 rfl (fun F hF => ?_)
  unfold m_spec_l00Src_next at hm
  refine T_seq ?_
  refine T_region ?_
  refine TL_pure rfl rfl rfl rfl (op_assign rfl) ?_
  refine TL_nil ?_
  refine T_seq ?_
  refine T_region ?_
  refine TL_pure rfl rfl rfl rfl (op_assign rfl) ?_
  refine TL_nil ?_
  refine T_join (fun (j0 : Int) => ⟨[(0, .ptr 0 0 0), (3, .int .i64 j0)], [(0, .box [.sl 1 (List.map a_u8 p0.code), .int .i64 p0.at_, .int .u64 p0.seed])]⟩) (fun j0 => m_spec_l00Src_next_J0 p0 j0 = some out) (fun j0 hm => ?_) (fun hj0 => ?_)
  · unfold m_spec_l00Src_next_J0 at hm
    refine T_seq ?_
    refine T_region ?_
    refine TL_pure rfl rfl rfl rfl (op_move rfl) ?_
    refine TL_pure rfl rfl rfl rfl (op_nilCheck rfl rfl) ?_
    refine TL_pure rfl rfl rfl rfl (op_fieldAddr fa146_1 rfl rfl) ?_
    refine TL_pure rfl rfl rfl rfl (op_load_one ag3 rfl rfl) ?_
    refine TL_pure rfl rfl rfl rfl (op_addW rfl rfl) ?_
    refine TL_pure rfl rfl rfl rfl (op_nilCheck rfl rfl) ?_
    refine TL_pure rfl rfl rfl rfl (op_fieldAddr fa146_1 rfl rfl) ?_
    refine TL_store_box sz3 rfl rfl rfl rfl rfl rfl rfl rfl rfl ?_
    refine TL_nil ?_
    refine T_seq ?_
    refine T_region ?_
    refine TL_pure rfl rfl rfl rfl (op_move rfl) ?_
    refine TL_pure rfl rfl rfl rfl (op_move rfl) ?_
    refine TL_pure rfl rfl rfl rfl (op_nilCheck rfl rfl) ?_
    refine TL_pure rfl rfl rfl rfl (op_fieldAddr fa146_2 rfl rfl) ?_
    refine TL_pure rfl rfl rfl rfl (op_load_one ag144 rfl rfl) ?_
    refine TL_pure rfl rfl rfl rfl (op_mulK wrap_u64 rfl rfl) ?_
    refine TL_pure rfl rfl rfl rfl (op_move rfl) ?_
    refine TL_pure rfl rfl rfl rfl (op_convK wrap_u64 ⟨_, Try.underlying3⟩ Try.underlying144 rfl) ?_
    refine TL_pure rfl rfl rfl rfl (op_addK wrap_u64 rfl rfl) ?_
    refine TL_pure rfl rfl rfl rfl (op_addK wrap_u64 rfl rfl) ?_
    refine TL_pure rfl rfl rfl rfl (op_nilCheck rfl rfl) ?_
    refine TL_pure rfl rfl rfl rfl (op_fieldAddr fa146_2 rfl rfl) ?_
    refine TL_store_box sz144 rfl rfl rfl rfl rfl rfl rfl rfl rfl ?_
    refine TL_nil ?_
    refine T_seq ?_
    refine T_seq ?_
    refine T_drawZ [] mix (by kernel_rfl) rfl ?_
    refine TZ_pure 0 (by kernel_rfl) rfl rfl rfl rfl rfl (op_move rfl) ?_
    refine TZ_pure 1 (by kernel_rfl) rfl rfl rfl rfl rfl (op_nilCheck rfl rfl) ?_
    refine TZ_pure 2 (by kernel_rfl) rfl rfl rfl rfl rfl (op_fieldAddr fa146_1 rfl rfl) ?_
    refine TZ_pure 3 (by kernel_rfl) rfl rfl rfl rfl rfl (op_load_one ag3 rfl rfl) ?_
    refine TZ_pure 4 (by kernel_rfl) rfl rfl rfl rfl rfl (op_move rfl) ?_
    refine TZ_pure 5 (by kernel_rfl) rfl rfl rfl rfl rfl (op_nilCheck rfl rfl) ?_
    refine TZ_pure 6 (by kernel_rfl) rfl rfl rfl rfl rfl (op_fieldAddr fa146_0 rfl rfl) ?_
    refine TZ_pure 7 (by kernel_rfl) rfl rfl rfl rfl rfl (op_load_one ag54 rfl rfl) ?_
    refine TZ_pure 8 (by kernel_rfl) rfl rfl rfl rfl rfl (op_lenT Try.underlying54 rfl (List.length_map _)) ?_
    refine TZ_fact (fun _ _ _ hr => RelP.slLen (i := 51) rfl hr) (fun hlen52 => ?_)
    rw [List.length_map] at hlen52
    refine TZ_pure 9 (by kernel_rfl) rfl rfl rfl rfl rfl (op_leq rfl rfl) ?_
    refine TZ_done (by kernel_rfl) ?_
    refine T_cond rfl (fun hq => ?_) (fun hq => ?_)
    · replace hm := condT hq hm
      refine T_seq ?_
      refine T_region ?_
      refine TL_pure rfl rfl rfl rfl (op_move rfl) ?_
      refine TL_pure rfl rfl rfl rfl (op_assign rfl) ?_
      refine TL_nil ?_
      refine T_keepH [2] [0] rfl rfl rfl rfl (by rw [hF]; rfl) ?_
      refine T_ret ?_
      obtain rfl := someI hm
      refine ⟨[_], [0], ⟨rfl, trivial⟩, ?_, rfl, rfl, rfl, rfl⟩
      rfl
    · replace hm := condF hq hm
      refine T_skip ?_
      refine T_seq ?_
      refine T_region ?_
      refine TL_pure rfl rfl rfl rfl (op_move rfl) ?_
      refine TL_pure rfl rfl rfl rfl (op_nilCheck rfl rfl) ?_
      refine TL_pure rfl rfl rfl rfl (op_fieldAddr fa146_2 rfl rfl) ?_
      refine TL_pure rfl rfl rfl rfl (op_load_one ag144 rfl rfl) ?_
      refine TL_pure rfl rfl rfl rfl (op_shrC (n := 40) rfl (by decide) rfl rfl) ?_
      refine TL_pure rfl rfl rfl rfl (op_andU rfl rfl) ?_
      refine TL_pure rfl rfl rfl rfl (op_convW ⟨_, Try.underlying144⟩ Try.underlying2 rfl) ?_
      refine TL_pure rfl rfl rfl rfl (op_assign rfl) ?_
      refine TL_nil ?_
      refine T_keepH [2] [0] rfl rfl rfl rfl (by rw [hF]; rfl) ?_
      refine T_ret ?_
      obtain rfl := someI hm
      refine ⟨[_], [0], ⟨rfl, trivial⟩, ?_, rfl, rfl, rfl, rfl⟩
      rfl
  · refine T_seq ?_
    refine T_drawZ [] mix (by kernel_rfl) rfl ?_
    refine TZ_pure 0 (by kernel_rfl) rfl rfl rfl rfl rfl (op_move rfl) ?_
    refine TZ_pure 1 (by kernel_rfl) rfl rfl rfl rfl rfl (op_nilCheck rfl rfl) ?_
    refine TZ_pure 2 (by kernel_rfl) rfl rfl rfl rfl rfl (op_fieldAddr fa146_1 rfl rfl) ?_
    refine TZ_pure 3 (by kernel_rfl) rfl rfl rfl rfl rfl (op_load_one ag3 rfl rfl) ?_
    refine TZ_pure 4 (by kernel_rfl) rfl rfl rfl rfl rfl (op_move rfl) ?_
    refine TZ_pure 5 (by kernel_rfl) rfl rfl rfl rfl rfl (op_nilCheck rfl rfl) ?_
    refine TZ_pure 6 (by kernel_rfl) rfl rfl rfl rfl rfl (op_fieldAddr fa146_0 rfl rfl) ?_
    refine TZ_pure 7 (by kernel_rfl) rfl rfl rfl rfl rfl (op_load_one ag54 rfl rfl) ?_
    refine TZ_pure 8 (by kernel_rfl) rfl rfl rfl rfl rfl (op_lenT Try.underlying54 rfl (List.length_map _)) ?_
    refine TZ_fact (fun _ _ _ hr => RelP.slLen (i := 11) rfl hr) (fun hlen12 => ?_)
    rw [List.length_map] at hlen12
    refine TZ_pure 9 (by kernel_rfl) rfl rfl rfl rfl rfl (op_lss rfl rfl) ?_
    refine TZ_done (by kernel_rfl) ?_
    refine T_cond rfl (fun hq => ?_) (fun hq => ?_)
    · replace hm := condT hq hm
      refine T_drawZ [] mix (by kernel_rfl) rfl ?_
      obtain ⟨x22, hx22, hm⟩ := bindS hm
      refine TZ_pure 0 (by kernel_rfl) rfl rfl rfl rfl rfl (op_move rfl) ?_
      refine TZ_pure 1 (by kernel_rfl) rfl rfl rfl rfl rfl (op_nilCheck rfl rfl) ?_
      refine TZ_pure 2 (by kernel_rfl) rfl rfl rfl rfl rfl (op_fieldAddr fa146_0 rfl rfl) ?_
      refine TZ_pure 3 (by kernel_rfl) rfl rfl rfl rfl rfl (op_load_one ag54 rfl rfl) ?_
      refine TZ_pure 4 (by kernel_rfl) rfl rfl rfl rfl rfl (op_move rfl) ?_
      refine TZ_pure 5 (by kernel_rfl) rfl rfl rfl rfl rfl (op_nilCheck rfl rfl) ?_
      refine TZ_pure 6 (by kernel_rfl) rfl rfl rfl rfl rfl (op_fieldAddr fa146_1 rfl rfl) ?_
      refine TZ_pure 7 (by kernel_rfl) rfl rfl rfl rfl rfl (op_load_one ag3 rfl rfl) ?_
      refine TZ_pure 8 (by kernel_rfl) rfl rfl rfl rfl rfl (op_indexT el54 rfl rfl hx22 rfl) ?_
      refine TZ_pure 9 (by kernel_rfl) rfl rfl rfl rfl rfl (op_load_one ag5 rfl rfl) ?_
      refine TZ_pure 10 (by kernel_rfl) rfl rfl rfl rfl rfl (op_convW ⟨_, Try.underlying5⟩ Try.underlying3 rfl) ?_
      refine TZ_pure 11 (by kernel_rfl) rfl rfl rfl rfl rfl (op_assign rfl) ?_
      refine TZ_done (by kernel_rfl) ?_
      refine T_keepH [0, 3] [0] rfl rfl rfl rfl (by rw [hF]; rfl) ?_
      exact hj0 (w64 x22) hm
    · replace hm := condF hq hm
      refine T_skip ?_
      refine T_keepH [0, 3] [0] rfl rfl rfl rfl (by rw [hF]; rfl) ?_
      exact hj0 (0 : Int) hm
theorem c_spec_l00Src_pick (p0 : l00Src) (p1 : Int) (out : Int × l00Src) (hm : m_spec_l00Src_pick p0 p1 = some out) : ACall Try.prog 86 [.ptr 0 0 0, .int .i64 p1] [(0, .box [.sl 1 (List.map a_u8 p0.code), .int .i64 p0.at_, .int .u64 p0.seed])] (.int .i64 out.1) [(0, .box [.sl 1 (List.map a_u8 out.2.code), .int .i64 out.2.at_, .int .u64 out.2.seed])] := by
  refine ACall.intro Try.func86 rfl Try.ntmps86 rfl (fun F hF => ?_)
  unfold m_spec_l00Src_pick at hm
  refine T_seq ?_
  refine T_region ?_
  refine TL_pure rfl rfl rfl rfl (op_assign rfl) ?_
  refine TL_nil ?_
  refine T_seq ?_
  refine T_seq ?_
  refine T_region ?_
  refine TL_pure rfl rfl rfl rfl (op_move rfl) ?_
  refine TL_pure rfl rfl rfl rfl (op_leq rfl rfl) ?_
  refine TL_nil ?_
  refine T_cond rfl (fun hq => ?_) (fun hq => ?_)
  · replace hm := condT hq hm
    refine T_seq ?_
    refine T_region ?_
    refine TL_pure rfl rfl rfl rfl (op_assign rfl) ?_
    refine TL_nil ?_
    refine T_keepH [4] [0] rfl rfl rfl rfl (by rw [hF]; rfl) ?_
    refine T_ret ?_
    obtain rfl := someI hm
    refine ⟨[_], [0], ⟨rfl, trivial⟩, ?_, rfl, rfl, rfl, rfl⟩
    rfl
  · replace hm := condF hq hm
    refine T_skip ?_
    refine T_seq ?_
    refine T_region ?_
    refine TL_pure rfl rfl rfl rfl (op_move rfl) ?_
    obtain ⟨r9, hr9, hm⟩ := bindS hm
    refine TL_call [(0, 0)] [] [] (c_spec_l00Src_next p0 r9 hr9) Try.call106 rfl rfl rfl rfl rfl ⟨rfl, trivial⟩ rfl rfl rfl rfl rfl rfl rfl rfl rfl rfl rfl ?_
    refine TL_pure rfl rfl rfl rfl (op_assign rfl) ?_
    refine TL_nil ?_
    refine T_seq ?_
    refine T_seq ?_
    refine T_region ?_
    refine TL_pure rfl rfl rfl rfl (op_move rfl) ?_
    refine TL_pure rfl rfl rfl rfl (op_gtr rfl rfl) ?_
    refine TL_nil ?_
    refine T_cond rfl (fun hq => ?_) (fun hq => ?_)
    · replace hm := condT hq hm
      refine T_region ?_
      refine TL_pure rfl rfl rfl rfl (op_move rfl) ?_
      refine TL_pure rfl rfl rfl rfl (op_mulW rfl rfl) ?_
      refine TL_pure rfl rfl rfl rfl (op_move rfl) ?_
      obtain ⟨r15, hr15, hm⟩ := bindS hm
      refine TL_call [(0, 0)] [] [] (c_spec_l00Src_next r9.2 r15 hr15) Try.call106 rfl rfl rfl rfl rfl ⟨rfl, trivial⟩ rfl rfl rfl rfl rfl rfl rfl rfl rfl rfl rfl ?_
      refine TL_pure rfl rfl rfl rfl (op_addW rfl rfl) ?_
      refine TL_pure rfl rfl rfl rfl (op_assign rfl) ?_
      refine TL_nil ?_
      refine T_seq ?_
      refine T_region ?_
      refine TL_pure rfl rfl rfl rfl (op_move rfl) ?_
      refine TL_pure rfl rfl rfl rfl (op_move rfl) ?_
      obtain ⟨q19, hq19, hm⟩ := bindS hm
      refine TL_pure rfl rfl rfl rfl (op_remT rfl rfl hq19) ?_
      refine TL_pure rfl rfl rfl rfl (op_assign rfl) ?_
      refine TL_nil ?_
      refine T_keepH [4] [0] rfl rfl rfl rfl (by rw [hF]; rfl) ?_
      refine T_ret ?_
      obtain rfl := someI hm
      refine ⟨[_], [0], ⟨rfl, trivial⟩, ?_, rfl, rfl, rfl, rfl⟩
      rfl
    · replace hm := condF hq hm
      refine T_skip ?_
      refine T_seq ?_
      refine T_region ?_
      refine TL_pure rfl rfl rfl rfl (op_move rfl) ?_
      refine TL_pure rfl rfl rfl rfl (op_move rfl) ?_
      obtain ⟨q19, hq19, hm⟩ := bindS hm
      refine TL_pure rfl rfl rfl rfl (op_remT rfl rfl hq19) ?_
      refine TL_pure rfl rfl rfl rfl (op_assign rfl) ?_
      refine TL_nil ?_
      refine T_keepH [4] [0] rfl rfl rfl rfl (by rw [hF]; rfl) ?_
      refine T_ret ?_
      obtain rfl := someI hm
      refine ⟨[_], [0], ⟨rfl, trivial⟩, ?_, rfl, rfl, rfl, rfl⟩
      rfl
theorem c_spec_l00Own (p0 : List Int) (out : List Int) (hm : m_spec_l00Own p0 = some out) : ACall Try.prog 118 [.sl 1 (List.map a_i64 p0)] [] (.ow 1000) [(1000, .arr ⟨false, true⟩ 1 2 (List.map a_i64 out))] := by
  refine ACall.intro Try.func118 rfl Try.ntmps118 rfl (fun F hF => ?_)
  unfold m_spec_l00Own at hm
  refine T_seq ?_
  refine T_region ?_
  refine TL_pure rfl rfl rfl rfl (op_assign rfl) ?_
  refine TL_nil ?_
  refine T_seq ?_
  refine T_region ?_
  refine TL_buildSlice 11 (es := List.map a_i64 ([] : List Int)) el27 z2 rfl rfl rfl rfl rfl rfl rfl rfl rfl ?_
  refine TL_pure rfl rfl rfl rfl (op_move rfl) ?_
  obtain ⟨q5, hq5, hm⟩ := bindS hm
  refine TL_appendT (f := a_i64) (a := ([] : List Int)) (b := p0) el27 z2 rfl rfl rfl rfl rfl rfl rfl (capI_spec hq5) rfl rfl rfl rfl rfl ?_
  refine TL_pure rfl rfl rfl rfl (op_assign rfl) ?_
  refine TL_nil ?_
  refine T_keepH [2] [11] rfl rfl rfl rfl (by rw [hF]; rfl) ?_
  refine T_deepen 11 (p' := false) (List.map a_i64 (([] : List Int) ++ p0)) (by rw [hF]; rfl) rfl (ElR.map (f := a_i64) (g := a_i64) (fun _ => ⟨⟨rfl, rfl⟩, trivial⟩) (([] : List Int) ++ p0)) rfl rfl rfl ?_
  refine T_ren [(11, 1000)] rfl rfl rfl (by rw [hF]; rfl) ?_
  refine T_ret ?_
  obtain rfl := someI hm
  refine ⟨[_], [1000], ⟨rfl, trivial⟩, ?_, rfl, rfl, rfl, rfl⟩
  rfl
theorem c_spec_l00In (p0 : Int) (p1 : Int) (p2 : Int) (out : Bool) (hm : m_spec_l00In p0 p1 p2 = some out) : ACall Try.prog 67 [.int .i64 p0, .int .i64 p1, .int .i64 p2] [] (.bool out) [] := by
  refine ACall.intro Try.func67 rfl Try.ntmps67 rfl (fun F hF => ?_)
  unfold m_spec_l00In at hm
  refine T_seq ?_
  refine T_region ?_
  refine TL_pure rfl rfl rfl rfl (op_assign rfl) ?_
  refine TL_nil ?_
  refine T_seq ?_
  refine T_region ?_
  refine TL_pure rfl rfl rfl rfl (op_move rfl) ?_
  refine TL_pure rfl rfl rfl rfl (op_move rfl) ?_
  refine TL_pure rfl rfl rfl rfl (op_geq rfl rfl) ?_
  refine TL_pure rfl rfl rfl rfl (op_move rfl) ?_
  refine TL_join 4 (fun _ : Unit => ⟨[(14, .bool ((decide (p1 ≤ p0)) && (decide (p0 ≤ p2))))], []⟩) (fun _ => True) (fun _ _ => ?_) (fun hjj => ?_)
  · refine TL_pure rfl rfl rfl rfl (op_assign rfl) ?_
    refine TL_nil ?_
    refine T_keepH [6] [] rfl rfl rfl rfl (by rw [hF]; rfl) ?_
    refine T_ret ?_
    obtain rfl := someI hm
    refine ⟨[_], [], ⟨rfl, trivial⟩, ?_, rfl, rfl, rfl, rfl⟩
    rfl
  · refine TL_split 10 rfl rfl rfl (fun hq => ?_) (fun hq => ?_)
    · refine TL_want rfl rfl ?_
      refine TL_pure rfl rfl rfl rfl (op_move rfl) ?_
      refine TL_want rfl rfl ?_
      refine TL_pure rfl rfl rfl rfl (op_move rfl) ?_
      refine TL_want rfl rfl ?_
      refine TL_pure rfl rfl rfl rfl (op_leq rfl rfl) ?_
      refine TL_pure rfl rfl rfl rfl (op_pick_true rfl rfl) ?_
      refine TL_keepH [14] [] rfl rfl rfl rfl (by rw [hF]; rfl) ?_
      exact TL_cast _ (by first | (rw [hq, Bool.true_and]; done) | (rw [hq]; rfl)) (hjj () trivial)
    · refine TL_pass rfl rfl rfl rfl rfl rfl rfl ?_
      refine TL_pass rfl rfl rfl rfl rfl rfl rfl ?_
      refine TL_pass rfl rfl rfl rfl rfl rfl rfl ?_
      refine TL_pure rfl rfl rfl rfl (op_pick_false rfl rfl) ?_
      refine TL_keepH [14] [] rfl rfl rfl rfl (by rw [hF]; rfl) ?_
      exact TL_cast _ (by first | (rw [hq, Bool.false_and]; done) | (rw [hq]; rfl)) (hjj () trivial)
theorem c_spec_l02Number (p0 : Int) (out : Bool) (hm : m_spec_l02Number p0 = some out) : ACall Try.prog 127 [.int .i64 p0] [] (.bool out) [] := by
  refine ACall.intro Try.func127 rfl Try.ntmps127 rfl (fun F hF => ?_)
  unfold m_spec_l02Number at hm
  refine T_seq ?_
  refine T_region ?_
  refine TL_pure rfl rfl rfl rfl (op_assign rfl) ?_
  refine TL_nil ?_
  refine T_seq ?_
  refine T_region ?_
  refine TL_pure rfl rfl rfl rfl (op_move rfl) ?_
  obtain ⟨r4, hr4, hm⟩ := bindS hm
  refine TL_callF (c_spec_l00In p0 (-1000000 : Int) (1000000 : Int) r4 hr4) Try.call67 rfl rfl rfl rfl rfl ?_
  refine TL_pure rfl rfl rfl rfl (op_assign rfl) ?_
  refine TL_nil ?_
  refine T_keepH [2] [] rfl rfl rfl rfl (by rw [hF]; rfl) ?_
  refine T_ret ?_
  obtain rfl := someI hm
  refine ⟨[_], [], ⟨rfl, trivial⟩, ?_, rfl, rfl, rfl, rfl⟩
  rfl
theorem c_spec_l02Is (p0 : Term) (out : Bool) (hm : m_spec_l02Is p0 = some out) : ACall Try.prog 115 [.cp [.int .i64 p0.Const, .sl 1 (List.map a_i64 p0.Coeffs)]] [] (.bool out) [] := by
  refine ACall.intro Try.func115 rfl Try.ntmps115 rfl (fun F hF => ?_)
  unfold m_spec_l02Is at hm
  refine T_seq ?_
  refine T_region ?_
  refine TL_pure rfl rfl rfl rfl (op_assign rfl) ?_
  refine TL_nil ?_
  refine T_seq ?_
  refine T_region ?_
  refine TL_pure rfl rfl rfl rfl (op_move rfl) ?_
  refine TL_pure rfl rfl rfl rfl (op_nilCheck rfl rfl) ?_
  refine TL_pure rfl rfl rfl rfl (op_fieldAddr fa67_1 rfl rfl) ?_
  refine TL_pure rfl rfl rfl rfl (op_load_one ag27 rfl rfl) ?_
  refine TL_pure rfl rfl rfl rfl (op_lenT Try.underlying27 rfl (List.length_map _)) ?_
  refine TL_fact (fun _ _ _ hr => RelP.slLen (i := 8) rfl hr) (fun hlen9 => ?_)
  rw [List.length_map] at hlen9
  refine TL_pure rfl rfl rfl rfl (op_assign rfl) ?_
  refine TL_nil ?_
  refine T_join (fun (j0 : Unit) => ⟨[(0, .cp [.int .i64 p0.Const, .sl 1 (List.map a_i64 p0.Coeffs)]), (3, .int .i64 (p0.Coeffs.length : Int))], []⟩) (fun j0 => m_spec_l02Is_J0 p0 j0 = some out) (fun j0 hm => ?_) (fun hj0 => ?_)
  · unfold m_spec_l02Is_J0 at hm
    refine T_seq ?_
    refine T_seq ?_
    refine T_region ?_
    refine TL_pure rfl rfl rfl rfl (op_assign rfl) ?_
    refine TL_nil ?_
    refine T_block ?_
    refine T_keepH [0, 3, 4] [] rfl rfl rfl rfl (by rw [hF]; rfl) ?_
    refine T_loop ?_
    obtain ⟨u0, hl0, hm⟩ := bindS hm
    refine TR_iter2 (m_spec_l02Is_L0 p0) (fun (s0 : Int) => ⟨[(0, .cp [.int .i64 p0.Const, .sl 1 (List.map a_i64 p0.Coeffs)]), (3, .int .i64 (p0.Coeffs.length : Int)), (4, .int .i64 s0)], []⟩) (fun u0 => match u0 with | .inl u0 => .exit 0 | .inr u0 => .ret) (fun u0 => match u0 with | .inl u0 => ⟨[], []⟩ | .inr u0 => ⟨[(2, .bool u0)], []⟩) (fun u0 => m_spec_l02Is_A0 u0 = some out) hl0 hm (fun u0 hm => ?_) (fun hx0 s0 c0 hm hc0 => ?_)
    · rcases u0 with u0 | u0
      · unfold m_spec_l02Is_A0 at hm
        refine T_seq ?_
        refine T_region ?_
        refine TL_pure rfl rfl rfl rfl (op_assign rfl) ?_
        refine TL_nil ?_
        refine T_keepH [2] [] rfl rfl rfl rfl (by rw [hF]; rfl) ?_
        refine T_ret ?_
        obtain rfl := someI hm
        refine ⟨[_], [], ⟨rfl, trivial⟩, ?_, rfl, rfl, rfl, rfl⟩
        rfl
      · unfold m_spec_l02Is_A0 at hm
        obtain rfl := someI hm
        refine ⟨[_], [], ⟨rfl, trivial⟩, ?_, rfl, rfl, rfl, rfl⟩
        rfl
    · unfold m_spec_l02Is_L0 at hm
      refine T_seq ?_
      refine T_seq ?_
      refine T_region ?_
      refine TL_pure rfl rfl rfl rfl (op_move rfl) ?_
      refine TL_pure rfl rfl rfl rfl (op_move rfl) ?_
      refine TL_pure rfl rfl rfl rfl (op_lss rfl rfl) ?_
      refine TL_nil ?_
      refine T_cond rfl (fun hq => ?_) (fun hq => ?_)
      · replace hm := condT hq hm
        refine T_skip ?_
        refine T_seq ?_
        refine T_block ?_
        refine T_seq ?_
        refine T_region ?_
        refine TL_pure rfl rfl rfl rfl (op_move rfl) ?_
        refine TL_pure rfl rfl rfl rfl (op_nilCheck rfl rfl) ?_
        refine TL_pure rfl rfl rfl rfl (op_fieldAddr fa67_1 rfl rfl) ?_
        refine TL_pure rfl rfl rfl rfl (op_load_one ag27 rfl rfl) ?_
        refine TL_pure rfl rfl rfl rfl (op_move rfl) ?_
        obtain ⟨x45, hx45, hm⟩ := bindS hm
        refine TL_pure rfl rfl rfl rfl (op_indexT el27 rfl rfl hx45 rfl) ?_
        refine TL_pure rfl rfl rfl rfl (op_load_one ag2 rfl rfl) ?_
        obtain ⟨r47, hr47, hm⟩ := bindS hm
        refine TL_callF (c_spec_l02Number x45 r47 hr47) Try.call127 rfl rfl rfl rfl rfl ?_
        refine TL_pure rfl rfl rfl rfl (op_not rfl) ?_
        refine TL_nil ?_
        refine T_cond rfl (fun hq => ?_) (fun hq => ?_)
        · replace hm := condT hq hm
          refine T_seq ?_
          refine T_region ?_
          refine TL_pure rfl rfl rfl rfl (op_assign rfl) ?_
          refine TL_nil ?_
          refine T_keepH [2] [] rfl rfl rfl rfl (by rw [hF]; rfl) ?_
          refine T_ret ?_
          obtain rfl := someI hm
          have hn := CtlOK_out hc0
          exact hx0 (.inr false) hn
        · replace hm := condF hq hm
          refine T_skip ?_
          refine T_region ?_
          refine TL_pure rfl rfl rfl rfl (op_move rfl) ?_
          refine TL_pure rfl rfl rfl rfl (op_addW rfl rfl) ?_
          refine TL_pure rfl rfl rfl rfl (op_assign rfl) ?_
          refine TL_nil ?_
          refine TR_keepH [0, 3, 4] [] rfl rfl rfl rfl (by rw [hF]; rfl) ?_
          obtain rfl := someI hm
          have hn := CtlOK_next hc0
          exact hn _ rfl
      · replace hm := condF hq hm
        refine T_keepH [] [] rfl rfl rfl rfl (by rw [hF]; rfl) ?_
        refine T_exit ?_
        obtain rfl := someI hm
        have hn := CtlOK_out hc0
        exact hx0 (.inl ()) hn
  · refine T_seq ?_
    refine T_region ?_
    refine TL_pure rfl rfl rfl rfl (op_move rfl) ?_
    refine TL_pure rfl rfl rfl rfl (op_nilCheck rfl rfl) ?_
    refine TL_pure rfl rfl rfl rfl (op_fieldAddrC (n := 1) fa67_0 rfl rfl rfl) ?_
    refine TL_pure rfl rfl rfl rfl (op_load_one ag2 rfl rfl) ?_
    obtain ⟨r14, hr14, hm⟩ := bindS hm
    refine TL_callF (c_spec_l02Number p0.Const r14 hr14) Try.call127 rfl rfl rfl rfl rfl ?_
    refine TL_pure rfl rfl rfl rfl (op_not rfl) ?_
    refine TL_pure rfl rfl rfl rfl (op_move rfl) ?_
    refine TL_join 3 (fun _ : Unit => ⟨[(0, .cp [.int .i64 p0.Const, .sl 1 (List.map a_i64 p0.Coeffs)]), (3, .int .i64 (p0.Coeffs.length : Int)), (19, .bool ((!r14) || (decide ((10 : Int) < (p0.Coeffs.length : Int)))))], []⟩) (fun _ => True) (fun _ _ => ?_) (fun hjj => ?_)
    · refine TL_pure rfl rfl rfl rfl (op_move rfl) ?_
      refine TL_split 20 rfl rfl rfl (fun hq => ?_) (fun hq => ?_)
      · replace hm := condT hq hm
        refine TL_pass rfl rfl rfl rfl rfl rfl rfl ?_
        refine TL_pass rfl rfl rfl rfl rfl rfl rfl ?_
        refine TL_pass rfl rfl rfl rfl rfl rfl rfl ?_
        refine TL_pass2 rfl rfl rfl rfl rfl rfl ?_
        refine TL_pass2 rfl rfl rfl rfl rfl rfl ?_
        refine TL_pass2 rfl rfl rfl rfl rfl rfl ?_
        refine TL_pass2 rfl rfl rfl rfl rfl rfl ?_
        refine TL_pass2 rfl rfl rfl rfl rfl rfl ?_
        refine TL_pass2 rfl rfl rfl rfl rfl rfl ?_
        refine TL_pass2 rfl rfl rfl rfl rfl rfl ?_
        refine TL_pass2 rfl rfl rfl rfl rfl rfl ?_
        refine TL_pass2 rfl rfl rfl rfl rfl rfl ?_
        refine TL_pass rfl rfl rfl rfl rfl rfl rfl ?_
        refine TL_pure rfl rfl rfl rfl (op_pick_true rfl rfl) ?_
        refine TL_nil ?_
        refine T_cond_true rfl ?_
        refine T_seq ?_
        refine T_region ?_
        refine TL_pure rfl rfl rfl rfl (op_assign rfl) ?_
        refine TL_nil ?_
        refine T_keepH [2] [] rfl rfl rfl rfl (by rw [hF]; rfl) ?_
        refine T_ret ?_
        obtain rfl := someI hm
        refine ⟨[_], [], ⟨rfl, trivial⟩, ?_, rfl, rfl, rfl, rfl⟩
        rfl
      · replace hm := condF hq hm
        refine TL_want rfl rfl ?_
        refine TL_pure rfl rfl rfl rfl (op_move rfl) ?_
        refine TL_want rfl rfl ?_
        refine TL_pure rfl rfl rfl rfl (op_gtr rfl rfl) ?_
        refine TL_want rfl rfl ?_
        refine TL_pure rfl rfl rfl rfl (op_move rfl) ?_
        refine TL_split 23 rfl rfl rfl (fun hq => ?_) (fun hq => ?_)
        · replace hm := condT hq hm
          refine TL_want rfl rfl ?_
          refine TL_pure rfl rfl rfl rfl (op_move rfl) ?_
          refine TL_want rfl rfl ?_
          refine TL_pure rfl rfl rfl rfl (op_nilCheck rfl rfl) ?_
          refine TL_want rfl rfl ?_
          refine TL_pure rfl rfl rfl rfl (op_fieldAddr fa67_1 rfl rfl) ?_
          refine TL_want rfl rfl ?_
          refine TL_pure rfl rfl rfl rfl (op_load_one ag27 rfl rfl) ?_
          refine TL_want rfl rfl ?_
          refine TL_pure rfl rfl rfl rfl (op_move rfl) ?_
          refine TL_want rfl rfl ?_
          refine TL_pure rfl rfl rfl rfl (op_subW rfl rfl) ?_
          refine TL_want rfl rfl ?_
          obtain ⟨x30, hx30, hm⟩ := bindS hm
          refine TL_pure rfl rfl rfl rfl (op_indexT el27 rfl rfl hx30 rfl) ?_
          refine TL_want rfl rfl ?_
          refine TL_pure rfl rfl rfl rfl (op_load_one ag2 rfl rfl) ?_
          refine TL_want rfl rfl ?_
          refine TL_pure rfl rfl rfl rfl (op_eql rfl rfl) ?_
          refine TL_want rfl rfl ?_
          refine TL_pure rfl rfl rfl rfl (op_pick_true rfl rfl) ?_
          refine TL_pure rfl rfl rfl rfl (op_pick_false rfl rfl) ?_
          refine TL_nil ?_
          refine T_cond rfl (fun hq => ?_) (fun hq => ?_)
          · replace hm := condT hq hm
            refine T_seq ?_
            refine T_region ?_
            refine TL_pure rfl rfl rfl rfl (op_assign rfl) ?_
            refine TL_nil ?_
            refine T_keepH [2] [] rfl rfl rfl rfl (by rw [hF]; rfl) ?_
            refine T_ret ?_
            obtain rfl := someI hm
            refine ⟨[_], [], ⟨rfl, trivial⟩, ?_, rfl, rfl, rfl, rfl⟩
            rfl
          · replace hm := condF hq hm
            refine T_skip ?_
            refine T_keepH [0, 3] [] rfl rfl rfl rfl (by rw [hF]; rfl) ?_
            exact hj0 () hm
        · replace hm := condF hq hm
          refine TL_pass rfl rfl rfl rfl rfl rfl rfl ?_
          refine TL_pass rfl rfl rfl rfl rfl rfl rfl ?_
          refine TL_pass rfl rfl rfl rfl rfl rfl rfl ?_
          refine TL_pass rfl rfl rfl rfl rfl rfl rfl ?_
          refine TL_pass rfl rfl rfl rfl rfl rfl rfl ?_
          refine TL_pass rfl rfl rfl rfl rfl rfl rfl ?_
          refine TL_pass rfl rfl rfl rfl rfl rfl rfl ?_
          refine TL_pass rfl rfl rfl rfl rfl rfl rfl ?_
          refine TL_pass rfl rfl rfl rfl rfl rfl rfl ?_
          refine TL_want rfl rfl ?_
          refine TL_pure rfl rfl rfl rfl (op_pick_false rfl rfl) ?_
          refine TL_pure rfl rfl rfl rfl (op_pick_false rfl rfl) ?_
          refine TL_nil ?_
          refine T_cond_false rfl ?_
          refine T_skip ?_
          refine T_keepH [0, 3] [] rfl rfl rfl rfl (by rw [hF]; rfl) ?_
          exact hj0 () hm
    · refine TL_split 16 rfl rfl rfl (fun hq => ?_) (fun hq => ?_)
      · refine TL_pass rfl rfl rfl rfl rfl rfl rfl ?_
        refine TL_pass rfl rfl rfl rfl rfl rfl rfl ?_
        refine TL_pure rfl rfl rfl rfl (op_pick_true rfl rfl) ?_
        refine TL_keepH [0, 3, 19] [] rfl rfl rfl rfl (by rw [hF]; rfl) ?_
        exact TL_cast _ (by first | (rw [hq, Bool.true_or]; done) | (rw [hq]; rfl)) (hjj () trivial)
      · refine TL_want rfl rfl ?_
        refine TL_pure rfl rfl rfl rfl (op_move rfl) ?_
        refine TL_want rfl rfl ?_
        refine TL_pure rfl rfl rfl rfl (op_gtr rfl rfl) ?_
        refine TL_pure rfl rfl rfl rfl (op_pick_false rfl rfl) ?_
        refine TL_keepH [0, 3, 19] [] rfl rfl rfl rfl (by rw [hF]; rfl) ?_
        exact TL_cast _ (by first | (rw [hq, Bool.false_or]; done) | (rw [hq]; rfl)) (hjj () trivial)
theorem c_spec_l02Make (p0 : Int) (p1 : List Int) (out : Term × Bool) (hm : m_spec_l02Make p0 p1 = some out) : ACall Try.prog 121 [.int .i64 p0, .sl 1 (List.map a_i64 p1)] [] (.tup [.agg [.int .i64 out.1.Const, .ow 1000], .bool out.2]) [(1000, .arr ⟨false, true⟩ 1 2 (List.map a_i64 out.1.Coeffs))] := by
  refine ACall.intro Try.func121 rfl Try.ntmps121 rfl (fun F hF => ?_)
  unfold m_spec_l02Make at hm
  refine T_seq ?_
  refine T_region ?_
  refine TL_alloc 11 z67 rfl rfl rfl rfl rfl rfl rfl ?_
  refine TL_pure rfl rfl rfl rfl (op_assign rfl) ?_
  refine TL_nil ?_
  refine T_seq ?_
  refine T_region ?_
  refine TL_pure rfl rfl rfl rfl (op_move rfl) ?_
  refine TL_pure rfl rfl rfl rfl (op_lenT Try.underlying27 rfl (List.length_map _)) ?_
  refine TL_fact (fun _ _ _ hr => RelP.slLen (i := 8) rfl hr) (fun hlen9 => ?_)
  rw [List.length_map] at hlen9
  refine TL_pure rfl rfl rfl rfl (op_assign rfl) ?_
  refine TL_nil ?_
  refine T_seq ?_
  refine T_block ?_
  refine T_keepH [0, 1, 4, 6] [11] rfl rfl rfl rfl (by rw [hF]; rfl) ?_
  refine T_loop ?_
  obtain ⟨u0, hl0, hm⟩ := bindS hm
  refine TR_iter2 (m_spec_l02Make_L0 p1) (fun (s0 : Int) => ⟨[(0, .int .i64 p0), (1, .sl 1 (List.map a_i64 p1)), (4, .ptr 11 0 0), (6, .int .i64 s0)], [(11, .box [.int .i64 (0 : Int), .snil])]⟩) (fun u0 => .exit 0) (fun u0 => ⟨[(0, .int .i64 p0), (1, .sl 1 (List.map a_i64 p1)), (4, .ptr 11 0 0), (6, .int .i64 u0)], [(11, .box [.int .i64 (0 : Int), .snil])]⟩) (fun u0 => m_spec_l02Make_A0 p0 p1 u0 = some out) hl0 hm (fun u0 hm => ?_) (fun hx0 s0 c0 hm hc0 => ?_)
  · unfold m_spec_l02Make_A0 at hm
    refine T_seq ?_
    refine T_region ?_
    refine TL_pure rfl rfl rfl rfl (op_move rfl) ?_
    refine TL_pure rfl rfl rfl rfl (op_move rfl) ?_
    refine TL_pure rfl rfl rfl rfl (op_move rfl) ?_
    obtain ⟨y25, hy25, hm⟩ := bindS hm
    refine TL_pure rfl rfl rfl rfl (op_sliceI el27 rfl ⟨rfl, ⟨_, rfl⟩⟩ hy25) ?_
    obtain ⟨r26, hr26, hm⟩ := bindS hm
    refine TL_callO [(1000, 12)] (c_spec_l00Own y25 r26 hr26) Try.call118 rfl rfl rfl rfl rfl rfl rfl rfl rfl rfl rfl rfl rfl ?_
    refine TL_pure rfl rfl rfl rfl (op_buildP pl67 z67 rfl rfl rfl rfl rfl) ?_
    refine TL_alloc 13 z67 rfl rfl rfl rfl rfl rfl rfl ?_
    refine TL_store_box sz67 rfl rfl rfl rfl rfl rfl rfl rfl rfl ?_
    refine TL_nil ?_
    refine T_seq ?_
    refine T_seq ?_
    refine T_region ?_
    obtain ⟨r28, hr28, hm⟩ := bindS hm
    refine TL_callF (c_spec_l02Is (Term.mk p0 r26) r28 hr28) Try.call115 rfl rfl rfl rfl rfl ?_
    refine TL_pure rfl rfl rfl rfl (op_not rfl) ?_
    refine TL_nil ?_
    refine T_cond rfl (fun hq => ?_) (fun hq => ?_)
    · replace hm := condT hq hm
      refine T_seq ?_
      refine T_region ?_
      refine TL_pure rfl rfl rfl rfl (op_buildP pl67 z67 rfl rfl rfl rfl rfl) ?_
      refine TL_store_box sz67 rfl rfl rfl rfl rfl rfl rfl rfl rfl ?_
      refine TL_pure rfl rfl rfl rfl (op_assign rfl) ?_
      refine TL_nil ?_
      refine T_ownNilBox 11 1 14 ⟨false, true⟩ 2 rfl rfl rfl (sz := 1) rfl rfl rfl rfl ?_
      refine T_keepH [4, 5] [11, 14] rfl rfl rfl rfl (by rw [hF]; rfl) ?_
      refine T_ren [(11, 11), (14, 1000)] rfl rfl rfl (by rw [hF]; rfl) ?_
      refine T_ret ?_
      obtain rfl := someI hm
      refine ⟨[_, _], [1000], ⟨⟨_, _, rfl, rfl, .inr ⟨ag67, _, _, sz67, rfl, rfl⟩⟩, rfl, trivial⟩, ?_, rfl, rfl, rfl, rfl⟩
      rfl
    · replace hm := condF hq hm
      refine T_skip ?_
      refine T_seq ?_
      refine T_region ?_
      refine TL_pure rfl rfl rfl rfl (op_load_agg ag67 sz67 rfl rfl rfl) ?_
      refine TL_store_box sz67 rfl rfl rfl rfl rfl rfl rfl rfl rfl ?_
      refine TL_pure rfl rfl rfl rfl (op_assign rfl) ?_
      refine TL_nil ?_
      refine T_keepH [4, 5] [11, 12] rfl rfl rfl rfl (by rw [hF]; rfl) ?_
      refine T_ren [(11, 11), (12, 1000)] rfl rfl rfl (by rw [hF]; rfl) ?_
      refine T_ret ?_
      obtain rfl := someI hm
      refine ⟨[_, _], [1000], ⟨⟨_, _, rfl, rfl, .inr ⟨ag67, _, _, sz67, rfl, rfl⟩⟩, rfl, trivial⟩, ?_, rfl, rfl, rfl, rfl⟩
      rfl
  · unfold m_spec_l02Make_L0 at hm
    refine T_seq ?_
    refine T_seq ?_
    refine T_region ?_
    refine TL_pure rfl rfl rfl rfl (op_move rfl) ?_
    refine TL_pure rfl rfl rfl rfl (op_gtr rfl rfl) ?_
    refine TL_pure rfl rfl rfl rfl (op_move rfl) ?_
    refine TL_split 12 rfl rfl rfl (fun hq => ?_) (fun hq => ?_)
    · replace hm := condT hq hm
      refine TL_want rfl rfl ?_
      refine TL_pure rfl rfl rfl rfl (op_move rfl) ?_
      refine TL_want rfl rfl ?_
      refine TL_pure rfl rfl rfl rfl (op_move rfl) ?_
      refine TL_want rfl rfl ?_
      refine TL_pure rfl rfl rfl rfl (op_subW rfl rfl) ?_
      refine TL_want rfl rfl ?_
      obtain ⟨x16, hx16, hm⟩ := bindS hm
      refine TL_pure rfl rfl rfl rfl (op_indexT el27 rfl rfl hx16 rfl) ?_
      refine TL_want rfl rfl ?_
      refine TL_pure rfl rfl rfl rfl (op_load_one ag2 rfl rfl) ?_
      refine TL_want rfl rfl ?_
      refine TL_pure rfl rfl rfl rfl (op_eql rfl rfl) ?_
      refine TL_pure rfl rfl rfl rfl (op_pick_true rfl rfl) ?_
      refine TL_nil ?_
      refine T_cond rfl (fun hq => ?_) (fun hq => ?_)
      · replace hm := condT hq hm
        refine T_skip ?_
        refine T_block ?_
        refine T_region ?_
        refine TL_pure rfl rfl rfl rfl (op_move rfl) ?_
        refine TL_pure rfl rfl rfl rfl (op_subW rfl rfl) ?_
        refine TL_pure rfl rfl rfl rfl (op_assign rfl) ?_
        refine TL_nil ?_
        refine TR_keepH [0, 1, 4, 6] [11] rfl rfl rfl rfl (by rw [hF]; rfl) ?_
        obtain rfl := someI hm
        have hn := CtlOK_next hc0
        exact hn _ rfl
      · replace hm := condF hq hm
        refine T_keepH [0, 1, 4, 6] [11] rfl rfl rfl rfl (by rw [hF]; rfl) ?_
        refine T_exit ?_
        obtain rfl := someI hm
        have hn := CtlOK_out hc0
        exact hx0 s0 hn
    · replace hm := condF hq hm
      refine TL_pass rfl rfl rfl rfl rfl rfl rfl ?_
      refine TL_pass rfl rfl rfl rfl rfl rfl rfl ?_
      refine TL_pass rfl rfl rfl rfl rfl rfl rfl ?_
      refine TL_pass rfl rfl rfl rfl rfl rfl rfl ?_
      refine TL_pass rfl rfl rfl rfl rfl rfl rfl ?_
      refine TL_pass rfl rfl rfl rfl rfl rfl rfl ?_
      refine TL_pure rfl rfl rfl rfl (op_pick_false rfl rfl) ?_
      refine TL_nil ?_
      refine T_cond_false rfl ?_
      refine T_keepH [0, 1, 4, 6] [11] rfl rfl rfl rfl (by rw [hF]; rfl) ?_
      refine T_exit ?_
      obtain rfl := someI hm
      have hn := CtlOK_out hc0
      exact hx0 s0 hn
theorem c_spec_l00Src_one (p0 : l00Src) (p1 : Int) (out : Bool × l00Src) (hm : m_spec_l00Src_one p0 p1 = some out) : ACall Try.prog 110 [.ptr 0 0 0, .int .i64 p1] [(0, .box [.sl 1 (List.map a_u8 p0.code), .int .i64 p0.at_, .int .u64 p0.seed])] (.bool out.1) [(0, .box [.sl 1 (List.map a_u8 out.2.code), .int .i64 out.2.at_, .int .u64 out.2.seed])] := by
  refine ACall.intro Try.func110 rfl Try.ntmps110 rfl (fun F hF => ?_)
  unfold m_spec_l00Src_one at hm
  refine T_seq ?_
  refine T_region ?_
  refine TL_pure rfl rfl rfl rfl (op_assign rfl) ?_
  refine TL_nil ?_
  refine T_seq ?_
  refine T_region ?_
  refine TL_pure rfl rfl rfl rfl (op_move rfl) ?_
  refine TL_pure rfl rfl rfl rfl (op_move rfl) ?_
  obtain ⟨r7, hr7, hm⟩ := bindS hm
  refine TL_call [(0, 0)] [] [] (c_spec_l00Src_pick p0 p1 r7 hr7) Try.call86 rfl rfl rfl rfl rfl ⟨rfl, trivial⟩ rfl rfl rfl rfl rfl rfl rfl rfl rfl rfl rfl ?_
  refine TL_pure rfl rfl rfl rfl (op_eql rfl rfl) ?_
  refine TL_pure rfl rfl rfl rfl (op_assign rfl) ?_
  refine TL_nil ?_
  refine T_keepH [4] [0] rfl rfl rfl rfl (by rw [hF]; rfl) ?_
  refine T_ret ?_
  obtain rfl := someI hm
  refine ⟨[_], [0], ⟨rfl, trivial⟩, ?_, rfl, rfl, rfl, rfl⟩
  rfl
theorem c_spec_l00Src_among (p0 : l00Src) (p1 : List Int) (out : Int × l00Src) (hm : m_spec_l00Src_among p0 p1 = some out) : ACall Try.prog 107 [.ptr 0 0 0, .sl 1 (List.map a_i64 p1)] [(0, .box [.sl 1 (List.map a_u8 p0.code), .int .i64 p0.at_, .int .u64 p0.seed])] (.int .i64 out.1) [(0, .box [.sl 1 (List.map a_u8 out.2.code), .int .i64 out.2.at_, .int .u64 out.2.seed])] := by
  refine ACall.intro Try.func107 rfl Try.ntmps107 rfl (fun F hF => ?_)
  unfold m_spec_l00Src_among at hm
  refine T_seq ?_
  refine T_region ?_
  refine TL_pure rfl rfl rfl rfl (op_assign rfl) ?_
  refine TL_nil ?_
  refine T_seq ?_
  refine T_region ?_
  refine TL_pure rfl rfl rfl rfl (op_move rfl) ?_
  refine TL_pure rfl rfl rfl rfl (op_move rfl) ?_
  refine TL_pure rfl rfl rfl rfl (op_move rfl) ?_
  refine TL_pure rfl rfl rfl rfl (op_lenT Try.underlying27 rfl (List.length_map _)) ?_
  refine TL_fact (fun _ _ _ hr => RelP.slLen (i := 7) rfl hr) (fun hlen8 => ?_)
  rw [List.length_map] at hlen8
  obtain ⟨r9, hr9, hm⟩ := bindS hm
  refine TL_call [(0, 0)] [] [] (c_spec_l00Src_pick p0 (p1.length : Int) r9 hr9) Try.call86 rfl rfl rfl rfl rfl ⟨rfl, trivial⟩ rfl rfl rfl rfl rfl rfl rfl rfl rfl rfl rfl ?_
  obtain ⟨x10, hx10, hm⟩ := bindS hm
  refine TL_pure rfl rfl rfl rfl (op_indexT el27 rfl rfl hx10 rfl) ?_
  refine TL_pure rfl rfl rfl rfl (op_load_one ag2 rfl rfl) ?_
  refine TL_pure rfl rfl rfl rfl (op_assign rfl) ?_
  refine TL_nil ?_
  refine T_keepH [4] [0] rfl rfl rfl rfl (by rw [hF]; rfl) ?_
  refine T_ret ?_
  obtain rfl := someI hm
  refine ⟨[_], [0], ⟨rfl, trivial⟩, ?_, rfl, rfl, rfl, rfl⟩
  rfl
theorem c_spec_l03DrawTerm (p0 : l00Src) (out : Term × l00Src) (hm : m_spec_l03DrawTerm p0 = some out) : ACall Try.prog 105 [.ptr 0 0 0] [(0, .box [.sl 1 (List.map a_u8 p0.code), .int .i64 p0.at_, .int .u64 p0.seed])] (.agg [.int .i64 out.1.Const, .ow 1000]) [(0, .box [.sl 1 (List.map a_u8 out.2.code), .int .i64 out.2.at_, .int .u64 out.2.seed]), (1000, .arr ⟨false, true⟩ 1 2 (List.map a_i64 out.1.Coeffs))] := by
  refine ACall.intro Try.func105 rfl Try.ntmps105 rfl (fun F hF => ?_)
  unfold m_spec_l03DrawTerm at hm
  refine T_seq ?_
  refine T_region ?_
  refine TL_alloc 11 z67 rfl rfl rfl rfl rfl rfl rfl ?_
  refine TL_nil ?_
  refine T_seq ?_
  refine T_region ?_
  refine TL_buildSlice 12 (es := List.map a_i64 ([] : List Int)) el27 z2 rfl rfl rfl rfl rfl rfl rfl rfl rfl ?_
  refine TL_pure rfl rfl rfl rfl (op_assign rfl) ?_
  refine TL_nil ?_
  refine T_seq ?_
  refine T_seq ?_
  refine T_region ?_
  refine TL_pure rfl rfl rfl rfl (op_move rfl) ?_
  obtain ⟨r9, hr9, hm⟩ := bindS hm
  refine TL_call [(0, 0)] [] [] (c_spec_l00Src_pick p0 (5 : Int) r9 hr9) Try.call86 rfl rfl rfl rfl rfl ⟨rfl, trivial⟩ rfl rfl rfl rfl rfl rfl rfl rfl rfl rfl rfl ?_
  refine TL_pure rfl rfl rfl rfl (op_assign rfl) ?_
  refine TL_nil ?_
  refine T_block ?_
  refine T_keepH [0, 2, 3, 4] [0, 11, 12] rfl rfl rfl rfl (by rw [hF]; rfl) ?_
  refine T_loop ?_
  obtain ⟨u0, hl0, hm⟩ := bindS hm
  refine TR_iter2 (m_spec_l03DrawTerm_L0) (fun (s0 : (List Int) × Int × Int × (List Int) × Int) => ⟨[(0, .ptr 0 0 0), (2, .ptr 11 0 0), (3, .ow 12), (4, .int .i64 s0.2.2.2.2)], [(0, .box [.sl 1 (List.map a_u8 s0.1), .int .i64 s0.2.1, .int .u64 s0.2.2.1]), (11, .box [.int .i64 (0 : Int), .snil]), (12, .arr ⟨false, false⟩ 1 2 (List.map a_i64 s0.2.2.2.1))]⟩) (fun u0 => .exit 0) (fun u0 => ⟨[(0, .ptr 0 0 0), (2, .ptr 11 0 0), (3, .ow 12)], [(0, .box [.sl 1 (List.map a_u8 u0.1), .int .i64 u0.2.1, .int .u64 u0.2.2.1]), (11, .box [.int .i64 (0 : Int), .snil]), (12, .arr ⟨false, false⟩ 1 2 (List.map a_i64 u0.2.2.2))]⟩) (fun u0 => m_spec_l03DrawTerm_A0 u0 = some out) hl0 hm (fun u0 hm => ?_) (fun hx0 s0 c0 hm hc0 => ?_)
  · unfold m_spec_l03DrawTerm_A0 at hm
    refine T_seq ?_
    refine T_region ?_
    refine TL_pure rfl rfl rfl rfl (op_move rfl) ?_
    obtain ⟨r22, hr22, hm⟩ := bindS hm
    refine TL_call [(0, 0)] [] [] (c_spec_l00Src_pick (l00Src.mk u0.1 u0.2.1 u0.2.2.1) (9 : Int) r22 hr22) Try.call86 rfl rfl rfl rfl rfl ⟨rfl, trivial⟩ rfl rfl rfl rfl rfl rfl rfl rfl rfl rfl rfl ?_
    refine TL_pure rfl rfl rfl rfl (op_subW rfl rfl) ?_
    refine TL_pure rfl rfl rfl rfl (op_move rfl) ?_
    obtain ⟨r25, hr25, hm⟩ := bindS hm
    refine TL_callO [(1000, 16)] (c_spec_l02Make (w64 (r22.1 - (4 : Int))) u0.2.2.2 r25 hr25) Try.call121 rfl rfl rfl rfl rfl rfl rfl rfl rfl rfl rfl rfl rfl ?_
    refine TL_pure rfl rfl rfl rfl (op_move rfl) ?_
    refine TL_pure rfl rfl rfl rfl (op_extract rfl rfl) ?_
    refine TL_pure rfl rfl rfl rfl (op_extract rfl rfl) ?_
    refine TL_alloc 17 z67 rfl rfl rfl rfl rfl rfl rfl ?_
    refine TL_store_box sz67 rfl rfl rfl rfl rfl rfl rfl rfl rfl ?_
    refine TL_pure rfl rfl rfl rfl (op_assign rfl) ?_
    refine TL_nil ?_
    refine T_seq ?_
    refine T_seq ?_
    refine T_region ?_
    refine TL_pure rfl rfl rfl rfl (op_move rfl) ?_
    obtain ⟨r29, hr29, hm⟩ := bindS hm
    refine TL_call [(0, 0)] [] [] (c_spec_l00Src_one r22.2 (30 : Int) r29 hr29) Try.call110 rfl rfl rfl rfl rfl ⟨rfl, trivial⟩ rfl rfl rfl rfl rfl rfl rfl rfl rfl rfl rfl ?_
    refine TL_nil ?_
    refine T_cond rfl (fun hq => ?_) (fun hq => ?_)
    · replace hm := condT hq hm
      refine T_region ?_
      refine TL_pure rfl rfl rfl rfl (op_move rfl) ?_
      refine TL_buildSlice 18 (es := List.map a_i64 [(1000000 : Int), (-1000000 : Int)]) el27 z2 rfl rfl rfl rfl rfl rfl rfl rfl rfl ?_
      refine TL_freeze 18 (by rw [hF]; rfl) rfl rfl rfl ?_
      obtain ⟨r32, hr32, hm⟩ := bindS hm
      refine TL_call [(0, 0)] [] [] (c_spec_l00Src_among r29.2 [(1000000 : Int), (-1000000 : Int)] r32 hr32) Try.call107 rfl rfl rfl rfl rfl ⟨rfl, trivial⟩ rfl rfl rfl rfl rfl rfl rfl rfl rfl rfl rfl ?_
      refine TL_pure rfl rfl rfl rfl (op_fieldAddr fa67_0 rfl rfl) ?_
      refine TL_store_box sz2 rfl rfl rfl rfl rfl rfl rfl rfl rfl ?_
      refine TL_nil ?_
      refine T_seq ?_
      refine T_region ?_
      refine TL_pure rfl rfl rfl rfl (op_load_agg ag67 sz67 rfl rfl rfl) ?_
      refine TL_store_box sz67 rfl rfl rfl rfl rfl rfl rfl rfl rfl ?_
      refine TL_nil ?_
      refine T_keepH [2] [0, 11, 16] rfl rfl rfl rfl (by rw [hF]; rfl) ?_
      refine T_ren [(0, 0), (11, 11), (16, 1000)] rfl rfl rfl (by rw [hF]; rfl) ?_
      refine T_ret ?_
      obtain rfl := someI hm
      refine ⟨[_], [0, 1000], ⟨⟨_, _, rfl, rfl, .inr ⟨ag67, _, _, sz67, rfl, rfl⟩⟩, trivial⟩, ?_, rfl, rfl, rfl, rfl⟩
      rfl
    · replace hm := condF hq hm
      refine T_skip ?_
      refine T_seq ?_
      refine T_region ?_
      refine TL_pure rfl rfl rfl rfl (op_load_agg ag67 sz67 rfl rfl rfl) ?_
      refine TL_store_box sz67 rfl rfl rfl rfl rfl rfl rfl rfl rfl ?_
      refine TL_nil ?_
      refine T_keepH [2] [0, 11, 16] rfl rfl rfl rfl (by rw [hF]; rfl) ?_
      refine T_ren [(0, 0), (11, 11), (16, 1000)] rfl rfl rfl (by rw [hF]; rfl) ?_
      refine T_ret ?_
      obtain rfl := someI hm
      refine ⟨[_], [0, 1000], ⟨⟨_, _, rfl, rfl, .inr ⟨ag67, _, _, sz67, rfl, rfl⟩⟩, trivial⟩, ?_, rfl, rfl, rfl, rfl⟩
      rfl
  · unfold m_spec_l03DrawTerm_L0 at hm
    refine T_seq ?_
    refine T_seq ?_
    refine T_region ?_
    refine TL_pure rfl rfl rfl rfl (op_move rfl) ?_
    refine TL_pure rfl rfl rfl rfl (op_gtr rfl rfl) ?_
    refine TL_nil ?_
    refine T_cond rfl (fun hq => ?_) (fun hq => ?_)
    · replace hm := condT hq hm
      refine T_skip ?_
      refine T_seq ?_
      refine T_block ?_
      refine T_region ?_
      refine TL_pure rfl rfl rfl rfl (op_move rfl) ?_
      refine TL_pure rfl rfl rfl rfl (op_move rfl) ?_
      obtain ⟨r16, hr16, hm⟩ := bindS hm
      refine TL_call [(0, 0)] [] [] (c_spec_l00Src_pick (l00Src.mk s0.1 s0.2.1 s0.2.2.1) (5 : Int) r16 hr16) Try.call86 rfl rfl rfl rfl rfl ⟨rfl, trivial⟩ rfl rfl rfl rfl rfl rfl rfl rfl rfl rfl rfl ?_
      refine TL_pure rfl rfl rfl rfl (op_subW rfl rfl) ?_
      refine TL_buildSlice 15 (es := List.map a_i64 [(w64 (r16.1 - (2 : Int)))]) el27 z2 rfl rfl rfl rfl rfl rfl rfl rfl rfl ?_
      obtain ⟨q19, hq19, hm⟩ := bindS hm
      refine TL_appendT (f := a_i64) (a := s0.2.2.2.1) (b := [(w64 (r16.1 - (2 : Int)))]) el27 z2 rfl rfl rfl rfl rfl rfl rfl (capI_spec hq19) rfl rfl rfl rfl rfl ?_
      refine TL_pure rfl rfl rfl rfl (op_assign rfl) ?_
      refine TL_nil ?_
      refine T_region ?_
      refine TL_pure rfl rfl rfl rfl (op_move rfl) ?_
      refine TL_pure rfl rfl rfl rfl (op_subW rfl rfl) ?_
      refine TL_pure rfl rfl rfl rfl (op_assign rfl) ?_
      refine TL_nil ?_
      refine TR_keepH [0, 2, 3, 4] [0, 11, 12] rfl rfl rfl rfl (by rw [hF]; rfl) ?_
      obtain rfl := someI hm
      have hn := CtlOK_next hc0
      exact hn _ rfl
    · replace hm := condF hq hm
      refine T_keepH [0, 2, 3] [0, 11, 12] rfl rfl rfl rfl (by rw [hF]; rfl) ?_
      refine T_exit ?_
      obtain rfl := someI hm
      have hn := CtlOK_out hc0
      exact hx0 (s0.1, s0.2.1, s0.2.2.1, s0.2.2.2.1) hn
theorem c_spec_l03DrawFacts (p0 : l00Src) (out : (List Term) × l00Src) (hm : m_spec_l03DrawFacts p0 = some out) : ACall Try.prog 85 [.ptr 0 0 0] [(0, .box [.sl 1 (List.map a_u8 p0.code), .int .i64 p0.at_, .int .u64 p0.seed])] (.ow 1000) [(0, .box [.sl 1 (List.map a_u8 out.2.code), .int .i64 out.2.at_, .int .u64 out.2.seed]), (1000, .arr ⟨false, true⟩ 2 67 (List.map a_Term out.1))] := by
  refine ACall.intro Try.func85 rfl Try.ntmps85 rfl (fun F hF => ?_)
  unfold m_spec_l03DrawFacts at hm
  refine T_seq ?_
  refine T_region ?_
  refine TL_pure rfl rfl rfl rfl (op_assign rfl) ?_
  refine TL_nil ?_
  refine T_seq ?_
  refine T_region ?_
  refine TL_buildSlice 11 (es := List.map a_Term ([] : List Term)) el30 z67 rfl rfl rfl rfl rfl rfl rfl rfl rfl ?_
  refine TL_pure rfl rfl rfl rfl (op_assign rfl) ?_
  refine TL_nil ?_
  refine T_seq ?_
  refine T_seq ?_
  refine T_region ?_
  refine TL_pure rfl rfl rfl rfl (op_move rfl) ?_
  obtain ⟨r7, hr7, hm⟩ := bindS hm
  refine TL_call [(0, 0)] [] [] (c_spec_l00Src_pick p0 (3 : Int) r7 hr7) Try.call86 rfl rfl rfl rfl rfl ⟨rfl, trivial⟩ rfl rfl rfl rfl rfl rfl rfl rfl rfl rfl rfl ?_
  refine TL_pure rfl rfl rfl rfl (op_assign rfl) ?_
  refine TL_nil ?_
  refine T_block ?_
  refine T_keepH [0, 3, 4] [0, 11] rfl rfl rfl rfl (by rw [hF]; rfl) ?_
  refine T_deepen 11 (p' := false) (List.map a_Term ([] : List Term)) (by rw [hF]; rfl) rfl (ElR.nil) rfl rfl rfl ?_
  refine T_loop ?_
  obtain ⟨u0, hl0, hm⟩ := bindS hm
  refine TR_iter2 (m_spec_l03DrawFacts_L0) (fun (s0 : (List Int) × Int × Int × (List Term) × Int) => ⟨[(0, .ptr 0 0 0), (3, .ow 11), (4, .int .i64 s0.2.2.2.2)], [(0, .box [.sl 1 (List.map a_u8 s0.1), .int .i64 s0.2.1, .int .u64 s0.2.2.1]), (11, .arr ⟨false, true⟩ 2 67 (List.map a_Term s0.2.2.2.1))]⟩) (fun u0 => .exit 0) (fun u0 => ⟨[(3, .ow 11)], [(0, .box [.sl 1 (List.map a_u8 u0.2.1), .int .i64 u0.2.2.1, .int .u64 u0.2.2.2]), (11, .arr ⟨false, true⟩ 2 67 (List.map a_Term u0.1))]⟩) (fun u0 => m_spec_l03DrawFacts_A0 u0 = some out) hl0 hm (fun u0 hm => ?_) (fun hx0 s0 c0 hm hc0 => ?_)
  · unfold m_spec_l03DrawFacts_A0 at hm
    refine T_seq ?_
    refine T_region ?_
    refine TL_pure rfl rfl rfl rfl (op_move rfl) ?_
    refine TL_pure rfl rfl rfl rfl (op_assign rfl) ?_
    refine TL_nil ?_
    refine T_keepH [2] [0, 11] rfl rfl rfl rfl (by rw [hF]; rfl) ?_
    refine T_ren [(0, 0), (11, 1000)] rfl rfl rfl (by rw [hF]; rfl) ?_
    refine T_ret ?_
    obtain rfl := someI hm
    refine ⟨[_], [0, 1000], ⟨rfl, trivial⟩, ?_, rfl, rfl, rfl, rfl⟩
    rfl
  · unfold m_spec_l03DrawFacts_L0 at hm
    refine T_seq ?_
    refine T_seq ?_
    refine T_region ?_
    refine TL_pure rfl rfl rfl rfl (op_move rfl) ?_
    refine TL_pure rfl rfl rfl rfl (op_gtr rfl rfl) ?_
    refine TL_nil ?_
    refine T_cond rfl (fun hq => ?_) (fun hq => ?_)
    · replace hm := condT hq hm
      refine T_skip ?_
      refine T_seq ?_
      refine T_block ?_
      refine T_region ?_
      refine TL_pure rfl rfl rfl rfl (op_move rfl) ?_
      refine TL_pure rfl rfl rfl rfl (op_move rfl) ?_
      obtain ⟨r14, hr14, hm⟩ := bindS hm
      refine TL_call [(0, 0)] [(1000, 16)] [] (c_spec_l03DrawTerm (l00Src.mk s0.1 s0.2.1 s0.2.2.1) r14 hr14) Try.call105 rfl rfl rfl rfl rfl ⟨rfl, trivial⟩ rfl rfl rfl rfl rfl rfl rfl rfl rfl rfl rfl ?_
      refine TL_buildSliceD (ids := [16]) (es := List.map a_Term [r14.1]) 17 el30 z67 rfl rfl rfl rfl rfl rfl (by rw [hF]; intro j hj; simp only [List.mem_cons, List.not_mem_nil, or_false] at hj; rcases hj with rfl <;> rfl) rfl rfl rfl rfl rfl rfl ?_
      obtain ⟨q16, hq16, hm⟩ := bindS hm
      refine TL_appendDT (f := a_Term) (a := s0.2.2.2.1) (b := [r14.1]) el30 z67 rfl rfl rfl rfl rfl rfl rfl rfl (by rw [hF]; rfl) (capI_spec hq16) rfl rfl rfl rfl rfl ?_
      refine TL_pure rfl rfl rfl rfl (op_assign rfl) ?_
      refine TL_nil ?_
      refine T_region ?_
      refine TL_pure rfl rfl rfl rfl (op_move rfl) ?_
      refine TL_pure rfl rfl rfl rfl (op_subW rfl rfl) ?_
      refine TL_pure rfl rfl rfl rfl (op_assign rfl) ?_
      refine TL_nil ?_
      refine TR_keepH [0, 3, 4] [0, 11] rfl rfl rfl rfl (by rw [hF]; rfl) ?_
      obtain rfl := someI hm
      have hn := CtlOK_next hc0
      exact hn _ rfl
    · replace hm := condF hq hm
      refine T_keepH [3] [0, 11] rfl rfl rfl rfl (by rw [hF]; rfl) ?_
      refine T_exit ?_
      obtain rfl := someI hm
      have hn := CtlOK_out hc0
      exact hx0 (s0.2.2.2.1, s0.1, s0.2.1, s0.2.2.1) hn
theorem c_spec_l03DrawIndex (p0 : l00Src) (out : Term × l00Src) (hm : m_spec_l03DrawIndex p0 = some out) : ACall Try.prog 108 [.ptr 0 0 0] [(0, .box [.sl 1 (List.map a_u8 p0.code), .int .i64 p0.at_, .int .u64 p0.seed])] (.agg [.int .i64 out.1.Const, .ow 1000]) [(0, .box [.sl 1 (List.map a_u8 out.2.code), .int .i64 out.2.at_, .int .u64 out.2.seed]), (1000, .arr ⟨false, true⟩ 1 2 (List.map a_i64 out.1.Coeffs))] := by
  refine ACall.intro Try.func108 rfl Try.ntmps108 rfl (fun F hF => ?_)
  unfold m_spec_l03DrawIndex at hm
  refine T_seq ?_
  refine T_region ?_
  refine TL_alloc 11 z67 rfl rfl rfl rfl rfl rfl rfl ?_
  refine TL_nil ?_
  refine T_seq ?_
  refine T_seq ?_
  refine T_region ?_
  refine TL_pure rfl rfl rfl rfl (op_move rfl) ?_
  obtain ⟨r4, hr4, hm⟩ := bindS hm
  refine TL_call [(0, 0)] [] [] (c_spec_l00Src_one p0 (2 : Int) r4 hr4) Try.call110 rfl rfl rfl rfl rfl ⟨rfl, trivial⟩ rfl rfl rfl rfl rfl rfl rfl rfl rfl rfl rfl ?_
  refine TL_nil ?_
  refine T_cond rfl (fun hq => ?_) (fun hq => ?_)
  · replace hm := condT hq hm
    refine T_seq ?_
    refine T_region ?_
    refine TL_pure rfl rfl rfl rfl (op_move rfl) ?_
    obtain ⟨r6, hr6, hm⟩ := bindS hm
    refine TL_call [(0, 0)] [] [] (c_spec_l00Src_pick r4.2 (8 : Int) r6 hr6) Try.call86 rfl rfl rfl rfl rfl ⟨rfl, trivial⟩ rfl rfl rfl rfl rfl rfl rfl rfl rfl rfl rfl ?_
    refine TL_pure rfl rfl rfl rfl (op_buildP pl67 z67 rfl rfl rfl rfl rfl) ?_
    refine TL_store_box sz67 rfl rfl rfl rfl rfl rfl rfl rfl rfl ?_
    refine TL_nil ?_
    refine T_ownNilBox 11 1 12 ⟨false, true⟩ 2 rfl rfl rfl (sz := 1) rfl rfl rfl rfl ?_
    refine T_keepH [2] [0, 11, 12] rfl rfl rfl rfl (by rw [hF]; rfl) ?_
    refine T_ren [(0, 0), (11, 11), (12, 1000)] rfl rfl rfl (by rw [hF]; rfl) ?_
    refine T_ret ?_
    obtain rfl := someI hm
    refine ⟨[_], [0, 1000], ⟨⟨_, _, rfl, rfl, .inr ⟨ag67, _, _, sz67, rfl, rfl⟩⟩, trivial⟩, ?_, rfl, rfl, rfl, rfl⟩
    rfl
  · replace hm := condF hq hm
    refine T_skip ?_
    refine T_seq ?_
    refine T_seq ?_
    refine T_region ?_
    refine TL_pure rfl rfl rfl rfl (op_move rfl) ?_
    obtain ⟨r9, hr9, hm⟩ := bindS hm
    refine TL_call [(0, 0)] [] [] (c_spec_l00Src_one r4.2 (2 : Int) r9 hr9) Try.call110 rfl rfl rfl rfl rfl ⟨rfl, trivial⟩ rfl rfl rfl rfl rfl rfl rfl rfl rfl rfl rfl ?_
    refine TL_nil ?_
    refine T_cond rfl (fun hq => ?_) (fun hq => ?_)
    · replace hm := condT hq hm
      refine T_seq ?_
      refine T_region ?_
      refine TL_pure rfl rfl rfl rfl (op_move rfl) ?_
      obtain ⟨r11, hr11, hm⟩ := bindS hm
      refine TL_call [(0, 0)] [] [] (c_spec_l00Src_pick r9.2 (3 : Int) r11 hr11) Try.call86 rfl rfl rfl rfl rfl ⟨rfl, trivial⟩ rfl rfl rfl rfl rfl rfl rfl rfl rfl rfl rfl ?_
      refine TL_buildSlice 13 (es := List.map a_i64 [(1 : Int)]) el27 z2 rfl rfl rfl rfl rfl rfl rfl rfl rfl ?_
      refine TL_pure rfl rfl rfl rfl (op_buildP pl67 z67 rfl rfl rfl rfl rfl) ?_
      refine TL_store_box sz67 rfl rfl rfl rfl rfl rfl rfl rfl rfl ?_
      refine TL_nil ?_
      refine T_keepH [2] [0, 11, 13] rfl rfl rfl rfl (by rw [hF]; rfl) ?_
      refine T_deepen 13 (p' := false) (List.map a_i64 [(1 : Int)]) (by rw [hF]; rfl) rfl (ElR.map (f := a_i64) (g := a_i64) (fun _ => ⟨⟨rfl, rfl⟩, trivial⟩) [(1 : Int)]) rfl rfl rfl ?_
      refine T_ren [(0, 0), (11, 11), (13, 1000)] rfl rfl rfl (by rw [hF]; rfl) ?_
      refine T_ret ?_
      obtain rfl := someI hm
      refine ⟨[_], [0, 1000], ⟨⟨_, _, rfl, rfl, .inr ⟨ag67, _, _, sz67, rfl, rfl⟩⟩, trivial⟩, ?_, rfl, rfl, rfl, rfl⟩
      rfl
    · replace hm := condF hq hm
      refine T_skip ?_
      refine T_seq ?_
      refine T_region ?_
      refine TL_pure rfl rfl rfl rfl (op_move rfl) ?_
      obtain ⟨r15, hr15, hm⟩ := bindS hm
      refine TL_call [(0, 0)] [(1000, 14)] [] (c_spec_l03DrawTerm r9.2 r15 hr15) Try.call105 rfl rfl rfl rfl rfl ⟨rfl, trivial⟩ rfl rfl rfl rfl rfl rfl rfl rfl rfl rfl rfl ?_
      refine TL_store_box sz67 rfl rfl rfl rfl rfl rfl rfl rfl rfl ?_
      refine TL_nil ?_
      refine T_keepH [2] [0, 11, 14] rfl rfl rfl rfl (by rw [hF]; rfl) ?_
      refine T_ren [(0, 0), (11, 11), (14, 1000)] rfl rfl rfl (by rw [hF]; rfl) ?_
      refine T_ret ?_
      obtain rfl := someI hm
      refine ⟨[_], [0, 1000], ⟨⟨_, _, rfl, rfl, .inr ⟨ag67, _, _, sz67, rfl, rfl⟩⟩, trivial⟩, ?_, rfl, rfl, rfl, rfl⟩
      rfl
theorem c_spec_l03Below (p0 : Int) (out : Int) (hm : m_spec_l03Below p0 = some out) : ACall Try.prog 109 [.int .i64 p0] [] (.int .i64 out) [] := by
  refine ACall.intro Try.func109 rfl Try.ntmps109 rfl (fun F hF => ?_)
  unfold m_spec_l03Below at hm
  refine T_seq ?_
  refine T_region ?_
  refine TL_pure rfl rfl rfl rfl (op_assign rfl) ?_
  refine TL_nil ?_
  refine T_seq ?_
  refine T_seq ?_
  refine T_region ?_
  refine TL_pure rfl rfl rfl rfl (op_move rfl) ?_
  refine TL_nil ?_
  refine T_block ?_
  refine T_join (fun (j0 : Bool) => ⟨[(3, .int .i64 p0), (4, .bool j0)], []⟩) (fun j0 => m_spec_l03Below_J0 p0 j0 = some out) (fun j0 hm => ?_) (fun hj0 => ?_)
  · unfold m_spec_l03Below_J0 at hm
    refine T_cond rfl (fun hq => ?_) (fun hq => ?_)
    · replace hm := condT hq hm
      refine T_seq ?_
      refine T_region ?_
      refine TL_pure rfl rfl rfl rfl (op_assign rfl) ?_
      refine TL_nil ?_
      refine T_keepH [2] [] rfl rfl rfl rfl (by rw [hF]; rfl) ?_
      refine T_ret ?_
      obtain rfl := someI hm
      refine ⟨[_], [], ⟨rfl, trivial⟩, ?_, rfl, rfl, rfl, rfl⟩
      rfl
    · replace hm := condF hq hm
      refine T_seq ?_
      refine T_region ?_
      refine TL_pure rfl rfl rfl rfl (op_eql rfl rfl) ?_
      refine TL_pure rfl rfl rfl rfl (op_assign rfl) ?_
      refine TL_nil ?_
      refine T_cond rfl (fun hq => ?_) (fun hq => ?_)
      · replace hm := condT hq hm
        refine T_seq ?_
        refine T_region ?_
        refine TL_pure rfl rfl rfl rfl (op_assign rfl) ?_
        refine TL_nil ?_
        refine T_keepH [2] [] rfl rfl rfl rfl (by rw [hF]; rfl) ?_
        refine T_ret ?_
        obtain rfl := someI hm
        refine ⟨[_], [], ⟨rfl, trivial⟩, ?_, rfl, rfl, rfl, rfl⟩
        rfl
      · replace hm := condF hq hm
        refine T_skip ?_
        refine T_seq ?_
        refine T_region ?_
        refine TL_pure rfl rfl rfl rfl (op_assign rfl) ?_
        refine TL_nil ?_
        refine T_keepH [2] [] rfl rfl rfl rfl (by rw [hF]; rfl) ?_
        refine T_ret ?_
        obtain rfl := someI hm
        refine ⟨[_], [], ⟨rfl, trivial⟩, ?_, rfl, rfl, rfl, rfl⟩
        rfl
  · refine T_seq ?_
    refine T_region ?_
    refine TL_pure rfl rfl rfl rfl (op_eql rfl rfl) ?_
    refine TL_pure rfl rfl rfl rfl (op_assign rfl) ?_
    refine TL_nil ?_
    refine T_cond rfl (fun hq => ?_) (fun hq => ?_)
    · replace hm := condT hq hm
      refine T_skip ?_
      refine T_keepH [3, 4] [] rfl rfl rfl rfl (by rw [hF]; rfl) ?_
      exact hj0 (decide (p0 = (1 : Int))) hm
    · replace hm := condF hq hm
      refine T_region ?_
      refine TL_pure rfl rfl rfl rfl (op_eql rfl rfl) ?_
      refine TL_pure rfl rfl rfl rfl (op_assign rfl) ?_
      refine TL_nil ?_
      refine T_keepH [3, 4] [] rfl rfl rfl rfl (by rw [hF]; rfl) ?_
      exact hj0 (decide (p0 = (7 : Int))) hm
theorem c_spec_l03DrawLoop (p0 : l00Src) (out : (List Stmt) × l00Src) (hm : m_spec_l03DrawLoop p0 = some out) : ACall Try.prog 111 [.ptr 0 0 0] [(0, .box [.sl 1 (List.map a_u8 p0.code), .int .i64 p0.at_, .int .u64 p0.seed])] (.sl 8 (List.map a_Stmt out.1)) [(0, .box [.sl 1 (List.map a_u8 out.2.code), .int .i64 out.2.at_, .int .u64 out.2.seed])] := by
  refine ACall.intro Try.func111 rfl Try.ntmps111 rfl (fun F hF => ?_)
  unfold m_spec_l03DrawLoop at hm
  refine T_seq ?_
  refine T_region ?_
  refine TL_pure rfl rfl rfl rfl (op_assign rfl) ?_
  refine TL_nil ?_
  refine T_seq ?_
  refine T_region ?_
  refine TL_pure rfl rfl rfl rfl (op_move rfl) ?_
  obtain ⟨r10, hr10, hm⟩ := bindS hm
  refine TL_call [(0, 0)] [] [] (c_spec_l00Src_pick p0 (4 : Int) r10 hr10) Try.call86 rfl rfl rfl rfl rfl ⟨rfl, trivial⟩ rfl rfl rfl rfl rfl rfl rfl rfl rfl rfl rfl ?_
  refine TL_pure rfl rfl rfl rfl (op_assign rfl) ?_
  refine TL_nil ?_
  refine T_seq ?_
  refine T_region ?_
  refine TL_pure rfl rfl rfl rfl (op_move rfl) ?_
  obtain ⟨k12, hk12, hm⟩ := bindS hm
  refine TL_make 11 (n := k12) el27 z2 rfl rfl rfl rfl rfl rfl (makeI_spec hk12).1 (makeI_spec hk12).1 (makeI_spec hk12).2 rfl rfl rfl rfl ?_
  refine TL_nils 11 (List.map a_i64 (List.replicate k12 (0 : Int))) (by rw [hF]; rfl) rfl (ElR.rep (z := .int .i64 (0 : Int)) (g := a_i64) (x := (0 : Int)) ⟨⟨rfl, rfl⟩, trivial⟩ k12) rfl ?_
  refine TL_pure rfl rfl rfl rfl (op_assign rfl) ?_
  refine TL_nil ?_
  refine T_seq ?_
  refine T_region ?_
  refine TL_pure rfl rfl rfl rfl (op_move rfl) ?_
  refine TL_buildSlice 12 (es := List.map a_i64 [(1 : Int)]) el27 z2 rfl rfl rfl rfl rfl rfl rfl rfl rfl ?_
  obtain ⟨q15, hq15, hm⟩ := bindS hm
  refine TL_appendT (f := a_i64) (a := (List.replicate k12 (0 : Int))) (b := [(1 : Int)]) el27 z2 rfl rfl rfl rfl rfl rfl rfl (capI_spec hq15) rfl rfl rfl rfl rfl ?_
  refine TL_pure rfl rfl rfl rfl (op_buildP pl67 z67 rfl rfl rfl rfl rfl) ?_
  refine TL_alloc 13 z67 rfl rfl rfl rfl rfl rfl rfl ?_
  refine TL_store_box sz67 rfl rfl rfl rfl rfl rfl rfl rfl rfl ?_
  refine TL_nil ?_
  refine T_seq ?_
  refine T_region ?_
  refine TL_pure rfl rfl rfl rfl (op_move rfl) ?_
  obtain ⟨k18, hk18, hm⟩ := bindS hm
  refine TL_make 14 (n := k18) el27 z2 rfl rfl rfl rfl rfl rfl (makeI_spec hk18).1 (makeI_spec hk18).1 (makeI_spec hk18).2 rfl rfl rfl rfl ?_
  refine TL_nils 14 (List.map a_i64 (List.replicate k18 (0 : Int))) (by rw [hF]; rfl) rfl (ElR.rep (z := .int .i64 (0 : Int)) (g := a_i64) (x := (0 : Int)) ⟨⟨rfl, rfl⟩, trivial⟩ k18) rfl ?_
  refine TL_buildSlice 15 (es := List.map a_i64 [(1 : Int)]) el27 z2 rfl rfl rfl rfl rfl rfl rfl rfl rfl ?_
  obtain ⟨q20, hq20, hm⟩ := bindS hm
  refine TL_appendT (f := a_i64) (a := (List.replicate k18 (0 : Int))) (b := [(1 : Int)]) el27 z2 rfl rfl rfl rfl rfl rfl rfl (capI_spec hq20) rfl rfl rfl rfl rfl ?_
  refine TL_pure rfl rfl rfl rfl (op_buildP pl67 z67 rfl rfl rfl rfl rfl) ?_
  refine TL_alloc 16 z67 rfl rfl rfl rfl rfl rfl rfl ?_
  refine TL_store_box sz67 rfl rfl rfl rfl rfl rfl rfl rfl rfl ?_
  refine TL_nil ?_
  refine T_seq ?_
  refine T_region ?_
  refine TL_pure rfl rfl rfl rfl (op_move rfl) ?_
  obtain ⟨k23, hk23, hm⟩ := bindS hm
  refine TL_make 17 (n := k23) el27 z2 rfl rfl rfl rfl rfl rfl (makeI_spec hk23).1 (makeI_spec hk23).1 (makeI_spec hk23).2 rfl rfl rfl rfl ?_
  refine TL_nils 17 (List.map a_i64 (List.replicate k23 (0 : Int))) (by rw [hF]; rfl) rfl (ElR.rep (z := .int .i64 (0 : Int)) (g := a_i64) (x := (0 : Int)) ⟨⟨rfl, rfl⟩, trivial⟩ k23) rfl ?_
  refine TL_buildSlice 18 (es := List.map a_i64 [(1 : Int)]) el27 z2 rfl rfl rfl rfl rfl rfl rfl rfl rfl ?_
  obtain ⟨q25, hq25, hm⟩ := bindS hm
  refine TL_appendT (f := a_i64) (a := (List.replicate k23 (0 : Int))) (b := [(1 : Int)]) el27 z2 rfl rfl rfl rfl rfl rfl rfl (capI_spec hq25) rfl rfl rfl rfl rfl ?_
  refine TL_pure rfl rfl rfl rfl (op_buildP pl67 z67 rfl rfl rfl rfl rfl) ?_
  refine TL_alloc 19 z67 rfl rfl rfl rfl rfl rfl rfl ?_
  refine TL_store_box sz67 rfl rfl rfl rfl rfl rfl rfl rfl rfl ?_
  refine TL_nil ?_
  refine T_seq ?_
  refine T_region ?_
  refine TL_pure rfl rfl rfl rfl (op_load_agg ag67 sz67 rfl rfl rfl) ?_
  refine TL_pure rfl rfl rfl rfl (op_load_agg ag67 sz67 rfl rfl rfl) ?_
  refine TL_freeze 17 (by rw [hF]; rfl) rfl rfl rfl ?_
  refine TL_buildSlice 20 (es := List.map a_Term ([(Term.mk (1 : Int) ((List.replicate k23 (0 : Int)) ++ [(1 : Int)]))])) el30 z67 rfl rfl rfl rfl rfl rfl rfl rfl rfl ?_
  refine TL_pure rfl rfl rfl rfl (op_buildP pl69 z69 rfl rfl rfl rfl rfl) ?_
  refine TL_freeze 11 (by rw [hF]; rfl) rfl rfl rfl ?_
  refine TL_freeze 20 (by rw [hF]; rfl) rfl rfl rfl ?_
  refine TL_nilAt 30 (x' := .agg [.int .i64 (8 : Int), .int .i64 (0 : Int), .int .i64 (0 : Int), .int .i64 (0 : Int), .sl 1 (List.map a_i64 ((List.replicate k12 (0 : Int)) ++ [(1 : Int)])), .int .i64 (0 : Int), .sl 1 (List.map a_i64 ([] : List Int)), .sl 2 (List.map a_Term ([(Term.mk (1 : Int) ((List.replicate k23 (0 : Int)) ++ [(1 : Int)]))]))]) rfl (⟨_, rfl, ⟨_, _, rfl, rfl, ⟨_, _, rfl, rfl, ⟨_, _, rfl, rfl, ⟨_, _, rfl, rfl, ⟨_, _, rfl, rfl, ⟨_, _, rfl, rfl, ⟨_, _, rfl, .inr ⟨_, rfl⟩, ⟨_, _, rfl, rfl, rfl⟩⟩⟩⟩⟩⟩⟩⟩⟩) rfl ?_
  refine TL_buildSlice 21 (es := List.map a_Stmt ([(Stmt.mk (8 : Int) (0 : Int) (0 : Int) (Term.mk (0 : Int) ((List.replicate k12 (0 : Int)) ++ [(1 : Int)])) (Term.mk (0 : Int) ([] : List Int)) ([(Term.mk (1 : Int) ((List.replicate k23 (0 : Int)) ++ [(1 : Int)]))]))])) el31 z69 rfl rfl rfl rfl rfl rfl rfl rfl rfl ?_
  refine TL_pure rfl rfl rfl rfl (op_assign rfl) ?_
  refine TL_nil ?_
  refine T_seq ?_
  refine T_region ?_
  refine TL_pure rfl rfl rfl rfl (op_move rfl) ?_
  refine TL_pure rfl rfl rfl rfl (op_buildP pl69 z69 rfl rfl rfl rfl rfl) ?_
  refine TL_ownNilAt 33 4 23 ⟨false, true⟩ 2 rfl rfl rfl (sz := 1) rfl rfl rfl rfl ?_
  refine TL_ownNilAt 33 6 24 ⟨false, true⟩ 2 rfl rfl rfl (sz := 1) rfl rfl rfl rfl ?_
  refine TL_ownNilAt 33 7 25 ⟨false, true⟩ 67 rfl rfl rfl (sz := 2) rfl rfl rfl rfl ?_
  refine TL_buildSliceD (ids := [23, 24, 25]) (es := List.map a_Stmt ([(Stmt.mk (1 : Int) (0 : Int) (0 : Int) (Term.mk (0 : Int) ([] : List Int)) (Term.mk (0 : Int) ([] : List Int)) ([] : List Term))])) 22 el31 z69 rfl rfl rfl rfl rfl rfl (by rw [hF]; intro j hj; simp only [List.mem_cons, List.not_mem_nil, or_false] at hj; rcases hj with rfl | rfl | rfl <;> rfl) rfl rfl rfl rfl rfl rfl ?_
  refine TL_freeze 22 (by rw [hF]; rfl) rfl rfl rfl ?_
  obtain ⟨q35, hq35, hm⟩ := bindS hm
  refine TL_appendT (f := a_Stmt) (a := [(Stmt.mk (8 : Int) (0 : Int) (0 : Int) (Term.mk (0 : Int) ((List.replicate k12 (0 : Int)) ++ [(1 : Int)])) (Term.mk (0 : Int) ([] : List Int)) ([(Term.mk (1 : Int) ((List.replicate k23 (0 : Int)) ++ [(1 : Int)]))]))]) (b := [(Stmt.mk (1 : Int) (0 : Int) (0 : Int) (Term.mk (0 : Int) ([] : List Int)) (Term.mk (0 : Int) ([] : List Int)) ([] : List Term))]) el31 z69 rfl rfl rfl rfl rfl rfl rfl (capI_spec hq35) rfl rfl rfl rfl rfl ?_
  refine TL_pure rfl rfl rfl rfl (op_assign rfl) ?_
  refine TL_nil ?_
  refine T_join (fun (j0 : (List Stmt) × (List Int) × Int × Int) => ⟨[(3, .int .i64 r10.1), (6, .ptr 16 0 0), (8, .ow 21)], [(0, .box [.sl 1 (List.map a_u8 j0.2.1), .int .i64 j0.2.2.1, .int .u64 j0.2.2.2]), (14, .arr ⟨false, false⟩ 1 2 (List.map a_i64 ((List.replicate k18 (0 : Int)) ++ [(1 : Int)]))), (16, .box [.int .i64 (-1 : Int), .ow 14]), (21, .arr ⟨false, false⟩ 8 69 (List.map a_Stmt j0.1))]⟩) (fun j0 => m_spec_l03DrawLoop_J0 r10 k18 j0 = some out) (fun j0 hm => ?_) (fun hj0 => ?_)
  · unfold m_spec_l03DrawLoop_J0 at hm
    refine T_seq ?_
    refine T_region ?_
    refine TL_pure rfl rfl rfl rfl (op_move rfl) ?_
    refine TL_pure rfl rfl rfl rfl (op_move rfl) ?_
    refine TL_pure rfl rfl rfl rfl (op_load_agg ag67 sz67 rfl rfl rfl) ?_
    refine TL_pure rfl rfl rfl rfl (op_buildP pl69 z69 rfl rfl rfl rfl rfl) ?_
    refine TL_ownNilAt 54 6 671 ⟨false, true⟩ 2 rfl rfl rfl (sz := 1) rfl rfl rfl rfl ?_
    refine TL_ownNilAt 54 7 672 ⟨false, true⟩ 67 rfl rfl rfl (sz := 2) rfl rfl rfl rfl ?_
    refine TL_deepen 14 (p' := false) (List.map a_i64 ((List.replicate k18 (0 : Int)) ++ [(1 : Int)])) (by rw [hF]; rfl) rfl (ElR.map (f := a_i64) (g := a_i64) (fun _ => ⟨⟨rfl, rfl⟩, trivial⟩) ((List.replicate k18 (0 : Int)) ++ [(1 : Int)])) rfl rfl rfl ?_
    refine TL_buildSliceD (ids := [14, 671, 672]) (es := List.map a_Stmt ([(Stmt.mk (2 : Int) r10.1 (0 : Int) (Term.mk (-1 : Int) ((List.replicate k18 (0 : Int)) ++ [(1 : Int)])) (Term.mk (0 : Int) ([] : List Int)) ([] : List Term))])) 670 el31 z69 rfl rfl rfl rfl rfl rfl (by rw [hF]; intro j hj; simp only [List.mem_cons, List.not_mem_nil, or_false] at hj; rcases hj with rfl | rfl | rfl <;> rfl) rfl rfl rfl rfl rfl rfl ?_
    refine TL_freeze 670 (by rw [hF]; rfl) rfl rfl rfl ?_
    obtain ⟨q56, hq56, hm⟩ := bindS hm
    refine TL_appendT (f := a_Stmt) (a := j0.1) (b := [(Stmt.mk (2 : Int) r10.1 (0 : Int) (Term.mk (-1 : Int) ((List.replicate k18 (0 : Int)) ++ [(1 : Int)])) (Term.mk (0 : Int) ([] : List Int)) ([] : List Term))]) el31 z69 rfl rfl rfl rfl rfl rfl rfl (capI_spec hq56) rfl rfl rfl rfl rfl ?_
    refine TL_pure rfl rfl rfl rfl (op_assign rfl) ?_
    refine TL_nil ?_
    refine T_keepH [2] [0, 21] rfl rfl rfl rfl (by rw [hF]; rfl) ?_
    refine T_freeze 21 (by rw [hF]; rfl) rfl rfl rfl ?_
    refine T_ret ?_
    obtain rfl := someI hm
    refine ⟨[_], [0], ⟨rfl, trivial⟩, ?_, rfl, rfl, rfl, rfl⟩
    rfl
  · refine T_seq ?_
    refine T_region ?_
    refine TL_pure rfl rfl rfl rfl (op_move rfl) ?_
    obtain ⟨r37, hr37, hm⟩ := bindS hm
    refine TL_call [(0, 0)] [] [] (c_spec_l00Src_one r10.2 (2 : Int) r37 hr37) Try.call110 rfl rfl rfl rfl rfl ⟨rfl, trivial⟩ rfl rfl rfl rfl rfl rfl rfl rfl rfl rfl rfl ?_
    refine TL_nil ?_
    refine T_cond rfl (fun hq => ?_) (fun hq => ?_)
    · replace hm := condT hq hm
      refine T_region ?_
      refine TL_pure rfl rfl rfl rfl (op_move rfl) ?_
      refine TL_pure rfl rfl rfl rfl (op_move rfl) ?_
      obtain ⟨r40, hr40, hm⟩ := bindS hm
      refine TL_call [(0, 0)] [] [] (c_spec_l00Src_pick r37.2 (4 : Int) r40 hr40) Try.call86 rfl rfl rfl rfl rfl ⟨rfl, trivial⟩ rfl rfl rfl rfl rfl rfl rfl rfl rfl rfl rfl ?_
      refine TL_pure rfl rfl rfl rfl (op_buildP pl69 z69 rfl rfl rfl rfl rfl) ?_
      refine TL_ownNilAt 41 4 674 ⟨false, true⟩ 2 rfl rfl rfl (sz := 1) rfl rfl rfl rfl ?_
      refine TL_ownNilAt 41 6 675 ⟨false, true⟩ 2 rfl rfl rfl (sz := 1) rfl rfl rfl rfl ?_
      refine TL_ownNilAt 41 7 676 ⟨false, true⟩ 67 rfl rfl rfl (sz := 2) rfl rfl rfl rfl ?_
      refine TL_buildSliceD (ids := [674, 675, 676]) (es := List.map a_Stmt ([(Stmt.mk (5 : Int) (0 : Int) r40.1 (Term.mk (0 : Int) ([] : List Int)) (Term.mk (0 : Int) ([] : List Int)) ([] : List Term))])) 673 el31 z69 rfl rfl rfl rfl rfl rfl (by rw [hF]; intro j hj; simp only [List.mem_cons, List.not_mem_nil, or_false] at hj; rcases hj with rfl | rfl | rfl <;> rfl) rfl rfl rfl rfl rfl rfl ?_
      refine TL_freeze 673 (by rw [hF]; rfl) rfl rfl rfl ?_
      obtain ⟨q43, hq43, hm⟩ := bindS hm
      refine TL_appendT (f := a_Stmt) (a := ([(Stmt.mk (8 : Int) (0 : Int) (0 : Int) (Term.mk (0 : Int) ((List.replicate k12 (0 : Int)) ++ [(1 : Int)])) (Term.mk (0 : Int) ([] : List Int)) ([(Term.mk (1 : Int) ((List.replicate k23 (0 : Int)) ++ [(1 : Int)]))]))] ++ [(Stmt.mk (1 : Int) (0 : Int) (0 : Int) (Term.mk (0 : Int) ([] : List Int)) (Term.mk (0 : Int) ([] : List Int)) ([] : List Term))])) (b := [(Stmt.mk (5 : Int) (0 : Int) r40.1 (Term.mk (0 : Int) ([] : List Int)) (Term.mk (0 : Int) ([] : List Int)) ([] : List Term))]) el31 z69 rfl rfl rfl rfl rfl rfl rfl (capI_spec hq43) rfl rfl rfl rfl rfl ?_
      refine TL_pure rfl rfl rfl rfl (op_assign rfl) ?_
      refine TL_nil ?_
      refine T_keepH [3, 6, 8] [0, 14, 16, 21] rfl rfl rfl rfl (by rw [hF]; rfl) ?_
      exact hj0 ((([(Stmt.mk (8 : Int) (0 : Int) (0 : Int) (Term.mk (0 : Int) ((List.replicate k12 (0 : Int)) ++ [(1 : Int)])) (Term.mk (0 : Int) ([] : List Int)) ([(Term.mk (1 : Int) ((List.replicate k23 (0 : Int)) ++ [(1 : Int)]))]))] ++ [(Stmt.mk (1 : Int) (0 : Int) (0 : Int) (Term.mk (0 : Int) ([] : List Int)) (Term.mk (0 : Int) ([] : List Int)) ([] : List Term))]) ++ [(Stmt.mk (5 : Int) (0 : Int) r40.1 (Term.mk (0 : Int) ([] : List Int)) (Term.mk (0 : Int) ([] : List Int)) ([] : List Term))]), r40.2.code, r40.2.at_, r40.2.seed) hm
    · replace hm := condF hq hm
      refine T_drawZ [2, 5, 6] mix (by kernel_rfl) rfl ?_
      obtain ⟨r46, hr46, hm⟩ := bindS hm
      obtain ⟨q50, hq50, hm⟩ := bindS hm
      refine TZ_pure 0 (by kernel_rfl) rfl rfl rfl rfl rfl (op_move rfl) ?_
      refine TZ_pure 1 (by kernel_rfl) rfl rfl rfl rfl rfl (op_move rfl) ?_
      refine TZ_cut 5 [true, true, true, false, false, false, false, false] ⟨[(0, .ptr 0 0 0), (2, .snil), (3, .int .i64 r10.1), (4, .junk), (5, .ptr 13 0 0), (6, .ptr 16 0 0), (7, .ptr 19 0 0), (8, .ow 21), (9, .ptr 0 0 0), (10, .int .i64 r10.1), (11, .int .i64 r10.1), (12, .junk), (13, .junk), (14, .ow 12), (15, .sl 1 (List.map a_i64 ((List.replicate k12 (0 : Int)) ++ [(1 : Int)]))), (16, .agg [.int .i64 (0 : Int), .sl 1 (List.map a_i64 ((List.replicate k12 (0 : Int)) ++ [(1 : Int)]))]), (17, .int .i64 r10.1), (18, .junk), (19, .ow 15), (20, .ow 14), (21, .agg [.int .i64 (-1 : Int), .ow 14]), (22, .int .i64 r10.1), (23, .junk), (24, .ow 18), (25, .sl 1 (List.map a_i64 ((List.replicate k23 (0 : Int)) ++ [(1 : Int)]))), (26, .agg [.int .i64 (1 : Int), .sl 1 (List.map a_i64 ((List.replicate k23 (0 : Int)) ++ [(1 : Int)]))]), (27, .agg [.int .i64 (0 : Int), .sl 1 (List.map a_i64 ((List.replicate k12 (0 : Int)) ++ [(1 : Int)]))]), (28, .agg [.int .i64 (1 : Int), .sl 1 (List.map a_i64 ((List.replicate k23 (0 : Int)) ++ [(1 : Int)]))]), (29, .sl 2 (List.map a_Term ([(Term.mk (1 : Int) ((List.replicate k23 (0 : Int)) ++ [(1 : Int)]))]))), (30, .agg [.int .i64 (8 : Int), .int .i64 (0 : Int), .int .i64 (0 : Int), .int .i64 (0 : Int), .sl 1 (List.map a_i64 ((List.replicate k12 (0 : Int)) ++ [(1 : Int)])), .int .i64 (0 : Int), .sl 1 (List.map a_i64 ([] : List Int)), .sl 2 (List.map a_Term ([(Term.mk (1 : Int) ((List.replicate k23 (0 : Int)) ++ [(1 : Int)]))]))]), (31, .junk), (32, .junk), (33, .junk), (34, .sl 8 (List.map a_Stmt ([(Stmt.mk (1 : Int) (0 : Int) (0 : Int) (Term.mk (0 : Int) ([] : List Int)) (Term.mk (0 : Int) ([] : List Int)) ([] : List Term))]))), (35, .ow 21), (36, .ptr 0 0 0), (37, .bool r37.1), (44, .ow 21), (45, .ptr 0 0 0), (46, .agg [.int .i64 r46.1.Const, .ow 917])], [(0, .box [.sl 1 (List.map a_u8 r46.2.code), .int .i64 r46.2.at_, .int .u64 r46.2.seed]), (12, .arr ⟨false, false⟩ 1 2 (List.map a_i64 [(1 : Int)])), (13, .box [.int .i64 (0 : Int), .sl 1 (List.map a_i64 ((List.replicate k12 (0 : Int)) ++ [(1 : Int)]))]), (14, .arr ⟨false, false⟩ 1 2 (List.map a_i64 ((List.replicate k18 (0 : Int)) ++ [(1 : Int)]))), (15, .arr ⟨false, false⟩ 1 2 (List.map a_i64 [(1 : Int)])), (16, .box [.int .i64 (-1 : Int), .ow 14]), (18, .arr ⟨false, false⟩ 1 2 (List.map a_i64 [(1 : Int)])), (19, .box [.int .i64 (1 : Int), .sl 1 (List.map a_i64 ((List.replicate k23 (0 : Int)) ++ [(1 : Int)]))]), (21, .arr ⟨false, false⟩ 8 69 (List.map a_Stmt ([(Stmt.mk (8 : Int) (0 : Int) (0 : Int) (Term.mk (0 : Int) ((List.replicate k12 (0 : Int)) ++ [(1 : Int)])) (Term.mk (0 : Int) ([] : List Int)) ([(Term.mk (1 : Int) ((List.replicate k23 (0 : Int)) ++ [(1 : Int)]))]))] ++ [(Stmt.mk (1 : Int) (0 : Int) (0 : Int) (Term.mk (0 : Int) ([] : List Int)) (Term.mk (0 : Int) ([] : List Int)) ([] : List Term))]))), (917, .arr ⟨false, true⟩ 1 2 (List.map a_i64 r46.1.Coeffs))]⟩ ?_ (fun hS676_0 => ?_)
      · refine TZ_one 3 (by kernel_rfl) rfl ?_
        refine TL_pure rfl rfl rfl rfl (op_load_agg ag67 sz67 rfl rfl rfl) ?_
        refine TL_nil ?_
        refine TZ_pure 4 (by kernel_rfl) rfl rfl rfl rfl rfl (op_buildP pl69 z69 rfl rfl rfl rfl rfl) ?_
        refine TZ_one 5 (by kernel_rfl) rfl ?_
        refine TL_freeze 917 (by rw [hF]; rfl) rfl rfl rfl ?_
        refine TL_nilAt 48 (x' := .agg [.int .i64 (4 : Int), .int .i64 (0 : Int), .int .i64 (0 : Int), .int .i64 (0 : Int), .sl 1 (List.map a_i64 ((List.replicate k12 (0 : Int)) ++ [(1 : Int)])), .int .i64 r46.1.Const, .sl 1 (List.map a_i64 r46.1.Coeffs), .sl 2 (List.map a_Term ([] : List Term))]) rfl (⟨_, rfl, ⟨_, _, rfl, rfl, ⟨_, _, rfl, rfl, ⟨_, _, rfl, rfl, ⟨_, _, rfl, rfl, ⟨_, _, rfl, rfl, ⟨_, _, rfl, rfl, ⟨_, _, rfl, rfl, ⟨_, _, rfl, .inr ⟨_, rfl⟩, rfl⟩⟩⟩⟩⟩⟩⟩⟩⟩) rfl ?_
        refine TL_buildSlice 1157 (es := List.map a_Stmt ([(Stmt.mk (4 : Int) (0 : Int) (0 : Int) (Term.mk (0 : Int) ((List.replicate k12 (0 : Int)) ++ [(1 : Int)])) r46.1 ([] : List Term))])) el31 z69 rfl rfl rfl rfl rfl rfl rfl rfl rfl ?_
        refine TL_nil ?_
        refine TZ_one 6 (by kernel_rfl) rfl ?_
        refine TL_appendT (f := a_Stmt) (a := ([(Stmt.mk (8 : Int) (0 : Int) (0 : Int) (Term.mk (0 : Int) ((List.replicate k12 (0 : Int)) ++ [(1 : Int)])) (Term.mk (0 : Int) ([] : List Int)) ([(Term.mk (1 : Int) ((List.replicate k23 (0 : Int)) ++ [(1 : Int)]))]))] ++ [(Stmt.mk (1 : Int) (0 : Int) (0 : Int) (Term.mk (0 : Int) ([] : List Int)) (Term.mk (0 : Int) ([] : List Int)) ([] : List Term))])) (b := [(Stmt.mk (4 : Int) (0 : Int) (0 : Int) (Term.mk (0 : Int) ((List.replicate k12 (0 : Int)) ++ [(1 : Int)])) r46.1 ([] : List Term))]) el31 z69 rfl rfl rfl rfl rfl rfl rfl (capI_spec hq50) rfl rfl rfl rfl rfl ?_
        refine TL_nil ?_
        refine TZ_pure 7 (by kernel_rfl) rfl rfl rfl rfl rfl (op_assign rfl) ?_
        refine TZ_done (by kernel_rfl) ?_
        refine T_keepH [3, 6, 8] [0, 14, 16, 21] rfl rfl rfl rfl (by rw [hF]; rfl) ?_
        exact hj0 ((([(Stmt.mk (8 : Int) (0 : Int) (0 : Int) (Term.mk (0 : Int) ((List.replicate k12 (0 : Int)) ++ [(1 : Int)])) (Term.mk (0 : Int) ([] : List Int)) ([(Term.mk (1 : Int) ((List.replicate k23 (0 : Int)) ++ [(1 : Int)]))]))] ++ [(Stmt.mk (1 : Int) (0 : Int) (0 : Int) (Term.mk (0 : Int) ([] : List Int)) (Term.mk (0 : Int) ([] : List Int)) ([] : List Term))]) ++ [(Stmt.mk (4 : Int) (0 : Int) (0 : Int) (Term.mk (0 : Int) ((List.replicate k12 (0 : Int)) ++ [(1 : Int)])) r46.1 ([] : List Term))]), r46.2.code, r46.2.at_, r46.2.seed) hm
      refine TZ_cut 5 [true, true, false, true, false, false, false, false] ⟨[(0, .ptr 0 0 0), (2, .snil), (3, .int .i64 r10.1), (4, .junk), (5, .ptr 13 0 0), (6, .ptr 16 0 0), (7, .ptr 19 0 0), (8, .ow 21), (9, .ptr 0 0 0), (10, .int .i64 r10.1), (11, .int .i64 r10.1), (12, .junk), (13, .junk), (14, .ow 12), (15, .sl 1 (List.map a_i64 ((List.replicate k12 (0 : Int)) ++ [(1 : Int)]))), (16, .agg [.int .i64 (0 : Int), .sl 1 (List.map a_i64 ((List.replicate k12 (0 : Int)) ++ [(1 : Int)]))]), (17, .int .i64 r10.1), (18, .junk), (19, .ow 15), (20, .ow 14), (21, .agg [.int .i64 (-1 : Int), .ow 14]), (22, .int .i64 r10.1), (23, .junk), (24, .ow 18), (25, .sl 1 (List.map a_i64 ((List.replicate k23 (0 : Int)) ++ [(1 : Int)]))), (26, .agg [.int .i64 (1 : Int), .sl 1 (List.map a_i64 ((List.replicate k23 (0 : Int)) ++ [(1 : Int)]))]), (27, .agg [.int .i64 (0 : Int), .sl 1 (List.map a_i64 ((List.replicate k12 (0 : Int)) ++ [(1 : Int)]))]), (28, .agg [.int .i64 (1 : Int), .sl 1 (List.map a_i64 ((List.replicate k23 (0 : Int)) ++ [(1 : Int)]))]), (29, .sl 2 (List.map a_Term ([(Term.mk (1 : Int) ((List.replicate k23 (0 : Int)) ++ [(1 : Int)]))]))), (30, .agg [.int .i64 (8 : Int), .int .i64 (0 : Int), .int .i64 (0 : Int), .int .i64 (0 : Int), .sl 1 (List.map a_i64 ((List.replicate k12 (0 : Int)) ++ [(1 : Int)])), .int .i64 (0 : Int), .sl 1 (List.map a_i64 ([] : List Int)), .sl 2 (List.map a_Term ([(Term.mk (1 : Int) ((List.replicate k23 (0 : Int)) ++ [(1 : Int)]))]))]), (31, .junk), (32, .junk), (33, .junk), (34, .sl 8 (List.map a_Stmt ([(Stmt.mk (1 : Int) (0 : Int) (0 : Int) (Term.mk (0 : Int) ([] : List Int)) (Term.mk (0 : Int) ([] : List Int)) ([] : List Term))]))), (35, .ow 21), (36, .ptr 0 0 0), (37, .bool r37.1), (44, .ow 21), (45, .ptr 0 0 0), (47, .agg [.int .i64 (0 : Int), .sl 1 (List.map a_i64 ((List.replicate k12 (0 : Int)) ++ [(1 : Int)]))])], [(0, .box [.sl 1 (List.map a_u8 r37.2.code), .int .i64 r37.2.at_, .int .u64 r37.2.seed]), (12, .arr ⟨false, false⟩ 1 2 (List.map a_i64 [(1 : Int)])), (13, .box [.int .i64 (0 : Int), .sl 1 (List.map a_i64 ((List.replicate k12 (0 : Int)) ++ [(1 : Int)]))]), (14, .arr ⟨false, false⟩ 1 2 (List.map a_i64 ((List.replicate k18 (0 : Int)) ++ [(1 : Int)]))), (15, .arr ⟨false, false⟩ 1 2 (List.map a_i64 [(1 : Int)])), (16, .box [.int .i64 (-1 : Int), .ow 14]), (18, .arr ⟨false, false⟩ 1 2 (List.map a_i64 [(1 : Int)])), (19, .box [.int .i64 (1 : Int), .sl 1 (List.map a_i64 ((List.replicate k23 (0 : Int)) ++ [(1 : Int)]))]), (21, .arr ⟨false, false⟩ 8 69 (List.map a_Stmt ([(Stmt.mk (8 : Int) (0 : Int) (0 : Int) (Term.mk (0 : Int) ((List.replicate k12 (0 : Int)) ++ [(1 : Int)])) (Term.mk (0 : Int) ([] : List Int)) ([(Term.mk (1 : Int) ((List.replicate k23 (0 : Int)) ++ [(1 : Int)]))]))] ++ [(Stmt.mk (1 : Int) (0 : Int) (0 : Int) (Term.mk (0 : Int) ([] : List Int)) (Term.mk (0 : Int) ([] : List Int)) ([] : List Term))])))]⟩ ?_ (fun hS676_1 => ?_)
      · refine TZ_one 2 (by kernel_rfl) rfl ?_
        refine TL_call [(0, 0)] [(1000, 917)] [] (c_spec_l03DrawIndex r37.2 r46 hr46) Try.call108 rfl rfl rfl rfl rfl ⟨rfl, trivial⟩ rfl rfl rfl rfl rfl rfl rfl rfl rfl rfl rfl ?_
        refine TL_nil ?_
        refine TZ_pure 4 (by kernel_rfl) rfl rfl rfl rfl rfl (op_buildP pl69 z69 rfl rfl rfl rfl rfl) ?_
        refine TZ_one 5 (by kernel_rfl) rfl ?_
        refine TL_freeze 917 (by rw [hF]; rfl) rfl rfl rfl ?_
        refine TL_nilAt 48 (x' := .agg [.int .i64 (4 : Int), .int .i64 (0 : Int), .int .i64 (0 : Int), .int .i64 (0 : Int), .sl 1 (List.map a_i64 ((List.replicate k12 (0 : Int)) ++ [(1 : Int)])), .int .i64 r46.1.Const, .sl 1 (List.map a_i64 r46.1.Coeffs), .sl 2 (List.map a_Term ([] : List Term))]) rfl (⟨_, rfl, ⟨_, _, rfl, rfl, ⟨_, _, rfl, rfl, ⟨_, _, rfl, rfl, ⟨_, _, rfl, rfl, ⟨_, _, rfl, rfl, ⟨_, _, rfl, rfl, ⟨_, _, rfl, rfl, ⟨_, _, rfl, .inr ⟨_, rfl⟩, rfl⟩⟩⟩⟩⟩⟩⟩⟩⟩) rfl ?_
        refine TL_buildSlice 1157 (es := List.map a_Stmt ([(Stmt.mk (4 : Int) (0 : Int) (0 : Int) (Term.mk (0 : Int) ((List.replicate k12 (0 : Int)) ++ [(1 : Int)])) r46.1 ([] : List Term))])) el31 z69 rfl rfl rfl rfl rfl rfl rfl rfl rfl ?_
        refine TL_nil ?_
        refine TZ_one 6 (by kernel_rfl) rfl ?_
        refine TL_appendT (f := a_Stmt) (a := ([(Stmt.mk (8 : Int) (0 : Int) (0 : Int) (Term.mk (0 : Int) ((List.replicate k12 (0 : Int)) ++ [(1 : Int)])) (Term.mk (0 : Int) ([] : List Int)) ([(Term.mk (1 : Int) ((List.replicate k23 (0 : Int)) ++ [(1 : Int)]))]))] ++ [(Stmt.mk (1 : Int) (0 : Int) (0 : Int) (Term.mk (0 : Int) ([] : List Int)) (Term.mk (0 : Int) ([] : List Int)) ([] : List Term))])) (b := [(Stmt.mk (4 : Int) (0 : Int) (0 : Int) (Term.mk (0 : Int) ((List.replicate k12 (0 : Int)) ++ [(1 : Int)])) r46.1 ([] : List Term))]) el31 z69 rfl rfl rfl rfl rfl rfl rfl (capI_spec hq50) rfl rfl rfl rfl rfl ?_
        refine TL_nil ?_
        refine TZ_pure 7 (by kernel_rfl) rfl rfl rfl rfl rfl (op_assign rfl) ?_
        refine TZ_done (by kernel_rfl) ?_
        refine T_keepH [3, 6, 8] [0, 14, 16, 21] rfl rfl rfl rfl (by rw [hF]; rfl) ?_
        exact hj0 ((([(Stmt.mk (8 : Int) (0 : Int) (0 : Int) (Term.mk (0 : Int) ((List.replicate k12 (0 : Int)) ++ [(1 : Int)])) (Term.mk (0 : Int) ([] : List Int)) ([(Term.mk (1 : Int) ((List.replicate k23 (0 : Int)) ++ [(1 : Int)]))]))] ++ [(Stmt.mk (1 : Int) (0 : Int) (0 : Int) (Term.mk (0 : Int) ([] : List Int)) (Term.mk (0 : Int) ([] : List Int)) ([] : List Term))]) ++ [(Stmt.mk (4 : Int) (0 : Int) (0 : Int) (Term.mk (0 : Int) ((List.replicate k12 (0 : Int)) ++ [(1 : Int)])) r46.1 ([] : List Term))]), r46.2.code, r46.2.at_, r46.2.seed) hm
      refine TZ_each [2, 3] (by kernel_rfl) rfl ?_
      refine ⟨?_, ?_⟩
      · refine ⟨_, rfl, ?_⟩
        refine TL_call [(0, 0)] [(1000, 917)] [] (c_spec_l03DrawIndex r37.2 r46 hr46) Try.call108 rfl rfl rfl rfl rfl ⟨rfl, trivial⟩ rfl rfl rfl rfl rfl rfl rfl rfl rfl rfl rfl ?_
        refine TL_nil ?_
        refine TZ_keepH [0, 2, 3, 4, 5, 6, 7, 8, 9, 10, 11, 12, 13, 14, 15, 16, 17, 18, 19, 20, 21, 22, 23, 24, 25, 26, 27, 28, 29, 30, 31, 32, 33, 34, 35, 36, 37, 44, 45, 46] [0, 12, 13, 14, 15, 16, 18, 19, 21, 917] rfl rfl rfl rfl (by rw [hF]; rfl) ?_
        exact hS676_0
      · refine ⟨_, rfl, ?_⟩
        refine TL_pure rfl rfl rfl rfl (op_load_agg ag67 sz67 rfl rfl rfl) ?_
        refine TL_nil ?_
        refine TZ_keepH [0, 2, 3, 4, 5, 6, 7, 8, 9, 10, 11, 12, 13, 14, 15, 16, 17, 18, 19, 20, 21, 22, 23, 24, 25, 26, 27, 28, 29, 30, 31, 32, 33, 34, 35, 36, 37, 44, 45, 47] [0, 12, 13, 14, 15, 16, 18, 19, 21] rfl rfl rfl rfl (by rw [hF]; rfl) ?_
        exact hS676_1
theorem c_spec_l03DrawBody_F (rec_spec_l03DrawBody : l00Src → Int → Option ((List Stmt) × l00Src)) (hrec_spec_l03DrawBody : ∀ (p0 : l00Src) (p1 : Int) (out : (List Stmt) × l00Src), rec_spec_l03DrawBody p0 p1 = some out → ACall Try.prog 87 [.ptr 0 0 0, .int .i64 p1] [(0, .box [.sl 1 (List.map a_u8 p0.code), .int .i64 p0.at_, .int .u64 p0.seed])] (.sl 8 (List.map a_Stmt out.1)) [(0, .box [.sl 1 (List.map a_u8 out.2.code), .int .i64 out.2.at_, .int .u64 out.2.seed])]) (p0 : l00Src) (p1 : Int) (out : (List Stmt) × l00Src) (hm : m_spec_l03DrawBody_F rec_spec_l03DrawBody p0 p1 = some out) : ACall Try.prog 87 [.ptr 0 0 0, .int .i64 p1] [(0, .box [.sl 1 (List.map a_u8 p0.code), .int .i64 p0.at_, .int .u64 p0.seed])] (.sl 8 (List.map a_Stmt out.1)) [(0, .box [.sl 1 (List.map a_u8 out.2.code), .int .i64 out.2.at_, .int .u64 out.2.seed])] := by
  refine ACall.intro Try.func87 rfl Try.ntmps87 rfl (fun F hF => ?_)
  unfold m_spec_l03DrawBody_F at hm
  refine T_seq ?_
  refine T_region ?_
  refine TL_pure rfl rfl rfl rfl (op_assign rfl) ?_
  refine TL_nil ?_
  refine T_seq ?_
  refine T_region ?_
  refine TL_pure rfl rfl rfl rfl (op_move rfl) ?_
  refine TL_buildSlice 11 (es := List.map a_i64 [(0 : Int), (2 : Int), (2 : Int), (3 : Int), (4 : Int), (5 : Int), (6 : Int)]) el27 z2 rfl rfl rfl rfl rfl rfl rfl rfl rfl ?_
  refine TL_freeze 11 (by rw [hF]; rfl) rfl rfl rfl ?_
  obtain ⟨r11, hr11, hm⟩ := bindS hm
  refine TL_call [(0, 0)] [] [] (c_spec_l00Src_among p0 [(0 : Int), (2 : Int), (2 : Int), (3 : Int), (4 : Int), (5 : Int), (6 : Int)] r11 hr11) Try.call107 rfl rfl rfl rfl rfl ⟨rfl, trivial⟩ rfl rfl rfl rfl rfl rfl rfl rfl rfl rfl rfl ?_
  refine TL_pure rfl rfl rfl rfl (op_assign rfl) ?_
  refine TL_nil ?_
  refine T_join (fun (j0 : (List Int) × Int × Int × Int) => ⟨[(0, .ptr 0 0 0), (1, .int .i64 p1), (5, .int .i64 j0.2.2.2)], [(0, .box [.sl 1 (List.map a_u8 j0.1), .int .i64 j0.2.1, .int .u64 j0.2.2.1])]⟩) (fun j0 => m_spec_l03DrawBody_F_J0 rec_spec_l03DrawBody p1 j0 = some out) (fun j0 hm => ?_) (fun hj0 => ?_)
  · unfold m_spec_l03DrawBody_F_J0 at hm
    refine T_seq ?_
    refine T_region ?_
    refine TL_pure rfl rfl rfl rfl (op_move rfl) ?_
    refine TL_pure rfl rfl rfl rfl (op_buildP pl69 z69 rfl rfl rfl rfl rfl) ?_
    refine TL_alloc 13 z69 rfl rfl rfl rfl rfl rfl rfl ?_
    refine TL_store_box sz69 rfl rfl rfl rfl rfl rfl rfl rfl rfl ?_
    refine TL_nil ?_
    refine T_join (fun (j1 : (List Int) × Int × Int × Int × Int × Int × (List Int) × Int × (List Int) × (List Term)) => ⟨[(0, .ptr 0 0 0), (1, .int .i64 p1), (5, .int .i64 j0.2.2.2), (6, .ptr 13 0 0)], [(0, .box [.sl 1 (List.map a_u8 j1.1), .int .i64 j1.2.1, .int .u64 j1.2.2.1]), (13, .box [.int .i64 j0.2.2.2, .int .i64 j1.2.2.2.1, .int .i64 j1.2.2.2.2.1, .int .i64 j1.2.2.2.2.2.1, .ow 14, .int .i64 j1.2.2.2.2.2.2.2.1, .ow 70003, .ow 70004]), (14, .arr ⟨false, true⟩ 1 2 (List.map a_i64 j1.2.2.2.2.2.2.1)), (70003, .arr ⟨false, true⟩ 1 2 (List.map a_i64 j1.2.2.2.2.2.2.2.2.1)), (70004, .arr ⟨false, true⟩ 2 67 (List.map a_Term j1.2.2.2.2.2.2.2.2.2))]⟩) (fun j1 => m_spec_l03DrawBody_F_J1 rec_spec_l03DrawBody p1 j0 j1 = some out) (fun j1 hm => ?_) (fun hj1 => ?_)
    · unfold m_spec_l03DrawBody_F_J1 at hm
      refine T_seq ?_
      refine T_region ?_
      refine TL_pure rfl rfl rfl rfl (op_load_agg ag69 sz69 rfl rfl rfl) ?_
      refine TL_freeze 14 (by rw [hF]; rfl) rfl rfl rfl ?_
      refine TL_freeze 70003 (by rw [hF]; rfl) rfl rfl rfl ?_
      refine TL_freeze 70004 (by rw [hF]; rfl) rfl rfl rfl ?_
      refine TL_buildSlice 22 (es := List.map a_Stmt [(Stmt.mk j0.2.2.2 j1.2.2.2.1 j1.2.2.2.2.1 (Term.mk j1.2.2.2.2.2.1 j1.2.2.2.2.2.2.1) (Term.mk j1.2.2.2.2.2.2.2.1 j1.2.2.2.2.2.2.2.2.1) j1.2.2.2.2.2.2.2.2.2)]) el31 z69 rfl rfl rfl rfl rfl rfl rfl rfl rfl ?_
      refine TL_pure rfl rfl rfl rfl (op_assign rfl) ?_
      refine TL_nil ?_
      refine T_seq ?_
      refine T_seq ?_
      refine T_region ?_
      refine TL_pure rfl rfl rfl rfl (op_move rfl) ?_
      obtain ⟨r70, hr70, hm⟩ := bindS hm
      refine TL_callF (c_spec_l03Below j0.2.2.2 r70 hr70) Try.call109 rfl rfl rfl rfl rfl ?_
      refine TL_pure rfl rfl rfl rfl (op_assign rfl) ?_
      refine TL_nil ?_
      refine T_block ?_
      refine T_keepH [0, 1, 5, 7, 8] [0, 22] rfl rfl rfl rfl (by rw [hF]; rfl) ?_
      refine T_loop ?_
      obtain ⟨u0, hl0, hm⟩ := bindS hm
      refine TR_iter2 (m_spec_l03DrawBody_F_L0 rec_spec_l03DrawBody p1) (fun (s0 : (List Int) × Int × Int × (List Stmt) × Int) => ⟨[(0, .ptr 0 0 0), (1, .int .i64 p1), (5, .int .i64 j0.2.2.2), (7, .ow 22), (8, .int .i64 s0.2.2.2.2)], [(0, .box [.sl 1 (List.map a_u8 s0.1), .int .i64 s0.2.1, .int .u64 s0.2.2.1]), (22, .arr ⟨false, false⟩ 8 69 (List.map a_Stmt s0.2.2.2.1))]⟩) (fun u0 => .exit 1) (fun u0 => ⟨[(0, .ptr 0 0 0), (5, .int .i64 j0.2.2.2), (7, .ow 22)], [(0, .box [.sl 1 (List.map a_u8 u0.1), .int .i64 u0.2.1, .int .u64 u0.2.2.1]), (22, .arr ⟨false, false⟩ 8 69 (List.map a_Stmt u0.2.2.2))]⟩) (fun u0 => m_spec_l03DrawBody_F_A0 j0 u0 = some out) hl0 hm (fun u0 hm => ?_) (fun hx0 s0 c0 hm hc0 => ?_)
      · unfold m_spec_l03DrawBody_F_A0 at hm
        refine T_seq ?_
        refine T_seq ?_
        refine T_region ?_
        refine TL_pure rfl rfl rfl rfl (op_move rfl) ?_
        refine TL_pure rfl rfl rfl rfl (op_eql rfl rfl) ?_
        refine TL_pure rfl rfl rfl rfl (op_move rfl) ?_
        refine TL_split 83 rfl rfl rfl (fun hq => ?_) (fun hq => ?_)
        · replace hm := condT hq hm
          refine TL_want rfl rfl ?_
          refine TL_pure rfl rfl rfl rfl (op_move rfl) ?_
          refine TL_want rfl rfl ?_
          obtain ⟨r85, hr85, hm⟩ := bindS hm
          refine TL_call [(0, 0)] [] [] (c_spec_l00Src_one (l00Src.mk u0.1 u0.2.1 u0.2.2.1) (2 : Int) r85 hr85) Try.call110 rfl rfl rfl rfl rfl ⟨rfl, trivial⟩ rfl rfl rfl rfl rfl rfl rfl rfl rfl rfl rfl ?_
          refine TL_pure rfl rfl rfl rfl (op_pick_true rfl rfl) ?_
          refine TL_nil ?_
          refine T_cond rfl (fun hq => ?_) (fun hq => ?_)
          · replace hm := condT hq hm
            refine T_seq ?_
            refine T_region ?_
            refine TL_pure rfl rfl rfl rfl (op_move rfl) ?_
            obtain ⟨r88, hr88, hm⟩ := bindS hm
            refine TL_call [(0, 0)] [] [] (c_spec_l03DrawLoop r85.2 r88 hr88) Try.call111 rfl rfl rfl rfl rfl ⟨rfl, trivial⟩ rfl rfl rfl rfl rfl rfl rfl rfl rfl rfl rfl ?_
            refine TL_pure rfl rfl rfl rfl (op_assign rfl) ?_
            refine TL_nil ?_
            refine T_keepH [4] [0] rfl rfl rfl rfl (by rw [hF]; rfl) ?_
            refine T_ret ?_
            obtain rfl := someI hm
            refine ⟨[_], [0], ⟨rfl, trivial⟩, ?_, rfl, rfl, rfl, rfl⟩
            rfl
          · replace hm := condF hq hm
            refine T_skip ?_
            refine T_seq ?_
            refine T_region ?_
            refine TL_pure rfl rfl rfl rfl (op_move rfl) ?_
            refine TL_pure rfl rfl rfl rfl (op_assign rfl) ?_
            refine TL_nil ?_
            refine T_keepH [4] [0, 22] rfl rfl rfl rfl (by rw [hF]; rfl) ?_
            refine T_freeze 22 (by rw [hF]; rfl) rfl rfl rfl ?_
            refine T_ret ?_
            obtain rfl := someI hm
            refine ⟨[_], [0], ⟨rfl, trivial⟩, ?_, rfl, rfl, rfl, rfl⟩
            rfl
        · replace hm := condF hq hm
          refine TL_pass rfl rfl rfl rfl rfl rfl rfl ?_
          refine TL_pass rfl rfl rfl rfl rfl rfl rfl ?_
          refine TL_pure rfl rfl rfl rfl (op_pick_false rfl rfl) ?_
          refine TL_nil ?_
          refine T_cond_false rfl ?_
          refine T_skip ?_
          refine T_seq ?_
          refine T_region ?_
          refine TL_pure rfl rfl rfl rfl (op_move rfl) ?_
          refine TL_pure rfl rfl rfl rfl (op_assign rfl) ?_
          refine TL_nil ?_
          refine T_keepH [4] [0, 22] rfl rfl rfl rfl (by rw [hF]; rfl) ?_
          refine T_freeze 22 (by rw [hF]; rfl) rfl rfl rfl ?_
          refine T_ret ?_
          obtain rfl := someI hm
          refine ⟨[_], [0], ⟨rfl, trivial⟩, ?_, rfl, rfl, rfl, rfl⟩
          rfl
      · unfold m_spec_l03DrawBody_F_L0 at hm
        refine T_seq ?_
        refine T_seq ?_
        refine T_region ?_
        refine TL_pure rfl rfl rfl rfl (op_move rfl) ?_
        refine TL_pure rfl rfl rfl rfl (op_gtr rfl rfl) ?_
        refine TL_nil ?_
        refine T_cond rfl (fun hq => ?_) (fun hq => ?_)
        · replace hm := condT hq hm
          refine T_skip ?_
          refine T_seq ?_
          refine T_block ?_
          refine T_region ?_
          refine TL_pure rfl rfl rfl rfl (op_move rfl) ?_
          refine TL_pure rfl rfl rfl rfl (op_move rfl) ?_
          refine TL_pure rfl rfl rfl rfl (op_move rfl) ?_
          refine TL_pure rfl rfl rfl rfl (op_subW rfl rfl) ?_
          obtain ⟨r79, hr79, hm⟩ := bindS hm
          refine TL_call [(0, 0)] [] [] (hrec_spec_l03DrawBody (l00Src.mk s0.1 s0.2.1 s0.2.2.1) (w64 (p1 - (1 : Int))) r79 hr79) Try.call87 rfl rfl rfl rfl rfl ⟨rfl, trivial⟩ rfl rfl rfl rfl rfl rfl rfl rfl rfl rfl rfl ?_
          obtain ⟨q80, hq80, hm⟩ := bindS hm
          refine TL_appendT (f := a_Stmt) (a := s0.2.2.2.1) (b := r79.1) el31 z69 rfl rfl rfl rfl rfl rfl rfl (capI_spec hq80) rfl rfl rfl rfl rfl ?_
          refine TL_pure rfl rfl rfl rfl (op_assign rfl) ?_
          refine TL_nil ?_
          refine T_region ?_
          refine TL_pure rfl rfl rfl rfl (op_move rfl) ?_
          refine TL_pure rfl rfl rfl rfl (op_subW rfl rfl) ?_
          refine TL_pure rfl rfl rfl rfl (op_assign rfl) ?_
          refine TL_nil ?_
          refine TR_keepH [0, 1, 5, 7, 8] [0, 22] rfl rfl rfl rfl (by rw [hF]; rfl) ?_
          obtain rfl := someI hm
          have hn := CtlOK_next hc0
          exact hn _ rfl
        · replace hm := condF hq hm
          refine T_keepH [0, 5, 7] [0, 22] rfl rfl rfl rfl (by rw [hF]; rfl) ?_
          refine T_exit ?_
          obtain rfl := someI hm
          have hn := CtlOK_out hc0
          exact hx0 (s0.1, s0.2.1, s0.2.2.1, s0.2.2.2.1) hn
    · refine T_seq ?_
      refine T_region ?_
      refine TL_pure rfl rfl rfl rfl (op_move rfl) ?_
      refine TL_nil ?_
      refine T_block ?_
      refine T_seq ?_
      refine T_region ?_
      refine TL_pure rfl rfl rfl rfl (op_eql rfl rfl) ?_
      refine TL_pure rfl rfl rfl rfl (op_assign rfl) ?_
      refine TL_nil ?_
      refine T_cond rfl (fun hq => ?_) (fun hq => ?_)
      · replace hm := condT hq hm
        refine T_seq ?_
        refine T_region ?_
        refine TL_pure rfl rfl rfl rfl (op_move rfl) ?_
        obtain ⟨r23, hr23, hm⟩ := bindS hm
        refine TL_call [(0, 0)] [] [] (c_spec_l00Src_pick (l00Src.mk j0.1 j0.2.1 j0.2.2.1) (4 : Int) r23 hr23) Try.call86 rfl rfl rfl rfl rfl ⟨rfl, trivial⟩ rfl rfl rfl rfl rfl rfl rfl rfl rfl rfl rfl ?_
        refine TL_pure rfl rfl rfl rfl (op_fieldAddr fa69_1 rfl rfl) ?_
        refine TL_store_box sz2 rfl rfl rfl rfl rfl rfl rfl rfl rfl ?_
        refine TL_nil ?_
        refine T_region ?_
        refine TL_pure rfl rfl rfl rfl (op_move rfl) ?_
        obtain ⟨r26, hr26, hm⟩ := bindS hm
        refine TL_call [(0, 0)] [(1000, 23)] [] (c_spec_l03DrawTerm r23.2 r26 hr26) Try.call105 rfl rfl rfl rfl rfl ⟨rfl, trivial⟩ rfl rfl rfl rfl rfl rfl rfl rfl rfl rfl rfl ?_
        refine TL_pure rfl rfl rfl rfl (op_fieldAddr fa69_3 rfl rfl) ?_
        refine TL_store_box sz67 rfl rfl rfl rfl rfl rfl rfl rfl rfl ?_
        refine TL_nil ?_
        refine T_ownNilBox 13 6 24 ⟨false, true⟩ 2 rfl rfl rfl (sz := 1) rfl rfl rfl rfl ?_
        refine T_ownNilBox 13 7 25 ⟨false, true⟩ 67 rfl rfl rfl (sz := 2) rfl rfl rfl rfl ?_
        refine T_keepH [0, 1, 5, 6] [0, 13, 23, 24, 25] rfl rfl rfl rfl (by rw [hF]; rfl) ?_
        refine T_ren [(0, 0), (13, 13), (23, 14), (24, 70003), (25, 70004)] rfl rfl rfl (by rw [hF]; rfl) ?_
        exact hj1 (r26.2.code, r26.2.at_, r26.2.seed, r23.1, (0 : Int), r26.1.Const, r26.1.Coeffs, (0 : Int), ([] : List Int), ([] : List Term)) hm
      · replace hm := condF hq hm
        refine T_seq ?_
        refine T_region ?_
        refine TL_pure rfl rfl rfl rfl (op_eql rfl rfl) ?_
        refine TL_pure rfl rfl rfl rfl (op_assign rfl) ?_
        refine TL_nil ?_
        refine T_cond rfl (fun hq => ?_) (fun hq => ?_)
        · replace hm := condT hq hm
          refine T_seq ?_
          refine T_region ?_
          refine TL_pure rfl rfl rfl rfl (op_move rfl) ?_
          obtain ⟨r31, hr31, hm⟩ := bindS hm
          refine TL_call [(0, 0)] [] [] (c_spec_l00Src_pick (l00Src.mk j0.1 j0.2.1 j0.2.2.1) (4 : Int) r31 hr31) Try.call86 rfl rfl rfl rfl rfl ⟨rfl, trivial⟩ rfl rfl rfl rfl rfl rfl rfl rfl rfl rfl rfl ?_
          refine TL_pure rfl rfl rfl rfl (op_fieldAddr fa69_1 rfl rfl) ?_
          refine TL_store_box sz2 rfl rfl rfl rfl rfl rfl rfl rfl rfl ?_
          refine TL_nil ?_
          refine T_region ?_
          refine TL_pure rfl rfl rfl rfl (op_move rfl) ?_
          obtain ⟨r34, hr34, hm⟩ := bindS hm
          refine TL_call [(0, 0)] [(1000, 26)] [] (c_spec_l03DrawIndex r31.2 r34 hr34) Try.call108 rfl rfl rfl rfl rfl ⟨rfl, trivial⟩ rfl rfl rfl rfl rfl rfl rfl rfl rfl rfl rfl ?_
          refine TL_pure rfl rfl rfl rfl (op_fieldAddr fa69_4 rfl rfl) ?_
          refine TL_store_box sz67 rfl rfl rfl rfl rfl rfl rfl rfl rfl ?_
          refine TL_nil ?_
          refine T_ownNilBox 13 4 27 ⟨false, true⟩ 2 rfl rfl rfl (sz := 1) rfl rfl rfl rfl ?_
          refine T_ownNilBox 13 7 28 ⟨false, true⟩ 67 rfl rfl rfl (sz := 2) rfl rfl rfl rfl ?_
          refine T_keepH [0, 1, 5, 6] [0, 13, 26, 27, 28] rfl rfl rfl rfl (by rw [hF]; rfl) ?_
          refine T_ren [(0, 0), (13, 13), (26, 70003), (27, 14), (28, 70004)] rfl rfl rfl (by rw [hF]; rfl) ?_
          refine T_keepH [0, 1, 5, 6] [0, 13, 14, 70003, 70004] rfl rfl rfl rfl (by rw [hF]; rfl) ?_
          exact hj1 (r34.2.code, r34.2.at_, r34.2.seed, r31.1, (0 : Int), (0 : Int), ([] : List Int), r34.1.Const, r34.1.Coeffs, ([] : List Term)) hm
        · replace hm := condF hq hm
          refine T_seq ?_
          refine T_region ?_
          refine TL_pure rfl rfl rfl rfl (op_eql rfl rfl) ?_
          refine TL_pure rfl rfl rfl rfl (op_assign rfl) ?_
          refine TL_nil ?_
          refine T_cond rfl (fun hq => ?_) (fun hq => ?_)
          · replace hm := condT hq hm
            refine T_seq ?_
            refine T_region ?_
            refine TL_pure rfl rfl rfl rfl (op_move rfl) ?_
            obtain ⟨r39, hr39, hm⟩ := bindS hm
            refine TL_call [(0, 0)] [(1000, 29)] [] (c_spec_l03DrawIndex (l00Src.mk j0.1 j0.2.1 j0.2.2.1) r39 hr39) Try.call108 rfl rfl rfl rfl rfl ⟨rfl, trivial⟩ rfl rfl rfl rfl rfl rfl rfl rfl rfl rfl rfl ?_
            refine TL_pure rfl rfl rfl rfl (op_fieldAddr fa69_4 rfl rfl) ?_
            refine TL_store_box sz67 rfl rfl rfl rfl rfl rfl rfl rfl rfl ?_
            refine TL_nil ?_
            refine T_region ?_
            refine TL_pure rfl rfl rfl rfl (op_move rfl) ?_
            obtain ⟨r42, hr42, hm⟩ := bindS hm
            refine TL_call [(0, 0)] [(1000, 30)] [] (c_spec_l03DrawTerm r39.2 r42 hr42) Try.call105 rfl rfl rfl rfl rfl ⟨rfl, trivial⟩ rfl rfl rfl rfl rfl rfl rfl rfl rfl rfl rfl ?_
            refine TL_pure rfl rfl rfl rfl (op_fieldAddr fa69_3 rfl rfl) ?_
            refine TL_store_box sz67 rfl rfl rfl rfl rfl rfl rfl rfl rfl ?_
            refine TL_nil ?_
            refine T_ownNilBox 13 7 31 ⟨false, true⟩ 67 rfl rfl rfl (sz := 2) rfl rfl rfl rfl ?_
            refine T_keepH [0, 1, 5, 6] [0, 13, 29, 30, 31] rfl rfl rfl rfl (by rw [hF]; rfl) ?_
            refine T_ren [(0, 0), (13, 13), (29, 70003), (30, 14), (31, 70004)] rfl rfl rfl (by rw [hF]; rfl) ?_
            refine T_keepH [0, 1, 5, 6] [0, 13, 14, 70003, 70004] rfl rfl rfl rfl (by rw [hF]; rfl) ?_
            exact hj1 (r42.2.code, r42.2.at_, r42.2.seed, (0 : Int), (0 : Int), r42.1.Const, r42.1.Coeffs, r39.1.Const, r39.1.Coeffs, ([] : List Term)) hm
          · replace hm := condF hq hm
            refine T_seq ?_
            refine T_region ?_
            refine TL_pure rfl rfl rfl rfl (op_eql rfl rfl) ?_
            refine TL_pure rfl rfl rfl rfl (op_assign rfl) ?_
            refine TL_nil ?_
            refine T_cond rfl (fun hq => ?_) (fun hq => ?_)
            · replace hm := condT hq hm
              refine T_region ?_
              refine TL_pure rfl rfl rfl rfl (op_move rfl) ?_
              obtain ⟨r47, hr47, hm⟩ := bindS hm
              refine TL_call [(0, 0)] [] [] (c_spec_l00Src_pick (l00Src.mk j0.1 j0.2.1 j0.2.2.1) (4 : Int) r47 hr47) Try.call86 rfl rfl rfl rfl rfl ⟨rfl, trivial⟩ rfl rfl rfl rfl rfl rfl rfl rfl rfl rfl rfl ?_
              refine TL_pure rfl rfl rfl rfl (op_fieldAddr fa69_2 rfl rfl) ?_
              refine TL_store_box sz2 rfl rfl rfl rfl rfl rfl rfl rfl rfl ?_
              refine TL_nil ?_
              refine T_ownNilBox 13 4 32 ⟨false, true⟩ 2 rfl rfl rfl (sz := 1) rfl rfl rfl rfl ?_
              refine T_ownNilBox 13 6 33 ⟨false, true⟩ 2 rfl rfl rfl (sz := 1) rfl rfl rfl rfl ?_
              refine T_ownNilBox 13 7 34 ⟨false, true⟩ 67 rfl rfl rfl (sz := 2) rfl rfl rfl rfl ?_
              refine T_keepH [0, 1, 5, 6] [0, 13, 32, 33, 34] rfl rfl rfl rfl (by rw [hF]; rfl) ?_
              refine T_ren [(0, 0), (13, 13), (32, 14), (33, 70003), (34, 70004)] rfl rfl rfl (by rw [hF]; rfl) ?_
              exact hj1 (r47.2.code, r47.2.at_, r47.2.seed, (0 : Int), r47.1, (0 : Int), ([] : List Int), (0 : Int), ([] : List Int), ([] : List Term)) hm
            · replace hm := condF hq hm
              refine T_seq ?_
              refine T_region ?_
              refine TL_pure rfl rfl rfl rfl (op_eql rfl rfl) ?_
              refine TL_pure rfl rfl rfl rfl (op_assign rfl) ?_
              refine TL_nil ?_
              refine T_cond rfl (fun hq => ?_) (fun hq => ?_)
              · replace hm := condT hq hm
                refine T_region ?_
                refine TL_pure rfl rfl rfl rfl (op_move rfl) ?_
                obtain ⟨r52, hr52, hm⟩ := bindS hm
                refine TL_call [(0, 0)] [(1000, 35)] [] (c_spec_l03DrawTerm (l00Src.mk j0.1 j0.2.1 j0.2.2.1) r52 hr52) Try.call105 rfl rfl rfl rfl rfl ⟨rfl, trivial⟩ rfl rfl rfl rfl rfl rfl rfl rfl rfl rfl rfl ?_
                refine TL_pure rfl rfl rfl rfl (op_fieldAddr fa69_3 rfl rfl) ?_
                refine TL_store_box sz67 rfl rfl rfl rfl rfl rfl rfl rfl rfl ?_
                refine TL_nil ?_
                refine T_ownNilBox 13 6 36 ⟨false, true⟩ 2 rfl rfl rfl (sz := 1) rfl rfl rfl rfl ?_
                refine T_ownNilBox 13 7 37 ⟨false, true⟩ 67 rfl rfl rfl (sz := 2) rfl rfl rfl rfl ?_
                refine T_keepH [0, 1, 5, 6] [0, 13, 35, 36, 37] rfl rfl rfl rfl (by rw [hF]; rfl) ?_
                refine T_ren [(0, 0), (13, 13), (35, 14), (36, 70003), (37, 70004)] rfl rfl rfl (by rw [hF]; rfl) ?_
                exact hj1 (r52.2.code, r52.2.at_, r52.2.seed, (0 : Int), (0 : Int), r52.1.Const, r52.1.Coeffs, (0 : Int), ([] : List Int), ([] : List Term)) hm
              · replace hm := condF hq hm
                refine T_seq ?_
                refine T_region ?_
                refine TL_pure rfl rfl rfl rfl (op_eql rfl rfl) ?_
                refine TL_pure rfl rfl rfl rfl (op_assign rfl) ?_
                refine TL_nil ?_
                refine T_cond rfl (fun hq => ?_) (fun hq => ?_)
                · replace hm := condT hq hm
                  refine T_region ?_
                  refine TL_pure rfl rfl rfl rfl (op_move rfl) ?_
                  obtain ⟨r57, hr57, hm⟩ := bindS hm
                  refine TL_call [(0, 0)] [(1000, 38)] [] (c_spec_l03DrawTerm (l00Src.mk j0.1 j0.2.1 j0.2.2.1) r57 hr57) Try.call105 rfl rfl rfl rfl rfl ⟨rfl, trivial⟩ rfl rfl rfl rfl rfl rfl rfl rfl rfl rfl rfl ?_
                  refine TL_pure rfl rfl rfl rfl (op_fieldAddr fa69_3 rfl rfl) ?_
                  refine TL_store_box sz67 rfl rfl rfl rfl rfl rfl rfl rfl rfl ?_
                  refine TL_nil ?_
                  refine T_ownNilBox 13 6 39 ⟨false, true⟩ 2 rfl rfl rfl (sz := 1) rfl rfl rfl rfl ?_
                  refine T_ownNilBox 13 7 40 ⟨false, true⟩ 67 rfl rfl rfl (sz := 2) rfl rfl rfl rfl ?_
                  refine T_keepH [0, 1, 5, 6] [0, 13, 38, 39, 40] rfl rfl rfl rfl (by rw [hF]; rfl) ?_
                  refine T_ren [(0, 0), (13, 13), (38, 14), (39, 70003), (40, 70004)] rfl rfl rfl (by rw [hF]; rfl) ?_
                  exact hj1 (r57.2.code, r57.2.at_, r57.2.seed, (0 : Int), (0 : Int), r57.1.Const, r57.1.Coeffs, (0 : Int), ([] : List Int), ([] : List Term)) hm
                · replace hm := condF hq hm
                  refine T_seq ?_
                  refine T_region ?_
                  refine TL_pure rfl rfl rfl rfl (op_eql rfl rfl) ?_
                  refine TL_pure rfl rfl rfl rfl (op_assign rfl) ?_
                  refine TL_nil ?_
                  refine T_cond rfl (fun hq => ?_) (fun hq => ?_)
                  · replace hm := condT hq hm
                    refine T_seq ?_
                    refine T_region ?_
                    refine TL_pure rfl rfl rfl rfl (op_move rfl) ?_
                    obtain ⟨r62, hr62, hm⟩ := bindS hm
                    refine TL_call [(0, 0)] [(1000, 41)] [] (c_spec_l03DrawTerm (l00Src.mk j0.1 j0.2.1 j0.2.2.1) r62 hr62) Try.call105 rfl rfl rfl rfl rfl ⟨rfl, trivial⟩ rfl rfl rfl rfl rfl rfl rfl rfl rfl rfl rfl ?_
                    refine TL_pure rfl rfl rfl rfl (op_fieldAddr fa69_3 rfl rfl) ?_
                    refine TL_store_box sz67 rfl rfl rfl rfl rfl rfl rfl rfl rfl ?_
                    refine TL_nil ?_
                    refine T_region ?_
                    refine TL_pure rfl rfl rfl rfl (op_move rfl) ?_
                    obtain ⟨r65, hr65, hm⟩ := bindS hm
                    refine TL_call [(0, 0)] [(1000, 42)] [] (c_spec_l03DrawFacts r62.2 r65 hr65) Try.call85 rfl rfl rfl rfl rfl ⟨rfl, trivial⟩ rfl rfl rfl rfl rfl rfl rfl rfl rfl rfl rfl ?_
                    refine TL_pure rfl rfl rfl rfl (op_fieldAddr fa69_5 rfl rfl) ?_
                    refine TL_store_box sz30 rfl rfl rfl rfl rfl rfl rfl rfl rfl ?_
                    refine TL_nil ?_
                    refine T_ownNilBox 13 6 43 ⟨false, true⟩ 2 rfl rfl rfl (sz := 1) rfl rfl rfl rfl ?_
                    refine T_keepH [0, 1, 5, 6] [0, 13, 41, 42, 43] rfl rfl rfl rfl (by rw [hF]; rfl) ?_
                    refine T_ren [(0, 0), (13, 13), (41, 14), (42, 70004), (43, 70003)] rfl rfl rfl (by rw [hF]; rfl) ?_
                    refine T_keepH [0, 1, 5, 6] [0, 13, 14, 70003, 70004] rfl rfl rfl rfl (by rw [hF]; rfl) ?_
                    exact hj1 (r65.2.code, r65.2.at_, r65.2.seed, (0 : Int), (0 : Int), r62.1.Const, r62.1.Coeffs, (0 : Int), ([] : List Int), r65.1) hm
                  · replace hm := condF hq hm
                    refine T_skip ?_
                    refine T_ownNilBox 13 4 44 ⟨false, true⟩ 2 rfl rfl rfl (sz := 1) rfl rfl rfl rfl ?_
                    refine T_ownNilBox 13 6 45 ⟨false, true⟩ 2 rfl rfl rfl (sz := 1) rfl rfl rfl rfl ?_
                    refine T_ownNilBox 13 7 46 ⟨false, true⟩ 67 rfl rfl rfl (sz := 2) rfl rfl rfl rfl ?_
                    refine T_keepH [0, 1, 5, 6] [0, 13, 44, 45, 46] rfl rfl rfl rfl (by rw [hF]; rfl) ?_
                    refine T_ren [(0, 0), (13, 13), (44, 14), (45, 70003), (46, 70004)] rfl rfl rfl (by rw [hF]; rfl) ?_
                    exact hj1 (j0.1, j0.2.1, j0.2.2.1, (0 : Int), (0 : Int), (0 : Int), ([] : List Int), (0 : Int), ([] : List Int), ([] : List Term)) hm
  · refine T_seq ?_
    refine T_region ?_
    refine TL_pure rfl rfl rfl rfl (op_move rfl) ?_
    refine TL_pure rfl rfl rfl rfl (op_gtr rfl rfl) ?_
    refine TL_nil ?_
    refine T_cond rfl (fun hq => ?_) (fun hq => ?_)
    · replace hm := condT hq hm
      refine T_region ?_
      refine TL_pure rfl rfl rfl rfl (op_move rfl) ?_
      refine TL_buildSlice 47 (es := List.map a_i64 [(1 : Int), (1 : Int), (1 : Int), (7 : Int), (8 : Int), (2 : Int), (5 : Int), (4 : Int)]) el27 z2 rfl rfl rfl rfl rfl rfl rfl rfl rfl ?_
      refine TL_freeze 47 (by rw [hF]; rfl) rfl rfl rfl ?_
      obtain ⟨r16, hr16, hm⟩ := bindS hm
      refine TL_call [(0, 0)] [] [] (c_spec_l00Src_among r11.2 [(1 : Int), (1 : Int), (1 : Int), (7 : Int), (8 : Int), (2 : Int), (5 : Int), (4 : Int)] r16 hr16) Try.call107 rfl rfl rfl rfl rfl ⟨rfl, trivial⟩ rfl rfl rfl rfl rfl rfl rfl rfl rfl rfl rfl ?_
      refine TL_pure rfl rfl rfl rfl (op_assign rfl) ?_
      refine TL_nil ?_
      refine T_keepH [0, 1, 5] [0] rfl rfl rfl rfl (by rw [hF]; rfl) ?_
      exact hj0 (r16.2.code, r16.2.at_, r16.2.seed, r16.1) hm
    · replace hm := condF hq hm
      refine T_skip ?_
      refine T_keepH [0, 1, 5] [0] rfl rfl rfl rfl (by rw [hF]; rfl) ?_
      exact hj0 (r11.2.code, r11.2.at_, r11.2.seed, r11.1) hm
theorem c_spec_l03DrawBody : ∀ (n : Nat) (p0 : l00Src) (p1 : Int) (out : (List Stmt) × l00Src), m_spec_l03DrawBody n p0 p1 = some out → ACall Try.prog 87 [.ptr 0 0 0, .int .i64 p1] [(0, .box [.sl 1 (List.map a_u8 p0.code), .int .i64 p0.at_, .int .u64 p0.seed])] (.sl 8 (List.map a_Stmt out.1)) [(0, .box [.sl 1 (List.map a_u8 out.2.code), .int .i64 out.2.at_, .int .u64 out.2.seed])] := by
  intro n
  induction n with
  | zero => intro p0 p1 out hm; cases hm
  | succ n ih => intro p0 p1 out hm; exact c_spec_l03DrawBody_F (m_spec_l03DrawBody n) ih p0 p1 out hm
theorem c_spec_l03DrawOk (p0 : l00Src) (out : Program × l00Src) (hm : m_spec_l03DrawOk p0 = some out) : ACall Try.prog 58 [.ptr 0 0 0] [(0, .box [.sl 1 (List.map a_u8 p0.code), .int .i64 p0.at_, .int .u64 p0.seed])] (.agg [.sl 2 (List.map a_Term out.1.Pre), .sl 8 (List.map a_Stmt out.1.Body), .sl 2 (List.map a_Term out.1.Post)]) [(0, .box [.sl 1 (List.map a_u8 out.2.code), .int .i64 out.2.at_, .int .u64 out.2.seed])] := by
  refine ACall.intro Try.func58 rfl Try.ntmps58 rfl (fun F hF => ?_)
  unfold m_spec_l03DrawOk at hm
  refine T_seq ?_
  refine T_region ?_
  refine TL_alloc 11 z33 rfl rfl rfl rfl rfl rfl rfl ?_
  refine TL_nil ?_
  refine T_seq ?_
  refine T_region ?_
  refine TL_pure rfl rfl rfl rfl (op_move rfl) ?_
  obtain ⟨r6, hr6, hm⟩ := bindS hm
  refine TL_call [(0, 0)] [(1000, 12)] [] (c_spec_l03DrawFacts p0 r6 hr6) Try.call85 rfl rfl rfl rfl rfl ⟨rfl, trivial⟩ rfl rfl rfl rfl rfl rfl rfl rfl rfl rfl rfl ?_
  refine TL_pure rfl rfl rfl rfl (op_buildP pl33 z33 rfl rfl rfl rfl rfl) ?_
  refine TL_alloc 13 z33 rfl rfl rfl rfl rfl rfl rfl ?_
  refine TL_store_box sz33 rfl rfl rfl rfl rfl rfl rfl rfl rfl ?_
  refine TL_nil ?_
  refine T_seq ?_
  refine T_region ?_
  refine TL_pure rfl rfl rfl rfl (op_move rfl) ?_
  obtain ⟨r9, hr9, hm⟩ := bindS hm
  refine TL_call [(0, 0)] [] [] (c_spec_l00Src_pick r6.2 (4 : Int) r9 hr9) Try.call86 rfl rfl rfl rfl rfl ⟨rfl, trivial⟩ rfl rfl rfl rfl rfl rfl rfl rfl rfl rfl rfl ?_
  refine TL_pure rfl rfl rfl rfl (op_assign rfl) ?_
  refine TL_nil ?_
  refine T_seq ?_
  refine T_region ?_
  refine TL_pure rfl rfl rfl rfl (op_move rfl) ?_
  refine TL_pure rfl rfl rfl rfl (op_move rfl) ?_
  obtain ⟨r12, hr12, hm⟩ := bindS hm
  refine TL_call [(0, 0)] [] [] (c_spec_l03DrawBody 1000 r9.2 r9.1 r12 hr12) Try.call87 rfl rfl rfl rfl rfl ⟨rfl, trivial⟩ rfl rfl rfl rfl rfl rfl rfl rfl rfl rfl rfl ?_
  refine TL_pure rfl rfl rfl rfl (op_fieldAddr fa33_1 rfl rfl) ?_
  refine TL_store_box sz31 rfl rfl rfl rfl rfl rfl rfl rfl rfl ?_
  refine TL_nil ?_
  refine T_seq ?_
  refine T_region ?_
  refine TL_pure rfl rfl rfl rfl (op_move rfl) ?_
  obtain ⟨r15, hr15, hm⟩ := bindS hm
  refine TL_call [(0, 0)] [(1000, 14)] [] (c_spec_l03DrawFacts r12.2 r15 hr15) Try.call85 rfl rfl rfl rfl rfl ⟨rfl, trivial⟩ rfl rfl rfl rfl rfl rfl rfl rfl rfl rfl rfl ?_
  refine TL_pure rfl rfl rfl rfl (op_fieldAddr fa33_2 rfl rfl) ?_
  refine TL_store_box sz30 rfl rfl rfl rfl rfl rfl rfl rfl rfl ?_
  refine TL_nil ?_
  refine T_seq ?_
  refine T_seq ?_
  refine T_region ?_
  refine TL_pure rfl rfl rfl rfl (op_fieldAddr fa33_1 rfl rfl) ?_
  refine TL_pure rfl rfl rfl rfl (op_load_one ag31 rfl rfl) ?_
  refine TL_pure rfl rfl rfl rfl (op_lenT Try.underlying31 rfl (List.length_map _)) ?_
  refine TL_fact (fun _ _ _ hr => RelP.slLen (i := 18) rfl hr) (fun hlen19 => ?_)
  rw [List.length_map] at hlen19
  refine TL_pure rfl rfl rfl rfl (op_gtr rfl rfl) ?_
  refine TL_nil ?_
  refine T_cond rfl (fun hq => ?_) (fun hq => ?_)
  · replace hm := condT hq hm
    refine T_region ?_
    refine TL_pure rfl rfl rfl rfl (op_buildP pl69 z69 rfl rfl rfl rfl rfl) ?_
    refine TL_ownNilAt 21 4 16 ⟨false, true⟩ 2 rfl rfl rfl (sz := 1) rfl rfl rfl rfl ?_
    refine TL_ownNilAt 21 6 17 ⟨false, true⟩ 2 rfl rfl rfl (sz := 1) rfl rfl rfl rfl ?_
    refine TL_ownNilAt 21 7 18 ⟨false, true⟩ 67 rfl rfl rfl (sz := 2) rfl rfl rfl rfl ?_
    refine TL_buildSliceD (ids := [16, 17, 18]) (es := List.map a_Stmt ([(Stmt.mk (0 : Int) (0 : Int) (0 : Int) (Term.mk (0 : Int) ([] : List Int)) (Term.mk (0 : Int) ([] : List Int)) ([] : List Term))])) 15 el31 z69 rfl rfl rfl rfl rfl rfl (by rw [hF]; intro j hj; simp only [List.mem_cons, List.not_mem_nil, or_false] at hj; rcases hj with rfl | rfl | rfl <;> rfl) rfl rfl rfl rfl rfl rfl ?_
    refine TL_pure rfl rfl rfl rfl (op_fieldAddr fa33_1 rfl rfl) ?_
    refine TL_store_box sz31 rfl rfl rfl rfl rfl rfl rfl rfl rfl ?_
    refine TL_nil ?_
    refine T_seq ?_
    refine T_region ?_
    refine TL_pure rfl rfl rfl rfl (op_load_agg ag33 sz33 rfl rfl rfl) ?_
    refine TL_store_box sz33 rfl rfl rfl rfl rfl rfl rfl rfl rfl ?_
    refine TL_nil ?_
    refine T_keepH [2] [0, 11, 12, 14, 15] rfl rfl rfl rfl (by rw [hF]; rfl) ?_
    refine T_freeze 12 (by rw [hF]; rfl) rfl rfl rfl ?_
    refine T_freeze 15 (by rw [hF]; rfl) rfl rfl rfl ?_
    refine T_freeze 14 (by rw [hF]; rfl) rfl rfl rfl ?_
    refine T_ret ?_
    obtain rfl := someI hm
    refine ⟨[_], [0], ⟨⟨_, _, rfl, rfl, .inr ⟨ag33, _, _, sz33, rfl, rfl⟩⟩, trivial⟩, ?_, rfl, rfl, rfl, rfl⟩
    rfl
  · replace hm := condF hq hm
    refine T_skip ?_
    refine T_seq ?_
    refine T_region ?_
    refine TL_pure rfl rfl rfl rfl (op_load_agg ag33 sz33 rfl rfl rfl) ?_
    refine TL_store_box sz33 rfl rfl rfl rfl rfl rfl rfl rfl rfl ?_
    refine TL_nil ?_
    refine T_keepH [2] [0, 11, 12, 14] rfl rfl rfl rfl (by rw [hF]; rfl) ?_
    refine T_freeze 12 (by rw [hF]; rfl) rfl rfl rfl ?_
    refine T_freeze 14 (by rw [hF]; rfl) rfl rfl rfl ?_
    refine T_ret ?_
    obtain rfl := someI hm
    refine ⟨[_], [0], ⟨⟨_, _, rfl, rfl, .inr ⟨ag33, _, _, sz33, rfl, rfl⟩⟩, trivial⟩, ?_, rfl, rfl, rfl, rfl⟩
    rfl
theorem c_spec_R8Program (p0 : List Int) (out : Program) (hm : m_spec_R8Program p0 = some out) : ACall Try.prog 30 [.sl 1 (List.map a_u8 p0)] [] (.agg [.sl 2 (List.map a_Term out.Pre), .sl 8 (List.map a_Stmt out.Body), .sl 2 (List.map a_Term out.Post)]) [] := by
  refine ACall.intro Try.func30 rfl Try.ntmps30 rfl (fun F hF => ?_)
  unfold m_spec_R8Program at hm
  refine T_seq ?_
  refine T_region ?_
  refine TL_alloc 11 z33 rfl rfl rfl rfl rfl rfl rfl ?_
  refine TL_nil ?_
  refine T_seq ?_
  refine T_region ?_
  refine TL_pure rfl rfl rfl rfl (op_move rfl) ?_
  obtain ⟨r5, hr5, hm⟩ := bindS hm
  refine TLE_call [] [(1000, 12)] [] (c_spec_l00From p0 r5 hr5) (fun _ => rfl) Try.call57 rfl rfl rfl rfl rfl trivial rfl rfl rfl rfl rfl rfl rfl rfl rfl rfl rfl ?_
  refine TL_pure rfl rfl rfl rfl (op_assign rfl) ?_
  refine TL_nil ?_
  refine T_seq ?_
  refine T_region ?_
  refine TL_pure rfl rfl rfl rfl (op_move rfl) ?_
  obtain ⟨r7, hr7, hm⟩ := bindS hm
  refine TL_call [(0, 12)] [] [] (c_spec_l03DrawOk r5 r7 hr7) Try.call58 rfl rfl rfl rfl rfl ⟨rfl, trivial⟩ rfl rfl rfl rfl rfl rfl rfl rfl rfl rfl rfl ?_
  refine TL_store_box sz33 rfl rfl rfl rfl rfl rfl rfl rfl rfl ?_
  refine TL_nil ?_
  refine T_keepH [2] [11] rfl rfl rfl rfl (by rw [hF]; rfl) ?_
  refine T_ret ?_
  obtain rfl := someI hm
  refine ⟨[_], [], ⟨⟨_, _, rfl, rfl, .inr ⟨ag33, _, _, sz33, rfl, rfl⟩⟩, trivial⟩, ?_, rfl, rfl, rfl, rfl⟩
  rfl
theorem c_impl_Term_isZero (p0 : Term) (out : Bool) (hm : m_impl_Term_isZero p0 = some out) : ACall Try.prog 128 [.agg [.int .i64 p0.Const, .sl 1 (List.map a_i64 p0.Coeffs)]] [] (.bool out) [] := by
  refine ACall.intro Try.func128 rfl Try.ntmps128 rfl (fun F hF => ?_)
  unfold m_impl_Term_isZero at hm
  refine T_seq ?_
  refine T_region ?_
  refine TL_box 11 rfl rfl rfl rfl rfl rfl rfl ?_
  refine TL_pure rfl rfl rfl rfl (op_assign rfl) ?_
  refine TL_nil ?_
  refine T_seq ?_
  refine T_region ?_
  refine TL_pure rfl rfl rfl rfl (op_fieldAddr fa67_0 rfl rfl) ?_
  refine TL_pure rfl rfl rfl rfl (op_load_one ag2 rfl rfl) ?_
  refine TL_pure rfl rfl rfl rfl (op_eql rfl rfl) ?_
  refine TL_pure rfl rfl rfl rfl (op_move rfl) ?_
  refine TL_join 5 (fun _ : Unit => ⟨[(11, .bool ((decide (p0.Const = (0 : Int))) && (decide ((p0.Coeffs.length : Int) = (0 : Int)))))], []⟩) (fun _ => True) (fun _ _ => ?_) (fun hjj => ?_)
  · refine TL_pure rfl rfl rfl rfl (op_assign rfl) ?_
    refine TL_nil ?_
    refine T_keepH [2] [] rfl rfl rfl rfl (by rw [hF]; rfl) ?_
    refine T_ret ?_
    obtain rfl := someI hm
    refine ⟨[_], [], ⟨rfl, trivial⟩, ?_, rfl, rfl, rfl, rfl⟩
    rfl
  · refine TL_split 6 rfl rfl rfl (fun hq => ?_) (fun hq => ?_)
    · refine TL_want rfl rfl ?_
      refine TL_pure rfl rfl rfl rfl (op_fieldAddr fa67_1 rfl rfl) ?_
      refine TL_want rfl rfl ?_
      refine TL_pure rfl rfl rfl rfl (op_load_one ag27 rfl rfl) ?_
      refine TL_want rfl rfl ?_
      refine TL_pure rfl rfl rfl rfl (op_lenT Try.underlying27 rfl (List.length_map _)) ?_
      refine TL_fact (fun _ _ _ hr => RelP.slLen (i := 8) rfl hr) (fun hlen9 => ?_)
      rw [List.length_map] at hlen9
      refine TL_want rfl rfl ?_
      refine TL_pure rfl rfl rfl rfl (op_eql rfl rfl) ?_
      refine TL_pure rfl rfl rfl rfl (op_pick_true rfl rfl) ?_
      refine TL_keepH [11] [] rfl rfl rfl rfl (by rw [hF]; rfl) ?_
      exact TL_cast _ (by first | (rw [hq, Bool.true_and]; done) | (rw [hq]; rfl)) (hjj () trivial)
    · refine TL_pass rfl rfl rfl rfl rfl rfl rfl ?_
      refine TL_pass rfl rfl rfl rfl rfl rfl rfl ?_
      refine TL_pass rfl rfl rfl rfl rfl rfl rfl ?_
      refine TL_pass rfl rfl rfl rfl rfl rfl rfl ?_
      refine TL_pure rfl rfl rfl rfl (op_pick_false rfl rfl) ?_
      refine TL_keepH [11] [] rfl rfl rfl rfl (by rw [hF]; rfl) ?_
      exact TL_cast _ (by first | (rw [hq, Bool.false_and]; done) | (rw [hq]; rfl)) (hjj () trivial)
theorem c_impl_within (p0 : Int) (p1 : Int) (p2 : Int) (out : Bool) (hm : m_impl_within p0 p1 p2 = some out) : ACall Try.prog 63 [.int .i64 p0, .int .i64 p1, .int .i64 p2] [] (.bool out) [] := by
  refine ACall.intro Try.func63 rfl Try.ntmps63 rfl (fun F hF => ?_)
  unfold m_impl_within at hm
  refine T_seq ?_
  refine T_region ?_
  refine TL_pure rfl rfl rfl rfl (op_assign rfl) ?_
  refine TL_nil ?_
  refine T_seq ?_
  refine T_region ?_
  refine TL_pure rfl rfl rfl rfl (op_move rfl) ?_
  refine TL_pure rfl rfl rfl rfl (op_move rfl) ?_
  refine TL_pure rfl rfl rfl rfl (op_leq rfl rfl) ?_
  refine TL_pure rfl rfl rfl rfl (op_move rfl) ?_
  refine TL_join 4 (fun _ : Unit => ⟨[(14, .bool ((decide (p1 ≤ p0)) && (decide (p0 ≤ p2))))], []⟩) (fun _ => True) (fun _ _ => ?_) (fun hjj => ?_)
  · refine TL_pure rfl rfl rfl rfl (op_assign rfl) ?_
    refine TL_nil ?_
    refine T_keepH [6] [] rfl rfl rfl rfl (by rw [hF]; rfl) ?_
    refine T_ret ?_
    obtain rfl := someI hm
    refine ⟨[_], [], ⟨rfl, trivial⟩, ?_, rfl, rfl, rfl, rfl⟩
    rfl
  · refine TL_split 10 rfl rfl rfl (fun hq => ?_) (fun hq => ?_)
    · refine TL_want rfl rfl ?_
      refine TL_pure rfl rfl rfl rfl (op_move rfl) ?_
      refine TL_want rfl rfl ?_
      refine TL_pure rfl rfl rfl rfl (op_move rfl) ?_
      refine TL_want rfl rfl ?_
      refine TL_pure rfl rfl rfl rfl (op_leq rfl rfl) ?_
      refine TL_pure rfl rfl rfl rfl (op_pick_true rfl rfl) ?_
      refine TL_keepH [14] [] rfl rfl rfl rfl (by rw [hF]; rfl) ?_
      exact TL_cast _ (by first | (rw [hq, Bool.true_and]; done) | (rw [hq]; rfl)) (hjj () trivial)
    · refine TL_pass rfl rfl rfl rfl rfl rfl rfl ?_
      refine TL_pass rfl rfl rfl rfl rfl rfl rfl ?_
      refine TL_pass rfl rfl rfl rfl rfl rfl rfl ?_
      refine TL_pure rfl rfl rfl rfl (op_pick_false rfl rfl) ?_
      refine TL_keepH [14] [] rfl rfl rfl rfl (by rw [hF]; rfl) ?_
      exact TL_cast _ (by first | (rw [hq, Bool.false_and]; done) | (rw [hq]; rfl)) (hjj () trivial)
theorem c_impl_isVar (p0 : Int) (out : Bool) (hm : m_impl_isVar p0 = some out) : ACall Try.prog 129 [.int .i64 p0] [] (.bool out) [] := by
  refine ACall.intro Try.func129 rfl Try.ntmps129 rfl (fun F hF => ?_)
  unfold m_impl_isVar at hm
  refine T_seq ?_
  refine T_region ?_
  refine TL_pure rfl rfl rfl rfl (op_assign rfl) ?_
  refine TL_nil ?_
  refine T_seq ?_
  refine T_region ?_
  refine TL_pure rfl rfl rfl rfl (op_move rfl) ?_
  obtain ⟨r4, hr4, hm⟩ := bindS hm
  refine TL_callF (c_impl_within p0 (0 : Int) (3 : Int) r4 hr4) Try.call63 rfl rfl rfl rfl rfl ?_
  refine TL_pure rfl rfl rfl rfl (op_assign rfl) ?_
  refine TL_nil ?_
  refine T_keepH [2] [] rfl rfl rfl rfl (by rw [hF]; rfl) ?_
  refine T_ret ?_
  obtain rfl := someI hm
  refine ⟨[_], [], ⟨rfl, trivial⟩, ?_, rfl, rfl, rfl, rfl⟩
  rfl
theorem c_impl_isCoeff (p0 : Int) (out : Bool) (hm : m_impl_isCoeff p0 = some out) : ACall Try.prog 131 [.int .i64 p0] [] (.bool out) [] := by
  refine ACall.intro Try.func131 rfl Try.ntmps131 rfl (fun F hF => ?_)
  unfold m_impl_isCoeff at hm
  refine T_seq ?_
  refine T_region ?_
  refine TL_pure rfl rfl rfl rfl (op_assign rfl) ?_
  refine TL_nil ?_
  refine T_seq ?_
  refine T_region ?_
  refine TL_pure rfl rfl rfl rfl (op_move rfl) ?_
  obtain ⟨r4, hr4, hm⟩ := bindS hm
  refine TL_callF (c_impl_within p0 (-1000000 : Int) (1000000 : Int) r4 hr4) Try.call63 rfl rfl rfl rfl rfl ?_
  refine TL_pure rfl rfl rfl rfl (op_assign rfl) ?_
  refine TL_nil ?_
  refine T_keepH [2] [] rfl rfl rfl rfl (by rw [hF]; rfl) ?_
  refine T_ret ?_
  obtain rfl := someI hm
  refine ⟨[_], [], ⟨rfl, trivial⟩, ?_, rfl, rfl, rfl, rfl⟩
  rfl
theorem c_impl_allWithin (p0 : List Int) (p1 : Int) (p2 : Int) (out : Bool) (hm : m_impl_allWithin p0 p1 p2 = some out) : ACall Try.prog 103 [.sl 1 (List.map a_i64 p0), .int .i64 p1, .int .i64 p2] [] (.bool out) [] := by
  refine ACall.intro Try.func103 rfl Try.ntmps103 rfl (fun F hF => ?_)
  unfold m_impl_allWithin at hm
  refine T_seq ?_
  refine T_region ?_
  refine TL_pure rfl rfl rfl rfl (op_assign rfl) ?_
  refine TL_nil ?_
  refine T_seq ?_
  refine T_seq ?_
  refine T_region ?_
  refine TL_pure rfl rfl rfl rfl (op_move rfl) ?_
  refine TL_pure rfl rfl rfl rfl (op_lenT Try.underlying27 rfl (List.length_map _)) ?_
  refine TL_fact (fun _ _ _ hr => RelP.slLen (i := 9) rfl hr) (fun hlen10 => ?_)
  rw [List.length_map] at hlen10
  refine TL_pure rfl rfl rfl rfl (op_move rfl) ?_
  refine TL_nil ?_
  refine T_block ?_
  refine T_keepH [1, 2, 9, 10, 11] [] rfl rfl rfl rfl (by rw [hF]; rfl) ?_
  refine T_loop ?_
  obtain ⟨u0, hl0, hm⟩ := bindS hm
  refine TR_forL2 p0 (m_impl_allWithin_L0 p1 p2) (fun (s0 : Unit) => (.inl ())) (fun n0 (s0 : Unit) => ⟨[(1, .int .i64 p1), (2, .int .i64 p2), (9, .sl 1 (List.map a_i64 p0)), (10, .int .i64 (p0.length : Int)), (11, .int .i64 (n0 : Int))], []⟩) (fun u0 => match u0 with | .inl u0 => .exit 0 | .inr u0 => .ret) (fun u0 => match u0 with | .inl u0 => ⟨[], []⟩ | .inr u0 => ⟨[(6, .bool u0)], []⟩) (fun u0 => m_impl_allWithin_A0 u0 = some out) hl0 hm (fun u0 hm => ?_) (fun hx0 s0 hm => ?_) (fun hx0 n0 x0 s0 c0 hxn0 hlt0 hm hc0 => ?_)
  · rcases u0 with u0 | u0
    · unfold m_impl_allWithin_A0 at hm
      refine T_seq ?_
      refine T_region ?_
      refine TL_pure rfl rfl rfl rfl (op_assign rfl) ?_
      refine TL_nil ?_
      refine T_keepH [6] [] rfl rfl rfl rfl (by rw [hF]; rfl) ?_
      refine T_ret ?_
      obtain rfl := someI hm
      refine ⟨[_], [], ⟨rfl, trivial⟩, ?_, rfl, rfl, rfl, rfl⟩
      rfl
    · unfold m_impl_allWithin_A0 at hm
      obtain rfl := someI hm
      refine ⟨[_], [], ⟨rfl, trivial⟩, ?_, rfl, rfl, rfl, rfl⟩
      rfl
  · refine T_seq ?_
    refine T_region ?_
    refine TL_pure rfl rfl rfl rfl (op_lss rfl rfl) ?_
    refine TL_nil ?_
    refine T_seq ?_
    refine T_if_false rfl (decide_eq_false (by simp)) ?_
    refine T_keepH [] [] rfl rfl rfl rfl (by rw [hF]; rfl) ?_
    refine T_exit ?_
    exact hx0 (.inl ()) hm
  · unfold m_impl_allWithin_L0 at hm
    refine T_seq ?_
    refine T_region ?_
    refine TL_pure rfl rfl rfl rfl (op_lss rfl rfl) ?_
    refine TL_nil ?_
    refine T_seq ?_
    refine T_if_true rfl (decide_eq_true (Int.ofNat_lt.2 hlt0)) ?_
    refine T_skip ?_
    refine T_seq ?_
    refine T_block ?_
    refine T_seq ?_
    refine T_region ?_
    refine TL_pure rfl rfl rfl rfl (op_index_sl el27 rfl rfl rfl (get_map hxn0) rfl) ?_
    refine TL_pure rfl rfl rfl rfl (op_load_one ag2 rfl rfl) ?_
    refine TL_pure rfl rfl rfl rfl (op_assign rfl) ?_
    refine TL_nil ?_
    refine T_seq ?_
    refine T_region ?_
    refine TL_pure rfl rfl rfl rfl (op_move rfl) ?_
    refine TL_pure rfl rfl rfl rfl (op_move rfl) ?_
    refine TL_pure rfl rfl rfl rfl (op_move rfl) ?_
    obtain ⟨r18, hr18, hm⟩ := bindS hm
    refine TL_callF (c_impl_within x0 p1 p2 r18 hr18) Try.call63 rfl rfl rfl rfl rfl ?_
    refine TL_pure rfl rfl rfl rfl (op_not rfl) ?_
    refine TL_nil ?_
    refine T_cond rfl (fun hq => ?_) (fun hq => ?_)
    · replace hm := condT hq hm
      refine T_seq ?_
      refine T_region ?_
      refine TL_pure rfl rfl rfl rfl (op_assign rfl) ?_
      refine TL_nil ?_
      refine T_keepH [6] [] rfl rfl rfl rfl (by rw [hF]; rfl) ?_
      refine T_ret ?_
      obtain rfl := someI hm
      have hn := CtlOK_out hc0
      exact hx0 (.inr false) hn
    · replace hm := condF hq hm
      refine T_skip ?_
      refine T_region ?_
      refine TL_pure rfl rfl rfl rfl (op_addN rfl rfl (Nat.lt_of_lt_of_le hlt0 hlen10)) ?_
      refine TL_pure rfl rfl rfl rfl (op_move rfl) ?_
      refine TL_nil ?_
      refine TR_keepH [1, 2, 9, 10, 11] [] rfl rfl rfl rfl (by rw [hF]; rfl) ?_
      obtain rfl := someI hm
      have hn := CtlOK_next hc0
      exact hn _ rfl
theorem c_impl_ValidTerm (p0 : Term) (out : Bool) (hm : m_impl_ValidTerm p0 = some out) : ACall Try.prog 120 [.agg [.int .i64 p0.Const, .sl 1 (List.map a_i64 p0.Coeffs)]] [] (.bool out) [] := by
  refine ACall.intro Try.func120 rfl Try.ntmps120 rfl (fun F hF => ?_)
  unfold m_impl_ValidTerm at hm
  refine T_seq ?_
  refine T_region ?_
  refine TL_box 11 rfl rfl rfl rfl rfl rfl rfl ?_
  refine TL_pure rfl rfl rfl rfl (op_assign rfl) ?_
  refine TL_nil ?_
  refine T_seq ?_
  refine T_region ?_
  refine TL_pure rfl rfl rfl rfl (op_fieldAddr fa67_1 rfl rfl) ?_
  refine TL_pure rfl rfl rfl rfl (op_load_one ag27 rfl rfl) ?_
  refine TL_pure rfl rfl rfl rfl (op_lenT Try.underlying27 rfl (List.length_map _)) ?_
  refine TL_fact (fun _ _ _ hr => RelP.slLen (i := 5) rfl hr) (fun hlen6 => ?_)
  rw [List.length_map] at hlen6
  refine TL_pure rfl rfl rfl rfl (op_assign rfl) ?_
  refine TL_nil ?_
  refine T_seq ?_
  refine T_region ?_
  refine TL_pure rfl rfl rfl rfl (op_move rfl) ?_
  refine TL_pure rfl rfl rfl rfl (op_leq rfl rfl) ?_
  refine TL_pure rfl rfl rfl rfl (op_move rfl) ?_
  refine TL_split 9 rfl rfl rfl (fun hq => ?_) (fun hq => ?_)
  · replace hm := condT hq hm
    refine TL_want rfl rfl ?_
    refine TL_pure rfl rfl rfl rfl (op_fieldAddr fa67_0 rfl rfl) ?_
    refine TL_want rfl rfl ?_
    refine TL_pure rfl rfl rfl rfl (op_load_one ag2 rfl rfl) ?_
    refine TL_want rfl rfl ?_
    obtain ⟨r12, hr12, hm⟩ := bindS hm
    refine TL_callF (c_impl_isCoeff p0.Const r12 hr12) Try.call131 rfl rfl rfl rfl rfl ?_
    refine TL_pure rfl rfl rfl rfl (op_pick_true rfl rfl) ?_
    refine TL_pure rfl rfl rfl rfl (op_move rfl) ?_
    refine TL_split 14 rfl rfl rfl (fun hq => ?_) (fun hq => ?_)
    · replace hm := condT hq hm
      refine TL_want rfl rfl ?_
      refine TL_pure rfl rfl rfl rfl (op_fieldAddr fa67_1 rfl rfl) ?_
      refine TL_want rfl rfl ?_
      refine TL_pure rfl rfl rfl rfl (op_load_one ag27 rfl rfl) ?_
      refine TL_want rfl rfl ?_
      obtain ⟨r17, hr17, hm⟩ := bindS hm
      refine TL_callF (c_impl_allWithin p0.Coeffs (-1000000 : Int) (1000000 : Int) r17 hr17) Try.call103 rfl rfl rfl rfl rfl ?_
      refine TL_pure rfl rfl rfl rfl (op_pick_true rfl rfl) ?_
      refine TL_pure rfl rfl rfl rfl (op_move rfl) ?_
      refine TL_split 19 rfl rfl rfl (fun hq => ?_) (fun hq => ?_)
      · replace hm := condT hq hm
        refine TL_want rfl rfl ?_
        refine TL_pure rfl rfl rfl rfl (op_move rfl) ?_
        refine TL_want rfl rfl ?_
        refine TL_pure rfl rfl rfl rfl (op_eql rfl rfl) ?_
        refine TL_want rfl rfl ?_
        refine TL_pure rfl rfl rfl rfl (op_move rfl) ?_
        refine TL_split 22 rfl rfl rfl (fun hq => ?_) (fun hq => ?_)
        · replace hm := condT hq hm
          refine TL_pass rfl rfl rfl rfl rfl rfl rfl ?_
          refine TL_pass rfl rfl rfl rfl rfl rfl rfl ?_
          refine TL_pass rfl rfl rfl rfl rfl rfl rfl ?_
          refine TL_pass rfl rfl rfl rfl rfl rfl rfl ?_
          refine TL_pass rfl rfl rfl rfl rfl rfl rfl ?_
          refine TL_pass rfl rfl rfl rfl rfl rfl rfl ?_
          refine TL_pass rfl rfl rfl rfl rfl rfl rfl ?_
          refine TL_want rfl rfl ?_
          refine TL_pure rfl rfl rfl rfl (op_pick_true rfl rfl) ?_
          refine TL_pure rfl rfl rfl rfl (op_pick_true rfl rfl) ?_
          refine TL_pure rfl rfl rfl rfl (op_assign rfl) ?_
          refine TL_nil ?_
          refine T_keepH [2] [] rfl rfl rfl rfl (by rw [hF]; rfl) ?_
          refine T_ret ?_
          obtain rfl := someI hm
          refine ⟨[_], [], ⟨rfl, trivial⟩, ?_, rfl, rfl, rfl, rfl⟩
          rfl
        · replace hm := condF hq hm
          refine TL_want rfl rfl ?_
          refine TL_pure rfl rfl rfl rfl (op_fieldAddr fa67_1 rfl rfl) ?_
          refine TL_want rfl rfl ?_
          refine TL_pure rfl rfl rfl rfl (op_load_one ag27 rfl rfl) ?_
          refine TL_want rfl rfl ?_
          refine TL_pure rfl rfl rfl rfl (op_move rfl) ?_
          refine TL_want rfl rfl ?_
          refine TL_pure rfl rfl rfl rfl (op_subW rfl rfl) ?_
          refine TL_want rfl rfl ?_
          obtain ⟨x27, hx27, hm⟩ := bindS hm
          refine TL_pure rfl rfl rfl rfl (op_indexT el27 rfl rfl hx27 rfl) ?_
          refine TL_want rfl rfl ?_
          refine TL_pure rfl rfl rfl rfl (op_load_one ag2 rfl rfl) ?_
          refine TL_want rfl rfl ?_
          refine TL_pure rfl rfl rfl rfl (op_neq rfl rfl) ?_
          refine TL_want rfl rfl ?_
          refine TL_pure rfl rfl rfl rfl (op_pick_false rfl rfl) ?_
          refine TL_pure rfl rfl rfl rfl (op_pick_true rfl rfl) ?_
          refine TL_pure rfl rfl rfl rfl (op_assign rfl) ?_
          refine TL_nil ?_
          refine T_keepH [2] [] rfl rfl rfl rfl (by rw [hF]; rfl) ?_
          refine T_ret ?_
          obtain rfl := someI hm
          refine ⟨[_], [], ⟨rfl, trivial⟩, ?_, rfl, rfl, rfl, rfl⟩
          rfl
      · replace hm := condF hq hm
        refine TL_pass rfl rfl rfl rfl rfl rfl rfl ?_
        refine TL_pass rfl rfl rfl rfl rfl rfl rfl ?_
        refine TL_pass rfl rfl rfl rfl rfl rfl rfl ?_
        refine TL_pass2 rfl rfl rfl rfl rfl rfl ?_
        refine TL_pass2 rfl rfl rfl rfl rfl rfl ?_
        refine TL_pass2 rfl rfl rfl rfl rfl rfl ?_
        refine TL_pass2 rfl rfl rfl rfl rfl rfl ?_
        refine TL_pass2 rfl rfl rfl rfl rfl rfl ?_
        refine TL_pass2 rfl rfl rfl rfl rfl rfl ?_
        refine TL_pass2 rfl rfl rfl rfl rfl rfl ?_
        refine TL_pass rfl rfl rfl rfl rfl rfl rfl ?_
        refine TL_pure rfl rfl rfl rfl (op_pick_false rfl rfl) ?_
        refine TL_pure rfl rfl rfl rfl (op_assign rfl) ?_
        refine TL_nil ?_
        refine T_keepH [2] [] rfl rfl rfl rfl (by rw [hF]; rfl) ?_
        refine T_ret ?_
        obtain rfl := someI hm
        refine ⟨[_], [], ⟨rfl, trivial⟩, ?_, rfl, rfl, rfl, rfl⟩
        rfl
    · replace hm := condF hq hm
      refine TL_pass rfl rfl rfl rfl rfl rfl rfl ?_
      refine TL_pass rfl rfl rfl rfl rfl rfl rfl ?_
      refine TL_pass rfl rfl rfl rfl rfl rfl rfl ?_
      refine TL_pure rfl rfl rfl rfl (op_pick_false rfl rfl) ?_
      refine TL_pure rfl rfl rfl rfl (op_move rfl) ?_
      refine TL_pass rfl rfl rfl rfl rfl rfl rfl ?_
      refine TL_pass rfl rfl rfl rfl rfl rfl rfl ?_
      refine TL_pass rfl rfl rfl rfl rfl rfl rfl ?_
      refine TL_pass2 rfl rfl rfl rfl rfl rfl ?_
      refine TL_pass2 rfl rfl rfl rfl rfl rfl ?_
      refine TL_pass2 rfl rfl rfl rfl rfl rfl ?_
      refine TL_pass2 rfl rfl rfl rfl rfl rfl ?_
      refine TL_pass2 rfl rfl rfl rfl rfl rfl ?_
      refine TL_pass2 rfl rfl rfl rfl rfl rfl ?_
      refine TL_pass2 rfl rfl rfl rfl rfl rfl ?_
      refine TL_pass rfl rfl rfl rfl rfl rfl rfl ?_
      refine TL_pure rfl rfl rfl rfl (op_pick_false rfl rfl) ?_
      refine TL_pure rfl rfl rfl rfl (op_assign rfl) ?_
      refine TL_nil ?_
      refine T_keepH [2] [] rfl rfl rfl rfl (by rw [hF]; rfl) ?_
      refine T_ret ?_
      obtain rfl := someI hm
      refine ⟨[_], [], ⟨rfl, trivial⟩, ?_, rfl, rfl, rfl, rfl⟩
      rfl
  · replace hm := condF hq hm
    refine TL_pass rfl rfl rfl rfl rfl rfl rfl ?_
    refine TL_pass rfl rfl rfl rfl rfl rfl rfl ?_
    refine TL_pass rfl rfl rfl rfl rfl rfl rfl ?_
    refine TL_pure rfl rfl rfl rfl (op_pick_false rfl rfl) ?_
    refine TL_pure rfl rfl rfl rfl (op_move rfl) ?_
    refine TL_pass rfl rfl rfl rfl rfl rfl rfl ?_
    refine TL_pass rfl rfl rfl rfl rfl rfl rfl ?_
    refine TL_pass rfl rfl rfl rfl rfl rfl rfl ?_
    refine TL_pure rfl rfl rfl rfl (op_pick_false rfl rfl) ?_
    refine TL_pure rfl rfl rfl rfl (op_move rfl) ?_
    refine TL_pass rfl rfl rfl rfl rfl rfl rfl ?_
    refine TL_pass rfl rfl rfl rfl rfl rfl rfl ?_
    refine TL_pass rfl rfl rfl rfl rfl rfl rfl ?_
    refine TL_pass2 rfl rfl rfl rfl rfl rfl ?_
    refine TL_pass2 rfl rfl rfl rfl rfl rfl ?_
    refine TL_pass2 rfl rfl rfl rfl rfl rfl ?_
    refine TL_pass2 rfl rfl rfl rfl rfl rfl ?_
    refine TL_pass2 rfl rfl rfl rfl rfl rfl ?_
    refine TL_pass2 rfl rfl rfl rfl rfl rfl ?_
    refine TL_pass2 rfl rfl rfl rfl rfl rfl ?_
    refine TL_pass rfl rfl rfl rfl rfl rfl rfl ?_
    refine TL_pure rfl rfl rfl rfl (op_pick_false rfl rfl) ?_
    refine TL_pure rfl rfl rfl rfl (op_assign rfl) ?_
    refine TL_nil ?_
    refine T_keepH [2] [] rfl rfl rfl rfl (by rw [hF]; rfl) ?_
    refine T_ret ?_
    obtain rfl := someI hm
    refine ⟨[_], [], ⟨rfl, trivial⟩, ?_, rfl, rfl, rfl, rfl⟩
    rfl
theorem c_impl_isOver (p0 : Term) (out : Bool) (hm : m_impl_isOver p0 = some out) : ACall Try.prog 102 [.agg [.int .i64 p0.Const, .sl 1 (List.map a_i64 p0.Coeffs)]] [] (.bool out) [] := by
  refine ACall.intro Try.func102 rfl Try.ntmps102 rfl (fun F hF => ?_)
  unfold m_impl_isOver at hm
  refine T_seq ?_
  refine T_region ?_
  refine TL_box 11 rfl rfl rfl rfl rfl rfl rfl ?_
  refine TL_pure rfl rfl rfl rfl (op_assign rfl) ?_
  refine TL_nil ?_
  refine T_seq ?_
  refine T_region ?_
  refine TL_pure rfl rfl rfl rfl (op_load_agg ag67 sz67 rfl rfl rfl) ?_
  obtain ⟨r4, hr4, hm⟩ := bindS hm
  refine TL_callF (c_impl_ValidTerm p0 r4 hr4) Try.call120 rfl rfl rfl rfl rfl ?_
  refine TL_pure rfl rfl rfl rfl (op_move rfl) ?_
  refine TL_join 5 (fun _ : Unit => ⟨[(10, .bool (r4 && (decide ((p0.Coeffs.length : Int) ≤ (4 : Int)))))], []⟩) (fun _ => True) (fun _ _ => ?_) (fun hjj => ?_)
  · refine TL_pure rfl rfl rfl rfl (op_assign rfl) ?_
    refine TL_nil ?_
    refine T_keepH [2] [] rfl rfl rfl rfl (by rw [hF]; rfl) ?_
    refine T_ret ?_
    obtain rfl := someI hm
    refine ⟨[_], [], ⟨rfl, trivial⟩, ?_, rfl, rfl, rfl, rfl⟩
    rfl
  · refine TL_split 5 rfl rfl rfl (fun hq => ?_) (fun hq => ?_)
    · refine TL_want rfl rfl ?_
      refine TL_pure rfl rfl rfl rfl (op_fieldAddr fa67_1 rfl rfl) ?_
      refine TL_want rfl rfl ?_
      refine TL_pure rfl rfl rfl rfl (op_load_one ag27 rfl rfl) ?_
      refine TL_want rfl rfl ?_
      refine TL_pure rfl rfl rfl rfl (op_lenT Try.underlying27 rfl (List.length_map _)) ?_
      refine TL_fact (fun _ _ _ hr => RelP.slLen (i := 7) rfl hr) (fun hlen8 => ?_)
      rw [List.length_map] at hlen8
      refine TL_want rfl rfl ?_
      refine TL_pure rfl rfl rfl rfl (op_leq rfl rfl) ?_
      refine TL_pure rfl rfl rfl rfl (op_pick_true rfl rfl) ?_
      refine TL_keepH [10] [] rfl rfl rfl rfl (by rw [hF]; rfl) ?_
      exact TL_cast _ (by first | (rw [hq, Bool.true_and]; done) | (rw [hq]; rfl)) (hjj () trivial)
    · refine TL_pass rfl rfl rfl rfl rfl rfl rfl ?_
      refine TL_pass rfl rfl rfl rfl rfl rfl rfl ?_
      refine TL_pass rfl rfl rfl rfl rfl rfl rfl ?_
      refine TL_pass rfl rfl rfl rfl rfl rfl rfl ?_
      refine TL_pure rfl rfl rfl rfl (op_pick_false rfl rfl) ?_
      refine TL_keepH [10] [] rfl rfl rfl rfl (by rw [hF]; rfl) ?_
      exact TL_cast _ (by first | (rw [hq, Bool.false_and]; done) | (rw [hq]; rfl)) (hjj () trivial)
theorem c_impl_isEvent (p0 : Int) (out : Bool) (hm : m_impl_isEvent p0 = some out) : ACall Try.prog 130 [.int .i64 p0] [] (.bool out) [] := by
  refine ACall.intro Try.func130 rfl Try.ntmps130 rfl (fun F hF => ?_)
  unfold m_impl_isEvent at hm
  refine T_seq ?_
  refine T_region ?_
  refine TL_pure rfl rfl rfl rfl (op_assign rfl) ?_
  refine TL_nil ?_
  refine T_seq ?_
  refine T_region ?_
  refine TL_pure rfl rfl rfl rfl (op_move rfl) ?_
  obtain ⟨r4, hr4, hm⟩ := bindS hm
  refine TL_callF (c_impl_within p0 (0 : Int) (3 : Int) r4 hr4) Try.call63 rfl rfl rfl rfl rfl ?_
  refine TL_pure rfl rfl rfl rfl (op_assign rfl) ?_
  refine TL_nil ?_
  refine T_keepH [2] [] rfl rfl rfl rfl (by rw [hF]; rfl) ?_
  refine T_ret ?_
  obtain rfl := someI hm
  refine ⟨[_], [], ⟨rfl, trivial⟩, ?_, rfl, rfl, rfl, rfl⟩
  rfl
theorem c_impl_areOver_1 (p0 : Term) (out : Bool) (hm : m_impl_areOver_1 p0 = some out) : ACall Try.prog 101 [.agg [.int .i64 p0.Const, .sl 1 (List.map a_i64 p0.Coeffs)]] [] (.bool out) [] := by
  refine ACall.intro Try.func101 rfl Try.ntmps101 rfl (fun F hF => ?_)
  unfold m_impl_areOver_1 at hm
  refine T_seq ?_
  refine T_region ?_
  refine TL_box 11 rfl rfl rfl rfl rfl rfl rfl ?_
  refine TL_pure rfl rfl rfl rfl (op_assign rfl) ?_
  refine TL_nil ?_
  refine T_seq ?_
  refine T_region ?_
  refine TL_pure rfl rfl rfl rfl (op_load_agg ag67 sz67 rfl rfl rfl) ?_
  obtain ⟨r4, hr4, hm⟩ := bindS hm
  refine TL_callF (c_impl_isOver p0 r4 hr4) Try.call102 rfl rfl rfl rfl rfl ?_
  refine TL_pure rfl rfl rfl rfl (op_not rfl) ?_
  refine TL_pure rfl rfl rfl rfl (op_assign rfl) ?_
  refine TL_nil ?_
  refine T_keepH [2] [] rfl rfl rfl rfl (by rw [hF]; rfl) ?_
  refine T_ret ?_
  obtain rfl := someI hm
  refine ⟨[_], [], ⟨rfl, trivial⟩, ?_, rfl, rfl, rfl, rfl⟩
  rfl
theorem c_slices_IndexFunc_impl_Term_impl_Term_fareOver_1 (p0 : List Term) (out : Int) (hm : m_slices_IndexFunc_impl_Term_impl_Term_fareOver_1 p0 = some out) : ACall Try.prog 119 [.sl 2 (List.map a_Term p0), .fn (.func 101) [] []] [] (.int .i64 out) [] := by
  refine ACall.intro Try.func119 rfl Try.ntmps119 rfl (fun F hF => ?_)
  unfold m_slices_IndexFunc_impl_Term_impl_Term_fareOver_1 at hm
  refine T_seq ?_
  refine T_region ?_
  refine TL_pure rfl rfl rfl rfl (op_assign rfl) ?_
  refine TL_nil ?_
  refine T_seq ?_
  refine T_seq ?_
  refine T_region ?_
  refine TL_pure rfl rfl rfl rfl (op_move rfl) ?_
  refine TL_pure rfl rfl rfl rfl (op_lenT Try.underlying30 rfl (List.length_map _)) ?_
  refine TL_fact (fun _ _ _ hr => RelP.slLen (i := 6) rfl hr) (fun hlen7 => ?_)
  rw [List.length_map] at hlen7
  refine TL_pure rfl rfl rfl rfl (op_move rfl) ?_
  refine TL_nil ?_
  refine T_block ?_
  refine T_keepH [0, 1, 7, 8] [] rfl rfl rfl rfl (by rw [hF]; rfl) ?_
  refine T_loop ?_
  obtain ⟨u0, hl0, hm⟩ := bindS hm
  refine TR_forL2 p0 (m_slices_IndexFunc_impl_Term_impl_Term_fareOver_1_L0) (fun (s0 : Unit) => (.inl ())) (fun n0 (s0 : Unit) => ⟨[(0, .sl 2 (List.map a_Term p0)), (1, .fn (.func 101) [] []), (7, .int .i64 (p0.length : Int)), (8, .int .i64 (n0 : Int))], []⟩) (fun u0 => match u0 with | .inl u0 => .exit 0 | .inr u0 => .ret) (fun u0 => match u0 with | .inl u0 => ⟨[], []⟩ | .inr u0 => ⟨[(4, .int .i64 u0)], []⟩) (fun u0 => m_slices_IndexFunc_impl_Term_impl_Term_fareOver_1_A0 u0 = some out) hl0 hm (fun u0 hm => ?_) (fun hx0 s0 hm => ?_) (fun hx0 n0 x0 s0 c0 hxn0 hlt0 hm hc0 => ?_)
  · rcases u0 with u0 | u0
    · unfold m_slices_IndexFunc_impl_Term_impl_Term_fareOver_1_A0 at hm
      refine T_seq ?_
      refine T_region ?_
      refine TL_pure rfl rfl rfl rfl (op_assign rfl) ?_
      refine TL_nil ?_
      refine T_keepH [4] [] rfl rfl rfl rfl (by rw [hF]; rfl) ?_
      refine T_ret ?_
      obtain rfl := someI hm
      refine ⟨[_], [], ⟨rfl, trivial⟩, ?_, rfl, rfl, rfl, rfl⟩
      rfl
    · unfold m_slices_IndexFunc_impl_Term_impl_Term_fareOver_1_A0 at hm
      obtain rfl := someI hm
      refine ⟨[_], [], ⟨rfl, trivial⟩, ?_, rfl, rfl, rfl, rfl⟩
      rfl
  · refine T_seq ?_
    refine T_region ?_
    refine TL_pure rfl rfl rfl rfl (op_lss rfl rfl) ?_
    refine TL_nil ?_
    refine T_seq ?_
    refine T_if_false rfl (decide_eq_false (by simp)) ?_
    refine T_keepH [] [] rfl rfl rfl rfl (by rw [hF]; rfl) ?_
    refine T_exit ?_
    exact hx0 (.inl ()) hm
  · unfold m_slices_IndexFunc_impl_Term_impl_Term_fareOver_1_L0 at hm
    refine T_seq ?_
    refine T_region ?_
    refine TL_pure rfl rfl rfl rfl (op_lss rfl rfl) ?_
    refine TL_nil ?_
    refine T_seq ?_
    refine T_if_true rfl (decide_eq_true (Int.ofNat_lt.2 hlt0)) ?_
    refine T_skip ?_
    refine T_seq ?_
    refine T_block ?_
    refine T_seq ?_
    refine T_region ?_
    refine TL_pure rfl rfl rfl rfl (op_move rfl) ?_
    refine TL_pure rfl rfl rfl rfl (op_assign rfl) ?_
    refine TL_nil ?_
    refine T_seq ?_
    refine T_region ?_
    refine TL_pure rfl rfl rfl rfl (op_move rfl) ?_
    refine TL_pure rfl rfl rfl rfl (op_move rfl) ?_
    refine TL_pure rfl rfl rfl rfl (op_move rfl) ?_
    refine TL_pure rfl rfl rfl rfl (op_index_sl el30 rfl rfl rfl (get_map hxn0) rfl) ?_
    refine TL_pure rfl rfl rfl rfl (op_load_agg ag67 sz67 rfl rfl rfl) ?_
    obtain ⟨r16, hr16, hm⟩ := bindS hm
    refine TL_callV rfl (c_impl_areOver_1 x0 r16 hr16) Try.call101 rfl rfl rfl rfl rfl ?_
    refine TL_nil ?_
    refine T_cond rfl (fun hq => ?_) (fun hq => ?_)
    · replace hm := condT hq hm
      refine T_seq ?_
      refine T_region ?_
      refine TL_pure rfl rfl rfl rfl (op_move rfl) ?_
      refine TL_pure rfl rfl rfl rfl (op_assign rfl) ?_
      refine TL_nil ?_
      refine T_keepH [4] [] rfl rfl rfl rfl (by rw [hF]; rfl) ?_
      refine T_ret ?_
      obtain rfl := someI hm
      have hn := CtlOK_out hc0
      exact hx0 (.inr (n0 : Int)) hn
    · replace hm := condF hq hm
      refine T_skip ?_
      refine T_region ?_
      refine TL_pure rfl rfl rfl rfl (op_addN rfl rfl (Nat.lt_of_lt_of_le hlt0 hlen7)) ?_
      refine TL_pure rfl rfl rfl rfl (op_move rfl) ?_
      refine TL_nil ?_
      refine TR_keepH [0, 1, 7, 8] [] rfl rfl rfl rfl (by rw [hF]; rfl) ?_
      obtain rfl := someI hm
      have hn := CtlOK_next hc0
      exact hn _ rfl
theorem c_slices_ContainsFunc_impl_Term_impl_Term_fareOver_1 (p0 : List Term) (out : Bool) (hm : m_slices_ContainsFunc_impl_Term_impl_Term_fareOver_1 p0 = some out) : ACall Try.prog 100 [.sl 2 (List.map a_Term p0), .fn (.func 101) [] []] [] (.bool out) [] := by
  refine ACall.intro Try.func100 rfl Try.ntmps100 rfl (fun F hF => ?_)
  unfold m_slices_ContainsFunc_impl_Term_impl_Term_fareOver_1 at hm
  refine T_seq ?_
  refine T_region ?_
  refine TL_pure rfl rfl rfl rfl (op_assign rfl) ?_
  refine TL_nil ?_
  refine T_seq ?_
  refine T_region ?_
  refine TL_pure rfl rfl rfl rfl (op_move rfl) ?_
  refine TL_pure rfl rfl rfl rfl (op_move rfl) ?_
  obtain ⟨r7, hr7, hm⟩ := bindS hm
  refine TL_callF (c_slices_IndexFunc_impl_Term_impl_Term_fareOver_1 p0 r7 hr7) Try.call119 rfl rfl rfl rfl rfl ?_
  refine TL_pure rfl rfl rfl rfl (op_geq rfl rfl) ?_
  refine TL_pure rfl rfl rfl rfl (op_assign rfl) ?_
  refine TL_nil ?_
  refine T_keepH [4] [] rfl rfl rfl rfl (by rw [hF]; rfl) ?_
  refine T_ret ?_
  obtain rfl := someI hm
  refine ⟨[_], [], ⟨rfl, trivial⟩, ?_, rfl, rfl, rfl, rfl⟩
  rfl
theorem c_impl_areOver (p0 : List Term) (p1 : Int) (out : Bool) (hm : m_impl_areOver p0 p1 = some out) : ACall Try.prog 82 [.sl 2 (List.map a_Term p0), .int .i64 p1] [] (.bool out) [] := by
  refine ACall.intro Try.func82 rfl Try.ntmps82 rfl (fun F hF => ?_)
  unfold m_impl_areOver at hm
  refine T_seq ?_
  refine T_region ?_
  refine TL_pure rfl rfl rfl rfl (op_assign rfl) ?_
  refine TL_nil ?_
  refine T_seq ?_
  refine T_region ?_
  refine TL_pure rfl rfl rfl rfl (op_move rfl) ?_
  refine TL_pure rfl rfl rfl rfl (op_lenT Try.underlying30 rfl (List.length_map _)) ?_
  refine TL_fact (fun _ _ _ hr => RelP.slLen (i := 5) rfl hr) (fun hlen6 => ?_)
  rw [List.length_map] at hlen6
  refine TL_pure rfl rfl rfl rfl (op_move rfl) ?_
  refine TL_pure rfl rfl rfl rfl (op_leq rfl rfl) ?_
  refine TL_pure rfl rfl rfl rfl (op_move rfl) ?_
  refine TL_split 9 rfl rfl rfl (fun hq => ?_) (fun hq => ?_)
  · replace hm := condT hq hm
    refine TL_want rfl rfl ?_
    refine TL_pure rfl rfl rfl rfl (op_move rfl) ?_
    refine TL_want rfl rfl ?_
    obtain ⟨r11, hr11, hm⟩ := bindS hm
    refine TL_callF (c_slices_ContainsFunc_impl_Term_impl_Term_fareOver_1 p0 r11 hr11) Try.call100 rfl rfl rfl rfl rfl ?_
    refine TL_want rfl rfl ?_
    refine TL_pure rfl rfl rfl rfl (op_not rfl) ?_
    refine TL_pure rfl rfl rfl rfl (op_pick_true rfl rfl) ?_
    refine TL_pure rfl rfl rfl rfl (op_assign rfl) ?_
    refine TL_nil ?_
    refine T_keepH [4] [] rfl rfl rfl rfl (by rw [hF]; rfl) ?_
    refine T_ret ?_
    obtain rfl := someI hm
    refine ⟨[_], [], ⟨rfl, trivial⟩, ?_, rfl, rfl, rfl, rfl⟩
    rfl
  · replace hm := condF hq hm
    refine TL_pass rfl rfl rfl rfl rfl rfl rfl ?_
    refine TL_pass rfl rfl rfl rfl rfl rfl rfl ?_
    refine TL_pass rfl rfl rfl rfl rfl rfl rfl ?_
    refine TL_pure rfl rfl rfl rfl (op_pick_false rfl rfl) ?_
    refine TL_pure rfl rfl rfl rfl (op_assign rfl) ?_
    refine TL_nil ?_
    refine T_keepH [4] [] rfl rfl rfl rfl (by rw [hF]; rfl) ?_
    refine T_ret ?_
    obtain rfl := someI hm
    refine ⟨[_], [], ⟨rfl, trivial⟩, ?_, rfl, rfl, rfl, rfl⟩
    rfl
theorem c_impl_kidsOf (p0 : Stmt) (out : Int) (hm : m_impl_kidsOf p0 = some out) : ACall Try.prog 117 [.agg [.int .i64 p0.Kind, .int .i64 p0.Var, .int .i64 p0.Event, .int .i64 p0.Sum.Const, .sl 1 (List.map a_i64 p0.Sum.Coeffs), .int .i64 p0.Index.Const, .sl 1 (List.map a_i64 p0.Index.Coeffs), .sl 2 (List.map a_Term p0.Facts)]] [] (.int .i64 out) [] := by
  refine ACall.intro Try.func117 rfl Try.ntmps117 rfl (fun F hF => ?_)
  unfold m_impl_kidsOf at hm
  refine T_seq ?_
  refine T_region ?_
  refine TL_box 11 rfl rfl rfl rfl rfl rfl rfl ?_
  refine TL_pure rfl rfl rfl rfl (op_assign rfl) ?_
  refine TL_nil ?_
  refine T_seq ?_
  refine T_drawZ [] mix (by kernel_rfl) rfl ?_
  obtain ⟨r17, hr17, hm⟩ := bindS hm
  obtain ⟨r20, hr20, hm⟩ := bindS hm
  refine TZ_pure 0 (by kernel_rfl) rfl rfl rfl rfl rfl (op_fieldAddr fa69_1 rfl rfl) ?_
  refine TZ_pure 1 (by kernel_rfl) rfl rfl rfl rfl rfl (op_load_one ag2 rfl rfl) ?_
  refine TZ_pure 2 (by kernel_rfl) rfl rfl rfl rfl rfl (op_eql rfl rfl) ?_
  refine TZ_pure 3 (by kernel_rfl) rfl rfl rfl rfl rfl (op_fieldAddr fa69_2 rfl rfl) ?_
  refine TZ_pure 4 (by kernel_rfl) rfl rfl rfl rfl rfl (op_load_one ag2 rfl rfl) ?_
  refine TZ_pure 5 (by kernel_rfl) rfl rfl rfl rfl rfl (op_eql rfl rfl) ?_
  refine TZ_pure 6 (by kernel_rfl) rfl rfl rfl rfl rfl (op_fieldAddr fa69_3 rfl rfl) ?_
  refine TZ_pure 7 (by kernel_rfl) rfl rfl rfl rfl rfl (op_load_agg ag67 sz67 rfl rfl rfl) ?_
  refine TZ_pure 9 (by kernel_rfl) rfl rfl rfl rfl rfl (op_fieldAddr fa69_4 rfl rfl) ?_
  refine TZ_pure 10 (by kernel_rfl) rfl rfl rfl rfl rfl (op_load_agg ag67 sz67 rfl rfl rfl) ?_
  refine TZ_pure 12 (by kernel_rfl) rfl rfl rfl rfl rfl (op_fieldAddr fa69_5 rfl rfl) ?_
  refine TZ_pure 13 (by kernel_rfl) rfl rfl rfl rfl rfl (op_load_one ag30 rfl rfl) ?_
  refine TZ_pure 14 (by kernel_rfl) rfl rfl rfl rfl rfl (op_lenT Try.underlying30 rfl (List.length_map _)) ?_
  refine TZ_fact (fun _ _ _ hr => RelP.slLen (i := 22) rfl hr) (fun hlen23 => ?_)
  rw [List.length_map] at hlen23
  refine TZ_pure 15 (by kernel_rfl) rfl rfl rfl rfl rfl (op_eql rfl rfl) ?_
  refine TZ_one 8 (by kernel_rfl) rfl ?_
  refine TL_callF (c_impl_Term_isZero p0.Sum r17 hr17) Try.call128 rfl rfl rfl rfl rfl ?_
  refine TL_nil ?_
  refine TZ_one 11 (by kernel_rfl) rfl ?_
  refine TL_callF (c_impl_Term_isZero p0.Index r20 hr20) Try.call128 rfl rfl rfl rfl rfl ?_
  refine TL_nil ?_
  refine TZ_pure 16 (by kernel_rfl) rfl rfl rfl rfl rfl (op_assign rfl) ?_
  refine TZ_pure 17 (by kernel_rfl) rfl rfl rfl rfl rfl (op_assign rfl) ?_
  refine TZ_pure 18 (by kernel_rfl) rfl rfl rfl rfl rfl (op_assign rfl) ?_
  refine TZ_pure 19 (by kernel_rfl) rfl rfl rfl rfl rfl (op_assign rfl) ?_
  refine TZ_pure 20 (by kernel_rfl) rfl rfl rfl rfl rfl (op_assign rfl) ?_
  refine TZ_done (by kernel_rfl) ?_
  refine T_seq ?_
  refine T_region ?_
  refine TL_pure rfl rfl rfl rfl (op_assign rfl) ?_
  refine TL_nil ?_
  refine T_seq ?_
  refine T_seq ?_
  refine T_region ?_
  refine TL_pure rfl rfl rfl rfl (op_fieldAddr fa69_0 rfl rfl) ?_
  refine TL_pure rfl rfl rfl rfl (op_load_one ag2 rfl rfl) ?_
  refine TL_nil ?_
  refine T_block ?_
  refine T_seq ?_
  refine T_region ?_
  refine TL_pure rfl rfl rfl rfl (op_eql rfl rfl) ?_
  refine TL_pure rfl rfl rfl rfl (op_assign rfl) ?_
  refine TL_nil ?_
  refine T_cond rfl (fun hq => ?_) (fun hq => ?_)
  · replace hm := condT hq hm
    refine T_seq ?_
    refine T_region ?_
    refine TL_pure rfl rfl rfl rfl (op_move rfl) ?_
    refine TL_pure rfl rfl rfl rfl (op_move rfl) ?_
    refine TL_join 2 (fun _ : Unit => ⟨[(5, .bool r17), (6, .bool r20), (7, .bool (decide ((p0.Facts.length : Int) = (0 : Int)))), (8, .int .i64 (-1 : Int)), (32, .bool ((decide (p0.Var = (0 : Int))) && (decide (p0.Event = (0 : Int)))))], []⟩) (fun _ => True) (fun _ _ => ?_) (fun hjj => ?_)
    · refine TL_pure rfl rfl rfl rfl (op_move rfl) ?_
      refine TL_join 2 (fun _ : Unit => ⟨[(6, .bool r20), (7, .bool (decide ((p0.Facts.length : Int) = (0 : Int)))), (8, .int .i64 (-1 : Int)), (35, .bool (((decide (p0.Var = (0 : Int))) && (decide (p0.Event = (0 : Int)))) && r17))], []⟩) (fun _ => True) (fun _ _ => ?_) (fun hjj => ?_)
      · refine TL_pure rfl rfl rfl rfl (op_move rfl) ?_
        refine TL_join 2 (fun _ : Unit => ⟨[(7, .bool (decide ((p0.Facts.length : Int) = (0 : Int)))), (8, .int .i64 (-1 : Int)), (38, .bool ((((decide (p0.Var = (0 : Int))) && (decide (p0.Event = (0 : Int)))) && r17) && r20))], []⟩) (fun _ => True) (fun _ _ => ?_) (fun hjj => ?_)
        · refine TL_pure rfl rfl rfl rfl (op_move rfl) ?_
          refine TL_join 2 (fun _ : Unit => ⟨[(8, .int .i64 (-1 : Int)), (41, .bool (((((decide (p0.Var = (0 : Int))) && (decide (p0.Event = (0 : Int)))) && r17) && r20) && (decide ((p0.Facts.length : Int) = (0 : Int)))))], []⟩) (fun _ => True) (fun _ _ => ?_) (fun hjj => ?_)
          · refine TL_nil ?_
            refine T_cond rfl (fun hq => ?_) (fun hq => ?_)
            · replace hm := condT hq hm
              refine T_region ?_
              refine TL_pure rfl rfl rfl rfl (op_assign rfl) ?_
              refine TL_nil ?_
              refine T_seq ?_
              refine T_region ?_
              refine TL_pure rfl rfl rfl rfl (op_move rfl) ?_
              refine TL_pure rfl rfl rfl rfl (op_assign rfl) ?_
              refine TL_nil ?_
              refine T_keepH [2] [] rfl rfl rfl rfl (by rw [hF]; rfl) ?_
              refine T_ret ?_
              obtain rfl := someI hm
              refine ⟨[_], [], ⟨rfl, trivial⟩, ?_, rfl, rfl, rfl, rfl⟩
              rfl
            · replace hm := condF hq hm
              refine T_skip ?_
              refine T_seq ?_
              refine T_region ?_
              refine TL_pure rfl rfl rfl rfl (op_move rfl) ?_
              refine TL_pure rfl rfl rfl rfl (op_assign rfl) ?_
              refine TL_nil ?_
              refine T_keepH [2] [] rfl rfl rfl rfl (by rw [hF]; rfl) ?_
              refine T_ret ?_
              obtain rfl := someI hm
              refine ⟨[_], [], ⟨rfl, trivial⟩, ?_, rfl, rfl, rfl, rfl⟩
              rfl
          · refine TL_split 39 rfl rfl rfl (fun hq => ?_) (fun hq => ?_)
            · refine TL_want rfl rfl ?_
              refine TL_pure rfl rfl rfl rfl (op_move rfl) ?_
              refine TL_pure rfl rfl rfl rfl (op_pick_true rfl rfl) ?_
              refine TL_keepH [8, 41] [] rfl rfl rfl rfl (by rw [hF]; rfl) ?_
              exact TL_cast _ (by first | (rw [hq, Bool.true_and]; done) | (rw [hq]; rfl)) (hjj () trivial)
            · refine TL_pass rfl rfl rfl rfl rfl rfl rfl ?_
              refine TL_pure rfl rfl rfl rfl (op_pick_false rfl rfl) ?_
              refine TL_keepH [8, 41] [] rfl rfl rfl rfl (by rw [hF]; rfl) ?_
              exact TL_cast _ (by first | (rw [hq, Bool.false_and]; done) | (rw [hq]; rfl)) (hjj () trivial)
        · refine TL_split 36 rfl rfl rfl (fun hq => ?_) (fun hq => ?_)
          · refine TL_want rfl rfl ?_
            refine TL_pure rfl rfl rfl rfl (op_move rfl) ?_
            refine TL_pure rfl rfl rfl rfl (op_pick_true rfl rfl) ?_
            refine TL_keepH [7, 8, 38] [] rfl rfl rfl rfl (by rw [hF]; rfl) ?_
            exact TL_cast _ (by first | (rw [hq, Bool.true_and]; done) | (rw [hq]; rfl)) (hjj () trivial)
          · refine TL_pass rfl rfl rfl rfl rfl rfl rfl ?_
            refine TL_pure rfl rfl rfl rfl (op_pick_false rfl rfl) ?_
            refine TL_keepH [7, 8, 38] [] rfl rfl rfl rfl (by rw [hF]; rfl) ?_
            exact TL_cast _ (by first | (rw [hq, Bool.false_and]; done) | (rw [hq]; rfl)) (hjj () trivial)
      · refine TL_split 33 rfl rfl rfl (fun hq => ?_) (fun hq => ?_)
        · refine TL_want rfl rfl ?_
          refine TL_pure rfl rfl rfl rfl (op_move rfl) ?_
          refine TL_pure rfl rfl rfl rfl (op_pick_true rfl rfl) ?_
          refine TL_keepH [6, 7, 8, 35] [] rfl rfl rfl rfl (by rw [hF]; rfl) ?_
          exact TL_cast _ (by first | (rw [hq, Bool.true_and]; done) | (rw [hq]; rfl)) (hjj () trivial)
        · refine TL_pass rfl rfl rfl rfl rfl rfl rfl ?_
          refine TL_pure rfl rfl rfl rfl (op_pick_false rfl rfl) ?_
          refine TL_keepH [6, 7, 8, 35] [] rfl rfl rfl rfl (by rw [hF]; rfl) ?_
          exact TL_cast _ (by first | (rw [hq, Bool.false_and]; done) | (rw [hq]; rfl)) (hjj () trivial)
    · refine TL_split 30 rfl rfl rfl (fun hq => ?_) (fun hq => ?_)
      · refine TL_want rfl rfl ?_
        refine TL_pure rfl rfl rfl rfl (op_move rfl) ?_
        refine TL_pure rfl rfl rfl rfl (op_pick_true rfl rfl) ?_
        refine TL_keepH [5, 6, 7, 8, 32] [] rfl rfl rfl rfl (by rw [hF]; rfl) ?_
        exact TL_cast _ (by first | (rw [hq, Bool.true_and]; done) | (rw [hq]; rfl)) (hjj () trivial)
      · refine TL_pass rfl rfl rfl rfl rfl rfl rfl ?_
        refine TL_pure rfl rfl rfl rfl (op_pick_false rfl rfl) ?_
        refine TL_keepH [5, 6, 7, 8, 32] [] rfl rfl rfl rfl (by rw [hF]; rfl) ?_
        exact TL_cast _ (by first | (rw [hq, Bool.false_and]; done) | (rw [hq]; rfl)) (hjj () trivial)
  · replace hm := condF hq hm
    refine T_seq ?_
    refine T_region ?_
    refine TL_pure rfl rfl rfl rfl (op_eql rfl rfl) ?_
    refine TL_pure rfl rfl rfl rfl (op_assign rfl) ?_
    refine TL_nil ?_
    refine T_cond rfl (fun hq => ?_) (fun hq => ?_)
    · replace hm := condT hq hm
      refine T_seq ?_
      refine T_region ?_
      refine TL_pure rfl rfl rfl rfl (op_move rfl) ?_
      refine TL_pure rfl rfl rfl rfl (op_move rfl) ?_
      refine TL_join 2 (fun _ : Unit => ⟨[(5, .bool r17), (6, .bool r20), (7, .bool (decide ((p0.Facts.length : Int) = (0 : Int)))), (8, .int .i64 (-1 : Int)), (47, .bool ((decide (p0.Var = (0 : Int))) && (decide (p0.Event = (0 : Int)))))], []⟩) (fun _ => True) (fun _ _ => ?_) (fun hjj => ?_)
      · refine TL_pure rfl rfl rfl rfl (op_move rfl) ?_
        refine TL_join 2 (fun _ : Unit => ⟨[(6, .bool r20), (7, .bool (decide ((p0.Facts.length : Int) = (0 : Int)))), (8, .int .i64 (-1 : Int)), (50, .bool (((decide (p0.Var = (0 : Int))) && (decide (p0.Event = (0 : Int)))) && r17))], []⟩) (fun _ => True) (fun _ _ => ?_) (fun hjj => ?_)
        · refine TL_pure rfl rfl rfl rfl (op_move rfl) ?_
          refine TL_join 2 (fun _ : Unit => ⟨[(7, .bool (decide ((p0.Facts.length : Int) = (0 : Int)))), (8, .int .i64 (-1 : Int)), (53, .bool ((((decide (p0.Var = (0 : Int))) && (decide (p0.Event = (0 : Int)))) && r17) && r20))], []⟩) (fun _ => True) (fun _ _ => ?_) (fun hjj => ?_)
          · refine TL_pure rfl rfl rfl rfl (op_move rfl) ?_
            refine TL_join 2 (fun _ : Unit => ⟨[(8, .int .i64 (-1 : Int)), (56, .bool (((((decide (p0.Var = (0 : Int))) && (decide (p0.Event = (0 : Int)))) && r17) && r20) && (decide ((p0.Facts.length : Int) = (0 : Int)))))], []⟩) (fun _ => True) (fun _ _ => ?_) (fun hjj => ?_)
            · refine TL_nil ?_
              refine T_cond rfl (fun hq => ?_) (fun hq => ?_)
              · replace hm := condT hq hm
                refine T_region ?_
                refine TL_pure rfl rfl rfl rfl (op_assign rfl) ?_
                refine TL_nil ?_
                refine T_seq ?_
                refine T_region ?_
                refine TL_pure rfl rfl rfl rfl (op_move rfl) ?_
                refine TL_pure rfl rfl rfl rfl (op_assign rfl) ?_
                refine TL_nil ?_
                refine T_keepH [2] [] rfl rfl rfl rfl (by rw [hF]; rfl) ?_
                refine T_ret ?_
                obtain rfl := someI hm
                refine ⟨[_], [], ⟨rfl, trivial⟩, ?_, rfl, rfl, rfl, rfl⟩
                rfl
              · replace hm := condF hq hm
                refine T_skip ?_
                refine T_seq ?_
                refine T_region ?_
                refine TL_pure rfl rfl rfl rfl (op_move rfl) ?_
                refine TL_pure rfl rfl rfl rfl (op_assign rfl) ?_
                refine TL_nil ?_
                refine T_keepH [2] [] rfl rfl rfl rfl (by rw [hF]; rfl) ?_
                refine T_ret ?_
                obtain rfl := someI hm
                refine ⟨[_], [], ⟨rfl, trivial⟩, ?_, rfl, rfl, rfl, rfl⟩
                rfl
            · refine TL_split 54 rfl rfl rfl (fun hq => ?_) (fun hq => ?_)
              · refine TL_want rfl rfl ?_
                refine TL_pure rfl rfl rfl rfl (op_move rfl) ?_
                refine TL_pure rfl rfl rfl rfl (op_pick_true rfl rfl) ?_
                refine TL_keepH [8, 56] [] rfl rfl rfl rfl (by rw [hF]; rfl) ?_
                exact TL_cast _ (by first | (rw [hq, Bool.true_and]; done) | (rw [hq]; rfl)) (hjj () trivial)
              · refine TL_pass rfl rfl rfl rfl rfl rfl rfl ?_
                refine TL_pure rfl rfl rfl rfl (op_pick_false rfl rfl) ?_
                refine TL_keepH [8, 56] [] rfl rfl rfl rfl (by rw [hF]; rfl) ?_
                exact TL_cast _ (by first | (rw [hq, Bool.false_and]; done) | (rw [hq]; rfl)) (hjj () trivial)
          · refine TL_split 51 rfl rfl rfl (fun hq => ?_) (fun hq => ?_)
            · refine TL_want rfl rfl ?_
              refine TL_pure rfl rfl rfl rfl (op_move rfl) ?_
              refine TL_pure rfl rfl rfl rfl (op_pick_true rfl rfl) ?_
              refine TL_keepH [7, 8, 53] [] rfl rfl rfl rfl (by rw [hF]; rfl) ?_
              exact TL_cast _ (by first | (rw [hq, Bool.true_and]; done) | (rw [hq]; rfl)) (hjj () trivial)
            · refine TL_pass rfl rfl rfl rfl rfl rfl rfl ?_
              refine TL_pure rfl rfl rfl rfl (op_pick_false rfl rfl) ?_
              refine TL_keepH [7, 8, 53] [] rfl rfl rfl rfl (by rw [hF]; rfl) ?_
              exact TL_cast _ (by first | (rw [hq, Bool.false_and]; done) | (rw [hq]; rfl)) (hjj () trivial)
        · refine TL_split 48 rfl rfl rfl (fun hq => ?_) (fun hq => ?_)
          · refine TL_want rfl rfl ?_
            refine TL_pure rfl rfl rfl rfl (op_move rfl) ?_
            refine TL_pure rfl rfl rfl rfl (op_pick_true rfl rfl) ?_
            refine TL_keepH [6, 7, 8, 50] [] rfl rfl rfl rfl (by rw [hF]; rfl) ?_
            exact TL_cast _ (by first | (rw [hq, Bool.true_and]; done) | (rw [hq]; rfl)) (hjj () trivial)
          · refine TL_pass rfl rfl rfl rfl rfl rfl rfl ?_
            refine TL_pure rfl rfl rfl rfl (op_pick_false rfl rfl) ?_
            refine TL_keepH [6, 7, 8, 50] [] rfl rfl rfl rfl (by rw [hF]; rfl) ?_
            exact TL_cast _ (by first | (rw [hq, Bool.false_and]; done) | (rw [hq]; rfl)) (hjj () trivial)
      · refine TL_split 45 rfl rfl rfl (fun hq => ?_) (fun hq => ?_)
        · refine TL_want rfl rfl ?_
          refine TL_pure rfl rfl rfl rfl (op_move rfl) ?_
          refine TL_pure rfl rfl rfl rfl (op_pick_true rfl rfl) ?_
          refine TL_keepH [5, 6, 7, 8, 47] [] rfl rfl rfl rfl (by rw [hF]; rfl) ?_
          exact TL_cast _ (by first | (rw [hq, Bool.true_and]; done) | (rw [hq]; rfl)) (hjj () trivial)
        · refine TL_pass rfl rfl rfl rfl rfl rfl rfl ?_
          refine TL_pure rfl rfl rfl rfl (op_pick_false rfl rfl) ?_
          refine TL_keepH [5, 6, 7, 8, 47] [] rfl rfl rfl rfl (by rw [hF]; rfl) ?_
          exact TL_cast _ (by first | (rw [hq, Bool.false_and]; done) | (rw [hq]; rfl)) (hjj () trivial)
    · replace hm := condF hq hm
      refine T_seq ?_
      refine T_region ?_
      refine TL_pure rfl rfl rfl rfl (op_eql rfl rfl) ?_
      refine TL_pure rfl rfl rfl rfl (op_assign rfl) ?_
      refine TL_nil ?_
      refine T_cond rfl (fun hq => ?_) (fun hq => ?_)
      · replace hm := condT hq hm
        refine T_seq ?_
        refine T_region ?_
        refine TL_pure rfl rfl rfl rfl (op_fieldAddr fa69_1 rfl rfl) ?_
        refine TL_pure rfl rfl rfl rfl (op_load_one ag2 rfl rfl) ?_
        obtain ⟨r61, hr61, hm⟩ := bindS hm
        refine TL_callF (c_impl_isVar p0.Var r61 hr61) Try.call129 rfl rfl rfl rfl rfl ?_
        refine TL_pure rfl rfl rfl rfl (op_move rfl) ?_
        refine TL_join 2 (fun _ : Unit => ⟨[(1, .ptr 11 0 0), (6, .bool r20), (7, .bool (decide ((p0.Facts.length : Int) = (0 : Int)))), (8, .int .i64 (-1 : Int)), (64, .bool (r61 && (decide (p0.Event = (0 : Int)))))], [(11, .box [.int .i64 p0.Kind, .int .i64 p0.Var, .int .i64 p0.Event, .int .i64 p0.Sum.Const, .sl 1 (List.map a_i64 p0.Sum.Coeffs), .int .i64 p0.Index.Const, .sl 1 (List.map a_i64 p0.Index.Coeffs), .sl 2 (List.map a_Term p0.Facts)])]⟩) (fun _ => True) (fun _ _ => ?_) (fun hjj => ?_)
        · refine TL_pure rfl rfl rfl rfl (op_move rfl) ?_
          refine TL_split 65 rfl rfl rfl (fun hq => ?_) (fun hq => ?_)
          · replace hm := condT hq hm
            refine TL_want rfl rfl ?_
            refine TL_pure rfl rfl rfl rfl (op_fieldAddr fa69_3 rfl rfl) ?_
            refine TL_want rfl rfl ?_
            refine TL_pure rfl rfl rfl rfl (op_load_agg ag67 sz67 rfl rfl rfl) ?_
            refine TL_want rfl rfl ?_
            obtain ⟨r68, hr68, hm⟩ := bindS hm
            refine TL_callF (c_impl_isOver p0.Sum r68 hr68) Try.call102 rfl rfl rfl rfl rfl ?_
            refine TL_pure rfl rfl rfl rfl (op_pick_true rfl rfl) ?_
            refine TL_pure rfl rfl rfl rfl (op_move rfl) ?_
            refine TL_join 2 (fun _ : Unit => ⟨[(7, .bool (decide ((p0.Facts.length : Int) = (0 : Int)))), (8, .int .i64 (-1 : Int)), (72, .bool (r68 && r20))], []⟩) (fun _ => True) (fun _ _ => ?_) (fun hjj => ?_)
            · refine TL_pure rfl rfl rfl rfl (op_move rfl) ?_
              refine TL_join 2 (fun _ : Unit => ⟨[(8, .int .i64 (-1 : Int)), (75, .bool ((r68 && r20) && (decide ((p0.Facts.length : Int) = (0 : Int)))))], []⟩) (fun _ => True) (fun _ _ => ?_) (fun hjj => ?_)
              · refine TL_nil ?_
                refine T_cond rfl (fun hq => ?_) (fun hq => ?_)
                · replace hm := condT hq hm
                  refine T_region ?_
                  refine TL_pure rfl rfl rfl rfl (op_assign rfl) ?_
                  refine TL_nil ?_
                  refine T_seq ?_
                  refine T_region ?_
                  refine TL_pure rfl rfl rfl rfl (op_move rfl) ?_
                  refine TL_pure rfl rfl rfl rfl (op_assign rfl) ?_
                  refine TL_nil ?_
                  refine T_keepH [2] [] rfl rfl rfl rfl (by rw [hF]; rfl) ?_
                  refine T_ret ?_
                  obtain rfl := someI hm
                  refine ⟨[_], [], ⟨rfl, trivial⟩, ?_, rfl, rfl, rfl, rfl⟩
                  rfl
                · replace hm := condF hq hm
                  refine T_skip ?_
                  refine T_seq ?_
                  refine T_region ?_
                  refine TL_pure rfl rfl rfl rfl (op_move rfl) ?_
                  refine TL_pure rfl rfl rfl rfl (op_assign rfl) ?_
                  refine TL_nil ?_
                  refine T_keepH [2] [] rfl rfl rfl rfl (by rw [hF]; rfl) ?_
                  refine T_ret ?_
                  obtain rfl := someI hm
                  refine ⟨[_], [], ⟨rfl, trivial⟩, ?_, rfl, rfl, rfl, rfl⟩
                  rfl
              · refine TL_split 73 rfl rfl rfl (fun hq => ?_) (fun hq => ?_)
                · refine TL_want rfl rfl ?_
                  refine TL_pure rfl rfl rfl rfl (op_move rfl) ?_
                  refine TL_pure rfl rfl rfl rfl (op_pick_true rfl rfl) ?_
                  refine TL_keepH [8, 75] [] rfl rfl rfl rfl (by rw [hF]; rfl) ?_
                  exact TL_cast _ (by first | (rw [hq, Bool.true_and]; done) | (rw [hq]; rfl)) (hjj () trivial)
                · refine TL_pass rfl rfl rfl rfl rfl rfl rfl ?_
                  refine TL_pure rfl rfl rfl rfl (op_pick_false rfl rfl) ?_
                  refine TL_keepH [8, 75] [] rfl rfl rfl rfl (by rw [hF]; rfl) ?_
                  exact TL_cast _ (by first | (rw [hq, Bool.false_and]; done) | (rw [hq]; rfl)) (hjj () trivial)
            · refine TL_split 70 rfl rfl rfl (fun hq => ?_) (fun hq => ?_)
              · refine TL_want rfl rfl ?_
                refine TL_pure rfl rfl rfl rfl (op_move rfl) ?_
                refine TL_pure rfl rfl rfl rfl (op_pick_true rfl rfl) ?_
                refine TL_keepH [7, 8, 72] [] rfl rfl rfl rfl (by rw [hF]; rfl) ?_
                exact TL_cast _ (by first | (rw [hq, Bool.true_and]; done) | (rw [hq]; rfl)) (hjj () trivial)
              · refine TL_pass rfl rfl rfl rfl rfl rfl rfl ?_
                refine TL_pure rfl rfl rfl rfl (op_pick_false rfl rfl) ?_
                refine TL_keepH [7, 8, 72] [] rfl rfl rfl rfl (by rw [hF]; rfl) ?_
                exact TL_cast _ (by first | (rw [hq, Bool.false_and]; done) | (rw [hq]; rfl)) (hjj () trivial)
          · replace hm := condF hq hm
            refine TL_pass rfl rfl rfl rfl rfl rfl rfl ?_
            refine TL_pass rfl rfl rfl rfl rfl rfl rfl ?_
            refine TL_pass rfl rfl rfl rfl rfl rfl rfl ?_
            refine TL_pure rfl rfl rfl rfl (op_pick_false rfl rfl) ?_
            refine TL_pure rfl rfl rfl rfl (op_move rfl) ?_
            refine TL_pass rfl rfl rfl rfl rfl rfl rfl ?_
            refine TL_pure rfl rfl rfl rfl (op_pick_false rfl rfl) ?_
            refine TL_pure rfl rfl rfl rfl (op_move rfl) ?_
            refine TL_pass rfl rfl rfl rfl rfl rfl rfl ?_
            refine TL_pure rfl rfl rfl rfl (op_pick_false rfl rfl) ?_
            refine TL_nil ?_
            refine T_cond_false rfl ?_
            refine T_skip ?_
            refine T_seq ?_
            refine T_region ?_
            refine TL_pure rfl rfl rfl rfl (op_move rfl) ?_
            refine TL_pure rfl rfl rfl rfl (op_assign rfl) ?_
            refine TL_nil ?_
            refine T_keepH [2] [] rfl rfl rfl rfl (by rw [hF]; rfl) ?_
            refine T_ret ?_
            obtain rfl := someI hm
            refine ⟨[_], [], ⟨rfl, trivial⟩, ?_, rfl, rfl, rfl, rfl⟩
            rfl
        · refine TL_split 62 rfl rfl rfl (fun hq => ?_) (fun hq => ?_)
          · refine TL_want rfl rfl ?_
            refine TL_pure rfl rfl rfl rfl (op_move rfl) ?_
            refine TL_pure rfl rfl rfl rfl (op_pick_true rfl rfl) ?_
            refine TL_keepH [1, 6, 7, 8, 64] [11] rfl rfl rfl rfl (by rw [hF]; rfl) ?_
            exact TL_cast _ (by first | (rw [hq, Bool.true_and]; done) | (rw [hq]; rfl)) (hjj () trivial)
          · refine TL_pass rfl rfl rfl rfl rfl rfl rfl ?_
            refine TL_pure rfl rfl rfl rfl (op_pick_false rfl rfl) ?_
            refine TL_keepH [1, 6, 7, 8, 64] [11] rfl rfl rfl rfl (by rw [hF]; rfl) ?_
            exact TL_cast _ (by first | (rw [hq, Bool.false_and]; done) | (rw [hq]; rfl)) (hjj () trivial)
      · replace hm := condF hq hm
        refine T_seq ?_
        refine T_region ?_
        refine TL_pure rfl rfl rfl rfl (op_eql rfl rfl) ?_
        refine TL_pure rfl rfl rfl rfl (op_assign rfl) ?_
        refine TL_nil ?_
        refine T_cond rfl (fun hq => ?_) (fun hq => ?_)
        · replace hm := condT hq hm
          refine T_seq ?_
          refine T_region ?_
          refine TL_pure rfl rfl rfl rfl (op_fieldAddr fa69_1 rfl rfl) ?_
          refine TL_pure rfl rfl rfl rfl (op_load_one ag2 rfl rfl) ?_
          obtain ⟨r80, hr80, hm⟩ := bindS hm
          refine TL_callF (c_impl_isVar p0.Var r80 hr80) Try.call129 rfl rfl rfl rfl rfl ?_
          refine TL_pure rfl rfl rfl rfl (op_move rfl) ?_
          refine TL_join 2 (fun _ : Unit => ⟨[(1, .ptr 11 0 0), (5, .bool r17), (7, .bool (decide ((p0.Facts.length : Int) = (0 : Int)))), (8, .int .i64 (-1 : Int)), (83, .bool (r80 && (decide (p0.Event = (0 : Int)))))], [(11, .box [.int .i64 p0.Kind, .int .i64 p0.Var, .int .i64 p0.Event, .int .i64 p0.Sum.Const, .sl 1 (List.map a_i64 p0.Sum.Coeffs), .int .i64 p0.Index.Const, .sl 1 (List.map a_i64 p0.Index.Coeffs), .sl 2 (List.map a_Term p0.Facts)])]⟩) (fun _ => True) (fun _ _ => ?_) (fun hjj => ?_)
          · refine TL_pure rfl rfl rfl rfl (op_move rfl) ?_
            refine TL_join 2 (fun _ : Unit => ⟨[(1, .ptr 11 0 0), (7, .bool (decide ((p0.Facts.length : Int) = (0 : Int)))), (8, .int .i64 (-1 : Int)), (86, .bool ((r80 && (decide (p0.Event = (0 : Int)))) && r17))], [(11, .box [.int .i64 p0.Kind, .int .i64 p0.Var, .int .i64 p0.Event, .int .i64 p0.Sum.Const, .sl 1 (List.map a_i64 p0.Sum.Coeffs), .int .i64 p0.Index.Const, .sl 1 (List.map a_i64 p0.Index.Coeffs), .sl 2 (List.map a_Term p0.Facts)])]⟩) (fun _ => True) (fun _ _ => ?_) (fun hjj => ?_)
            · refine TL_pure rfl rfl rfl rfl (op_move rfl) ?_
              refine TL_split 87 rfl rfl rfl (fun hq => ?_) (fun hq => ?_)
              · replace hm := condT hq hm
                refine TL_want rfl rfl ?_
                refine TL_pure rfl rfl rfl rfl (op_fieldAddr fa69_4 rfl rfl) ?_
                refine TL_want rfl rfl ?_
                refine TL_pure rfl rfl rfl rfl (op_load_agg ag67 sz67 rfl rfl rfl) ?_
                refine TL_want rfl rfl ?_
                obtain ⟨r90, hr90, hm⟩ := bindS hm
                refine TL_callF (c_impl_isOver p0.Index r90 hr90) Try.call102 rfl rfl rfl rfl rfl ?_
                refine TL_pure rfl rfl rfl rfl (op_pick_true rfl rfl) ?_
                refine TL_pure rfl rfl rfl rfl (op_move rfl) ?_
                refine TL_join 2 (fun _ : Unit => ⟨[(8, .int .i64 (-1 : Int)), (94, .bool (r90 && (decide ((p0.Facts.length : Int) = (0 : Int)))))], []⟩) (fun _ => True) (fun _ _ => ?_) (fun hjj => ?_)
                · refine TL_nil ?_
                  refine T_cond rfl (fun hq => ?_) (fun hq => ?_)
                  · replace hm := condT hq hm
                    refine T_region ?_
                    refine TL_pure rfl rfl rfl rfl (op_assign rfl) ?_
                    refine TL_nil ?_
                    refine T_seq ?_
                    refine T_region ?_
                    refine TL_pure rfl rfl rfl rfl (op_move rfl) ?_
                    refine TL_pure rfl rfl rfl rfl (op_assign rfl) ?_
                    refine TL_nil ?_
                    refine T_keepH [2] [] rfl rfl rfl rfl (by rw [hF]; rfl) ?_
                    refine T_ret ?_
                    obtain rfl := someI hm
                    refine ⟨[_], [], ⟨rfl, trivial⟩, ?_, rfl, rfl, rfl, rfl⟩
                    rfl
                  · replace hm := condF hq hm
                    refine T_skip ?_
                    refine T_seq ?_
                    refine T_region ?_
                    refine TL_pure rfl rfl rfl rfl (op_move rfl) ?_
                    refine TL_pure rfl rfl rfl rfl (op_assign rfl) ?_
                    refine TL_nil ?_
                    refine T_keepH [2] [] rfl rfl rfl rfl (by rw [hF]; rfl) ?_
                    refine T_ret ?_
                    obtain rfl := someI hm
                    refine ⟨[_], [], ⟨rfl, trivial⟩, ?_, rfl, rfl, rfl, rfl⟩
                    rfl
                · refine TL_split 92 rfl rfl rfl (fun hq => ?_) (fun hq => ?_)
                  · refine TL_want rfl rfl ?_
                    refine TL_pure rfl rfl rfl rfl (op_move rfl) ?_
                    refine TL_pure rfl rfl rfl rfl (op_pick_true rfl rfl) ?_
                    refine TL_keepH [8, 94] [] rfl rfl rfl rfl (by rw [hF]; rfl) ?_
                    exact TL_cast _ (by first | (rw [hq, Bool.true_and]; done) | (rw [hq]; rfl)) (hjj () trivial)
                  · refine TL_pass rfl rfl rfl rfl rfl rfl rfl ?_
                    refine TL_pure rfl rfl rfl rfl (op_pick_false rfl rfl) ?_
                    refine TL_keepH [8, 94] [] rfl rfl rfl rfl (by rw [hF]; rfl) ?_
                    exact TL_cast _ (by first | (rw [hq, Bool.false_and]; done) | (rw [hq]; rfl)) (hjj () trivial)
              · replace hm := condF hq hm
                refine TL_pass rfl rfl rfl rfl rfl rfl rfl ?_
                refine TL_pass rfl rfl rfl rfl rfl rfl rfl ?_
                refine TL_pass rfl rfl rfl rfl rfl rfl rfl ?_
                refine TL_pure rfl rfl rfl rfl (op_pick_false rfl rfl) ?_
                refine TL_pure rfl rfl rfl rfl (op_move rfl) ?_
                refine TL_pass rfl rfl rfl rfl rfl rfl rfl ?_
                refine TL_pure rfl rfl rfl rfl (op_pick_false rfl rfl) ?_
                refine TL_nil ?_
                refine T_cond_false rfl ?_
                refine T_skip ?_
                refine T_seq ?_
                refine T_region ?_
                refine TL_pure rfl rfl rfl rfl (op_move rfl) ?_
                refine TL_pure rfl rfl rfl rfl (op_assign rfl) ?_
                refine TL_nil ?_
                refine T_keepH [2] [] rfl rfl rfl rfl (by rw [hF]; rfl) ?_
                refine T_ret ?_
                obtain rfl := someI hm
                refine ⟨[_], [], ⟨rfl, trivial⟩, ?_, rfl, rfl, rfl, rfl⟩
                rfl
            · refine TL_split 84 rfl rfl rfl (fun hq => ?_) (fun hq => ?_)
              · refine TL_want rfl rfl ?_
                refine TL_pure rfl rfl rfl rfl (op_move rfl) ?_
                refine TL_pure rfl rfl rfl rfl (op_pick_true rfl rfl) ?_
                refine TL_keepH [1, 7, 8, 86] [11] rfl rfl rfl rfl (by rw [hF]; rfl) ?_
                exact TL_cast _ (by first | (rw [hq, Bool.true_and]; done) | (rw [hq]; rfl)) (hjj () trivial)
              · refine TL_pass rfl rfl rfl rfl rfl rfl rfl ?_
                refine TL_pure rfl rfl rfl rfl (op_pick_false rfl rfl) ?_
                refine TL_keepH [1, 7, 8, 86] [11] rfl rfl rfl rfl (by rw [hF]; rfl) ?_
                exact TL_cast _ (by first | (rw [hq, Bool.false_and]; done) | (rw [hq]; rfl)) (hjj () trivial)
          · refine TL_split 81 rfl rfl rfl (fun hq => ?_) (fun hq => ?_)
            · refine TL_want rfl rfl ?_
              refine TL_pure rfl rfl rfl rfl (op_move rfl) ?_
              refine TL_pure rfl rfl rfl rfl (op_pick_true rfl rfl) ?_
              refine TL_keepH [1, 5, 7, 8, 83] [11] rfl rfl rfl rfl (by rw [hF]; rfl) ?_
              exact TL_cast _ (by first | (rw [hq, Bool.true_and]; done) | (rw [hq]; rfl)) (hjj () trivial)
            · refine TL_pass rfl rfl rfl rfl rfl rfl rfl ?_
              refine TL_pure rfl rfl rfl rfl (op_pick_false rfl rfl) ?_
              refine TL_keepH [1, 5, 7, 8, 83] [11] rfl rfl rfl rfl (by rw [hF]; rfl) ?_
              exact TL_cast _ (by first | (rw [hq, Bool.false_and]; done) | (rw [hq]; rfl)) (hjj () trivial)
        · replace hm := condF hq hm
          refine T_seq ?_
          refine T_region ?_
          refine TL_pure rfl rfl rfl rfl (op_eql rfl rfl) ?_
          refine TL_pure rfl rfl rfl rfl (op_assign rfl) ?_
          refine TL_nil ?_
          refine T_cond rfl (fun hq => ?_) (fun hq => ?_)
          · replace hm := condT hq hm
            refine T_seq ?_
            refine T_region ?_
            refine TL_pure rfl rfl rfl rfl (op_move rfl) ?_
            refine TL_pure rfl rfl rfl rfl (op_move rfl) ?_
            refine TL_join 2 (fun _ : Unit => ⟨[(1, .ptr 11 0 0), (7, .bool (decide ((p0.Facts.length : Int) = (0 : Int)))), (8, .int .i64 (-1 : Int)), (100, .bool ((decide (p0.Var = (0 : Int))) && (decide (p0.Event = (0 : Int)))))], [(11, .box [.int .i64 p0.Kind, .int .i64 p0.Var, .int .i64 p0.Event, .int .i64 p0.Sum.Const, .sl 1 (List.map a_i64 p0.Sum.Coeffs), .int .i64 p0.Index.Const, .sl 1 (List.map a_i64 p0.Index.Coeffs), .sl 2 (List.map a_Term p0.Facts)])]⟩) (fun _ => True) (fun _ _ => ?_) (fun hjj => ?_)
            · refine TL_pure rfl rfl rfl rfl (op_move rfl) ?_
              refine TL_split 101 rfl rfl rfl (fun hq => ?_) (fun hq => ?_)
              · replace hm := condT hq hm
                refine TL_want rfl rfl ?_
                refine TL_pure rfl rfl rfl rfl (op_fieldAddr fa69_3 rfl rfl) ?_
                refine TL_want rfl rfl ?_
                refine TL_pure rfl rfl rfl rfl (op_load_agg ag67 sz67 rfl rfl rfl) ?_
                refine TL_want rfl rfl ?_
                obtain ⟨r104, hr104, hm⟩ := bindS hm
                refine TL_callF (c_impl_isOver p0.Sum r104 hr104) Try.call102 rfl rfl rfl rfl rfl ?_
                refine TL_pure rfl rfl rfl rfl (op_pick_true rfl rfl) ?_
                refine TL_pure rfl rfl rfl rfl (op_move rfl) ?_
                refine TL_split 106 rfl rfl rfl (fun hq => ?_) (fun hq => ?_)
                · replace hm := condT hq hm
                  refine TL_want rfl rfl ?_
                  refine TL_pure rfl rfl rfl rfl (op_fieldAddr fa69_4 rfl rfl) ?_
                  refine TL_want rfl rfl ?_
                  refine TL_pure rfl rfl rfl rfl (op_load_agg ag67 sz67 rfl rfl rfl) ?_
                  refine TL_want rfl rfl ?_
                  obtain ⟨r109, hr109, hm⟩ := bindS hm
                  refine TL_callF (c_impl_isOver p0.Index r109 hr109) Try.call102 rfl rfl rfl rfl rfl ?_
                  refine TL_pure rfl rfl rfl rfl (op_pick_true rfl rfl) ?_
                  refine TL_pure rfl rfl rfl rfl (op_move rfl) ?_
                  refine TL_join 2 (fun _ : Unit => ⟨[(8, .int .i64 (-1 : Int)), (113, .bool (r109 && (decide ((p0.Facts.length : Int) = (0 : Int)))))], []⟩) (fun _ => True) (fun _ _ => ?_) (fun hjj => ?_)
                  · refine TL_nil ?_
                    refine T_cond rfl (fun hq => ?_) (fun hq => ?_)
                    · replace hm := condT hq hm
                      refine T_region ?_
                      refine TL_pure rfl rfl rfl rfl (op_assign rfl) ?_
                      refine TL_nil ?_
                      refine T_seq ?_
                      refine T_region ?_
                      refine TL_pure rfl rfl rfl rfl (op_move rfl) ?_
                      refine TL_pure rfl rfl rfl rfl (op_assign rfl) ?_
                      refine TL_nil ?_
                      refine T_keepH [2] [] rfl rfl rfl rfl (by rw [hF]; rfl) ?_
                      refine T_ret ?_
                      obtain rfl := someI hm
                      refine ⟨[_], [], ⟨rfl, trivial⟩, ?_, rfl, rfl, rfl, rfl⟩
                      rfl
                    · replace hm := condF hq hm
                      refine T_skip ?_
                      refine T_seq ?_
                      refine T_region ?_
                      refine TL_pure rfl rfl rfl rfl (op_move rfl) ?_
                      refine TL_pure rfl rfl rfl rfl (op_assign rfl) ?_
                      refine TL_nil ?_
                      refine T_keepH [2] [] rfl rfl rfl rfl (by rw [hF]; rfl) ?_
                      refine T_ret ?_
                      obtain rfl := someI hm
                      refine ⟨[_], [], ⟨rfl, trivial⟩, ?_, rfl, rfl, rfl, rfl⟩
                      rfl
                  · refine TL_split 111 rfl rfl rfl (fun hq => ?_) (fun hq => ?_)
                    · refine TL_want rfl rfl ?_
                      refine TL_pure rfl rfl rfl rfl (op_move rfl) ?_
                      refine TL_pure rfl rfl rfl rfl (op_pick_true rfl rfl) ?_
                      refine TL_keepH [8, 113] [] rfl rfl rfl rfl (by rw [hF]; rfl) ?_
                      exact TL_cast _ (by first | (rw [hq, Bool.true_and]; done) | (rw [hq]; rfl)) (hjj () trivial)
                    · refine TL_pass rfl rfl rfl rfl rfl rfl rfl ?_
                      refine TL_pure rfl rfl rfl rfl (op_pick_false rfl rfl) ?_
                      refine TL_keepH [8, 113] [] rfl rfl rfl rfl (by rw [hF]; rfl) ?_
                      exact TL_cast _ (by first | (rw [hq, Bool.false_and]; done) | (rw [hq]; rfl)) (hjj () trivial)
                · replace hm := condF hq hm
                  refine TL_pass rfl rfl rfl rfl rfl rfl rfl ?_
                  refine TL_pass rfl rfl rfl rfl rfl rfl rfl ?_
                  refine TL_pass rfl rfl rfl rfl rfl rfl rfl ?_
                  refine TL_pure rfl rfl rfl rfl (op_pick_false rfl rfl) ?_
                  refine TL_pure rfl rfl rfl rfl (op_move rfl) ?_
                  refine TL_pass rfl rfl rfl rfl rfl rfl rfl ?_
                  refine TL_pure rfl rfl rfl rfl (op_pick_false rfl rfl) ?_
                  refine TL_nil ?_
                  refine T_cond_false rfl ?_
                  refine T_skip ?_
                  refine T_seq ?_
                  refine T_region ?_
                  refine TL_pure rfl rfl rfl rfl (op_move rfl) ?_
                  refine TL_pure rfl rfl rfl rfl (op_assign rfl) ?_
                  refine TL_nil ?_
                  refine T_keepH [2] [] rfl rfl rfl rfl (by rw [hF]; rfl) ?_
                  refine T_ret ?_
                  obtain rfl := someI hm
                  refine ⟨[_], [], ⟨rfl, trivial⟩, ?_, rfl, rfl, rfl, rfl⟩
                  rfl
              · replace hm := condF hq hm
                refine TL_pass rfl rfl rfl rfl rfl rfl rfl ?_
                refine TL_pass rfl rfl rfl rfl rfl rfl rfl ?_
                refine TL_pass rfl rfl rfl rfl rfl rfl rfl ?_
                refine TL_pure rfl rfl rfl rfl (op_pick_false rfl rfl) ?_
                refine TL_pure rfl rfl rfl rfl (op_move rfl) ?_
                refine TL_pass rfl rfl rfl rfl rfl rfl rfl ?_
                refine TL_pass rfl rfl rfl rfl rfl rfl rfl ?_
                refine TL_pass rfl rfl rfl rfl rfl rfl rfl ?_
                refine TL_pure rfl rfl rfl rfl (op_pick_false rfl rfl) ?_
                refine TL_pure rfl rfl rfl rfl (op_move rfl) ?_
                refine TL_pass rfl rfl rfl rfl rfl rfl rfl ?_
                refine TL_pure rfl rfl rfl rfl (op_pick_false rfl rfl) ?_
                refine TL_nil ?_
                refine T_cond_false rfl ?_
                refine T_skip ?_
                refine T_seq ?_
                refine T_region ?_
                refine TL_pure rfl rfl rfl rfl (op_move rfl) ?_
                refine TL_pure rfl rfl rfl rfl (op_assign rfl) ?_
                refine TL_nil ?_
                refine T_keepH [2] [] rfl rfl rfl rfl (by rw [hF]; rfl) ?_
                refine T_ret ?_
                obtain rfl := someI hm
                refine ⟨[_], [], ⟨rfl, trivial⟩, ?_, rfl, rfl, rfl, rfl⟩
                rfl
            · refine TL_split 98 rfl rfl rfl (fun hq => ?_) (fun hq => ?_)
              · refine TL_want rfl rfl ?_
                refine TL_pure rfl rfl rfl rfl (op_move rfl) ?_
                refine TL_pure rfl rfl rfl rfl (op_pick_true rfl rfl) ?_
                refine TL_keepH [1, 7, 8, 100] [11] rfl rfl rfl rfl (by rw [hF]; rfl) ?_
                exact TL_cast _ (by first | (rw [hq, Bool.true_and]; done) | (rw [hq]; rfl)) (hjj () trivial)
              · refine TL_pass rfl rfl rfl rfl rfl rfl rfl ?_
                refine TL_pure rfl rfl rfl rfl (op_pick_false rfl rfl) ?_
                refine TL_keepH [1, 7, 8, 100] [11] rfl rfl rfl rfl (by rw [hF]; rfl) ?_
                exact TL_cast _ (by first | (rw [hq, Bool.false_and]; done) | (rw [hq]; rfl)) (hjj () trivial)
          · replace hm := condF hq hm
            refine T_seq ?_
            refine T_region ?_
            refine TL_pure rfl rfl rfl rfl (op_eql rfl rfl) ?_
            refine TL_pure rfl rfl rfl rfl (op_assign rfl) ?_
            refine TL_nil ?_
            refine T_cond rfl (fun hq => ?_) (fun hq => ?_)
            · replace hm := condT hq hm
              refine T_seq ?_
              refine T_region ?_
              refine TL_pure rfl rfl rfl rfl (op_move rfl) ?_
              refine TL_pure rfl rfl rfl rfl (op_move rfl) ?_
              refine TL_split 117 rfl rfl rfl (fun hq => ?_) (fun hq => ?_)
              · replace hm := condT hq hm
                refine TL_want rfl rfl ?_
                refine TL_pure rfl rfl rfl rfl (op_fieldAddr fa69_2 rfl rfl) ?_
                refine TL_want rfl rfl ?_
                refine TL_pure rfl rfl rfl rfl (op_load_one ag2 rfl rfl) ?_
                refine TL_want rfl rfl ?_
                obtain ⟨r120, hr120, hm⟩ := bindS hm
                refine TL_callF (c_impl_isEvent p0.Event r120 hr120) Try.call130 rfl rfl rfl rfl rfl ?_
                refine TL_pure rfl rfl rfl rfl (op_pick_true rfl rfl) ?_
                refine TL_pure rfl rfl rfl rfl (op_move rfl) ?_
                refine TL_join 2 (fun _ : Unit => ⟨[(6, .bool r20), (7, .bool (decide ((p0.Facts.length : Int) = (0 : Int)))), (8, .int .i64 (-1 : Int)), (124, .bool (r120 && r17))], []⟩) (fun _ => True) (fun _ _ => ?_) (fun hjj => ?_)
                · refine TL_pure rfl rfl rfl rfl (op_move rfl) ?_
                  refine TL_join 2 (fun _ : Unit => ⟨[(7, .bool (decide ((p0.Facts.length : Int) = (0 : Int)))), (8, .int .i64 (-1 : Int)), (127, .bool ((r120 && r17) && r20))], []⟩) (fun _ => True) (fun _ _ => ?_) (fun hjj => ?_)
                  · refine TL_pure rfl rfl rfl rfl (op_move rfl) ?_
                    refine TL_join 2 (fun _ : Unit => ⟨[(8, .int .i64 (-1 : Int)), (130, .bool (((r120 && r17) && r20) && (decide ((p0.Facts.length : Int) = (0 : Int)))))], []⟩) (fun _ => True) (fun _ _ => ?_) (fun hjj => ?_)
                    · refine TL_nil ?_
                      refine T_cond rfl (fun hq => ?_) (fun hq => ?_)
                      · replace hm := condT hq hm
                        refine T_region ?_
                        refine TL_pure rfl rfl rfl rfl (op_assign rfl) ?_
                        refine TL_nil ?_
                        refine T_seq ?_
                        refine T_region ?_
                        refine TL_pure rfl rfl rfl rfl (op_move rfl) ?_
                        refine TL_pure rfl rfl rfl rfl (op_assign rfl) ?_
                        refine TL_nil ?_
                        refine T_keepH [2] [] rfl rfl rfl rfl (by rw [hF]; rfl) ?_
                        refine T_ret ?_
                        obtain rfl := someI hm
                        refine ⟨[_], [], ⟨rfl, trivial⟩, ?_, rfl, rfl, rfl, rfl⟩
                        rfl
                      · replace hm := condF hq hm
                        refine T_skip ?_
                        refine T_seq ?_
                        refine T_region ?_
                        refine TL_pure rfl rfl rfl rfl (op_move rfl) ?_
                        refine TL_pure rfl rfl rfl rfl (op_assign rfl) ?_
                        refine TL_nil ?_
                        refine T_keepH [2] [] rfl rfl rfl rfl (by rw [hF]; rfl) ?_
                        refine T_ret ?_
                        obtain rfl := someI hm
                        refine ⟨[_], [], ⟨rfl, trivial⟩, ?_, rfl, rfl, rfl, rfl⟩
                        rfl
                    · refine TL_split 128 rfl rfl rfl (fun hq => ?_) (fun hq => ?_)
                      · refine TL_want rfl rfl ?_
                        refine TL_pure rfl rfl rfl rfl (op_move rfl) ?_
                        refine TL_pure rfl rfl rfl rfl (op_pick_true rfl rfl) ?_
                        refine TL_keepH [8, 130] [] rfl rfl rfl rfl (by rw [hF]; rfl) ?_
                        exact TL_cast _ (by first | (rw [hq, Bool.true_and]; done) | (rw [hq]; rfl)) (hjj () trivial)
                      · refine TL_pass rfl rfl rfl rfl rfl rfl rfl ?_
                        refine TL_pure rfl rfl rfl rfl (op_pick_false rfl rfl) ?_
                        refine TL_keepH [8, 130] [] rfl rfl rfl rfl (by rw [hF]; rfl) ?_
                        exact TL_cast _ (by first | (rw [hq, Bool.false_and]; done) | (rw [hq]; rfl)) (hjj () trivial)
                  · refine TL_split 125 rfl rfl rfl (fun hq => ?_) (fun hq => ?_)
                    · refine TL_want rfl rfl ?_
                      refine TL_pure rfl rfl rfl rfl (op_move rfl) ?_
                      refine TL_pure rfl rfl rfl rfl (op_pick_true rfl rfl) ?_
                      refine TL_keepH [7, 8, 127] [] rfl rfl rfl rfl (by rw [hF]; rfl) ?_
                      exact TL_cast _ (by first | (rw [hq, Bool.true_and]; done) | (rw [hq]; rfl)) (hjj () trivial)
                    · refine TL_pass rfl rfl rfl rfl rfl rfl rfl ?_
                      refine TL_pure rfl rfl rfl rfl (op_pick_false rfl rfl) ?_
                      refine TL_keepH [7, 8, 127] [] rfl rfl rfl rfl (by rw [hF]; rfl) ?_
                      exact TL_cast _ (by first | (rw [hq, Bool.false_and]; done) | (rw [hq]; rfl)) (hjj () trivial)
                · refine TL_split 122 rfl rfl rfl (fun hq => ?_) (fun hq => ?_)
                  · refine TL_want rfl rfl ?_
                    refine TL_pure rfl rfl rfl rfl (op_move rfl) ?_
                    refine TL_pure rfl rfl rfl rfl (op_pick_true rfl rfl) ?_
                    refine TL_keepH [6, 7, 8, 124] [] rfl rfl rfl rfl (by rw [hF]; rfl) ?_
                    exact TL_cast _ (by first | (rw [hq, Bool.true_and]; done) | (rw [hq]; rfl)) (hjj () trivial)
                  · refine TL_pass rfl rfl rfl rfl rfl rfl rfl ?_
                    refine TL_pure rfl rfl rfl rfl (op_pick_false rfl rfl) ?_
                    refine TL_keepH [6, 7, 8, 124] [] rfl rfl rfl rfl (by rw [hF]; rfl) ?_
                    exact TL_cast _ (by first | (rw [hq, Bool.false_and]; done) | (rw [hq]; rfl)) (hjj () trivial)
              · replace hm := condF hq hm
                refine TL_pass rfl rfl rfl rfl rfl rfl rfl ?_
                refine TL_pass rfl rfl rfl rfl rfl rfl rfl ?_
                refine TL_pass rfl rfl rfl rfl rfl rfl rfl ?_
                refine TL_pure rfl rfl rfl rfl (op_pick_false rfl rfl) ?_
                refine TL_pure rfl rfl rfl rfl (op_move rfl) ?_
                refine TL_pass rfl rfl rfl rfl rfl rfl rfl ?_
                refine TL_pure rfl rfl rfl rfl (op_pick_false rfl rfl) ?_
                refine TL_pure rfl rfl rfl rfl (op_move rfl) ?_
                refine TL_pass rfl rfl rfl rfl rfl rfl rfl ?_
                refine TL_pure rfl rfl rfl rfl (op_pick_false rfl rfl) ?_
                refine TL_pure rfl rfl rfl rfl (op_move rfl) ?_
                refine TL_pass rfl rfl rfl rfl rfl rfl rfl ?_
                refine TL_pure rfl rfl rfl rfl (op_pick_false rfl rfl) ?_
                refine TL_nil ?_
                refine T_cond_false rfl ?_
                refine T_skip ?_
                refine T_seq ?_
                refine T_region ?_
                refine TL_pure rfl rfl rfl rfl (op_move rfl) ?_
                refine TL_pure rfl rfl rfl rfl (op_assign rfl) ?_
                refine TL_nil ?_
                refine T_keepH [2] [] rfl rfl rfl rfl (by rw [hF]; rfl) ?_
                refine T_ret ?_
                obtain rfl := someI hm
                refine ⟨[_], [], ⟨rfl, trivial⟩, ?_, rfl, rfl, rfl, rfl⟩
                rfl
            · replace hm := condF hq hm
              refine T_seq ?_
              refine T_region ?_
              refine TL_pure rfl rfl rfl rfl (op_eql rfl rfl) ?_
              refine TL_pure rfl rfl rfl rfl (op_assign rfl) ?_
              refine TL_nil ?_
              refine T_cond rfl (fun hq => ?_) (fun hq => ?_)
              · replace hm := condT hq hm
                refine T_seq ?_
                refine T_region ?_
                refine TL_pure rfl rfl rfl rfl (op_move rfl) ?_
                refine TL_pure rfl rfl rfl rfl (op_move rfl) ?_
                refine TL_join 2 (fun _ : Unit => ⟨[(1, .ptr 11 0 0), (6, .bool r20), (7, .bool (decide ((p0.Facts.length : Int) = (0 : Int)))), (8, .int .i64 (-1 : Int)), (136, .bool ((decide (p0.Var = (0 : Int))) && (decide (p0.Event = (0 : Int)))))], [(11, .box [.int .i64 p0.Kind, .int .i64 p0.Var, .int .i64 p0.Event, .int .i64 p0.Sum.Const, .sl 1 (List.map a_i64 p0.Sum.Coeffs), .int .i64 p0.Index.Const, .sl 1 (List.map a_i64 p0.Index.Coeffs), .sl 2 (List.map a_Term p0.Facts)])]⟩) (fun _ => True) (fun _ _ => ?_) (fun hjj => ?_)
                · refine TL_pure rfl rfl rfl rfl (op_move rfl) ?_
                  refine TL_split 137 rfl rfl rfl (fun hq => ?_) (fun hq => ?_)
                  · replace hm := condT hq hm
                    refine TL_want rfl rfl ?_
                    refine TL_pure rfl rfl rfl rfl (op_fieldAddr fa69_3 rfl rfl) ?_
                    refine TL_want rfl rfl ?_
                    refine TL_pure rfl rfl rfl rfl (op_load_agg ag67 sz67 rfl rfl rfl) ?_
                    refine TL_want rfl rfl ?_
                    obtain ⟨r140, hr140, hm⟩ := bindS hm
                    refine TL_callF (c_impl_isOver p0.Sum r140 hr140) Try.call102 rfl rfl rfl rfl rfl ?_
                    refine TL_pure rfl rfl rfl rfl (op_pick_true rfl rfl) ?_
                    refine TL_pure rfl rfl rfl rfl (op_move rfl) ?_
                    refine TL_join 2 (fun _ : Unit => ⟨[(7, .bool (decide ((p0.Facts.length : Int) = (0 : Int)))), (8, .int .i64 (-1 : Int)), (144, .bool (r140 && r20))], []⟩) (fun _ => True) (fun _ _ => ?_) (fun hjj => ?_)
                    · refine TL_pure rfl rfl rfl rfl (op_move rfl) ?_
                      refine TL_join 2 (fun _ : Unit => ⟨[(8, .int .i64 (-1 : Int)), (147, .bool ((r140 && r20) && (decide ((p0.Facts.length : Int) = (0 : Int)))))], []⟩) (fun _ => True) (fun _ _ => ?_) (fun hjj => ?_)
                      · refine TL_nil ?_
                        refine T_cond rfl (fun hq => ?_) (fun hq => ?_)
                        · replace hm := condT hq hm
                          refine T_region ?_
                          refine TL_pure rfl rfl rfl rfl (op_assign rfl) ?_
                          refine TL_nil ?_
                          refine T_seq ?_
                          refine T_region ?_
                          refine TL_pure rfl rfl rfl rfl (op_move rfl) ?_
                          refine TL_pure rfl rfl rfl rfl (op_assign rfl) ?_
                          refine TL_nil ?_
                          refine T_keepH [2] [] rfl rfl rfl rfl (by rw [hF]; rfl) ?_
                          refine T_ret ?_
                          obtain rfl := someI hm
                          refine ⟨[_], [], ⟨rfl, trivial⟩, ?_, rfl, rfl, rfl, rfl⟩
                          rfl
                        · replace hm := condF hq hm
                          refine T_skip ?_
                          refine T_seq ?_
                          refine T_region ?_
                          refine TL_pure rfl rfl rfl rfl (op_move rfl) ?_
                          refine TL_pure rfl rfl rfl rfl (op_assign rfl) ?_
                          refine TL_nil ?_
                          refine T_keepH [2] [] rfl rfl rfl rfl (by rw [hF]; rfl) ?_
                          refine T_ret ?_
                          obtain rfl := someI hm
                          refine ⟨[_], [], ⟨rfl, trivial⟩, ?_, rfl, rfl, rfl, rfl⟩
                          rfl
                      · refine TL_split 145 rfl rfl rfl (fun hq => ?_) (fun hq => ?_)
                        · refine TL_want rfl rfl ?_
                          refine TL_pure rfl rfl rfl rfl (op_move rfl) ?_
                          refine TL_pure rfl rfl rfl rfl (op_pick_true rfl rfl) ?_
                          refine TL_keepH [8, 147] [] rfl rfl rfl rfl (by rw [hF]; rfl) ?_
                          exact TL_cast _ (by first | (rw [hq, Bool.true_and]; done) | (rw [hq]; rfl)) (hjj () trivial)
                        · refine TL_pass rfl rfl rfl rfl rfl rfl rfl ?_
                          refine TL_pure rfl rfl rfl rfl (op_pick_false rfl rfl) ?_
                          refine TL_keepH [8, 147] [] rfl rfl rfl rfl (by rw [hF]; rfl) ?_
                          exact TL_cast _ (by first | (rw [hq, Bool.false_and]; done) | (rw [hq]; rfl)) (hjj () trivial)
                    · refine TL_split 142 rfl rfl rfl (fun hq => ?_) (fun hq => ?_)
                      · refine TL_want rfl rfl ?_
                        refine TL_pure rfl rfl rfl rfl (op_move rfl) ?_
                        refine TL_pure rfl rfl rfl rfl (op_pick_true rfl rfl) ?_
                        refine TL_keepH [7, 8, 144] [] rfl rfl rfl rfl (by rw [hF]; rfl) ?_
                        exact TL_cast _ (by first | (rw [hq, Bool.true_and]; done) | (rw [hq]; rfl)) (hjj () trivial)
                      · refine TL_pass rfl rfl rfl rfl rfl rfl rfl ?_
                        refine TL_pure rfl rfl rfl rfl (op_pick_false rfl rfl) ?_
                        refine TL_keepH [7, 8, 144] [] rfl rfl rfl rfl (by rw [hF]; rfl) ?_
                        exact TL_cast _ (by first | (rw [hq, Bool.false_and]; done) | (rw [hq]; rfl)) (hjj () trivial)
                  · replace hm := condF hq hm
                    refine TL_pass rfl rfl rfl rfl rfl rfl rfl ?_
                    refine TL_pass rfl rfl rfl rfl rfl rfl rfl ?_
                    refine TL_pass rfl rfl rfl rfl rfl rfl rfl ?_
                    refine TL_pure rfl rfl rfl rfl (op_pick_false rfl rfl) ?_
                    refine TL_pure rfl rfl rfl rfl (op_move rfl) ?_
                    refine TL_pass rfl rfl rfl rfl rfl rfl rfl ?_
                    refine TL_pure rfl rfl rfl rfl (op_pick_false rfl rfl) ?_
                    refine TL_pure rfl rfl rfl rfl (op_move rfl) ?_
                    refine TL_pass rfl rfl rfl rfl rfl rfl rfl ?_
                    refine TL_pure rfl rfl rfl rfl (op_pick_false rfl rfl) ?_
                    refine TL_nil ?_
                    refine T_cond_false rfl ?_
                    refine T_skip ?_
                    refine T_seq ?_
                    refine T_region ?_
                    refine TL_pure rfl rfl rfl rfl (op_move rfl) ?_
                    refine TL_pure rfl rfl rfl rfl (op_assign rfl) ?_
                    refine TL_nil ?_
                    refine T_keepH [2] [] rfl rfl rfl rfl (by rw [hF]; rfl) ?_
                    refine T_ret ?_
                    obtain rfl := someI hm
                    refine ⟨[_], [], ⟨rfl, trivial⟩, ?_, rfl, rfl, rfl, rfl⟩
                    rfl
                · refine TL_split 134 rfl rfl rfl (fun hq => ?_) (fun hq => ?_)
                  · refine TL_want rfl rfl ?_
                    refine TL_pure rfl rfl rfl rfl (op_move rfl) ?_
                    refine TL_pure rfl rfl rfl rfl (op_pick_true rfl rfl) ?_
                    refine TL_keepH [1, 6, 7, 8, 136] [11] rfl rfl rfl rfl (by rw [hF]; rfl) ?_
                    exact TL_cast _ (by first | (rw [hq, Bool.true_and]; done) | (rw [hq]; rfl)) (hjj () trivial)
                  · refine TL_pass rfl rfl rfl rfl rfl rfl rfl ?_
                    refine TL_pure rfl rfl rfl rfl (op_pick_false rfl rfl) ?_
                    refine TL_keepH [1, 6, 7, 8, 136] [11] rfl rfl rfl rfl (by rw [hF]; rfl) ?_
                    exact TL_cast _ (by first | (rw [hq, Bool.false_and]; done) | (rw [hq]; rfl)) (hjj () trivial)
              · replace hm := condF hq hm
                refine T_seq ?_
                refine T_region ?_
                refine TL_pure rfl rfl rfl rfl (op_eql rfl rfl) ?_
                refine TL_pure rfl rfl rfl rfl (op_assign rfl) ?_
                refine TL_nil ?_
                refine T_cond rfl (fun hq => ?_) (fun hq => ?_)
                · replace hm := condT hq hm
                  refine T_seq ?_
                  refine T_region ?_
                  refine TL_pure rfl rfl rfl rfl (op_move rfl) ?_
                  refine TL_pure rfl rfl rfl rfl (op_move rfl) ?_
                  refine TL_join 2 (fun _ : Unit => ⟨[(1, .ptr 11 0 0), (6, .bool r20), (7, .bool (decide ((p0.Facts.length : Int) = (0 : Int)))), (8, .int .i64 (-1 : Int)), (153, .bool ((decide (p0.Var = (0 : Int))) && (decide (p0.Event = (0 : Int)))))], [(11, .box [.int .i64 p0.Kind, .int .i64 p0.Var, .int .i64 p0.Event, .int .i64 p0.Sum.Const, .sl 1 (List.map a_i64 p0.Sum.Coeffs), .int .i64 p0.Index.Const, .sl 1 (List.map a_i64 p0.Index.Coeffs), .sl 2 (List.map a_Term p0.Facts)])]⟩) (fun _ => True) (fun _ _ => ?_) (fun hjj => ?_)
                  · refine TL_pure rfl rfl rfl rfl (op_move rfl) ?_
                    refine TL_split 154 rfl rfl rfl (fun hq => ?_) (fun hq => ?_)
                    · replace hm := condT hq hm
                      refine TL_want rfl rfl ?_
                      refine TL_pure rfl rfl rfl rfl (op_fieldAddr fa69_3 rfl rfl) ?_
                      refine TL_want rfl rfl ?_
                      refine TL_pure rfl rfl rfl rfl (op_load_agg ag67 sz67 rfl rfl rfl) ?_
                      refine TL_want rfl rfl ?_
                      obtain ⟨r157, hr157, hm⟩ := bindS hm
                      refine TL_callF (c_impl_isOver p0.Sum r157 hr157) Try.call102 rfl rfl rfl rfl rfl ?_
                      refine TL_pure rfl rfl rfl rfl (op_pick_true rfl rfl) ?_
                      refine TL_pure rfl rfl rfl rfl (op_move rfl) ?_
                      refine TL_join 2 (fun _ : Unit => ⟨[(7, .bool (decide ((p0.Facts.length : Int) = (0 : Int)))), (8, .int .i64 (-1 : Int)), (161, .bool (r157 && r20))], []⟩) (fun _ => True) (fun _ _ => ?_) (fun hjj => ?_)
                      · refine TL_pure rfl rfl rfl rfl (op_move rfl) ?_
                        refine TL_join 2 (fun _ : Unit => ⟨[(8, .int .i64 (-1 : Int)), (164, .bool ((r157 && r20) && (decide ((p0.Facts.length : Int) = (0 : Int)))))], []⟩) (fun _ => True) (fun _ _ => ?_) (fun hjj => ?_)
                        · refine TL_nil ?_
                          refine T_cond rfl (fun hq => ?_) (fun hq => ?_)
                          · replace hm := condT hq hm
                            refine T_region ?_
                            refine TL_pure rfl rfl rfl rfl (op_assign rfl) ?_
                            refine TL_nil ?_
                            refine T_seq ?_
                            refine T_region ?_
                            refine TL_pure rfl rfl rfl rfl (op_move rfl) ?_
                            refine TL_pure rfl rfl rfl rfl (op_assign rfl) ?_
                            refine TL_nil ?_
                            refine T_keepH [2] [] rfl rfl rfl rfl (by rw [hF]; rfl) ?_
                            refine T_ret ?_
                            obtain rfl := someI hm
                            refine ⟨[_], [], ⟨rfl, trivial⟩, ?_, rfl, rfl, rfl, rfl⟩
                            rfl
                          · replace hm := condF hq hm
                            refine T_skip ?_
                            refine T_seq ?_
                            refine T_region ?_
                            refine TL_pure rfl rfl rfl rfl (op_move rfl) ?_
                            refine TL_pure rfl rfl rfl rfl (op_assign rfl) ?_
                            refine TL_nil ?_
                            refine T_keepH [2] [] rfl rfl rfl rfl (by rw [hF]; rfl) ?_
                            refine T_ret ?_
                            obtain rfl := someI hm
                            refine ⟨[_], [], ⟨rfl, trivial⟩, ?_, rfl, rfl, rfl, rfl⟩
                            rfl
                        · refine TL_split 162 rfl rfl rfl (fun hq => ?_) (fun hq => ?_)
                          · refine TL_want rfl rfl ?_
                            refine TL_pure rfl rfl rfl rfl (op_move rfl) ?_
                            refine TL_pure rfl rfl rfl rfl (op_pick_true rfl rfl) ?_
                            refine TL_keepH [8, 164] [] rfl rfl rfl rfl (by rw [hF]; rfl) ?_
                            exact TL_cast _ (by first | (rw [hq, Bool.true_and]; done) | (rw [hq]; rfl)) (hjj () trivial)
                          · refine TL_pass rfl rfl rfl rfl rfl rfl rfl ?_
                            refine TL_pure rfl rfl rfl rfl (op_pick_false rfl rfl) ?_
                            refine TL_keepH [8, 164] [] rfl rfl rfl rfl (by rw [hF]; rfl) ?_
                            exact TL_cast _ (by first | (rw [hq, Bool.false_and]; done) | (rw [hq]; rfl)) (hjj () trivial)
                      · refine TL_split 159 rfl rfl rfl (fun hq => ?_) (fun hq => ?_)
                        · refine TL_want rfl rfl ?_
                          refine TL_pure rfl rfl rfl rfl (op_move rfl) ?_
                          refine TL_pure rfl rfl rfl rfl (op_pick_true rfl rfl) ?_
                          refine TL_keepH [7, 8, 161] [] rfl rfl rfl rfl (by rw [hF]; rfl) ?_
                          exact TL_cast _ (by first | (rw [hq, Bool.true_and]; done) | (rw [hq]; rfl)) (hjj () trivial)
                        · refine TL_pass rfl rfl rfl rfl rfl rfl rfl ?_
                          refine TL_pure rfl rfl rfl rfl (op_pick_false rfl rfl) ?_
                          refine TL_keepH [7, 8, 161] [] rfl rfl rfl rfl (by rw [hF]; rfl) ?_
                          exact TL_cast _ (by first | (rw [hq, Bool.false_and]; done) | (rw [hq]; rfl)) (hjj () trivial)
                    · replace hm := condF hq hm
                      refine TL_pass rfl rfl rfl rfl rfl rfl rfl ?_
                      refine TL_pass rfl rfl rfl rfl rfl rfl rfl ?_
                      refine TL_pass rfl rfl rfl rfl rfl rfl rfl ?_
                      refine TL_pure rfl rfl rfl rfl (op_pick_false rfl rfl) ?_
                      refine TL_pure rfl rfl rfl rfl (op_move rfl) ?_
                      refine TL_pass rfl rfl rfl rfl rfl rfl rfl ?_
                      refine TL_pure rfl rfl rfl rfl (op_pick_false rfl rfl) ?_
                      refine TL_pure rfl rfl rfl rfl (op_move rfl) ?_
                      refine TL_pass rfl rfl rfl rfl rfl rfl rfl ?_
                      refine TL_pure rfl rfl rfl rfl (op_pick_false rfl rfl) ?_
                      refine TL_nil ?_
                      refine T_cond_false rfl ?_
                      refine T_skip ?_
                      refine T_seq ?_
                      refine T_region ?_
                      refine TL_pure rfl rfl rfl rfl (op_move rfl) ?_
                      refine TL_pure rfl rfl rfl rfl (op_assign rfl) ?_
                      refine TL_nil ?_
                      refine T_keepH [2] [] rfl rfl rfl rfl (by rw [hF]; rfl) ?_
                      refine T_ret ?_
                      obtain rfl := someI hm
                      refine ⟨[_], [], ⟨rfl, trivial⟩, ?_, rfl, rfl, rfl, rfl⟩
                      rfl
                  · refine TL_split 151 rfl rfl rfl (fun hq => ?_) (fun hq => ?_)
                    · refine TL_want rfl rfl ?_
                      refine TL_pure rfl rfl rfl rfl (op_move rfl) ?_
                      refine TL_pure rfl rfl rfl rfl (op_pick_true rfl rfl) ?_
                      refine TL_keepH [1, 6, 7, 8, 153] [11] rfl rfl rfl rfl (by rw [hF]; rfl) ?_
                      exact TL_cast _ (by first | (rw [hq, Bool.true_and]; done) | (rw [hq]; rfl)) (hjj () trivial)
                    · refine TL_pass rfl rfl rfl rfl rfl rfl rfl ?_
                      refine TL_pure rfl rfl rfl rfl (op_pick_false rfl rfl) ?_
                      refine TL_keepH [1, 6, 7, 8, 153] [11] rfl rfl rfl rfl (by rw [hF]; rfl) ?_
                      exact TL_cast _ (by first | (rw [hq, Bool.false_and]; done) | (rw [hq]; rfl)) (hjj () trivial)
                · replace hm := condF hq hm
                  refine T_seq ?_
                  refine T_region ?_
                  refine TL_pure rfl rfl rfl rfl (op_eql rfl rfl) ?_
                  refine TL_pure rfl rfl rfl rfl (op_assign rfl) ?_
                  refine TL_nil ?_
                  refine T_cond rfl (fun hq => ?_) (fun hq => ?_)
                  · replace hm := condT hq hm
                    refine T_seq ?_
                    refine T_region ?_
                    refine TL_pure rfl rfl rfl rfl (op_move rfl) ?_
                    refine TL_pure rfl rfl rfl rfl (op_move rfl) ?_
                    refine TL_join 2 (fun _ : Unit => ⟨[(1, .ptr 11 0 0), (6, .bool r20), (8, .int .i64 (-1 : Int)), (170, .bool ((decide (p0.Var = (0 : Int))) && (decide (p0.Event = (0 : Int)))))], [(11, .box [.int .i64 p0.Kind, .int .i64 p0.Var, .int .i64 p0.Event, .int .i64 p0.Sum.Const, .sl 1 (List.map a_i64 p0.Sum.Coeffs), .int .i64 p0.Index.Const, .sl 1 (List.map a_i64 p0.Index.Coeffs), .sl 2 (List.map a_Term p0.Facts)])]⟩) (fun _ => True) (fun _ _ => ?_) (fun hjj => ?_)
                    · refine TL_pure rfl rfl rfl rfl (op_move rfl) ?_
                      refine TL_split 171 rfl rfl rfl (fun hq => ?_) (fun hq => ?_)
                      · replace hm := condT hq hm
                        refine TL_want rfl rfl ?_
                        refine TL_pure rfl rfl rfl rfl (op_fieldAddr fa69_3 rfl rfl) ?_
                        refine TL_want rfl rfl ?_
                        refine TL_pure rfl rfl rfl rfl (op_load_agg ag67 sz67 rfl rfl rfl) ?_
                        refine TL_want rfl rfl ?_
                        obtain ⟨r174, hr174, hm⟩ := bindS hm
                        refine TL_callF (c_impl_isOver p0.Sum r174 hr174) Try.call102 rfl rfl rfl rfl rfl ?_
                        refine TL_pure rfl rfl rfl rfl (op_pick_true rfl rfl) ?_
                        refine TL_pure rfl rfl rfl rfl (op_move rfl) ?_
                        refine TL_join 2 (fun _ : Unit => ⟨[(1, .ptr 11 0 0), (8, .int .i64 (-1 : Int)), (178, .bool (r174 && r20))], [(11, .box [.int .i64 p0.Kind, .int .i64 p0.Var, .int .i64 p0.Event, .int .i64 p0.Sum.Const, .sl 1 (List.map a_i64 p0.Sum.Coeffs), .int .i64 p0.Index.Const, .sl 1 (List.map a_i64 p0.Index.Coeffs), .sl 2 (List.map a_Term p0.Facts)])]⟩) (fun _ => True) (fun _ _ => ?_) (fun hjj => ?_)
                        · refine TL_pure rfl rfl rfl rfl (op_move rfl) ?_
                          refine TL_split 179 rfl rfl rfl (fun hq => ?_) (fun hq => ?_)
                          · replace hm := condT hq hm
                            refine TL_want rfl rfl ?_
                            refine TL_pure rfl rfl rfl rfl (op_fieldAddr fa69_5 rfl rfl) ?_
                            refine TL_want rfl rfl ?_
                            refine TL_pure rfl rfl rfl rfl (op_load_one ag30 rfl rfl) ?_
                            refine TL_want rfl rfl ?_
                            obtain ⟨r182, hr182, hm⟩ := bindS hm
                            refine TL_callF (c_impl_areOver p0.Facts (6 : Int) r182 hr182) Try.call82 rfl rfl rfl rfl rfl ?_
                            refine TL_pure rfl rfl rfl rfl (op_pick_true rfl rfl) ?_
                            refine TL_nil ?_
                            refine T_cond rfl (fun hq => ?_) (fun hq => ?_)
                            · replace hm := condT hq hm
                              refine T_region ?_
                              refine TL_pure rfl rfl rfl rfl (op_assign rfl) ?_
                              refine TL_nil ?_
                              refine T_seq ?_
                              refine T_region ?_
                              refine TL_pure rfl rfl rfl rfl (op_move rfl) ?_
                              refine TL_pure rfl rfl rfl rfl (op_assign rfl) ?_
                              refine TL_nil ?_
                              refine T_keepH [2] [] rfl rfl rfl rfl (by rw [hF]; rfl) ?_
                              refine T_ret ?_
                              obtain rfl := someI hm
                              refine ⟨[_], [], ⟨rfl, trivial⟩, ?_, rfl, rfl, rfl, rfl⟩
                              rfl
                            · replace hm := condF hq hm
                              refine T_skip ?_
                              refine T_seq ?_
                              refine T_region ?_
                              refine TL_pure rfl rfl rfl rfl (op_move rfl) ?_
                              refine TL_pure rfl rfl rfl rfl (op_assign rfl) ?_
                              refine TL_nil ?_
                              refine T_keepH [2] [] rfl rfl rfl rfl (by rw [hF]; rfl) ?_
                              refine T_ret ?_
                              obtain rfl := someI hm
                              refine ⟨[_], [], ⟨rfl, trivial⟩, ?_, rfl, rfl, rfl, rfl⟩
                              rfl
                          · replace hm := condF hq hm
                            refine TL_pass rfl rfl rfl rfl rfl rfl rfl ?_
                            refine TL_pass rfl rfl rfl rfl rfl rfl rfl ?_
                            refine TL_pass rfl rfl rfl rfl rfl rfl rfl ?_
                            refine TL_pure rfl rfl rfl rfl (op_pick_false rfl rfl) ?_
                            refine TL_nil ?_
                            refine T_cond_false rfl ?_
                            refine T_skip ?_
                            refine T_seq ?_
                            refine T_region ?_
                            refine TL_pure rfl rfl rfl rfl (op_move rfl) ?_
                            refine TL_pure rfl rfl rfl rfl (op_assign rfl) ?_
                            refine TL_nil ?_
                            refine T_keepH [2] [] rfl rfl rfl rfl (by rw [hF]; rfl) ?_
                            refine T_ret ?_
                            obtain rfl := someI hm
                            refine ⟨[_], [], ⟨rfl, trivial⟩, ?_, rfl, rfl, rfl, rfl⟩
                            rfl
                        · refine TL_split 176 rfl rfl rfl (fun hq => ?_) (fun hq => ?_)
                          · refine TL_want rfl rfl ?_
                            refine TL_pure rfl rfl rfl rfl (op_move rfl) ?_
                            refine TL_pure rfl rfl rfl rfl (op_pick_true rfl rfl) ?_
                            refine TL_keepH [1, 8, 178] [11] rfl rfl rfl rfl (by rw [hF]; rfl) ?_
                            exact TL_cast _ (by first | (rw [hq, Bool.true_and]; done) | (rw [hq]; rfl)) (hjj () trivial)
                          · refine TL_pass rfl rfl rfl rfl rfl rfl rfl ?_
                            refine TL_pure rfl rfl rfl rfl (op_pick_false rfl rfl) ?_
                            refine TL_keepH [1, 8, 178] [11] rfl rfl rfl rfl (by rw [hF]; rfl) ?_
                            exact TL_cast _ (by first | (rw [hq, Bool.false_and]; done) | (rw [hq]; rfl)) (hjj () trivial)
                      · replace hm := condF hq hm
                        refine TL_pass rfl rfl rfl rfl rfl rfl rfl ?_
                        refine TL_pass rfl rfl rfl rfl rfl rfl rfl ?_
                        refine TL_pass rfl rfl rfl rfl rfl rfl rfl ?_
                        refine TL_pure rfl rfl rfl rfl (op_pick_false rfl rfl) ?_
                        refine TL_pure rfl rfl rfl rfl (op_move rfl) ?_
                        refine TL_pass rfl rfl rfl rfl rfl rfl rfl ?_
                        refine TL_pure rfl rfl rfl rfl (op_pick_false rfl rfl) ?_
                        refine TL_pure rfl rfl rfl rfl (op_move rfl) ?_
                        refine TL_pass rfl rfl rfl rfl rfl rfl rfl ?_
                        refine TL_pass rfl rfl rfl rfl rfl rfl rfl ?_
                        refine TL_pass rfl rfl rfl rfl rfl rfl rfl ?_
                        refine TL_pure rfl rfl rfl rfl (op_pick_false rfl rfl) ?_
                        refine TL_nil ?_
                        refine T_cond_false rfl ?_
                        refine T_skip ?_
                        refine T_seq ?_
                        refine T_region ?_
                        refine TL_pure rfl rfl rfl rfl (op_move rfl) ?_
                        refine TL_pure rfl rfl rfl rfl (op_assign rfl) ?_
                        refine TL_nil ?_
                        refine T_keepH [2] [] rfl rfl rfl rfl (by rw [hF]; rfl) ?_
                        refine T_ret ?_
                        obtain rfl := someI hm
                        refine ⟨[_], [], ⟨rfl, trivial⟩, ?_, rfl, rfl, rfl, rfl⟩
                        rfl
                    · refine TL_split 168 rfl rfl rfl (fun hq => ?_) (fun hq => ?_)
                      · refine TL_want rfl rfl ?_
                        refine TL_pure rfl rfl rfl rfl (op_move rfl) ?_
                        refine TL_pure rfl rfl rfl rfl (op_pick_true rfl rfl) ?_
                        refine TL_keepH [1, 6, 8, 170] [11] rfl rfl rfl rfl (by rw [hF]; rfl) ?_
                        exact TL_cast _ (by first | (rw [hq, Bool.true_and]; done) | (rw [hq]; rfl)) (hjj () trivial)
                      · refine TL_pass rfl rfl rfl rfl rfl rfl rfl ?_
                        refine TL_pure rfl rfl rfl rfl (op_pick_false rfl rfl) ?_
                        refine TL_keepH [1, 6, 8, 170] [11] rfl rfl rfl rfl (by rw [hF]; rfl) ?_
                        exact TL_cast _ (by first | (rw [hq, Bool.false_and]; done) | (rw [hq]; rfl)) (hjj () trivial)
                  · replace hm := condF hq hm
                    refine T_skip ?_
                    refine T_seq ?_
                    refine T_region ?_
                    refine TL_pure rfl rfl rfl rfl (op_move rfl) ?_
                    refine TL_pure rfl rfl rfl rfl (op_assign rfl) ?_
                    refine TL_nil ?_
                    refine T_keepH [2] [] rfl rfl rfl rfl (by rw [hF]; rfl) ?_
                    refine T_ret ?_
                    obtain rfl := someI hm
                    refine ⟨[_], [], ⟨rfl, trivial⟩, ?_, rfl, rfl, rfl, rfl⟩
                    rfl
end Go.Mod
