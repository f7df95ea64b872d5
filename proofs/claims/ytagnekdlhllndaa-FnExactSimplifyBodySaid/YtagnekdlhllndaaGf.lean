import Derived.Test.YtagnekdlhllndaaRows
import Derived.Test.YtagnekdlhllndaaGc
import Derived.Test.YtagnekdlhllndaaGd
namespace Go.Mod
open Go Go.AM Go.Proofs
set_option linter.unusedVariables false
set_option linter.unusedSimpArgs false
set_option maxRecDepth 100000
set_option maxHeartbeats 8000000
def a_i64 (x : Int) : AV := .int .i64 x
def a_Term (x : Term) : AV := .agg [.int .i64 x.Const, .sl 1 (List.map a_i64 x.Coeffs)]
def a_Stmt (x : Stmt) : AV := .agg [.int .i64 x.Kind, .int .i64 x.Var, .int .i64 x.Event, .int .i64 x.Sum.Const, .sl 1 (List.map a_i64 x.Sum.Coeffs), .int .i64 x.Index.Const, .sl 1 (List.map a_i64 x.Index.Coeffs), .sl 2 (List.map a_Term x.Facts)]
def aLa_Stmt (x : List Stmt) : AV := .sl 8 (List.map a_Stmt x)
def aLa_i64 (x : List Int) : AV := .sl 1 (List.map a_i64 x)
def aLa_Term (x : List Term) : AV := .sl 2 (List.map a_Term x)
mutual
def r_Ptree : Ptree → AV
  | .nil => .nilp
  | .mk f0 f1 f2 => .cp [.int .i64 f0.Kind, .int .i64 f0.Var, .int .i64 f0.Event, .int .i64 f0.Sum.Const, .sl 1 (List.map a_i64 f0.Sum.Coeffs), .int .i64 f0.Index.Const, .sl 1 (List.map a_i64 f0.Index.Coeffs), .sl 2 (List.map a_Term f0.Facts), .int .i64 f1, .sl 1 (rL_Ptree f2)]
def rL_Ptree : List Ptree → List AV
  | [] => []
  | x :: r => .tr (r_Ptree x) :: rL_Ptree r
end
def a_Ptree (x : Ptree) : AV := .tr (r_Ptree x)
theorem rL_Ptree_eq (l : List Ptree) : rL_Ptree l = List.map a_Ptree l := by
  induction l with
  | nil => rfl
  | cons a l ih => simp only [rL_Ptree, List.map, ih]; rfl
theorem un_tree_eq {e : Ptree} {n : tree} (h : un_tree e = some n) : r_Ptree e = .cp [.int .i64 n.Stmt.Kind, .int .i64 n.Stmt.Var, .int .i64 n.Stmt.Event, .int .i64 n.Stmt.Sum.Const, .sl 1 (List.map a_i64 n.Stmt.Sum.Coeffs), .int .i64 n.Stmt.Index.Const, .sl 1 (List.map a_i64 n.Stmt.Index.Coeffs), .sl 2 (List.map a_Term n.Stmt.Facts), .int .i64 n.at_, .sl 1 (List.map a_Ptree n.kids)] := by
  cases e with
  | nil => cases h
  | mk f0 f1 f2 => cases h; first | (simp only [r_Ptree, rL_Ptree_eq]; done) | (simp only [r_Ptree, rL_Ptree_eq]; rfl)
theorem re_tree_eq (n : tree) : r_Ptree (re_tree n) = .cp [.int .i64 n.Stmt.Kind, .int .i64 n.Stmt.Var, .int .i64 n.Stmt.Event, .int .i64 n.Stmt.Sum.Const, .sl 1 (List.map a_i64 n.Stmt.Sum.Coeffs), .int .i64 n.Stmt.Index.Const, .sl 1 (List.map a_i64 n.Stmt.Index.Coeffs), .sl 2 (List.map a_Term n.Stmt.Facts), .int .i64 n.at_, .sl 1 (List.map a_Ptree n.kids)] := un_tree_eq rfl
theorem ag129 : tyAgg Try.prog 129 = some false := by kernel_rfl
theorem ag2 : tyAgg Try.prog 2 = some false := by kernel_rfl
theorem ag24 : tyAgg Try.prog 24 = some false := by kernel_rfl
theorem ag29 : tyAgg Try.prog 29 = some false := by kernel_rfl
theorem ag52 : tyAgg Try.prog 52 = some false := by kernel_rfl
theorem ag75 : tyAgg Try.prog 75 = some true := by kernel_rfl
theorem ag77 : tyAgg Try.prog 77 = some true := by kernel_rfl
theorem ag84 : tyAgg Try.prog 84 = some true := by kernel_rfl
theorem ag86 : tyAgg Try.prog 86 = some true := by kernel_rfl
theorem ag88 : tyAgg Try.prog 88 = some false := by kernel_rfl
theorem el129 : tyElem Try.prog 129 = some (88, 1) := by kernel_rfl
theorem el24 : tyElem Try.prog 24 = some (75, 2) := by kernel_rfl
theorem el25 : tyElem Try.prog 25 = some (77, 8) := by kernel_rfl
theorem el29 : tyElem Try.prog 29 = some (2, 1) := by kernel_rfl
theorem el44 : tyElem Try.prog 44 = some (86, 8) := by kernel_rfl
theorem el52 : tyElem Try.prog 52 = some (84, 2) := by kernel_rfl
theorem fa132_0 : tyField Try.prog 132 0 = some 0 := by kernel_rfl
theorem fa132_2 : tyField Try.prog 132 2 = some 9 := by kernel_rfl
theorem fa75_0 : tyField Try.prog 75 0 = some 0 := by kernel_rfl
theorem fa75_1 : tyField Try.prog 75 1 = some 1 := by kernel_rfl
theorem fa77_0 : tyField Try.prog 77 0 = some 0 := by kernel_rfl
theorem fa77_1 : tyField Try.prog 77 1 = some 1 := by kernel_rfl
theorem fa77_2 : tyField Try.prog 77 2 = some 2 := by kernel_rfl
theorem fa77_3 : tyField Try.prog 77 3 = some 3 := by kernel_rfl
theorem fa77_4 : tyField Try.prog 77 4 = some 5 := by kernel_rfl
theorem fa77_5 : tyField Try.prog 77 5 = some 7 := by kernel_rfl
theorem fa84_0 : tyField Try.prog 84 0 = some 0 := by kernel_rfl
theorem fa84_1 : tyField Try.prog 84 1 = some 1 := by kernel_rfl
theorem fa86_0 : tyField Try.prog 86 0 = some 0 := by kernel_rfl
theorem fa86_1 : tyField Try.prog 86 1 = some 1 := by kernel_rfl
theorem fa86_2 : tyField Try.prog 86 2 = some 2 := by kernel_rfl
theorem fa86_3 : tyField Try.prog 86 3 = some 3 := by kernel_rfl
theorem fa86_4 : tyField Try.prog 86 4 = some 5 := by kernel_rfl
theorem fa86_5 : tyField Try.prog 86 5 = some 7 := by kernel_rfl
theorem mix : Try.prog.follows .mixedOrders = true := by kernel_rfl
theorem pl132 : tyPlaces Try.prog 132 = some [(0, 8), (8, 1), (9, 1)] := by kernel_rfl
theorem pl75 : tyPlaces Try.prog 75 = some [(0, 1), (1, 1)] := by kernel_rfl
theorem pl77 : tyPlaces Try.prog 77 = some [(0, 1), (1, 1), (2, 1), (3, 2), (5, 2), (7, 1)] := by kernel_rfl
theorem sz129 : tySize Try.prog 129 = some 1 := by kernel_rfl
theorem sz2 : tySize Try.prog 2 = some 1 := by kernel_rfl
theorem sz24 : tySize Try.prog 24 = some 1 := by kernel_rfl
theorem sz29 : tySize Try.prog 29 = some 1 := by kernel_rfl
theorem sz75 : tySize Try.prog 75 = some 2 := by kernel_rfl
theorem sz77 : tySize Try.prog 77 = some 8 := by kernel_rfl
theorem sz84 : tySize Try.prog 84 = some 2 := by kernel_rfl
theorem sz86 : tySize Try.prog 86 = some 8 := by kernel_rfl
theorem z132 : tyZero Try.prog 132 = some (.agg #[.int .i64 0, .int .i64 0, .int .i64 0, .int .i64 0, .slice none 0 0, .int .i64 0, .slice none 0 0, .slice none 0 0, .int .i64 0, .slice none 0 0], 10, 144) := by kernel_rfl
theorem z2 : tyZero Try.prog 2 = some (.int .i64 0, 1, 8) := by kernel_rfl
theorem z75 : tyZero Try.prog 75 = some (.agg #[.int .i64 0, .slice none 0 0], 2, 32) := by kernel_rfl
theorem z77 : tyZero Try.prog 77 = some (.agg #[.int .i64 0, .int .i64 0, .int .i64 0, .int .i64 0, .slice none 0 0, .int .i64 0, .slice none 0 0, .slice none 0 0], 8, 112) := by kernel_rfl
theorem z88 : tyZero Try.prog 88 = some (.pointer none, 1, 8) := by kernel_rfl
theorem c_laws_szInt64S (p0 : List Int) (p1 : Int) (out : Int) (hm : m_laws_szInt64S p0 p1 = some out) : ACall Try.prog 72 [.sl 1 (List.map a_i64 p0), .int .i64 p1] [] (.int .i64 out) [] := by
  refine ACall.intro Try.func72 rfl Try.ntmps72 rfl (fun F hF => ?_)
  unfold m_laws_szInt64S at hm
  refine T_seq ?_
  refine T_region ?_
  refine TL_pure rfl rfl rfl rfl (op_assign rfl) ?_
  refine TL_nil ?_
  refine T_seq ?_
  refine T_region ?_
  refine TL_pure rfl rfl rfl rfl (op_move rfl) ?_
  refine TL_pure rfl rfl rfl rfl (op_move rfl) ?_
  refine TL_pure rfl rfl rfl rfl (op_lenT Try.underlying29 rfl (List.length_map _)) ?_
  refine TL_fact (fun _ _ _ hr => RelP.slLen (i := 6) rfl hr) (fun hlen7 => ?_)
  rw [List.length_map] at hlen7
  refine TL_pure rfl rfl rfl rfl (op_subW rfl rfl) ?_
  refine TL_pure rfl rfl rfl rfl (op_assign rfl) ?_
  refine TL_nil ?_
  refine T_seq ?_
  refine T_seq ?_
  refine T_region ?_
  refine TL_pure rfl rfl rfl rfl (op_move rfl) ?_
  refine TL_pure rfl rfl rfl rfl (op_lss rfl rfl) ?_
  refine TL_nil ?_
  refine T_cond rfl (fun hq => ?_) (fun hq => ?_)
  · replace hm := condT hq hm
    refine T_seq ?_
    refine T_region ?_
    refine TL_pure rfl rfl rfl rfl (op_assign rfl) ?_
    refine TL_nil ?_
    refine T_keepH [4] [] rfl rfl rfl rfl (by rw [hF]; rfl) ?_
    refine T_ret ?_
    obtain rfl := someI hm
    refine ⟨[_], [], ⟨rfl, trivial⟩, ?_, rfl, rfl, rfl, rfl⟩
    rfl
  · replace hm := condF hq hm
    refine T_skip ?_
    refine T_seq ?_
    refine T_region ?_
    refine TL_pure rfl rfl rfl rfl (op_move rfl) ?_
    refine TL_pure rfl rfl rfl rfl (op_assign rfl) ?_
    refine TL_nil ?_
    refine T_keepH [4] [] rfl rfl rfl rfl (by rw [hF]; rfl) ?_
    refine T_ret ?_
    obtain rfl := someI hm
    refine ⟨[_], [], ⟨rfl, trivial⟩, ?_, rfl, rfl, rfl, rfl⟩
    rfl
theorem c_laws_szTerm (p0 : Term) (p1 : Int) (out : Int) (hm : m_laws_szTerm p0 p1 = some out) : ACall Try.prog 91 [.agg [.int .i64 p0.Const, .sl 1 (List.map a_i64 p0.Coeffs)], .int .i64 p1] [] (.int .i64 out) [] := by
  refine ACall.intro Try.func91 rfl Try.ntmps91 rfl (fun F hF => ?_)
  unfold m_laws_szTerm at hm
  refine T_seq ?_
  refine T_region ?_
  refine TL_box 11 rfl rfl rfl rfl rfl rfl rfl ?_
  refine TL_pure rfl rfl rfl rfl (op_assign rfl) ?_
  refine TL_nil ?_
  refine T_seq ?_
  refine T_region ?_
  refine TL_pure rfl rfl rfl rfl (op_fieldAddr fa84_1 rfl rfl) ?_
  refine TL_pure rfl rfl rfl rfl (op_load_one ag29 rfl rfl) ?_
  refine TL_pure rfl rfl rfl rfl (op_move rfl) ?_
  obtain ⟨r8, hr8, hm⟩ := bindS hm
  refine TL_callF (c_laws_szInt64S p0.Coeffs p1 r8 hr8) Try.call72 rfl rfl rfl rfl rfl ?_
  refine TL_pure rfl rfl rfl rfl (op_assign rfl) ?_
  refine TL_nil ?_
  refine T_seq ?_
  refine T_seq ?_
  refine T_region ?_
  refine TL_pure rfl rfl rfl rfl (op_move rfl) ?_
  refine TL_pure rfl rfl rfl rfl (op_lss rfl rfl) ?_
  refine TL_nil ?_
  refine T_cond rfl (fun hq => ?_) (fun hq => ?_)
  · replace hm := condT hq hm
    refine T_seq ?_
    refine T_region ?_
    refine TL_pure rfl rfl rfl rfl (op_assign rfl) ?_
    refine TL_nil ?_
    refine T_keepH [4] [] rfl rfl rfl rfl (by rw [hF]; rfl) ?_
    refine T_ret ?_
    obtain rfl := someI hm
    refine ⟨[_], [], ⟨rfl, trivial⟩, ?_, rfl, rfl, rfl, rfl⟩
    rfl
  · replace hm := condF hq hm
    refine T_skip ?_
    refine T_seq ?_
    refine T_region ?_
    refine TL_pure rfl rfl rfl rfl (op_move rfl) ?_
    refine TL_pure rfl rfl rfl rfl (op_assign rfl) ?_
    refine TL_nil ?_
    refine T_keepH [4] [] rfl rfl rfl rfl (by rw [hF]; rfl) ?_
    refine T_ret ?_
    obtain rfl := someI hm
    refine ⟨[_], [], ⟨rfl, trivial⟩, ?_, rfl, rfl, rfl, rfl⟩
    rfl
theorem c_laws_szTermS (p0 : List Term) (p1 : Int) (out : Int) (hm : m_laws_szTermS p0 p1 = some out) : ACall Try.prog 63 [.sl 2 (List.map a_Term p0), .int .i64 p1] [] (.int .i64 out) [] := by
  refine ACall.intro Try.func63 rfl Try.ntmps63 rfl (fun F hF => ?_)
  unfold m_laws_szTermS at hm
  refine T_seq ?_
  refine T_region ?_
  refine TL_pure rfl rfl rfl rfl (op_assign rfl) ?_
  refine TL_nil ?_
  refine T_seq ?_
  refine T_region ?_
  refine TL_pure rfl rfl rfl rfl (op_move rfl) ?_
  refine TL_pure rfl rfl rfl rfl (op_move rfl) ?_
  refine TL_pure rfl rfl rfl rfl (op_lenT Try.underlying52 rfl (List.length_map _)) ?_
  refine TL_fact (fun _ _ _ hr => RelP.slLen (i := 7) rfl hr) (fun hlen8 => ?_)
  rw [List.length_map] at hlen8
  refine TL_pure rfl rfl rfl rfl (op_subW rfl rfl) ?_
  refine TL_pure rfl rfl rfl rfl (op_assign rfl) ?_
  refine TL_nil ?_
  refine T_seq ?_
  refine T_seq ?_
  refine T_region ?_
  refine TL_pure rfl rfl rfl rfl (op_move rfl) ?_
  refine TL_pure rfl rfl rfl rfl (op_lss rfl rfl) ?_
  refine TL_nil ?_
  refine T_cond rfl (fun hq => ?_) (fun hq => ?_)
  · replace hm := condT hq hm
    refine T_seq ?_
    refine T_region ?_
    refine TL_pure rfl rfl rfl rfl (op_assign rfl) ?_
    refine TL_nil ?_
    refine T_keepH [4] [] rfl rfl rfl rfl (by rw [hF]; rfl) ?_
    refine T_ret ?_
    obtain rfl := someI hm
    refine ⟨[_], [], ⟨rfl, trivial⟩, ?_, rfl, rfl, rfl, rfl⟩
    rfl
  · replace hm := condF hq hm
    refine T_skip ?_
    refine T_seq ?_
    refine T_seq ?_
    refine T_region ?_
    refine TL_pure rfl rfl rfl rfl (op_assign rfl) ?_
    refine TL_nil ?_
    refine T_block ?_
    refine T_keepH [0, 1, 5] [] rfl rfl rfl rfl (by rw [hF]; rfl) ?_
    refine T_loop ?_
    obtain ⟨u0, hl0, hm⟩ := bindS hm
    refine TR_iter2 (m_laws_szTermS_L0 p0) (fun (s0 : Int × Int) => ⟨[(0, .sl 2 (List.map a_Term p0)), (1, .int .i64 s0.1), (5, .int .i64 s0.2)], []⟩) (fun u0 => match u0 with | .inl u0 => .exit 0 | .inr u0 => .ret) (fun u0 => match u0 with | .inl u0 => ⟨[(1, .int .i64 u0)], []⟩ | .inr u0 => ⟨[(4, .int .i64 u0)], []⟩) (fun u0 => m_laws_szTermS_A0 u0 = some out) hl0 hm (fun u0 hm => ?_) (fun hx0 s0 c0 hm hc0 => ?_)
    · rcases u0 with u0 | u0
      · unfold m_laws_szTermS_A0 at hm
        refine T_seq ?_
        refine T_region ?_
        refine TL_pure rfl rfl rfl rfl (op_move rfl) ?_
        refine TL_pure rfl rfl rfl rfl (op_assign rfl) ?_
        refine TL_nil ?_
        refine T_keepH [4] [] rfl rfl rfl rfl (by rw [hF]; rfl) ?_
        refine T_ret ?_
        obtain rfl := someI hm
        refine ⟨[_], [], ⟨rfl, trivial⟩, ?_, rfl, rfl, rfl, rfl⟩
        rfl
      · unfold m_laws_szTermS_A0 at hm
        obtain rfl := someI hm
        refine ⟨[_], [], ⟨rfl, trivial⟩, ?_, rfl, rfl, rfl, rfl⟩
        rfl
    · unfold m_laws_szTermS_L0 at hm
      refine T_seq ?_
      refine T_seq ?_
      refine T_region ?_
      refine TL_pure rfl rfl rfl rfl (op_move rfl) ?_
      refine TL_pure rfl rfl rfl rfl (op_move rfl) ?_
      refine TL_pure rfl rfl rfl rfl (op_lenT Try.underlying52 rfl (List.length_map _)) ?_
      refine TL_pure rfl rfl rfl rfl (op_lss rfl rfl) ?_
      refine TL_nil ?_
      refine T_cond rfl (fun hq => ?_) (fun hq => ?_)
      · replace hm := condT hq hm
        refine T_skip ?_
        refine T_seq ?_
        refine T_block ?_
        refine T_seq ?_
        refine T_region ?_
        refine TL_pure rfl rfl rfl rfl (op_move rfl) ?_
        refine TL_pure rfl rfl rfl rfl (op_move rfl) ?_
        obtain ⟨x20, hx20, hm⟩ := bindS hm
        refine TL_pure rfl rfl rfl rfl (op_indexT el52 rfl rfl hx20 rfl) ?_
        refine TL_pure rfl rfl rfl rfl (op_load_agg ag84 sz84 rfl rfl rfl) ?_
        refine TL_pure rfl rfl rfl rfl (op_move rfl) ?_
        obtain ⟨r23, hr23, hm⟩ := bindS hm
        refine TL_callF (c_laws_szTerm x20 s0.1 r23 hr23) Try.call91 rfl rfl rfl rfl rfl ?_
        refine TL_pure rfl rfl rfl rfl (op_assign rfl) ?_
        refine TL_nil ?_
        refine T_seq ?_
        refine T_region ?_
        refine TL_pure rfl rfl rfl rfl (op_move rfl) ?_
        refine TL_pure rfl rfl rfl rfl (op_lss rfl rfl) ?_
        refine TL_nil ?_
        refine T_cond rfl (fun hq => ?_) (fun hq => ?_)
        · replace hm := condT hq hm
          refine T_seq ?_
          refine T_region ?_
          refine TL_pure rfl rfl rfl rfl (op_assign rfl) ?_
          refine TL_nil ?_
          refine T_keepH [4] [] rfl rfl rfl rfl (by rw [hF]; rfl) ?_
          refine T_ret ?_
          obtain rfl := someI hm
          have hn := CtlOK_out hc0
          exact hx0 (.inr (-1 : Int)) hn
        · replace hm := condF hq hm
          refine T_skip ?_
          refine T_region ?_
          refine TL_pure rfl rfl rfl rfl (op_move rfl) ?_
          refine TL_pure rfl rfl rfl rfl (op_addW rfl rfl) ?_
          refine TL_pure rfl rfl rfl rfl (op_assign rfl) ?_
          refine TL_nil ?_
          refine TR_keepH [0, 1, 5] [] rfl rfl rfl rfl (by rw [hF]; rfl) ?_
          obtain rfl := someI hm
          have hn := CtlOK_next hc0
          exact hn _ rfl
      · replace hm := condF hq hm
        refine T_keepH [1] [] rfl rfl rfl rfl (by rw [hF]; rfl) ?_
        refine T_exit ?_
        obtain rfl := someI hm
        have hn := CtlOK_out hc0
        exact hx0 (.inl s0.1) hn
theorem c_laws_szStmt (p0 : Stmt) (p1 : Int) (out : Int) (hm : m_laws_szStmt p0 p1 = some out) : ACall Try.prog 51 [.agg [.int .i64 p0.Kind, .int .i64 p0.Var, .int .i64 p0.Event, .int .i64 p0.Sum.Const, .sl 1 (List.map a_i64 p0.Sum.Coeffs), .int .i64 p0.Index.Const, .sl 1 (List.map a_i64 p0.Index.Coeffs), .sl 2 (List.map a_Term p0.Facts)], .int .i64 p1] [] (.int .i64 out) [] := by
  refine ACall.intro Try.func51 rfl Try.ntmps51 rfl (fun F hF => ?_)
  unfold m_laws_szStmt at hm
  refine T_seq ?_
  refine T_region ?_
  refine TL_box 11 rfl rfl rfl rfl rfl rfl rfl ?_
  refine TL_pure rfl rfl rfl rfl (op_assign rfl) ?_
  refine TL_nil ?_
  refine T_seq ?_
  refine T_region ?_
  refine TL_pure rfl rfl rfl rfl (op_fieldAddr fa86_3 rfl rfl) ?_
  refine TL_pure rfl rfl rfl rfl (op_load_agg ag84 sz84 rfl rfl rfl) ?_
  refine TL_pure rfl rfl rfl rfl (op_move rfl) ?_
  obtain ⟨r8, hr8, hm⟩ := bindS hm
  refine TL_callF (c_laws_szTerm p0.Sum p1 r8 hr8) Try.call91 rfl rfl rfl rfl rfl ?_
  refine TL_pure rfl rfl rfl rfl (op_assign rfl) ?_
  refine TL_nil ?_
  refine T_seq ?_
  refine T_seq ?_
  refine T_region ?_
  refine TL_pure rfl rfl rfl rfl (op_move rfl) ?_
  refine TL_pure rfl rfl rfl rfl (op_lss rfl rfl) ?_
  refine TL_nil ?_
  refine T_cond rfl (fun hq => ?_) (fun hq => ?_)
  · replace hm := condT hq hm
    refine T_seq ?_
    refine T_region ?_
    refine TL_pure rfl rfl rfl rfl (op_assign rfl) ?_
    refine TL_nil ?_
    refine T_keepH [4] [] rfl rfl rfl rfl (by rw [hF]; rfl) ?_
    refine T_ret ?_
    obtain rfl := someI hm
    refine ⟨[_], [], ⟨rfl, trivial⟩, ?_, rfl, rfl, rfl, rfl⟩
    rfl
  · replace hm := condF hq hm
    refine T_skip ?_
    refine T_seq ?_
    refine T_region ?_
    refine TL_pure rfl rfl rfl rfl (op_fieldAddr fa86_4 rfl rfl) ?_
    refine TL_pure rfl rfl rfl rfl (op_load_agg ag84 sz84 rfl rfl rfl) ?_
    refine TL_pure rfl rfl rfl rfl (op_move rfl) ?_
    obtain ⟨r14, hr14, hm⟩ := bindS hm
    refine TL_callF (c_laws_szTerm p0.Index r8 r14 hr14) Try.call91 rfl rfl rfl rfl rfl ?_
    refine TL_pure rfl rfl rfl rfl (op_assign rfl) ?_
    refine TL_nil ?_
    refine T_seq ?_
    refine T_seq ?_
    refine T_region ?_
    refine TL_pure rfl rfl rfl rfl (op_move rfl) ?_
    refine TL_pure rfl rfl rfl rfl (op_lss rfl rfl) ?_
    refine TL_nil ?_
    refine T_cond rfl (fun hq => ?_) (fun hq => ?_)
    · replace hm := condT hq hm
      refine T_seq ?_
      refine T_region ?_
      refine TL_pure rfl rfl rfl rfl (op_assign rfl) ?_
      refine TL_nil ?_
      refine T_keepH [4] [] rfl rfl rfl rfl (by rw [hF]; rfl) ?_
      refine T_ret ?_
      obtain rfl := someI hm
      refine ⟨[_], [], ⟨rfl, trivial⟩, ?_, rfl, rfl, rfl, rfl⟩
      rfl
    · replace hm := condF hq hm
      refine T_skip ?_
      refine T_seq ?_
      refine T_region ?_
      refine TL_pure rfl rfl rfl rfl (op_fieldAddr fa86_5 rfl rfl) ?_
      refine TL_pure rfl rfl rfl rfl (op_load_one ag52 rfl rfl) ?_
      refine TL_pure rfl rfl rfl rfl (op_move rfl) ?_
      obtain ⟨r20, hr20, hm⟩ := bindS hm
      refine TL_callF (c_laws_szTermS p0.Facts r14 r20 hr20) Try.call63 rfl rfl rfl rfl rfl ?_
      refine TL_pure rfl rfl rfl rfl (op_assign rfl) ?_
      refine TL_nil ?_
      refine T_seq ?_
      refine T_seq ?_
      refine T_region ?_
      refine TL_pure rfl rfl rfl rfl (op_move rfl) ?_
      refine TL_pure rfl rfl rfl rfl (op_lss rfl rfl) ?_
      refine TL_nil ?_
      refine T_cond rfl (fun hq => ?_) (fun hq => ?_)
      · replace hm := condT hq hm
        refine T_seq ?_
        refine T_region ?_
        refine TL_pure rfl rfl rfl rfl (op_assign rfl) ?_
        refine TL_nil ?_
        refine T_keepH [4] [] rfl rfl rfl rfl (by rw [hF]; rfl) ?_
        refine T_ret ?_
        obtain rfl := someI hm
        refine ⟨[_], [], ⟨rfl, trivial⟩, ?_, rfl, rfl, rfl, rfl⟩
        rfl
      · replace hm := condF hq hm
        refine T_skip ?_
        refine T_seq ?_
        refine T_region ?_
        refine TL_pure rfl rfl rfl rfl (op_move rfl) ?_
        refine TL_pure rfl rfl rfl rfl (op_assign rfl) ?_
        refine TL_nil ?_
        refine T_keepH [4] [] rfl rfl rfl rfl (by rw [hF]; rfl) ?_
        refine T_ret ?_
        obtain rfl := someI hm
        refine ⟨[_], [], ⟨rfl, trivial⟩, ?_, rfl, rfl, rfl, rfl⟩
        rfl
theorem c_laws_szStmtS (p0 : List Stmt) (p1 : Int) (out : Int) (hm : m_laws_szStmtS p0 p1 = some out) : ACall Try.prog 21 [.sl 8 (List.map a_Stmt p0), .int .i64 p1] [] (.int .i64 out) [] := by
  refine ACall.intro Try.func21 rfl Try.ntmps21 rfl (fun F hF => ?_)
  unfold m_laws_szStmtS at hm
  refine T_seq ?_
  refine T_region ?_
  refine TL_pure rfl rfl rfl rfl (op_assign rfl) ?_
  refine TL_nil ?_
  refine T_seq ?_
  refine T_region ?_
  refine TL_pure rfl rfl rfl rfl (op_move rfl) ?_
  refine TL_pure rfl rfl rfl rfl (op_move rfl) ?_
  refine TL_pure rfl rfl rfl rfl (op_lenT Try.underlying44 rfl (List.length_map _)) ?_
  refine TL_fact (fun _ _ _ hr => RelP.slLen (i := 7) rfl hr) (fun hlen8 => ?_)
  rw [List.length_map] at hlen8
  refine TL_pure rfl rfl rfl rfl (op_subW rfl rfl) ?_
  refine TL_pure rfl rfl rfl rfl (op_assign rfl) ?_
  refine TL_nil ?_
  refine T_seq ?_
  refine T_seq ?_
  refine T_region ?_
  refine TL_pure rfl rfl rfl rfl (op_move rfl) ?_
  refine TL_pure rfl rfl rfl rfl (op_lss rfl rfl) ?_
  refine TL_nil ?_
  refine T_cond rfl (fun hq => ?_) (fun hq => ?_)
  · replace hm := condT hq hm
    refine T_seq ?_
    refine T_region ?_
    refine TL_pure rfl rfl rfl rfl (op_assign rfl) ?_
    refine TL_nil ?_
    refine T_keepH [4] [] rfl rfl rfl rfl (by rw [hF]; rfl) ?_
    refine T_ret ?_
    obtain rfl := someI hm
    refine ⟨[_], [], ⟨rfl, trivial⟩, ?_, rfl, rfl, rfl, rfl⟩
    rfl
  · replace hm := condF hq hm
    refine T_skip ?_
    refine T_seq ?_
    refine T_seq ?_
    refine T_region ?_
    refine TL_pure rfl rfl rfl rfl (op_assign rfl) ?_
    refine TL_nil ?_
    refine T_block ?_
    refine T_keepH [0, 1, 5] [] rfl rfl rfl rfl (by rw [hF]; rfl) ?_
    refine T_loop ?_
    obtain ⟨u0, hl0, hm⟩ := bindS hm
    refine TR_iter2 (m_laws_szStmtS_L0 p0) (fun (s0 : Int × Int) => ⟨[(0, .sl 8 (List.map a_Stmt p0)), (1, .int .i64 s0.1), (5, .int .i64 s0.2)], []⟩) (fun u0 => match u0 with | .inl u0 => .exit 0 | .inr u0 => .ret) (fun u0 => match u0 with | .inl u0 => ⟨[(1, .int .i64 u0)], []⟩ | .inr u0 => ⟨[(4, .int .i64 u0)], []⟩) (fun u0 => m_laws_szStmtS_A0 u0 = some out) hl0 hm (fun u0 hm => ?_) (fun hx0 s0 c0 hm hc0 => ?_)
    · rcases u0 with u0 | u0
      · unfold m_laws_szStmtS_A0 at hm
        refine T_seq ?_
        refine T_region ?_
        refine TL_pure rfl rfl rfl rfl (op_move rfl) ?_
        refine TL_pure rfl rfl rfl rfl (op_assign rfl) ?_
        refine TL_nil ?_
        refine T_keepH [4] [] rfl rfl rfl rfl (by rw [hF]; rfl) ?_
        refine T_ret ?_
        obtain rfl := someI hm
        refine ⟨[_], [], ⟨rfl, trivial⟩, ?_, rfl, rfl, rfl, rfl⟩
        rfl
      · unfold m_laws_szStmtS_A0 at hm
        obtain rfl := someI hm
        refine ⟨[_], [], ⟨rfl, trivial⟩, ?_, rfl, rfl, rfl, rfl⟩
        rfl
    · unfold m_laws_szStmtS_L0 at hm
      refine T_seq ?_
      refine T_seq ?_
      refine T_region ?_
      refine TL_pure rfl rfl rfl rfl (op_move rfl) ?_
      refine TL_pure rfl rfl rfl rfl (op_move rfl) ?_
      refine TL_pure rfl rfl rfl rfl (op_lenT Try.underlying44 rfl (List.length_map _)) ?_
      refine TL_pure rfl rfl rfl rfl (op_lss rfl rfl) ?_
      refine TL_nil ?_
      refine T_cond rfl (fun hq => ?_) (fun hq => ?_)
      · replace hm := condT hq hm
        refine T_skip ?_
        refine T_seq ?_
        refine T_block ?_
        refine T_seq ?_
        refine T_region ?_
        refine TL_pure rfl rfl rfl rfl (op_move rfl) ?_
        refine TL_pure rfl rfl rfl rfl (op_move rfl) ?_
        obtain ⟨x20, hx20, hm⟩ := bindS hm
        refine TL_pure rfl rfl rfl rfl (op_indexT el44 rfl rfl hx20 rfl) ?_
        refine TL_pure rfl rfl rfl rfl (op_load_agg ag86 sz86 rfl rfl rfl) ?_
        refine TL_pure rfl rfl rfl rfl (op_move rfl) ?_
        obtain ⟨r23, hr23, hm⟩ := bindS hm
        refine TL_callF (c_laws_szStmt x20 s0.1 r23 hr23) Try.call51 rfl rfl rfl rfl rfl ?_
        refine TL_pure rfl rfl rfl rfl (op_assign rfl) ?_
        refine TL_nil ?_
        refine T_seq ?_
        refine T_region ?_
        refine TL_pure rfl rfl rfl rfl (op_move rfl) ?_
        refine TL_pure rfl rfl rfl rfl (op_lss rfl rfl) ?_
        refine TL_nil ?_
        refine T_cond rfl (fun hq => ?_) (fun hq => ?_)
        · replace hm := condT hq hm
          refine T_seq ?_
          refine T_region ?_
          refine TL_pure rfl rfl rfl rfl (op_assign rfl) ?_
          refine TL_nil ?_
          refine T_keepH [4] [] rfl rfl rfl rfl (by rw [hF]; rfl) ?_
          refine T_ret ?_
          obtain rfl := someI hm
          have hn := CtlOK_out hc0
          exact hx0 (.inr (-1 : Int)) hn
        · replace hm := condF hq hm
          refine T_skip ?_
          refine T_region ?_
          refine TL_pure rfl rfl rfl rfl (op_move rfl) ?_
          refine TL_pure rfl rfl rfl rfl (op_addW rfl rfl) ?_
          refine TL_pure rfl rfl rfl rfl (op_assign rfl) ?_
          refine TL_nil ?_
          refine TR_keepH [0, 1, 5] [] rfl rfl rfl rfl (by rw [hF]; rfl) ?_
          obtain rfl := someI hm
          have hn := CtlOK_next hc0
          exact hn _ rfl
      · replace hm := condF hq hm
        refine T_keepH [1] [] rfl rfl rfl rfl (by rw [hF]; rfl) ?_
        refine T_exit ?_
        obtain rfl := someI hm
        have hn := CtlOK_out hc0
        exact hx0 (.inl s0.1) hn
theorem c_laws_toInt64S (p0 : List Int) (out : List Int) (hm : m_laws_toInt64S p0 = some out) : ACall Try.prog 76 [.sl 1 (List.map a_i64 p0)] [] (.ow 1000) [(1000, .arr ⟨false, true⟩ 1 2 (List.map a_i64 out))] := by
  refine ACall.intro Try.func76 rfl Try.ntmps76 rfl (fun F hF => ?_)
  unfold m_laws_toInt64S at hm
  refine T_seq ?_
  refine T_region ?_
  refine TL_pure rfl rfl rfl rfl (op_assign rfl) ?_
  refine TL_nil ?_
  refine T_seq ?_
  refine T_region ?_
  refine TL_pure rfl rfl rfl rfl (op_move rfl) ?_
  refine TL_pure rfl rfl rfl rfl (op_lenT Try.underlying29 rfl (List.length_map _)) ?_
  refine TL_fact (fun _ _ _ hr => RelP.slLen (i := 5) rfl hr) (fun hlen6 => ?_)
  rw [List.length_map] at hlen6
  obtain ⟨k7, hk7, hm⟩ := bindS hm
  refine TL_make 11 (n := k7) el29 z2 rfl rfl rfl rfl rfl rfl (makeI_spec hk7).1 (makeI_spec hk7).1 (makeI_spec hk7).2 rfl rfl rfl rfl ?_
  refine TL_nils 11 (List.map a_i64 (List.replicate k7 (0 : Int))) (by rw [hF]; rfl) rfl (ElR.rep (z := .int .i64 (0 : Int)) (g := a_i64) (x := (0 : Int)) ⟨⟨rfl, rfl⟩, trivial⟩ k7) rfl ?_
  refine TL_pure rfl rfl rfl rfl (op_assign rfl) ?_
  refine TL_nil ?_
  refine T_seq ?_
  refine T_seq ?_
  refine T_region ?_
  refine TL_pure rfl rfl rfl rfl (op_assign rfl) ?_
  refine TL_nil ?_
  refine T_block ?_
  refine T_keepH [0, 3, 4] [11] rfl rfl rfl rfl (by rw [hF]; rfl) ?_
  refine T_loop ?_
  obtain ⟨u0, hl0, hm⟩ := bindS hm
  refine TR_iter2 (m_laws_toInt64S_L0 p0) (fun (s0 : (List Int) × Int) => ⟨[(0, .sl 1 (List.map a_i64 p0)), (3, .ow 11), (4, .int .i64 s0.2)], [(11, .arr ⟨false, false⟩ 1 2 (List.map a_i64 s0.1))]⟩) (fun u0 => .exit 0) (fun u0 => ⟨[(3, .ow 11)], [(11, .arr ⟨false, false⟩ 1 2 (List.map a_i64 u0))]⟩) (fun u0 => m_laws_toInt64S_A0 u0 = some out) hl0 hm (fun u0 hm => ?_) (fun hx0 s0 c0 hm hc0 => ?_)
  · unfold m_laws_toInt64S_A0 at hm
    refine T_seq ?_
    refine T_region ?_
    refine TL_pure rfl rfl rfl rfl (op_move rfl) ?_
    refine TL_pure rfl rfl rfl rfl (op_assign rfl) ?_
    refine TL_nil ?_
    refine T_keepH [2] [11] rfl rfl rfl rfl (by rw [hF]; rfl) ?_
    refine T_deepen 11 (p' := false) (List.map a_i64 u0) (by rw [hF]; rfl) rfl (ElR.map (f := a_i64) (g := a_i64) (fun _ => ⟨⟨rfl, rfl⟩, trivial⟩) u0) rfl rfl rfl ?_
    refine T_ren [(11, 1000)] rfl rfl rfl (by rw [hF]; rfl) ?_
    refine T_ret ?_
    obtain rfl := someI hm
    refine ⟨[_], [1000], ⟨rfl, trivial⟩, ?_, rfl, rfl, rfl, rfl⟩
    rfl
  · unfold m_laws_toInt64S_L0 at hm
    refine T_seq ?_
    refine T_seq ?_
    refine T_region ?_
    refine TL_pure rfl rfl rfl rfl (op_move rfl) ?_
    refine TL_pure rfl rfl rfl rfl (op_move rfl) ?_
    refine TL_pure rfl rfl rfl rfl (op_lenT Try.underlying29 rfl (List.length_map _)) ?_
    refine TL_pure rfl rfl rfl rfl (op_lss rfl rfl) ?_
    refine TL_nil ?_
    refine T_cond rfl (fun hq => ?_) (fun hq => ?_)
    · replace hm := condT hq hm
      refine T_skip ?_
      refine T_seq ?_
      refine T_block ?_
      refine T_region ?_
      refine TL_pure rfl rfl rfl rfl (op_move rfl) ?_
      refine TL_pure rfl rfl rfl rfl (op_move rfl) ?_
      refine TL_pure rfl rfl rfl rfl (op_move rfl) ?_
      refine TL_pure rfl rfl rfl rfl (op_move rfl) ?_
      obtain ⟨x18, hx18, hm⟩ := bindS hm
      refine TL_pure rfl rfl rfl rfl (op_indexT el29 rfl rfl hx18 rfl) ?_
      refine TL_pure rfl rfl rfl rfl (op_load_one ag2 rfl rfl) ?_
      obtain ⟨x20, hx20, hm⟩ := bindS hm
      refine TL_pure rfl rfl rfl rfl (op_indexO el29 rfl rfl rfl hx20) ?_
      refine TL_storeT sz2 rfl rfl ((getI_spec hx20).2) (v' := x18) rfl rfl rfl rfl rfl rfl rfl rfl rfl rfl ?_
      refine TL_nil ?_
      refine T_region ?_
      refine TL_pure rfl rfl rfl rfl (op_move rfl) ?_
      refine TL_pure rfl rfl rfl rfl (op_addW rfl rfl) ?_
      refine TL_pure rfl rfl rfl rfl (op_assign rfl) ?_
      refine TL_nil ?_
      refine TR_keepH [0, 3, 4] [11] rfl rfl rfl rfl (by rw [hF]; rfl) ?_
      obtain rfl := someI hm
      have hn := CtlOK_next hc0
      exact hn _ rfl
    · replace hm := condF hq hm
      refine T_keepH [3] [11] rfl rfl rfl rfl (by rw [hF]; rfl) ?_
      refine T_exit ?_
      obtain rfl := someI hm
      have hn := CtlOK_out hc0
      exact hx0 s0.1 hn
theorem c_laws_toTerm (p0 : Term) (out : Term) (hm : m_laws_toTerm p0 = some out) : ACall Try.prog 97 [.agg [.int .i64 p0.Const, .sl 1 (List.map a_i64 p0.Coeffs)]] [] (.agg [.int .i64 out.Const, .ow 1000]) [(1000, .arr ⟨false, true⟩ 1 2 (List.map a_i64 out.Coeffs))] := by
  refine ACall.intro Try.func97 rfl Try.ntmps97 rfl (fun F hF => ?_)
  unfold m_laws_toTerm at hm
  refine T_seq ?_
  refine T_region ?_
  refine TL_box 11 rfl rfl rfl rfl rfl rfl rfl ?_
  refine TL_alloc 12 z75 rfl rfl rfl rfl rfl rfl rfl ?_
  refine TL_nil ?_
  refine T_seq ?_
  refine T_region ?_
  refine TL_alloc 13 z75 rfl rfl rfl rfl rfl rfl rfl ?_
  refine TL_nil ?_
  refine T_seq ?_
  refine T_region ?_
  refine TL_pure rfl rfl rfl rfl (op_fieldAddr fa84_0 rfl rfl) ?_
  refine TL_pure rfl rfl rfl rfl (op_load_one ag2 rfl rfl) ?_
  refine TL_pure rfl rfl rfl rfl (op_fieldAddr fa75_0 rfl rfl) ?_
  refine TL_store_box sz2 rfl rfl rfl rfl rfl rfl rfl rfl rfl ?_
  refine TL_nil ?_
  refine T_seq ?_
  refine T_region ?_
  refine TL_pure rfl rfl rfl rfl (op_fieldAddr fa84_1 rfl rfl) ?_
  refine TL_pure rfl rfl rfl rfl (op_load_one ag29 rfl rfl) ?_
  obtain ⟨r9, hr9, hm⟩ := bindS hm
  refine TL_callO [(1000, 14)] (c_laws_toInt64S p0.Coeffs r9 hr9) Try.call76 rfl rfl rfl rfl rfl rfl rfl rfl rfl rfl rfl rfl rfl ?_
  refine TL_pure rfl rfl rfl rfl (op_fieldAddr fa75_1 rfl rfl) ?_
  refine TL_store_box sz29 rfl rfl rfl rfl rfl rfl rfl rfl rfl ?_
  refine TL_nil ?_
  refine T_seq ?_
  refine T_region ?_
  refine TL_pure rfl rfl rfl rfl (op_load_agg ag75 sz75 rfl rfl rfl) ?_
  refine TL_store_box sz75 rfl rfl rfl rfl rfl rfl rfl rfl rfl ?_
  refine TL_nil ?_
  refine T_keepH [2] [12, 14] rfl rfl rfl rfl (by rw [hF]; rfl) ?_
  refine T_ren [(12, 12), (14, 1000)] rfl rfl rfl (by rw [hF]; rfl) ?_
  refine T_ret ?_
  obtain rfl := someI hm
  refine ⟨[_], [1000], ⟨⟨_, _, rfl, rfl, .inr ⟨ag75, _, _, sz75, rfl, rfl⟩⟩, trivial⟩, ?_, rfl, rfl, rfl, rfl⟩
  rfl
theorem c_laws_toTermS (p0 : List Term) (out : List Term) (hm : m_laws_toTermS p0 = some out) : ACall Try.prog 67 [.sl 2 (List.map a_Term p0)] [] (.ow 1000) [(1000, .arr ⟨false, true⟩ 2 75 (List.map a_Term out))] := by
  refine ACall.intro Try.func67 rfl Try.ntmps67 rfl (fun F hF => ?_)
  unfold m_laws_toTermS at hm
  refine T_seq ?_
  refine T_region ?_
  refine TL_pure rfl rfl rfl rfl (op_assign rfl) ?_
  refine TL_nil ?_
  refine T_seq ?_
  refine T_region ?_
  refine TL_pure rfl rfl rfl rfl (op_move rfl) ?_
  refine TL_pure rfl rfl rfl rfl (op_lenT Try.underlying52 rfl (List.length_map _)) ?_
  refine TL_fact (fun _ _ _ hr => RelP.slLen (i := 5) rfl hr) (fun hlen6 => ?_)
  rw [List.length_map] at hlen6
  obtain ⟨k7, hk7, hm⟩ := bindS hm
  refine TL_make 11 (n := k7) el24 z75 rfl rfl rfl rfl rfl rfl (makeI_spec hk7).1 (makeI_spec hk7).1 (makeI_spec hk7).2 rfl rfl rfl rfl ?_
  refine TL_deepen 11 (p' := false) (List.map a_Term (List.replicate k7 (Term.mk (0 : Int) ([] : List Int)))) (by rw [hF]; rfl) rfl (ElR.rep (z := .agg [.int .i64 (0 : Int), .snil]) (g := a_Term) (x := (Term.mk (0 : Int) ([] : List Int))) ⟨⟨rfl, rfl⟩, ⟨rfl, trivial⟩⟩ k7) rfl rfl rfl ?_
  refine TL_pure rfl rfl rfl rfl (op_assign rfl) ?_
  refine TL_nil ?_
  refine T_seq ?_
  refine T_seq ?_
  refine T_region ?_
  refine TL_pure rfl rfl rfl rfl (op_assign rfl) ?_
  refine TL_nil ?_
  refine T_block ?_
  refine T_keepH [0, 3, 4] [11] rfl rfl rfl rfl (by rw [hF]; rfl) ?_
  refine T_loop ?_
  obtain ⟨u0, hl0, hm⟩ := bindS hm
  refine TR_iter2 (m_laws_toTermS_L0 p0) (fun (s0 : (List Term) × Int) => ⟨[(0, .sl 2 (List.map a_Term p0)), (3, .ow 11), (4, .int .i64 s0.2)], [(11, .arr ⟨false, true⟩ 2 75 (List.map a_Term s0.1))]⟩) (fun u0 => .exit 0) (fun u0 => ⟨[(3, .ow 11)], [(11, .arr ⟨false, true⟩ 2 75 (List.map a_Term u0))]⟩) (fun u0 => m_laws_toTermS_A0 u0 = some out) hl0 hm (fun u0 hm => ?_) (fun hx0 s0 c0 hm hc0 => ?_)
  · unfold m_laws_toTermS_A0 at hm
    refine T_seq ?_
    refine T_region ?_
    refine TL_pure rfl rfl rfl rfl (op_move rfl) ?_
    refine TL_pure rfl rfl rfl rfl (op_assign rfl) ?_
    refine TL_nil ?_
    refine T_keepH [2] [11] rfl rfl rfl rfl (by rw [hF]; rfl) ?_
    refine T_ren [(11, 1000)] rfl rfl rfl (by rw [hF]; rfl) ?_
    refine T_ret ?_
    obtain rfl := someI hm
    refine ⟨[_], [1000], ⟨rfl, trivial⟩, ?_, rfl, rfl, rfl, rfl⟩
    rfl
  · unfold m_laws_toTermS_L0 at hm
    refine T_seq ?_
    refine T_seq ?_
    refine T_region ?_
    refine TL_pure rfl rfl rfl rfl (op_move rfl) ?_
    refine TL_pure rfl rfl rfl rfl (op_move rfl) ?_
    refine TL_pure rfl rfl rfl rfl (op_lenT Try.underlying52 rfl (List.length_map _)) ?_
    refine TL_pure rfl rfl rfl rfl (op_lss rfl rfl) ?_
    refine TL_nil ?_
    refine T_cond rfl (fun hq => ?_) (fun hq => ?_)
    · replace hm := condT hq hm
      refine T_skip ?_
      refine T_seq ?_
      refine T_block ?_
      refine T_region ?_
      refine TL_pure rfl rfl rfl rfl (op_move rfl) ?_
      refine TL_pure rfl rfl rfl rfl (op_move rfl) ?_
      refine TL_pure rfl rfl rfl rfl (op_move rfl) ?_
      refine TL_pure rfl rfl rfl rfl (op_move rfl) ?_
      obtain ⟨x18, hx18, hm⟩ := bindS hm
      refine TL_pure rfl rfl rfl rfl (op_indexT el52 rfl rfl hx18 rfl) ?_
      refine TL_pure rfl rfl rfl rfl (op_load_agg ag84 sz84 rfl rfl rfl) ?_
      obtain ⟨r20, hr20, hm⟩ := bindS hm
      refine TL_callO [(1000, 14)] (c_laws_toTerm x18 r20 hr20) Try.call97 rfl rfl rfl rfl rfl rfl rfl rfl rfl rfl rfl rfl rfl ?_
      obtain ⟨x21, hx21, hm⟩ := bindS hm
      refine TL_pure rfl rfl rfl rfl (op_indexO el24 rfl rfl rfl hx21) ?_
      refine TL_storeXT (ids := [14]) sz75 rfl rfl ((getI_spec hx21).2) (v' := r20) rfl rfl rfl rfl rfl rfl rfl (by rw [hF]; intro j hj; simp only [List.mem_cons, List.not_mem_nil, or_false] at hj; rcases hj with rfl <;> rfl) rfl rfl rfl rfl rfl rfl rfl ?_
      refine TL_nil ?_
      refine T_region ?_
      refine TL_pure rfl rfl rfl rfl (op_move rfl) ?_
      refine TL_pure rfl rfl rfl rfl (op_addW rfl rfl) ?_
      refine TL_pure rfl rfl rfl rfl (op_assign rfl) ?_
      refine TL_nil ?_
      refine TR_keepH [0, 3, 4] [11] rfl rfl rfl rfl (by rw [hF]; rfl) ?_
      obtain rfl := someI hm
      have hn := CtlOK_next hc0
      exact hn _ rfl
    · replace hm := condF hq hm
      refine T_keepH [3] [11] rfl rfl rfl rfl (by rw [hF]; rfl) ?_
      refine T_exit ?_
      obtain rfl := someI hm
      have hn := CtlOK_out hc0
      exact hx0 s0.1 hn
theorem c_laws_toStmt (p0 : Stmt) (out : Stmt) (hm : m_laws_toStmt p0 = some out) : ACall Try.prog 54 [.agg [.int .i64 p0.Kind, .int .i64 p0.Var, .int .i64 p0.Event, .int .i64 p0.Sum.Const, .sl 1 (List.map a_i64 p0.Sum.Coeffs), .int .i64 p0.Index.Const, .sl 1 (List.map a_i64 p0.Index.Coeffs), .sl 2 (List.map a_Term p0.Facts)]] [] (.agg [.int .i64 out.Kind, .int .i64 out.Var, .int .i64 out.Event, .int .i64 out.Sum.Const, .ow 1000, .int .i64 out.Index.Const, .ow 1001, .ow 1002]) [(1000, .arr ⟨false, true⟩ 1 2 (List.map a_i64 out.Sum.Coeffs)), (1001, .arr ⟨false, true⟩ 1 2 (List.map a_i64 out.Index.Coeffs)), (1002, .arr ⟨false, true⟩ 2 75 (List.map a_Term out.Facts))] := by
  refine ACall.intro Try.func54 rfl Try.ntmps54 rfl (fun F hF => ?_)
  unfold m_laws_toStmt at hm
  refine T_seq ?_
  refine T_region ?_
  refine TL_box 11 rfl rfl rfl rfl rfl rfl rfl ?_
  refine TL_alloc 12 z77 rfl rfl rfl rfl rfl rfl rfl ?_
  refine TL_nil ?_
  refine T_seq ?_
  refine T_region ?_
  refine TL_alloc 13 z77 rfl rfl rfl rfl rfl rfl rfl ?_
  refine TL_nil ?_
  refine T_seq ?_
  refine T_region ?_
  refine TL_pure rfl rfl rfl rfl (op_fieldAddr fa86_0 rfl rfl) ?_
  refine TL_pure rfl rfl rfl rfl (op_load_one ag2 rfl rfl) ?_
  refine TL_pure rfl rfl rfl rfl (op_fieldAddr fa77_0 rfl rfl) ?_
  refine TL_store_box sz2 rfl rfl rfl rfl rfl rfl rfl rfl rfl ?_
  refine TL_nil ?_
  refine T_seq ?_
  refine T_region ?_
  refine TL_pure rfl rfl rfl rfl (op_fieldAddr fa86_1 rfl rfl) ?_
  refine TL_pure rfl rfl rfl rfl (op_load_one ag2 rfl rfl) ?_
  refine TL_pure rfl rfl rfl rfl (op_fieldAddr fa77_1 rfl rfl) ?_
  refine TL_store_box sz2 rfl rfl rfl rfl rfl rfl rfl rfl rfl ?_
  refine TL_nil ?_
  refine T_seq ?_
  refine T_region ?_
  refine TL_pure rfl rfl rfl rfl (op_fieldAddr fa86_2 rfl rfl) ?_
  refine TL_pure rfl rfl rfl rfl (op_load_one ag2 rfl rfl) ?_
  refine TL_pure rfl rfl rfl rfl (op_fieldAddr fa77_2 rfl rfl) ?_
  refine TL_store_box sz2 rfl rfl rfl rfl rfl rfl rfl rfl rfl ?_
  refine TL_nil ?_
  refine T_seq ?_
  refine T_region ?_
  refine TL_pure rfl rfl rfl rfl (op_fieldAddr fa86_3 rfl rfl) ?_
  refine TL_pure rfl rfl rfl rfl (op_load_agg ag84 sz84 rfl rfl rfl) ?_
  obtain ⟨r15, hr15, hm⟩ := bindS hm
  refine TL_callO [(1000, 14)] (c_laws_toTerm p0.Sum r15 hr15) Try.call97 rfl rfl rfl rfl rfl rfl rfl rfl rfl rfl rfl rfl rfl ?_
  refine TL_pure rfl rfl rfl rfl (op_fieldAddr fa77_3 rfl rfl) ?_
  refine TL_store_box sz75 rfl rfl rfl rfl rfl rfl rfl rfl rfl ?_
  refine TL_nil ?_
  refine T_seq ?_
  refine T_region ?_
  refine TL_pure rfl rfl rfl rfl (op_fieldAddr fa86_4 rfl rfl) ?_
  refine TL_pure rfl rfl rfl rfl (op_load_agg ag84 sz84 rfl rfl rfl) ?_
  obtain ⟨r19, hr19, hm⟩ := bindS hm
  refine TL_callO [(1000, 15)] (c_laws_toTerm p0.Index r19 hr19) Try.call97 rfl rfl rfl rfl rfl rfl rfl rfl rfl rfl rfl rfl rfl ?_
  refine TL_pure rfl rfl rfl rfl (op_fieldAddr fa77_4 rfl rfl) ?_
  refine TL_store_box sz75 rfl rfl rfl rfl rfl rfl rfl rfl rfl ?_
  refine TL_nil ?_
  refine T_seq ?_
  refine T_region ?_
  refine TL_pure rfl rfl rfl rfl (op_fieldAddr fa86_5 rfl rfl) ?_
  refine TL_pure rfl rfl rfl rfl (op_load_one ag52 rfl rfl) ?_
  obtain ⟨r23, hr23, hm⟩ := bindS hm
  refine TL_callO [(1000, 16)] (c_laws_toTermS p0.Facts r23 hr23) Try.call67 rfl rfl rfl rfl rfl rfl rfl rfl rfl rfl rfl rfl rfl ?_
  refine TL_pure rfl rfl rfl rfl (op_fieldAddr fa77_5 rfl rfl) ?_
  refine TL_store_box sz24 rfl rfl rfl rfl rfl rfl rfl rfl rfl ?_
  refine TL_nil ?_
  refine T_seq ?_
  refine T_region ?_
  refine TL_pure rfl rfl rfl rfl (op_load_agg ag77 sz77 rfl rfl rfl) ?_
  refine TL_store_box sz77 rfl rfl rfl rfl rfl rfl rfl rfl rfl ?_
  refine TL_nil ?_
  refine T_keepH [2] [12, 14, 15, 16] rfl rfl rfl rfl (by rw [hF]; rfl) ?_
  refine T_ren [(12, 12), (14, 1000), (15, 1001), (16, 1002)] rfl rfl rfl (by rw [hF]; rfl) ?_
  refine T_ret ?_
  obtain rfl := someI hm
  refine ⟨[_], [1000, 1001, 1002], ⟨⟨_, _, rfl, rfl, .inr ⟨ag77, _, _, sz77, rfl, rfl⟩⟩, trivial⟩, ?_, rfl, rfl, rfl, rfl⟩
  rfl
theorem c_laws_toStmtS (p0 : List Stmt) (out : List Stmt) (hm : m_laws_toStmtS p0 = some out) : ACall Try.prog 23 [.sl 8 (List.map a_Stmt p0)] [] (.ow 1000) [(1000, .arr ⟨false, true⟩ 8 77 (List.map a_Stmt out))] := by
  refine ACall.intro Try.func23 rfl Try.ntmps23 rfl (fun F hF => ?_)
  unfold m_laws_toStmtS at hm
  refine T_seq ?_
  refine T_region ?_
  refine TL_pure rfl rfl rfl rfl (op_assign rfl) ?_
  refine TL_nil ?_
  refine T_seq ?_
  refine T_region ?_
  refine TL_pure rfl rfl rfl rfl (op_move rfl) ?_
  refine TL_pure rfl rfl rfl rfl (op_lenT Try.underlying44 rfl (List.length_map _)) ?_
  refine TL_fact (fun _ _ _ hr => RelP.slLen (i := 5) rfl hr) (fun hlen6 => ?_)
  rw [List.length_map] at hlen6
  obtain ⟨k7, hk7, hm⟩ := bindS hm
  refine TL_make 11 (n := k7) el25 z77 rfl rfl rfl rfl rfl rfl (makeI_spec hk7).1 (makeI_spec hk7).1 (makeI_spec hk7).2 rfl rfl rfl rfl ?_
  refine TL_deepen 11 (p' := false) (List.map a_Stmt (List.replicate k7 (Stmt.mk (0 : Int) (0 : Int) (0 : Int) (Term.mk (0 : Int) ([] : List Int)) (Term.mk (0 : Int) ([] : List Int)) ([] : List Term)))) (by rw [hF]; rfl) rfl (ElR.rep (z := .agg [.int .i64 (0 : Int), .int .i64 (0 : Int), .int .i64 (0 : Int), .int .i64 (0 : Int), .snil, .int .i64 (0 : Int), .snil, .snil]) (g := a_Stmt) (x := (Stmt.mk (0 : Int) (0 : Int) (0 : Int) (Term.mk (0 : Int) ([] : List Int)) (Term.mk (0 : Int) ([] : List Int)) ([] : List Term))) ⟨⟨rfl, rfl⟩, ⟨⟨rfl, rfl⟩, ⟨⟨rfl, rfl⟩, ⟨⟨rfl, rfl⟩, ⟨rfl, ⟨⟨rfl, rfl⟩, ⟨rfl, ⟨rfl, trivial⟩⟩⟩⟩⟩⟩⟩⟩ k7) rfl rfl rfl ?_
  refine TL_pure rfl rfl rfl rfl (op_assign rfl) ?_
  refine TL_nil ?_
  refine T_seq ?_
  refine T_seq ?_
  refine T_region ?_
  refine TL_pure rfl rfl rfl rfl (op_assign rfl) ?_
  refine TL_nil ?_
  refine T_block ?_
  refine T_keepH [0, 3, 4] [11] rfl rfl rfl rfl (by rw [hF]; rfl) ?_
  refine T_loop ?_
  obtain ⟨u0, hl0, hm⟩ := bindS hm
  refine TR_iter2 (m_laws_toStmtS_L0 p0) (fun (s0 : (List Stmt) × Int) => ⟨[(0, .sl 8 (List.map a_Stmt p0)), (3, .ow 11), (4, .int .i64 s0.2)], [(11, .arr ⟨false, true⟩ 8 77 (List.map a_Stmt s0.1))]⟩) (fun u0 => .exit 0) (fun u0 => ⟨[(3, .ow 11)], [(11, .arr ⟨false, true⟩ 8 77 (List.map a_Stmt u0))]⟩) (fun u0 => m_laws_toStmtS_A0 u0 = some out) hl0 hm (fun u0 hm => ?_) (fun hx0 s0 c0 hm hc0 => ?_)
  · unfold m_laws_toStmtS_A0 at hm
    refine T_seq ?_
    refine T_region ?_
    refine TL_pure rfl rfl rfl rfl (op_move rfl) ?_
    refine TL_pure rfl rfl rfl rfl (op_assign rfl) ?_
    refine TL_nil ?_
    refine T_keepH [2] [11] rfl rfl rfl rfl (by rw [hF]; rfl) ?_
    refine T_ren [(11, 1000)] rfl rfl rfl (by rw [hF]; rfl) ?_
    refine T_ret ?_
    obtain rfl := someI hm
    refine ⟨[_], [1000], ⟨rfl, trivial⟩, ?_, rfl, rfl, rfl, rfl⟩
    rfl
  · unfold m_laws_toStmtS_L0 at hm
    refine T_seq ?_
    refine T_seq ?_
    refine T_region ?_
    refine TL_pure rfl rfl rfl rfl (op_move rfl) ?_
    refine TL_pure rfl rfl rfl rfl (op_move rfl) ?_
    refine TL_pure rfl rfl rfl rfl (op_lenT Try.underlying44 rfl (List.length_map _)) ?_
    refine TL_pure rfl rfl rfl rfl (op_lss rfl rfl) ?_
    refine TL_nil ?_
    refine T_cond rfl (fun hq => ?_) (fun hq => ?_)
    · replace hm := condT hq hm
      refine T_skip ?_
      refine T_seq ?_
      refine T_block ?_
      refine T_region ?_
      refine TL_pure rfl rfl rfl rfl (op_move rfl) ?_
      refine TL_pure rfl rfl rfl rfl (op_move rfl) ?_
      refine TL_pure rfl rfl rfl rfl (op_move rfl) ?_
      refine TL_pure rfl rfl rfl rfl (op_move rfl) ?_
      obtain ⟨x18, hx18, hm⟩ := bindS hm
      refine TL_pure rfl rfl rfl rfl (op_indexT el44 rfl rfl hx18 rfl) ?_
      refine TL_pure rfl rfl rfl rfl (op_load_agg ag86 sz86 rfl rfl rfl) ?_
      obtain ⟨r20, hr20, hm⟩ := bindS hm
      refine TL_callO [(1000, 18), (1001, 19), (1002, 20)] (c_laws_toStmt x18 r20 hr20) Try.call54 rfl rfl rfl rfl rfl rfl rfl rfl rfl rfl rfl rfl rfl ?_
      obtain ⟨x21, hx21, hm⟩ := bindS hm
      refine TL_pure rfl rfl rfl rfl (op_indexO el25 rfl rfl rfl hx21) ?_
      refine TL_storeXT (ids := [18, 19, 20]) sz77 rfl rfl ((getI_spec hx21).2) (v' := r20) rfl rfl rfl rfl rfl rfl rfl (by rw [hF]; intro j hj; simp only [List.mem_cons, List.not_mem_nil, or_false] at hj; rcases hj with rfl | rfl | rfl <;> rfl) rfl rfl rfl rfl rfl rfl rfl ?_
      refine TL_nil ?_
      refine T_region ?_
      refine TL_pure rfl rfl rfl rfl (op_move rfl) ?_
      refine TL_pure rfl rfl rfl rfl (op_addW rfl rfl) ?_
      refine TL_pure rfl rfl rfl rfl (op_assign rfl) ?_
      refine TL_nil ?_
      refine TR_keepH [0, 3, 4] [11] rfl rfl rfl rfl (by rw [hF]; rfl) ?_
      obtain rfl := someI hm
      have hn := CtlOK_next hc0
      exact hn _ rfl
    · replace hm := condF hq hm
      refine T_keepH [3] [11] rfl rfl rfl rfl (by rw [hF]; rfl) ?_
      refine T_exit ?_
      obtain rfl := someI hm
      have hn := CtlOK_out hc0
      exact hx0 s0.1 hn
theorem c_spec_l00In (p0 : Int) (p1 : Int) (p2 : Int) (out : Bool) (hm : m_spec_l00In p0 p1 p2 = some out) : ACall Try.prog 92 [.int .i64 p0, .int .i64 p1, .int .i64 p2] [] (.bool out) [] := by
  refine ACall.intro Try.func92 rfl Try.ntmps92 rfl (fun F hF => ?_)
  unfold m_spec_l00In at hm
  refine T_seq ?_
  refine T_region ?_
  refine TL_pure rfl rfl rfl rfl (op_assign rfl) ?_
  refine TL_nil ?_
  refine T_seq ?_
  refine T_region ?_
  refine TL_pure rfl rfl rfl rfl (op_move rfl) ?_
  refine TL_pure rfl rfl rfl rfl (op_move rfl) ?_
  refine TL_pure rfl rfl rfl rfl (op_geq rfl rfl) ?_
  refine TL_pure rfl rfl rfl rfl (op_move rfl) ?_
  refine TL_join 4 (fun _ : Unit => ⟨[(14, .bool ((decide (p1 ≤ p0)) && (decide (p0 ≤ p2))))], []⟩) (fun _ => True) (fun _ _ => ?_) (fun hjj => ?_)
  · refine TL_pure rfl rfl rfl rfl (op_assign rfl) ?_
    refine TL_nil ?_
    refine T_keepH [6] [] rfl rfl rfl rfl (by rw [hF]; rfl) ?_
    refine T_ret ?_
    obtain rfl := someI hm
    refine ⟨[_], [], ⟨rfl, trivial⟩, ?_, rfl, rfl, rfl, rfl⟩
    rfl
  · refine TL_split 10 rfl rfl rfl (fun hq => ?_) (fun hq => ?_)
    · refine TL_want rfl rfl ?_
      refine TL_pure rfl rfl rfl rfl (op_move rfl) ?_
      refine TL_want rfl rfl ?_
      refine TL_pure rfl rfl rfl rfl (op_move rfl) ?_
      refine TL_want rfl rfl ?_
      refine TL_pure rfl rfl rfl rfl (op_leq rfl rfl) ?_
      refine TL_pure rfl rfl rfl rfl (op_pick_true rfl rfl) ?_
      refine TL_keepH [14] [] rfl rfl rfl rfl (by rw [hF]; rfl) ?_
      exact TL_cast _ (by first | (rw [hq, Bool.true_and]; done) | (rw [hq]; rfl)) (hjj () trivial)
    · refine TL_pass rfl rfl rfl rfl rfl rfl rfl ?_
      refine TL_pass rfl rfl rfl rfl rfl rfl rfl ?_
      refine TL_pass rfl rfl rfl rfl rfl rfl rfl ?_
      refine TL_pure rfl rfl rfl rfl (op_pick_false rfl rfl) ?_
      refine TL_keepH [14] [] rfl rfl rfl rfl (by rw [hF]; rfl) ?_
      exact TL_cast _ (by first | (rw [hq, Bool.false_and]; done) | (rw [hq]; rfl)) (hjj () trivial)
theorem c_spec_l02Number (p0 : Int) (out : Bool) (hm : m_spec_l02Number p0 = some out) : ACall Try.prog 144 [.int .i64 p0] [] (.bool out) [] := by
  refine ACall.intro Try.func144 rfl Try.ntmps144 rfl (fun F hF => ?_)
  unfold m_spec_l02Number at hm
  refine T_seq ?_
  refine T_region ?_
  refine TL_pure rfl rfl rfl rfl (op_assign rfl) ?_
  refine TL_nil ?_
  refine T_seq ?_
  refine T_region ?_
  refine TL_pure rfl rfl rfl rfl (op_move rfl) ?_
  obtain ⟨r4, hr4, hm⟩ := bindS hm
  refine TL_callF (c_spec_l00In p0 (-1000000 : Int) (1000000 : Int) r4 hr4) Try.call92 rfl rfl rfl rfl rfl ?_
  refine TL_pure rfl rfl rfl rfl (op_assign rfl) ?_
  refine TL_nil ?_
  refine T_keepH [2] [] rfl rfl rfl rfl (by rw [hF]; rfl) ?_
  refine T_ret ?_
  obtain rfl := someI hm
  refine ⟨[_], [], ⟨rfl, trivial⟩, ?_, rfl, rfl, rfl, rfl⟩
  rfl
theorem c_spec_l02Is (p0 : Term) (out : Bool) (hm : m_spec_l02Is p0 = some out) : ACall Try.prog 136 [.cp [.int .i64 p0.Const, .sl 1 (List.map a_i64 p0.Coeffs)]] [] (.bool out) [] := by
  refine ACall.intro Try.func136 rfl Try.ntmps136 rfl (fun F hF => ?_)
  unfold m_spec_l02Is at hm
  refine T_seq ?_
  refine T_region ?_
  refine TL_pure rfl rfl rfl rfl (op_assign rfl) ?_
  refine TL_nil ?_
  refine T_seq ?_
  refine T_region ?_
  refine TL_pure rfl rfl rfl rfl (op_move rfl) ?_
  refine TL_pure rfl rfl rfl rfl (op_nilCheck rfl rfl) ?_
  refine TL_pure rfl rfl rfl rfl (op_fieldAddr fa75_1 rfl rfl) ?_
  refine TL_pure rfl rfl rfl rfl (op_load_one ag29 rfl rfl) ?_
  refine TL_pure rfl rfl rfl rfl (op_lenT Try.underlying29 rfl (List.length_map _)) ?_
  refine TL_fact (fun _ _ _ hr => RelP.slLen (i := 8) rfl hr) (fun hlen9 => ?_)
  rw [List.length_map] at hlen9
  refine TL_pure rfl rfl rfl rfl (op_assign rfl) ?_
  refine TL_nil ?_
  refine T_join (fun (j0 : Unit) => ⟨[(0, .cp [.int .i64 p0.Const, .sl 1 (List.map a_i64 p0.Coeffs)]), (3, .int .i64 (p0.Coeffs.length : Int))], []⟩) (fun j0 => m_spec_l02Is_J0 p0 j0 = some out) (fun j0 hm => ?_) (fun hj0 => ?_)
  · unfold m_spec_l02Is_J0 at hm
    refine T_seq ?_
    refine T_seq ?_
    refine T_region ?_
    refine TL_pure rfl rfl rfl rfl (op_assign rfl) ?_
    refine TL_nil ?_
    refine T_block ?_
    refine T_keepH [0, 3, 4] [] rfl rfl rfl rfl (by rw [hF]; rfl) ?_
    refine T_loop ?_
    obtain ⟨u0, hl0, hm⟩ := bindS hm
    refine TR_iter2 (m_spec_l02Is_L0 p0) (fun (s0 : Int) => ⟨[(0, .cp [.int .i64 p0.Const, .sl 1 (List.map a_i64 p0.Coeffs)]), (3, .int .i64 (p0.Coeffs.length : Int)), (4, .int .i64 s0)], []⟩) (fun u0 => match u0 with | .inl u0 => .exit 0 | .inr u0 => .ret) (fun u0 => match u0 with | .inl u0 => ⟨[], []⟩ | .inr u0 => ⟨[(2, .bool u0)], []⟩) (fun u0 => m_spec_l02Is_A0 u0 = some out) hl0 hm (fun u0 hm => ?_) (fun hx0 s0 c0 hm hc0 => ?_)
    · rcases u0 with u0 | u0
      · unfold m_spec_l02Is_A0 at hm
        refine T_seq ?_
        refine T_region ?_
        refine TL_pure rfl rfl rfl rfl (op_assign rfl) ?_
        refine TL_nil ?_
        refine T_keepH [2] [] rfl rfl rfl rfl (by rw [hF]; rfl) ?_
        refine T_ret ?_
        obtain rfl := someI hm
        refine ⟨[_], [], ⟨rfl, trivial⟩, ?_, rfl, rfl, rfl, rfl⟩
        rfl
      · unfold m_spec_l02Is_A0 at hm
        obtain rfl := someI hm
        refine ⟨[_], [], ⟨rfl, trivial⟩, ?_, rfl, rfl, rfl, rfl⟩
        rfl
    · unfold m_spec_l02Is_L0 at hm
      refine T_seq ?_
      refine T_seq ?_
      refine T_region ?_
      refine TL_pure rfl rfl rfl rfl (op_move rfl) ?_
      refine TL_pure rfl rfl rfl rfl (op_move rfl) ?_
      refine TL_pure rfl rfl rfl rfl (op_lss rfl rfl) ?_
      refine TL_nil ?_
      refine T_cond rfl (fun hq => ?_) (fun hq => ?_)
      · replace hm := condT hq hm
        refine T_skip ?_
        refine T_seq ?_
        refine T_block ?_
        refine T_seq ?_
        refine T_region ?_
        refine TL_pure rfl rfl rfl rfl (op_move rfl) ?_
        refine TL_pure rfl rfl rfl rfl (op_nilCheck rfl rfl) ?_
        refine TL_pure rfl rfl rfl rfl (op_fieldAddr fa75_1 rfl rfl) ?_
        refine TL_pure rfl rfl rfl rfl (op_load_one ag29 rfl rfl) ?_
        refine TL_pure rfl rfl rfl rfl (op_move rfl) ?_
        obtain ⟨x45, hx45, hm⟩ := bindS hm
        refine TL_pure rfl rfl rfl rfl (op_indexT el29 rfl rfl hx45 rfl) ?_
        refine TL_pure rfl rfl rfl rfl (op_load_one ag2 rfl rfl) ?_
        obtain ⟨r47, hr47, hm⟩ := bindS hm
        refine TL_callF (c_spec_l02Number x45 r47 hr47) Try.call144 rfl rfl rfl rfl rfl ?_
        refine TL_pure rfl rfl rfl rfl (op_not rfl) ?_
        refine TL_nil ?_
        refine T_cond rfl (fun hq => ?_) (fun hq => ?_)
        · replace hm := condT hq hm
          refine T_seq ?_
          refine T_region ?_
          refine TL_pure rfl rfl rfl rfl (op_assign rfl) ?_
          refine TL_nil ?_
          refine T_keepH [2] [] rfl rfl rfl rfl (by rw [hF]; rfl) ?_
          refine T_ret ?_
          obtain rfl := someI hm
          have hn := CtlOK_out hc0
          exact hx0 (.inr false) hn
        · replace hm := condF hq hm
          refine T_skip ?_
          refine T_region ?_
          refine TL_pure rfl rfl rfl rfl (op_move rfl) ?_
          refine TL_pure rfl rfl rfl rfl (op_addW rfl rfl) ?_
          refine TL_pure rfl rfl rfl rfl (op_assign rfl) ?_
          refine TL_nil ?_
          refine TR_keepH [0, 3, 4] [] rfl rfl rfl rfl (by rw [hF]; rfl) ?_
          obtain rfl := someI hm
          have hn := CtlOK_next hc0
          exact hn _ rfl
      · replace hm := condF hq hm
        refine T_keepH [] [] rfl rfl rfl rfl (by rw [hF]; rfl) ?_
        refine T_exit ?_
        obtain rfl := someI hm
        have hn := CtlOK_out hc0
        exact hx0 (.inl ()) hn
  · refine T_seq ?_
    refine T_region ?_
    refine TL_pure rfl rfl rfl rfl (op_move rfl) ?_
    refine TL_pure rfl rfl rfl rfl (op_nilCheck rfl rfl) ?_
    refine TL_pure rfl rfl rfl rfl (op_fieldAddrC (n := 1) fa75_0 rfl rfl rfl) ?_
    refine TL_pure rfl rfl rfl rfl (op_load_one ag2 rfl rfl) ?_
    obtain ⟨r14, hr14, hm⟩ := bindS hm
    refine TL_callF (c_spec_l02Number p0.Const r14 hr14) Try.call144 rfl rfl rfl rfl rfl ?_
    refine TL_pure rfl rfl rfl rfl (op_not rfl) ?_
    refine TL_pure rfl rfl rfl rfl (op_move rfl) ?_
    refine TL_join 3 (fun _ : Unit => ⟨[(0, .cp [.int .i64 p0.Const, .sl 1 (List.map a_i64 p0.Coeffs)]), (3, .int .i64 (p0.Coeffs.length : Int)), (19, .bool ((!r14) || (decide ((10 : Int) < (p0.Coeffs.length : Int)))))], []⟩) (fun _ => True) (fun _ _ => ?_) (fun hjj => ?_)
    · refine TL_pure rfl rfl rfl rfl (op_move rfl) ?_
      refine TL_split 20 rfl rfl rfl (fun hq => ?_) (fun hq => ?_)
      · replace hm := condT hq hm
        refine TL_pass rfl rfl rfl rfl rfl rfl rfl ?_
        refine TL_pass rfl rfl rfl rfl rfl rfl rfl ?_
        refine TL_pass rfl rfl rfl rfl rfl rfl rfl ?_
        refine TL_pass2 rfl rfl rfl rfl rfl rfl ?_
        refine TL_pass2 rfl rfl rfl rfl rfl rfl ?_
        refine TL_pass2 rfl rfl rfl rfl rfl rfl ?_
        refine TL_pass2 rfl rfl rfl rfl rfl rfl ?_
        refine TL_pass2 rfl rfl rfl rfl rfl rfl ?_
        refine TL_pass2 rfl rfl rfl rfl rfl rfl ?_
        refine TL_pass2 rfl rfl rfl rfl rfl rfl ?_
        refine TL_pass2 rfl rfl rfl rfl rfl rfl ?_
        refine TL_pass2 rfl rfl rfl rfl rfl rfl ?_
        refine TL_pass rfl rfl rfl rfl rfl rfl rfl ?_
        refine TL_pure rfl rfl rfl rfl (op_pick_true rfl rfl) ?_
        refine TL_nil ?_
        refine T_cond_true rfl ?_
        refine T_seq ?_
        refine T_region ?_
        refine TL_pure rfl rfl rfl rfl (op_assign rfl) ?_
        refine TL_nil ?_
        refine T_keepH [2] [] rfl rfl rfl rfl (by rw [hF]; rfl) ?_
        refine T_ret ?_
        obtain rfl := someI hm
        refine ⟨[_], [], ⟨rfl, trivial⟩, ?_, rfl, rfl, rfl, rfl⟩
        rfl
      · replace hm := condF hq hm
        refine TL_want rfl rfl ?_
        refine TL_pure rfl rfl rfl rfl (op_move rfl) ?_
        refine TL_want rfl rfl ?_
        refine TL_pure rfl rfl rfl rfl (op_gtr rfl rfl) ?_
        refine TL_want rfl rfl ?_
        refine TL_pure rfl rfl rfl rfl (op_move rfl) ?_
        refine TL_split 23 rfl rfl rfl (fun hq => ?_) (fun hq => ?_)
        · replace hm := condT hq hm
          refine TL_want rfl rfl ?_
          refine TL_pure rfl rfl rfl rfl (op_move rfl) ?_
          refine TL_want rfl rfl ?_
          refine TL_pure rfl rfl rfl rfl (op_nilCheck rfl rfl) ?_
          refine TL_want rfl rfl ?_
          refine TL_pure rfl rfl rfl rfl (op_fieldAddr fa75_1 rfl rfl) ?_
          refine TL_want rfl rfl ?_
          refine TL_pure rfl rfl rfl rfl (op_load_one ag29 rfl rfl) ?_
          refine TL_want rfl rfl ?_
          refine TL_pure rfl rfl rfl rfl (op_move rfl) ?_
          refine TL_want rfl rfl ?_
          refine TL_pure rfl rfl rfl rfl (op_subW rfl rfl) ?_
          refine TL_want rfl rfl ?_
          obtain ⟨x30, hx30, hm⟩ := bindS hm
          refine TL_pure rfl rfl rfl rfl (op_indexT el29 rfl rfl hx30 rfl) ?_
          refine TL_want rfl rfl ?_
          refine TL_pure rfl rfl rfl rfl (op_load_one ag2 rfl rfl) ?_
          refine TL_want rfl rfl ?_
          refine TL_pure rfl rfl rfl rfl (op_eql rfl rfl) ?_
          refine TL_want rfl rfl ?_
          refine TL_pure rfl rfl rfl rfl (op_pick_true rfl rfl) ?_
          refine TL_pure rfl rfl rfl rfl (op_pick_false rfl rfl) ?_
          refine TL_nil ?_
          refine T_cond rfl (fun hq => ?_) (fun hq => ?_)
          · replace hm := condT hq hm
            refine T_seq ?_
            refine T_region ?_
            refine TL_pure rfl rfl rfl rfl (op_assign rfl) ?_
            refine TL_nil ?_
            refine T_keepH [2] [] rfl rfl rfl rfl (by rw [hF]; rfl) ?_
            refine T_ret ?_
            obtain rfl := someI hm
            refine ⟨[_], [], ⟨rfl, trivial⟩, ?_, rfl, rfl, rfl, rfl⟩
            rfl
          · replace hm := condF hq hm
            refine T_skip ?_
            refine T_keepH [0, 3] [] rfl rfl rfl rfl (by rw [hF]; rfl) ?_
            exact hj0 () hm
        · replace hm := condF hq hm
          refine TL_pass rfl rfl rfl rfl rfl rfl rfl ?_
          refine TL_pass rfl rfl rfl rfl rfl rfl rfl ?_
          refine TL_pass rfl rfl rfl rfl rfl rfl rfl ?_
          refine TL_pass rfl rfl rfl rfl rfl rfl rfl ?_
          refine TL_pass rfl rfl rfl rfl rfl rfl rfl ?_
          refine TL_pass rfl rfl rfl rfl rfl rfl rfl ?_
          refine TL_pass rfl rfl rfl rfl rfl rfl rfl ?_
          refine TL_pass rfl rfl rfl rfl rfl rfl rfl ?_
          refine TL_pass rfl rfl rfl rfl rfl rfl rfl ?_
          refine TL_want rfl rfl ?_
          refine TL_pure rfl rfl rfl rfl (op_pick_false rfl rfl) ?_
          refine TL_pure rfl rfl rfl rfl (op_pick_false rfl rfl) ?_
          refine TL_nil ?_
          refine T_cond_false rfl ?_
          refine T_skip ?_
          refine T_keepH [0, 3] [] rfl rfl rfl rfl (by rw [hF]; rfl) ?_
          exact hj0 () hm
    · refine TL_split 16 rfl rfl rfl (fun hq => ?_) (fun hq => ?_)
      · refine TL_pass rfl rfl rfl rfl rfl rfl rfl ?_
        refine TL_pass rfl rfl rfl rfl rfl rfl rfl ?_
        refine TL_pure rfl rfl rfl rfl (op_pick_true rfl rfl) ?_
        refine TL_keepH [0, 3, 19] [] rfl rfl rfl rfl (by rw [hF]; rfl) ?_
        exact TL_cast _ (by first | (rw [hq, Bool.true_or]; done) | (rw [hq]; rfl)) (hjj () trivial)
      · refine TL_want rfl rfl ?_
        refine TL_pure rfl rfl rfl rfl (op_move rfl) ?_
        refine TL_want rfl rfl ?_
        refine TL_pure rfl rfl rfl rfl (op_gtr rfl rfl) ?_
        refine TL_pure rfl rfl rfl rfl (op_pick_false rfl rfl) ?_
        refine TL_keepH [0, 3, 19] [] rfl rfl rfl rfl (by rw [hF]; rfl) ?_
        exact TL_cast _ (by first | (rw [hq, Bool.false_or]; done) | (rw [hq]; rfl)) (hjj () trivial)
theorem c_spec_l03Term (p0 : Term) (out : Bool) (hm : m_spec_l03Term p0 = some out) : ACall Try.prog 123 [.cp [.int .i64 p0.Const, .sl 1 (List.map a_i64 p0.Coeffs)]] [] (.bool out) [] := by
  refine ACall.intro Try.func123 rfl Try.ntmps123 rfl (fun F hF => ?_)
  unfold m_spec_l03Term at hm
  refine T_seq ?_
  refine T_region ?_
  refine TL_pure rfl rfl rfl rfl (op_assign rfl) ?_
  refine TL_nil ?_
  refine T_seq ?_
  refine T_region ?_
  refine TL_pure rfl rfl rfl rfl (op_move rfl) ?_
  obtain ⟨r4, hr4, hm⟩ := bindS hm
  refine TL_callF (c_spec_l02Is p0 r4 hr4) Try.call136 rfl rfl rfl rfl rfl ?_
  refine TL_pure rfl rfl rfl rfl (op_move rfl) ?_
  refine TL_join 7 (fun _ : Unit => ⟨[(12, .bool (r4 && (decide ((p0.Coeffs.length : Int) ≤ (4 : Int)))))], []⟩) (fun _ => True) (fun _ _ => ?_) (fun hjj => ?_)
  · refine TL_pure rfl rfl rfl rfl (op_assign rfl) ?_
    refine TL_nil ?_
    refine T_keepH [2] [] rfl rfl rfl rfl (by rw [hF]; rfl) ?_
    refine T_ret ?_
    obtain rfl := someI hm
    refine ⟨[_], [], ⟨rfl, trivial⟩, ?_, rfl, rfl, rfl, rfl⟩
    rfl
  · refine TL_split 5 rfl rfl rfl (fun hq => ?_) (fun hq => ?_)
    · refine TL_want rfl rfl ?_
      refine TL_pure rfl rfl rfl rfl (op_move rfl) ?_
      refine TL_want rfl rfl ?_
      refine TL_pure rfl rfl rfl rfl (op_nilCheck rfl rfl) ?_
      refine TL_want rfl rfl ?_
      refine TL_pure rfl rfl rfl rfl (op_fieldAddr fa75_1 rfl rfl) ?_
      refine TL_want rfl rfl ?_
      refine TL_pure rfl rfl rfl rfl (op_load_one ag29 rfl rfl) ?_
      refine TL_want rfl rfl ?_
      refine TL_pure rfl rfl rfl rfl (op_lenT Try.underlying29 rfl (List.length_map _)) ?_
      refine TL_fact (fun _ _ _ hr => RelP.slLen (i := 9) rfl hr) (fun hlen10 => ?_)
      rw [List.length_map] at hlen10
      refine TL_want rfl rfl ?_
      refine TL_pure rfl rfl rfl rfl (op_leq rfl rfl) ?_
      refine TL_pure rfl rfl rfl rfl (op_pick_true rfl rfl) ?_
      refine TL_keepH [12] [] rfl rfl rfl rfl (by rw [hF]; rfl) ?_
      exact TL_cast _ (by first | (rw [hq, Bool.true_and]; done) | (rw [hq]; rfl)) (hjj () trivial)
    · refine TL_pass rfl rfl rfl rfl rfl rfl rfl ?_
      refine TL_pass rfl rfl rfl rfl rfl rfl rfl ?_
      refine TL_pass rfl rfl rfl rfl rfl rfl rfl ?_
      refine TL_pass rfl rfl rfl rfl rfl rfl rfl ?_
      refine TL_pass rfl rfl rfl rfl rfl rfl rfl ?_
      refine TL_pass rfl rfl rfl rfl rfl rfl rfl ?_
      refine TL_pure rfl rfl rfl rfl (op_pick_false rfl rfl) ?_
      refine TL_keepH [12] [] rfl rfl rfl rfl (by rw [hF]; rfl) ?_
      exact TL_cast _ (by first | (rw [hq, Bool.false_and]; done) | (rw [hq]; rfl)) (hjj () trivial)
theorem c_spec_l03Terms (p0 : List Term) (p1 : Int) (out : Bool) (hm : m_spec_l03Terms p0 p1 = some out) : ACall Try.prog 102 [.sl 2 (List.map a_Term p0), .int .i64 p1] [] (.bool out) [] := by
  refine ACall.intro Try.func102 rfl Try.ntmps102 rfl (fun F hF => ?_)
  unfold m_spec_l03Terms at hm
  refine T_seq ?_
  refine T_region ?_
  refine TL_pure rfl rfl rfl rfl (op_assign rfl) ?_
  refine TL_nil ?_
  refine T_seq ?_
  refine T_seq ?_
  refine T_region ?_
  refine TL_pure rfl rfl rfl rfl (op_assign rfl) ?_
  refine TL_nil ?_
  refine T_block ?_
  refine T_keepH [0, 1, 5] [] rfl rfl rfl rfl (by rw [hF]; rfl) ?_
  refine T_loop ?_
  obtain ⟨u0, hl0, hm⟩ := bindS hm
  refine TR_iter2 (m_spec_l03Terms_L0 p0) (fun (s0 : Int) => ⟨[(0, .sl 2 (List.map a_Term p0)), (1, .int .i64 p1), (5, .int .i64 s0)], []⟩) (fun u0 => match u0 with | .inl u0 => .exit 0 | .inr u0 => .ret) (fun u0 => match u0 with | .inl u0 => ⟨[(0, .sl 2 (List.map a_Term p0)), (1, .int .i64 p1)], []⟩ | .inr u0 => ⟨[(4, .bool u0)], []⟩) (fun u0 => m_spec_l03Terms_A0 p0 p1 u0 = some out) hl0 hm (fun u0 hm => ?_) (fun hx0 s0 c0 hm hc0 => ?_)
  · rcases u0 with u0 | u0
    · unfold m_spec_l03Terms_A0 at hm
      refine T_seq ?_
      refine T_region ?_
      refine TL_pure rfl rfl rfl rfl (op_move rfl) ?_
      refine TL_pure rfl rfl rfl rfl (op_lenT Try.underlying24 rfl (List.length_map _)) ?_
      refine TL_fact (fun _ _ _ hr => RelP.slLen (i := 17) rfl hr) (fun hlen18 => ?_)
      rw [List.length_map] at hlen18
      refine TL_pure rfl rfl rfl rfl (op_move rfl) ?_
      refine TL_pure rfl rfl rfl rfl (op_leq rfl rfl) ?_
      refine TL_pure rfl rfl rfl rfl (op_assign rfl) ?_
      refine TL_nil ?_
      refine T_keepH [4] [] rfl rfl rfl rfl (by rw [hF]; rfl) ?_
      refine T_ret ?_
      obtain rfl := someI hm
      refine ⟨[_], [], ⟨rfl, trivial⟩, ?_, rfl, rfl, rfl, rfl⟩
      rfl
    · unfold m_spec_l03Terms_A0 at hm
      obtain rfl := someI hm
      refine ⟨[_], [], ⟨rfl, trivial⟩, ?_, rfl, rfl, rfl, rfl⟩
      rfl
  · unfold m_spec_l03Terms_L0 at hm
    refine T_seq ?_
    refine T_seq ?_
    refine T_region ?_
    refine TL_pure rfl rfl rfl rfl (op_move rfl) ?_
    refine TL_pure rfl rfl rfl rfl (op_move rfl) ?_
    refine TL_pure rfl rfl rfl rfl (op_lenT Try.underlying24 rfl (List.length_map _)) ?_
    refine TL_fact (fun _ _ _ hr => RelP.slLen (i := 7) rfl hr) (fun hlen8 => ?_)
    rw [List.length_map] at hlen8
    refine TL_pure rfl rfl rfl rfl (op_lss rfl rfl) ?_
    refine TL_nil ?_
    refine T_cond rfl (fun hq => ?_) (fun hq => ?_)
    · replace hm := condT hq hm
      refine T_skip ?_
      refine T_seq ?_
      refine T_block ?_
      refine T_seq ?_
      refine T_region ?_
      refine TL_pure rfl rfl rfl rfl (op_move rfl) ?_
      refine TL_pure rfl rfl rfl rfl (op_move rfl) ?_
      obtain ⟨x14, hx14, hm⟩ := bindS hm
      refine TL_pure rfl rfl rfl rfl (op_indexT el24 rfl rfl hx14 rfl) ?_
      obtain ⟨r15, hr15, hm⟩ := bindS hm
      refine TL_callF (c_spec_l03Term x14 r15 hr15) Try.call123 rfl rfl rfl rfl rfl ?_
      refine TL_pure rfl rfl rfl rfl (op_not rfl) ?_
      refine TL_nil ?_
      refine T_cond rfl (fun hq => ?_) (fun hq => ?_)
      · replace hm := condT hq hm
        refine T_seq ?_
        refine T_region ?_
        refine TL_pure rfl rfl rfl rfl (op_assign rfl) ?_
        refine TL_nil ?_
        refine T_keepH [4] [] rfl rfl rfl rfl (by rw [hF]; rfl) ?_
        refine T_ret ?_
        obtain rfl := someI hm
        have hn := CtlOK_out hc0
        exact hx0 (.inr false) hn
      · replace hm := condF hq hm
        refine T_skip ?_
        refine T_region ?_
        refine TL_pure rfl rfl rfl rfl (op_move rfl) ?_
        refine TL_pure rfl rfl rfl rfl (op_addW rfl rfl) ?_
        refine TL_pure rfl rfl rfl rfl (op_assign rfl) ?_
        refine TL_nil ?_
        refine TR_keepH [0, 1, 5] [] rfl rfl rfl rfl (by rw [hF]; rfl) ?_
        obtain rfl := someI hm
        have hn := CtlOK_next hc0
        exact hn _ rfl
    · replace hm := condF hq hm
      refine T_keepH [0, 1] [] rfl rfl rfl rfl (by rw [hF]; rfl) ?_
      refine T_exit ?_
      obtain rfl := someI hm
      have hn := CtlOK_out hc0
      exact hx0 (.inl ()) hn
theorem c_spec_l05Zero (p0 : Term) (out : Bool) (hm : m_spec_l05Zero p0 = some out) : ACall Try.prog 124 [.cp [.int .i64 p0.Const, .sl 1 (List.map a_i64 p0.Coeffs)]] [] (.bool out) [] := by
  refine ACall.intro Try.func124 rfl Try.ntmps124 rfl (fun F hF => ?_)
  unfold m_spec_l05Zero at hm
  refine T_seq ?_
  refine T_region ?_
  refine TL_pure rfl rfl rfl rfl (op_assign rfl) ?_
  refine TL_nil ?_
  refine T_seq ?_
  refine T_region ?_
  refine TL_pure rfl rfl rfl rfl (op_move rfl) ?_
  refine TL_pure rfl rfl rfl rfl (op_nilCheck rfl rfl) ?_
  refine TL_pure rfl rfl rfl rfl (op_fieldAddrC (n := 1) fa75_0 rfl rfl rfl) ?_
  refine TL_pure rfl rfl rfl rfl (op_load_one ag2 rfl rfl) ?_
  refine TL_pure rfl rfl rfl rfl (op_eql rfl rfl) ?_
  refine TL_pure rfl rfl rfl rfl (op_move rfl) ?_
  refine TL_join 7 (fun _ : Unit => ⟨[(15, .bool ((decide (p0.Const = (0 : Int))) && (decide ((p0.Coeffs.length : Int) = (0 : Int)))))], []⟩) (fun _ => True) (fun _ _ => ?_) (fun hjj => ?_)
  · refine TL_pure rfl rfl rfl rfl (op_assign rfl) ?_
    refine TL_nil ?_
    refine T_keepH [2] [] rfl rfl rfl rfl (by rw [hF]; rfl) ?_
    refine T_ret ?_
    obtain rfl := someI hm
    refine ⟨[_], [], ⟨rfl, trivial⟩, ?_, rfl, rfl, rfl, rfl⟩
    rfl
  · refine TL_split 8 rfl rfl rfl (fun hq => ?_) (fun hq => ?_)
    · refine TL_want rfl rfl ?_
      refine TL_pure rfl rfl rfl rfl (op_move rfl) ?_
      refine TL_want rfl rfl ?_
      refine TL_pure rfl rfl rfl rfl (op_nilCheck rfl rfl) ?_
      refine TL_want rfl rfl ?_
      refine TL_pure rfl rfl rfl rfl (op_fieldAddr fa75_1 rfl rfl) ?_
      refine TL_want rfl rfl ?_
      refine TL_pure rfl rfl rfl rfl (op_load_one ag29 rfl rfl) ?_
      refine TL_want rfl rfl ?_
      refine TL_pure rfl rfl rfl rfl (op_lenT Try.underlying29 rfl (List.length_map _)) ?_
      refine TL_fact (fun _ _ _ hr => RelP.slLen (i := 12) rfl hr) (fun hlen13 => ?_)
      rw [List.length_map] at hlen13
      refine TL_want rfl rfl ?_
      refine TL_pure rfl rfl rfl rfl (op_eql rfl rfl) ?_
      refine TL_pure rfl rfl rfl rfl (op_pick_true rfl rfl) ?_
      refine TL_keepH [15] [] rfl rfl rfl rfl (by rw [hF]; rfl) ?_
      exact TL_cast _ (by first | (rw [hq, Bool.true_and]; done) | (rw [hq]; rfl)) (hjj () trivial)
    · refine TL_pass rfl rfl rfl rfl rfl rfl rfl ?_
      refine TL_pass rfl rfl rfl rfl rfl rfl rfl ?_
      refine TL_pass rfl rfl rfl rfl rfl rfl rfl ?_
      refine TL_pass rfl rfl rfl rfl rfl rfl rfl ?_
      refine TL_pass rfl rfl rfl rfl rfl rfl rfl ?_
      refine TL_pass rfl rfl rfl rfl rfl rfl rfl ?_
      refine TL_pure rfl rfl rfl rfl (op_pick_false rfl rfl) ?_
      refine TL_keepH [15] [] rfl rfl rfl rfl (by rw [hF]; rfl) ?_
      exact TL_cast _ (by first | (rw [hq, Bool.false_and]; done) | (rw [hq]; rfl)) (hjj () trivial)
theorem c_spec_l03Stmt (p0 : Stmt) (out : Bool) (hm : m_spec_l03Stmt p0 = some out) : ACall Try.prog 93 [.cp [.int .i64 p0.Kind, .int .i64 p0.Var, .int .i64 p0.Event, .int .i64 p0.Sum.Const, .sl 1 (List.map a_i64 p0.Sum.Coeffs), .int .i64 p0.Index.Const, .sl 1 (List.map a_i64 p0.Index.Coeffs), .sl 2 (List.map a_Term p0.Facts)]] [] (.bool out) [] := by
  refine ACall.intro Try.func93 rfl Try.ntmps93 rfl (fun F hF => ?_)
  unfold m_spec_l03Stmt at hm
  refine T_seq ?_
  refine T_region ?_
  refine TL_pure rfl rfl rfl rfl (op_assign rfl) ?_
  refine TL_nil ?_
  refine T_seq ?_
  refine T_region ?_
  refine TL_pure rfl rfl rfl rfl (op_move rfl) ?_
  refine TL_pure rfl rfl rfl rfl (op_nilCheck rfl rfl) ?_
  refine TL_pure rfl rfl rfl rfl (op_fieldAddrC (n := 1) fa77_0 rfl rfl rfl) ?_
  refine TL_pure rfl rfl rfl rfl (op_load_one ag2 rfl rfl) ?_
  refine TL_pure rfl rfl rfl rfl (op_eql rfl rfl) ?_
  refine TL_pure rfl rfl rfl rfl (op_move rfl) ?_
  refine TL_join 6 (fun _ : Unit => ⟨[(0, .cp [.int .i64 p0.Kind, .int .i64 p0.Var, .int .i64 p0.Event, .int .i64 p0.Sum.Const, .sl 1 (List.map a_i64 p0.Sum.Coeffs), .int .i64 p0.Index.Const, .sl 1 (List.map a_i64 p0.Index.Coeffs), .sl 2 (List.map a_Term p0.Facts)]), (17, .bool ((decide (p0.Kind = (2 : Int))) || (decide (p0.Kind = (4 : Int)))))], []⟩) (fun _ => True) (fun _ _ => ?_) (fun hjj => ?_)
  · refine TL_pure rfl rfl rfl rfl (op_move rfl) ?_
    refine TL_join 6 (fun _ : Unit => ⟨[(0, .cp [.int .i64 p0.Kind, .int .i64 p0.Var, .int .i64 p0.Event, .int .i64 p0.Sum.Const, .sl 1 (List.map a_i64 p0.Sum.Coeffs), .int .i64 p0.Index.Const, .sl 1 (List.map a_i64 p0.Index.Coeffs), .sl 2 (List.map a_Term p0.Facts)]), (24, .bool (((decide (p0.Kind = (2 : Int))) || (decide (p0.Kind = (4 : Int)))) || (decide (p0.Kind = (6 : Int)))))], []⟩) (fun _ => True) (fun _ _ => ?_) (fun hjj => ?_)
    · refine TL_pure rfl rfl rfl rfl (op_move rfl) ?_
      refine TL_join 6 (fun _ : Unit => ⟨[(0, .cp [.int .i64 p0.Kind, .int .i64 p0.Var, .int .i64 p0.Event, .int .i64 p0.Sum.Const, .sl 1 (List.map a_i64 p0.Sum.Coeffs), .int .i64 p0.Index.Const, .sl 1 (List.map a_i64 p0.Index.Coeffs), .sl 2 (List.map a_Term p0.Facts)]), (31, .bool ((((decide (p0.Kind = (2 : Int))) || (decide (p0.Kind = (4 : Int)))) || (decide (p0.Kind = (6 : Int)))) || (decide (p0.Kind = (7 : Int)))))], []⟩) (fun _ => True) (fun _ _ => ?_) (fun hjj => ?_)
      · refine TL_pure rfl rfl rfl rfl (op_move rfl) ?_
        refine TL_join 6 (fun _ : Unit => ⟨[(0, .cp [.int .i64 p0.Kind, .int .i64 p0.Var, .int .i64 p0.Event, .int .i64 p0.Sum.Const, .sl 1 (List.map a_i64 p0.Sum.Coeffs), .int .i64 p0.Index.Const, .sl 1 (List.map a_i64 p0.Index.Coeffs), .sl 2 (List.map a_Term p0.Facts)]), (38, .bool (((((decide (p0.Kind = (2 : Int))) || (decide (p0.Kind = (4 : Int)))) || (decide (p0.Kind = (6 : Int)))) || (decide (p0.Kind = (7 : Int)))) || (decide (p0.Kind = (8 : Int)))))], []⟩) (fun _ => True) (fun _ _ => ?_) (fun hjj => ?_)
        · refine TL_pure rfl rfl rfl rfl (op_assign rfl) ?_
          refine TL_nil ?_
          refine T_seq ?_
          refine T_region ?_
          refine TL_pure rfl rfl rfl rfl (op_move rfl) ?_
          refine TL_pure rfl rfl rfl rfl (op_nilCheck rfl rfl) ?_
          refine TL_pure rfl rfl rfl rfl (op_fieldAddrC (n := 1) fa77_0 rfl rfl rfl) ?_
          refine TL_pure rfl rfl rfl rfl (op_load_one ag2 rfl rfl) ?_
          refine TL_pure rfl rfl rfl rfl (op_eql rfl rfl) ?_
          refine TL_pure rfl rfl rfl rfl (op_move rfl) ?_
          refine TL_join 6 (fun _ : Unit => ⟨[(0, .cp [.int .i64 p0.Kind, .int .i64 p0.Var, .int .i64 p0.Event, .int .i64 p0.Sum.Const, .sl 1 (List.map a_i64 p0.Sum.Coeffs), .int .i64 p0.Index.Const, .sl 1 (List.map a_i64 p0.Index.Coeffs), .sl 2 (List.map a_Term p0.Facts)]), (3, .bool (((((decide (p0.Kind = (2 : Int))) || (decide (p0.Kind = (4 : Int)))) || (decide (p0.Kind = (6 : Int)))) || (decide (p0.Kind = (7 : Int)))) || (decide (p0.Kind = (8 : Int))))), (50, .bool ((decide (p0.Kind = (3 : Int))) || (decide (p0.Kind = (4 : Int)))))], []⟩) (fun _ => True) (fun _ _ => ?_) (fun hjj => ?_)
          · refine TL_pure rfl rfl rfl rfl (op_assign rfl) ?_
            refine TL_nil ?_
            refine T_seq ?_
            refine T_region ?_
            refine TL_pure rfl rfl rfl rfl (op_move rfl) ?_
            refine TL_pure rfl rfl rfl rfl (op_nilCheck rfl rfl) ?_
            refine TL_pure rfl rfl rfl rfl (op_fieldAddrC (n := 1) fa77_0 rfl rfl rfl) ?_
            refine TL_pure rfl rfl rfl rfl (op_load_one ag2 rfl rfl) ?_
            refine TL_pure rfl rfl rfl rfl (op_eql rfl rfl) ?_
            refine TL_pure rfl rfl rfl rfl (op_move rfl) ?_
            refine TL_join 6 (fun _ : Unit => ⟨[(0, .cp [.int .i64 p0.Kind, .int .i64 p0.Var, .int .i64 p0.Event, .int .i64 p0.Sum.Const, .sl 1 (List.map a_i64 p0.Sum.Coeffs), .int .i64 p0.Index.Const, .sl 1 (List.map a_i64 p0.Index.Coeffs), .sl 2 (List.map a_Term p0.Facts)]), (3, .bool (((((decide (p0.Kind = (2 : Int))) || (decide (p0.Kind = (4 : Int)))) || (decide (p0.Kind = (6 : Int)))) || (decide (p0.Kind = (7 : Int)))) || (decide (p0.Kind = (8 : Int))))), (4, .bool ((decide (p0.Kind = (3 : Int))) || (decide (p0.Kind = (4 : Int))))), (62, .bool ((decide (p0.Kind = (2 : Int))) || (decide (p0.Kind = (3 : Int)))))], []⟩) (fun _ => True) (fun _ _ => ?_) (fun hjj => ?_)
            · refine TL_pure rfl rfl rfl rfl (op_assign rfl) ?_
              refine TL_nil ?_
              refine T_seq ?_
              refine T_seq ?_
              refine T_region ?_
              refine TL_pure rfl rfl rfl rfl (op_move rfl) ?_
              refine TL_pure rfl rfl rfl rfl (op_nilCheck rfl rfl) ?_
              refine TL_pure rfl rfl rfl rfl (op_fieldAddrC (n := 1) fa77_0 rfl rfl rfl) ?_
              refine TL_pure rfl rfl rfl rfl (op_load_one ag2 rfl rfl) ?_
              obtain ⟨r67, hr67, hm⟩ := bindS hm
              refine TL_callF (c_spec_l00In p0.Kind (0 : Int) (8 : Int) r67 hr67) Try.call92 rfl rfl rfl rfl rfl ?_
              refine TL_pure rfl rfl rfl rfl (op_not rfl) ?_
              refine TL_pure rfl rfl rfl rfl (op_move rfl) ?_
              refine TL_split 69 rfl rfl rfl (fun hq => ?_) (fun hq => ?_)
              · replace hm := condT hq hm
                refine TL_pass rfl rfl rfl rfl rfl rfl rfl ?_
                refine TL_pass rfl rfl rfl rfl rfl rfl rfl ?_
                refine TL_pass rfl rfl rfl rfl rfl rfl rfl ?_
                refine TL_pass rfl rfl rfl rfl rfl rfl rfl ?_
                refine TL_pass rfl rfl rfl rfl rfl rfl rfl ?_
                refine TL_pure rfl rfl rfl rfl (op_pick_true rfl rfl) ?_
                refine TL_pure rfl rfl rfl rfl (op_move rfl) ?_
                refine TL_pass rfl rfl rfl rfl rfl rfl rfl ?_
                refine TL_pass rfl rfl rfl rfl rfl rfl rfl ?_
                refine TL_pass rfl rfl rfl rfl rfl rfl rfl ?_
                refine TL_pass rfl rfl rfl rfl rfl rfl rfl ?_
                refine TL_pass rfl rfl rfl rfl rfl rfl rfl ?_
                refine TL_pure rfl rfl rfl rfl (op_pick_true rfl rfl) ?_
                refine TL_pure rfl rfl rfl rfl (op_move rfl) ?_
                refine TL_pass rfl rfl rfl rfl rfl rfl rfl ?_
                refine TL_pass rfl rfl rfl rfl rfl rfl rfl ?_
                refine TL_pass rfl rfl rfl rfl rfl rfl rfl ?_
                refine TL_pass rfl rfl rfl rfl rfl rfl rfl ?_
                refine TL_pass rfl rfl rfl rfl rfl rfl rfl ?_
                refine TL_pass rfl rfl rfl rfl rfl rfl rfl ?_
                refine TL_pure rfl rfl rfl rfl (op_pick_true rfl rfl) ?_
                refine TL_nil ?_
                refine T_cond_true rfl ?_
                refine T_seq ?_
                refine T_region ?_
                refine TL_pure rfl rfl rfl rfl (op_assign rfl) ?_
                refine TL_nil ?_
                refine T_keepH [2] [] rfl rfl rfl rfl (by rw [hF]; rfl) ?_
                refine T_ret ?_
                obtain rfl := someI hm
                refine ⟨[_], [], ⟨rfl, trivial⟩, ?_, rfl, rfl, rfl, rfl⟩
                rfl
              · replace hm := condF hq hm
                refine TL_want rfl rfl ?_
                refine TL_pure rfl rfl rfl rfl (op_move rfl) ?_
                refine TL_want rfl rfl ?_
                refine TL_pure rfl rfl rfl rfl (op_nilCheck rfl rfl) ?_
                refine TL_want rfl rfl ?_
                refine TL_pure rfl rfl rfl rfl (op_fieldAddrC (n := 2) fa77_3 rfl rfl rfl) ?_
                refine TL_want rfl rfl ?_
                obtain ⟨r73, hr73, hm⟩ := bindS hm
                refine TL_callF (c_spec_l03Term p0.Sum r73 hr73) Try.call123 rfl rfl rfl rfl rfl ?_
                refine TL_want rfl rfl ?_
                refine TL_pure rfl rfl rfl rfl (op_not rfl) ?_
                refine TL_pure rfl rfl rfl rfl (op_pick_false rfl rfl) ?_
                refine TL_pure rfl rfl rfl rfl (op_move rfl) ?_
                refine TL_split 76 rfl rfl rfl (fun hq => ?_) (fun hq => ?_)
                · replace hm := condT hq hm
                  refine TL_pass rfl rfl rfl rfl rfl rfl rfl ?_
                  refine TL_pass rfl rfl rfl rfl rfl rfl rfl ?_
                  refine TL_pass rfl rfl rfl rfl rfl rfl rfl ?_
                  refine TL_pass rfl rfl rfl rfl rfl rfl rfl ?_
                  refine TL_pass rfl rfl rfl rfl rfl rfl rfl ?_
                  refine TL_pure rfl rfl rfl rfl (op_pick_true rfl rfl) ?_
                  refine TL_pure rfl rfl rfl rfl (op_move rfl) ?_
                  refine TL_pass rfl rfl rfl rfl rfl rfl rfl ?_
                  refine TL_pass rfl rfl rfl rfl rfl rfl rfl ?_
                  refine TL_pass rfl rfl rfl rfl rfl rfl rfl ?_
                  refine TL_pass rfl rfl rfl rfl rfl rfl rfl ?_
                  refine TL_pass rfl rfl rfl rfl rfl rfl rfl ?_
                  refine TL_pass rfl rfl rfl rfl rfl rfl rfl ?_
                  refine TL_pure rfl rfl rfl rfl (op_pick_true rfl rfl) ?_
                  refine TL_nil ?_
                  refine T_cond_true rfl ?_
                  refine T_seq ?_
                  refine T_region ?_
                  refine TL_pure rfl rfl rfl rfl (op_assign rfl) ?_
                  refine TL_nil ?_
                  refine T_keepH [2] [] rfl rfl rfl rfl (by rw [hF]; rfl) ?_
                  refine T_ret ?_
                  obtain rfl := someI hm
                  refine ⟨[_], [], ⟨rfl, trivial⟩, ?_, rfl, rfl, rfl, rfl⟩
                  rfl
                · replace hm := condF hq hm
                  refine TL_want rfl rfl ?_
                  refine TL_pure rfl rfl rfl rfl (op_move rfl) ?_
                  refine TL_want rfl rfl ?_
                  refine TL_pure rfl rfl rfl rfl (op_nilCheck rfl rfl) ?_
                  refine TL_want rfl rfl ?_
                  refine TL_pure rfl rfl rfl rfl (op_fieldAddrC (n := 2) fa77_4 rfl rfl rfl) ?_
                  refine TL_want rfl rfl ?_
                  obtain ⟨r80, hr80, hm⟩ := bindS hm
                  refine TL_callF (c_spec_l03Term p0.Index r80 hr80) Try.call123 rfl rfl rfl rfl rfl ?_
                  refine TL_want rfl rfl ?_
                  refine TL_pure rfl rfl rfl rfl (op_not rfl) ?_
                  refine TL_pure rfl rfl rfl rfl (op_pick_false rfl rfl) ?_
                  refine TL_pure rfl rfl rfl rfl (op_move rfl) ?_
                  refine TL_split 83 rfl rfl rfl (fun hq => ?_) (fun hq => ?_)
                  · replace hm := condT hq hm
                    refine TL_pass rfl rfl rfl rfl rfl rfl rfl ?_
                    refine TL_pass rfl rfl rfl rfl rfl rfl rfl ?_
                    refine TL_pass rfl rfl rfl rfl rfl rfl rfl ?_
                    refine TL_pass rfl rfl rfl rfl rfl rfl rfl ?_
                    refine TL_pass rfl rfl rfl rfl rfl rfl rfl ?_
                    refine TL_pass rfl rfl rfl rfl rfl rfl rfl ?_
                    refine TL_pure rfl rfl rfl rfl (op_pick_true rfl rfl) ?_
                    refine TL_nil ?_
                    refine T_cond_true rfl ?_
                    refine T_seq ?_
                    refine T_region ?_
                    refine TL_pure rfl rfl rfl rfl (op_assign rfl) ?_
                    refine TL_nil ?_
                    refine T_keepH [2] [] rfl rfl rfl rfl (by rw [hF]; rfl) ?_
                    refine T_ret ?_
                    obtain rfl := someI hm
                    refine ⟨[_], [], ⟨rfl, trivial⟩, ?_, rfl, rfl, rfl, rfl⟩
                    rfl
                  · replace hm := condF hq hm
                    refine TL_want rfl rfl ?_
                    refine TL_pure rfl rfl rfl rfl (op_move rfl) ?_
                    refine TL_want rfl rfl ?_
                    refine TL_pure rfl rfl rfl rfl (op_nilCheck rfl rfl) ?_
                    refine TL_want rfl rfl ?_
                    refine TL_pure rfl rfl rfl rfl (op_fieldAddr fa77_5 rfl rfl) ?_
                    refine TL_want rfl rfl ?_
                    refine TL_pure rfl rfl rfl rfl (op_load_one ag24 rfl rfl) ?_
                    refine TL_want rfl rfl ?_
                    obtain ⟨r88, hr88, hm⟩ := bindS hm
                    refine TL_callF (c_spec_l03Terms p0.Facts (6 : Int) r88 hr88) Try.call102 rfl rfl rfl rfl rfl ?_
                    refine TL_want rfl rfl ?_
                    refine TL_pure rfl rfl rfl rfl (op_not rfl) ?_
                    refine TL_pure rfl rfl rfl rfl (op_pick_false rfl rfl) ?_
                    refine TL_nil ?_
                    refine T_cond rfl (fun hq => ?_) (fun hq => ?_)
                    · replace hm := condT hq hm
                      refine T_seq ?_
                      refine T_region ?_
                      refine TL_pure rfl rfl rfl rfl (op_assign rfl) ?_
                      refine TL_nil ?_
                      refine T_keepH [2] [] rfl rfl rfl rfl (by rw [hF]; rfl) ?_
                      refine T_ret ?_
                      obtain rfl := someI hm
                      refine ⟨[_], [], ⟨rfl, trivial⟩, ?_, rfl, rfl, rfl, rfl⟩
                      rfl
                    · replace hm := condF hq hm
                      refine T_skip ?_
                      refine T_join (fun (j0 : Unit) => ⟨[(0, .cp [.int .i64 p0.Kind, .int .i64 p0.Var, .int .i64 p0.Event, .int .i64 p0.Sum.Const, .sl 1 (List.map a_i64 p0.Sum.Coeffs), .int .i64 p0.Index.Const, .sl 1 (List.map a_i64 p0.Index.Coeffs), .sl 2 (List.map a_Term p0.Facts)]), (5, .bool ((decide (p0.Kind = (2 : Int))) || (decide (p0.Kind = (3 : Int)))))], []⟩) (fun j0 => m_spec_l03Stmt_J0 p0 j0 = some out) (fun j0 hm => ?_) (fun hj0 => ?_)
                      · unfold m_spec_l03Stmt_J0 at hm
                        refine T_join (fun (j1 : Unit) => ⟨[(0, .cp [.int .i64 p0.Kind, .int .i64 p0.Var, .int .i64 p0.Event, .int .i64 p0.Sum.Const, .sl 1 (List.map a_i64 p0.Sum.Coeffs), .int .i64 p0.Index.Const, .sl 1 (List.map a_i64 p0.Index.Coeffs), .sl 2 (List.map a_Term p0.Facts)])], []⟩) (fun j1 => m_spec_l03Stmt_J1 p0 j1 = some out) (fun j1 hm => ?_) (fun hj1 => ?_)
                        · unfold m_spec_l03Stmt_J1 at hm
                          refine T_seq ?_
                          refine T_seq ?_
                          refine T_region ?_
                          refine TL_pure rfl rfl rfl rfl (op_move rfl) ?_
                          refine TL_pure rfl rfl rfl rfl (op_nilCheck rfl rfl) ?_
                          refine TL_pure rfl rfl rfl rfl (op_fieldAddrC (n := 1) fa77_0 rfl rfl rfl) ?_
                          refine TL_pure rfl rfl rfl rfl (op_load_one ag2 rfl rfl) ?_
                          refine TL_pure rfl rfl rfl rfl (op_eql rfl rfl) ?_
                          refine TL_nil ?_
                          refine T_cond rfl (fun hq => ?_) (fun hq => ?_)
                          · replace hm := condT hq hm
                            refine T_seq ?_
                            refine T_region ?_
                            refine TL_pure rfl rfl rfl rfl (op_move rfl) ?_
                            refine TL_pure rfl rfl rfl rfl (op_nilCheck rfl rfl) ?_
                            refine TL_pure rfl rfl rfl rfl (op_fieldAddrC (n := 1) fa77_2 rfl rfl rfl) ?_
                            refine TL_pure rfl rfl rfl rfl (op_load_one ag2 rfl rfl) ?_
                            obtain ⟨r155, hr155, hm⟩ := bindS hm
                            refine TL_callF (c_spec_l00In p0.Event (0 : Int) (3 : Int) r155 hr155) Try.call92 rfl rfl rfl rfl rfl ?_
                            refine TL_pure rfl rfl rfl rfl (op_assign rfl) ?_
                            refine TL_nil ?_
                            refine T_keepH [2] [] rfl rfl rfl rfl (by rw [hF]; rfl) ?_
                            refine T_ret ?_
                            obtain rfl := someI hm
                            refine ⟨[_], [], ⟨rfl, trivial⟩, ?_, rfl, rfl, rfl, rfl⟩
                            rfl
                          · replace hm := condF hq hm
                            refine T_skip ?_
                            refine T_seq ?_
                            refine T_region ?_
                            refine TL_pure rfl rfl rfl rfl (op_move rfl) ?_
                            refine TL_pure rfl rfl rfl rfl (op_nilCheck rfl rfl) ?_
                            refine TL_pure rfl rfl rfl rfl (op_fieldAddrC (n := 1) fa77_2 rfl rfl rfl) ?_
                            refine TL_pure rfl rfl rfl rfl (op_load_one ag2 rfl rfl) ?_
                            refine TL_pure rfl rfl rfl rfl (op_eql rfl rfl) ?_
                            refine TL_pure rfl rfl rfl rfl (op_assign rfl) ?_
                            refine TL_nil ?_
                            refine T_keepH [2] [] rfl rfl rfl rfl (by rw [hF]; rfl) ?_
                            refine T_ret ?_
                            obtain rfl := someI hm
                            refine ⟨[_], [], ⟨rfl, trivial⟩, ?_, rfl, rfl, rfl, rfl⟩
                            rfl
                        · refine T_seq ?_
                          refine T_region ?_
                          refine TL_pure rfl rfl rfl rfl (op_move rfl) ?_
                          refine TL_pure rfl rfl rfl rfl (op_move rfl) ?_
                          refine TL_split 127 rfl rfl rfl (fun hq => ?_) (fun hq => ?_)
                          · replace hm := condT hq hm
                            refine TL_want rfl rfl ?_
                            refine TL_pure rfl rfl rfl rfl (op_move rfl) ?_
                            refine TL_want rfl rfl ?_
                            refine TL_pure rfl rfl rfl rfl (op_nilCheck rfl rfl) ?_
                            refine TL_want rfl rfl ?_
                            refine TL_pure rfl rfl rfl rfl (op_fieldAddrC (n := 1) fa77_1 rfl rfl rfl) ?_
                            refine TL_want rfl rfl ?_
                            refine TL_pure rfl rfl rfl rfl (op_load_one ag2 rfl rfl) ?_
                            refine TL_want rfl rfl ?_
                            obtain ⟨r132, hr132, hm⟩ := bindS hm
                            refine TL_callF (c_spec_l00In p0.Var (0 : Int) (3 : Int) r132 hr132) Try.call92 rfl rfl rfl rfl rfl ?_
                            refine TL_want rfl rfl ?_
                            refine TL_pure rfl rfl rfl rfl (op_not rfl) ?_
                            refine TL_pure rfl rfl rfl rfl (op_pick_true rfl rfl) ?_
                            refine TL_pure rfl rfl rfl rfl (op_move rfl) ?_
                            refine TL_split 135 rfl rfl rfl (fun hq => ?_) (fun hq => ?_)
                            · replace hm := condT hq hm
                              refine TL_pass rfl rfl rfl rfl rfl rfl rfl ?_
                              refine TL_pass rfl rfl rfl rfl rfl rfl rfl ?_
                              refine TL_pass rfl rfl rfl rfl rfl rfl rfl ?_
                              refine TL_pass2 rfl rfl rfl rfl rfl rfl ?_
                              refine TL_pass2 rfl rfl rfl rfl rfl rfl ?_
                              refine TL_pass2 rfl rfl rfl rfl rfl rfl ?_
                              refine TL_pass2 rfl rfl rfl rfl rfl rfl ?_
                              refine TL_pass2 rfl rfl rfl rfl rfl rfl ?_
                              refine TL_pass rfl rfl rfl rfl rfl rfl rfl ?_
                              refine TL_pure rfl rfl rfl rfl (op_pick_true rfl rfl) ?_
                              refine TL_nil ?_
                              refine T_cond_true rfl ?_
                              refine T_seq ?_
                              refine T_region ?_
                              refine TL_pure rfl rfl rfl rfl (op_assign rfl) ?_
                              refine TL_nil ?_
                              refine T_keepH [2] [] rfl rfl rfl rfl (by rw [hF]; rfl) ?_
                              refine T_ret ?_
                              obtain rfl := someI hm
                              refine ⟨[_], [], ⟨rfl, trivial⟩, ?_, rfl, rfl, rfl, rfl⟩
                              rfl
                            · replace hm := condF hq hm
                              refine TL_want rfl rfl ?_
                              refine TL_pure rfl rfl rfl rfl (op_move rfl) ?_
                              refine TL_want rfl rfl ?_
                              refine TL_pure rfl rfl rfl rfl (op_not rfl) ?_
                              refine TL_want rfl rfl ?_
                              refine TL_pure rfl rfl rfl rfl (op_move rfl) ?_
                              refine TL_split 138 rfl rfl rfl (fun hq => ?_) (fun hq => ?_)
                              · replace hm := condT hq hm
                                refine TL_want rfl rfl ?_
                                refine TL_pure rfl rfl rfl rfl (op_move rfl) ?_
                                refine TL_want rfl rfl ?_
                                refine TL_pure rfl rfl rfl rfl (op_nilCheck rfl rfl) ?_
                                refine TL_want rfl rfl ?_
                                refine TL_pure rfl rfl rfl rfl (op_fieldAddrC (n := 1) fa77_1 rfl rfl rfl) ?_
                                refine TL_want rfl rfl ?_
                                refine TL_pure rfl rfl rfl rfl (op_load_one ag2 rfl rfl) ?_
                                refine TL_want rfl rfl ?_
                                refine TL_pure rfl rfl rfl rfl (op_neq rfl rfl) ?_
                                refine TL_want rfl rfl ?_
                                refine TL_pure rfl rfl rfl rfl (op_pick_true rfl rfl) ?_
                                refine TL_pure rfl rfl rfl rfl (op_pick_false rfl rfl) ?_
                                refine TL_nil ?_
                                refine T_cond rfl (fun hq => ?_) (fun hq => ?_)
                                · replace hm := condT hq hm
                                  refine T_seq ?_
                                  refine T_region ?_
                                  refine TL_pure rfl rfl rfl rfl (op_assign rfl) ?_
                                  refine TL_nil ?_
                                  refine T_keepH [2] [] rfl rfl rfl rfl (by rw [hF]; rfl) ?_
                                  refine T_ret ?_
                                  obtain rfl := someI hm
                                  refine ⟨[_], [], ⟨rfl, trivial⟩, ?_, rfl, rfl, rfl, rfl⟩
                                  rfl
                                · replace hm := condF hq hm
                                  refine T_skip ?_
                                  refine T_keepH [0] [] rfl rfl rfl rfl (by rw [hF]; rfl) ?_
                                  exact hj1 () hm
                              · replace hm := condF hq hm
                                refine TL_pass rfl rfl rfl rfl rfl rfl rfl ?_
                                refine TL_pass rfl rfl rfl rfl rfl rfl rfl ?_
                                refine TL_pass rfl rfl rfl rfl rfl rfl rfl ?_
                                refine TL_pass rfl rfl rfl rfl rfl rfl rfl ?_
                                refine TL_pass rfl rfl rfl rfl rfl rfl rfl ?_
                                refine TL_want rfl rfl ?_
                                refine TL_pure rfl rfl rfl rfl (op_pick_false rfl rfl) ?_
                                refine TL_pure rfl rfl rfl rfl (op_pick_false rfl rfl) ?_
                                refine TL_nil ?_
                                refine T_cond_false rfl ?_
                                refine T_skip ?_
                                refine T_keepH [0] [] rfl rfl rfl rfl (by rw [hF]; rfl) ?_
                                exact hj1 () hm
                          · replace hm := condF hq hm
                            refine TL_pass rfl rfl rfl rfl rfl rfl rfl ?_
                            refine TL_pass rfl rfl rfl rfl rfl rfl rfl ?_
                            refine TL_pass rfl rfl rfl rfl rfl rfl rfl ?_
                            refine TL_pass rfl rfl rfl rfl rfl rfl rfl ?_
                            refine TL_pass rfl rfl rfl rfl rfl rfl rfl ?_
                            refine TL_pass rfl rfl rfl rfl rfl rfl rfl ?_
                            refine TL_pure rfl rfl rfl rfl (op_pick_false rfl rfl) ?_
                            refine TL_pure rfl rfl rfl rfl (op_move rfl) ?_
                            refine TL_want rfl rfl ?_
                            refine TL_pure rfl rfl rfl rfl (op_move rfl) ?_
                            refine TL_want rfl rfl ?_
                            refine TL_pure rfl rfl rfl rfl (op_not rfl) ?_
                            refine TL_want rfl rfl ?_
                            refine TL_pure rfl rfl rfl rfl (op_move rfl) ?_
                            refine TL_split 138 rfl rfl rfl (fun hq => ?_) (fun hq => ?_)
                            · replace hm := condT hq hm
                              refine TL_want rfl rfl ?_
                              refine TL_pure rfl rfl rfl rfl (op_move rfl) ?_
                              refine TL_want rfl rfl ?_
                              refine TL_pure rfl rfl rfl rfl (op_nilCheck rfl rfl) ?_
                              refine TL_want rfl rfl ?_
                              refine TL_pure rfl rfl rfl rfl (op_fieldAddrC (n := 1) fa77_1 rfl rfl rfl) ?_
                              refine TL_want rfl rfl ?_
                              refine TL_pure rfl rfl rfl rfl (op_load_one ag2 rfl rfl) ?_
                              refine TL_want rfl rfl ?_
                              refine TL_pure rfl rfl rfl rfl (op_neq rfl rfl) ?_
                              refine TL_want rfl rfl ?_
                              refine TL_pure rfl rfl rfl rfl (op_pick_true rfl rfl) ?_
                              refine TL_pure rfl rfl rfl rfl (op_pick_false rfl rfl) ?_
                              refine TL_nil ?_
                              refine T_cond rfl (fun hq => ?_) (fun hq => ?_)
                              · replace hm := condT hq hm
                                refine T_seq ?_
                                refine T_region ?_
                                refine TL_pure rfl rfl rfl rfl (op_assign rfl) ?_
                                refine TL_nil ?_
                                refine T_keepH [2] [] rfl rfl rfl rfl (by rw [hF]; rfl) ?_
                                refine T_ret ?_
                                obtain rfl := someI hm
                                refine ⟨[_], [], ⟨rfl, trivial⟩, ?_, rfl, rfl, rfl, rfl⟩
                                rfl
                              · replace hm := condF hq hm
                                refine T_skip ?_
                                refine T_keepH [0] [] rfl rfl rfl rfl (by rw [hF]; rfl) ?_
                                exact hj1 () hm
                            · replace hm := condF hq hm
                              refine TL_pass rfl rfl rfl rfl rfl rfl rfl ?_
                              refine TL_pass rfl rfl rfl rfl rfl rfl rfl ?_
                              refine TL_pass rfl rfl rfl rfl rfl rfl rfl ?_
                              refine TL_pass rfl rfl rfl rfl rfl rfl rfl ?_
                              refine TL_pass rfl rfl rfl rfl rfl rfl rfl ?_
                              refine TL_want rfl rfl ?_
                              refine TL_pure rfl rfl rfl rfl (op_pick_false rfl rfl) ?_
                              refine TL_pure rfl rfl rfl rfl (op_pick_false rfl rfl) ?_
                              refine TL_nil ?_
                              refine T_cond_false rfl ?_
                              refine T_skip ?_
                              refine T_keepH [0] [] rfl rfl rfl rfl (by rw [hF]; rfl) ?_
                              exact hj1 () hm
                      · refine T_seq ?_
                        refine T_region ?_
                        refine TL_pure rfl rfl rfl rfl (op_move rfl) ?_
                        refine TL_pure rfl rfl rfl rfl (op_not rfl) ?_
                        refine TL_pure rfl rfl rfl rfl (op_move rfl) ?_
                        refine TL_split 93 rfl rfl rfl (fun hq => ?_) (fun hq => ?_)
                        · replace hm := condT hq hm
                          refine TL_want rfl rfl ?_
                          refine TL_pure rfl rfl rfl rfl (op_move rfl) ?_
                          refine TL_want rfl rfl ?_
                          refine TL_pure rfl rfl rfl rfl (op_nilCheck rfl rfl) ?_
                          refine TL_want rfl rfl ?_
                          refine TL_pure rfl rfl rfl rfl (op_fieldAddrC (n := 2) fa77_3 rfl rfl rfl) ?_
                          refine TL_want rfl rfl ?_
                          obtain ⟨r97, hr97, hm⟩ := bindS hm
                          refine TL_callF (c_spec_l05Zero p0.Sum r97 hr97) Try.call124 rfl rfl rfl rfl rfl ?_
                          refine TL_want rfl rfl ?_
                          refine TL_pure rfl rfl rfl rfl (op_not rfl) ?_
                          refine TL_pure rfl rfl rfl rfl (op_pick_true rfl rfl) ?_
                          refine TL_pure rfl rfl rfl rfl (op_move rfl) ?_
                          refine TL_split 100 rfl rfl rfl (fun hq => ?_) (fun hq => ?_)
                          · replace hm := condT hq hm
                            refine TL_pass rfl rfl rfl rfl rfl rfl rfl ?_
                            refine TL_pass rfl rfl rfl rfl rfl rfl rfl ?_
                            refine TL_pass rfl rfl rfl rfl rfl rfl rfl ?_
                            refine TL_pass2 rfl rfl rfl rfl rfl rfl ?_
                            refine TL_pass2 rfl rfl rfl rfl rfl rfl ?_
                            refine TL_pass2 rfl rfl rfl rfl rfl rfl ?_
                            refine TL_pass2 rfl rfl rfl rfl rfl rfl ?_
                            refine TL_pass2 rfl rfl rfl rfl rfl rfl ?_
                            refine TL_pass rfl rfl rfl rfl rfl rfl rfl ?_
                            refine TL_pure rfl rfl rfl rfl (op_pick_true rfl rfl) ?_
                            refine TL_pure rfl rfl rfl rfl (op_move rfl) ?_
                            refine TL_pass rfl rfl rfl rfl rfl rfl rfl ?_
                            refine TL_pass rfl rfl rfl rfl rfl rfl rfl ?_
                            refine TL_pass rfl rfl rfl rfl rfl rfl rfl ?_
                            refine TL_pass rfl rfl rfl rfl rfl rfl rfl ?_
                            refine TL_pass rfl rfl rfl rfl rfl rfl rfl ?_
                            refine TL_pass rfl rfl rfl rfl rfl rfl rfl ?_
                            refine TL_pass2 rfl rfl rfl rfl rfl rfl ?_
                            refine TL_pass2 rfl rfl rfl rfl rfl rfl ?_
                            refine TL_pass2 rfl rfl rfl rfl rfl rfl ?_
                            refine TL_pass2 rfl rfl rfl rfl rfl rfl ?_
                            refine TL_pass2 rfl rfl rfl rfl rfl rfl ?_
                            refine TL_pass2 rfl rfl rfl rfl rfl rfl ?_
                            refine TL_pass rfl rfl rfl rfl rfl rfl rfl ?_
                            refine TL_pure rfl rfl rfl rfl (op_pick_true rfl rfl) ?_
                            refine TL_nil ?_
                            refine T_cond_true rfl ?_
                            refine T_seq ?_
                            refine T_region ?_
                            refine TL_pure rfl rfl rfl rfl (op_assign rfl) ?_
                            refine TL_nil ?_
                            refine T_keepH [2] [] rfl rfl rfl rfl (by rw [hF]; rfl) ?_
                            refine T_ret ?_
                            obtain rfl := someI hm
                            refine ⟨[_], [], ⟨rfl, trivial⟩, ?_, rfl, rfl, rfl, rfl⟩
                            rfl
                          · replace hm := condF hq hm
                            refine TL_want rfl rfl ?_
                            refine TL_pure rfl rfl rfl rfl (op_move rfl) ?_
                            refine TL_want rfl rfl ?_
                            refine TL_pure rfl rfl rfl rfl (op_not rfl) ?_
                            refine TL_want rfl rfl ?_
                            refine TL_pure rfl rfl rfl rfl (op_move rfl) ?_
                            refine TL_split 103 rfl rfl rfl (fun hq => ?_) (fun hq => ?_)
                            · replace hm := condT hq hm
                              refine TL_want rfl rfl ?_
                              refine TL_pure rfl rfl rfl rfl (op_move rfl) ?_
                              refine TL_want rfl rfl ?_
                              refine TL_pure rfl rfl rfl rfl (op_nilCheck rfl rfl) ?_
                              refine TL_want rfl rfl ?_
                              refine TL_pure rfl rfl rfl rfl (op_fieldAddrC (n := 2) fa77_4 rfl rfl rfl) ?_
                              refine TL_want rfl rfl ?_
                              obtain ⟨r107, hr107, hm⟩ := bindS hm
                              refine TL_callF (c_spec_l05Zero p0.Index r107 hr107) Try.call124 rfl rfl rfl rfl rfl ?_
                              refine TL_want rfl rfl ?_
                              refine TL_pure rfl rfl rfl rfl (op_not rfl) ?_
                              refine TL_want rfl rfl ?_
                              refine TL_pure rfl rfl rfl rfl (op_pick_true rfl rfl) ?_
                              refine TL_pure rfl rfl rfl rfl (op_pick_false rfl rfl) ?_
                              refine TL_pure rfl rfl rfl rfl (op_move rfl) ?_
                              refine TL_split 111 rfl rfl rfl (fun hq => ?_) (fun hq => ?_)
                              · replace hm := condT hq hm
                                refine TL_pass rfl rfl rfl rfl rfl rfl rfl ?_
                                refine TL_pass rfl rfl rfl rfl rfl rfl rfl ?_
                                refine TL_pass rfl rfl rfl rfl rfl rfl rfl ?_
                                refine TL_pass rfl rfl rfl rfl rfl rfl rfl ?_
                                refine TL_pass rfl rfl rfl rfl rfl rfl rfl ?_
                                refine TL_pass rfl rfl rfl rfl rfl rfl rfl ?_
                                refine TL_pass2 rfl rfl rfl rfl rfl rfl ?_
                                refine TL_pass2 rfl rfl rfl rfl rfl rfl ?_
                                refine TL_pass2 rfl rfl rfl rfl rfl rfl ?_
                                refine TL_pass2 rfl rfl rfl rfl rfl rfl ?_
                                refine TL_pass2 rfl rfl rfl rfl rfl rfl ?_
                                refine TL_pass2 rfl rfl rfl rfl rfl rfl ?_
                                refine TL_pass rfl rfl rfl rfl rfl rfl rfl ?_
                                refine TL_pure rfl rfl rfl rfl (op_pick_true rfl rfl) ?_
                                refine TL_nil ?_
                                refine T_cond_true rfl ?_
                                refine T_seq ?_
                                refine T_region ?_
                                refine TL_pure rfl rfl rfl rfl (op_assign rfl) ?_
                                refine TL_nil ?_
                                refine T_keepH [2] [] rfl rfl rfl rfl (by rw [hF]; rfl) ?_
                                refine T_ret ?_
                                obtain rfl := someI hm
                                refine ⟨[_], [], ⟨rfl, trivial⟩, ?_, rfl, rfl, rfl, rfl⟩
                                rfl
                              · replace hm := condF hq hm
                                refine TL_want rfl rfl ?_
                                refine TL_pure rfl rfl rfl rfl (op_move rfl) ?_
                                refine TL_want rfl rfl ?_
                                refine TL_pure rfl rfl rfl rfl (op_nilCheck rfl rfl) ?_
                                refine TL_want rfl rfl ?_
                                refine TL_pure rfl rfl rfl rfl (op_fieldAddrC (n := 1) fa77_0 rfl rfl rfl) ?_
                                refine TL_want rfl rfl ?_
                                refine TL_pure rfl rfl rfl rfl (op_load_one ag2 rfl rfl) ?_
                                refine TL_want rfl rfl ?_
                                refine TL_pure rfl rfl rfl rfl (op_neq rfl rfl) ?_
                                refine TL_want rfl rfl ?_
                                refine TL_pure rfl rfl rfl rfl (op_move rfl) ?_
                                refine TL_split 117 rfl rfl rfl (fun hq => ?_) (fun hq => ?_)
                                · replace hm := condT hq hm
                                  refine TL_want rfl rfl ?_
                                  refine TL_pure rfl rfl rfl rfl (op_move rfl) ?_
                                  refine TL_want rfl rfl ?_
                                  refine TL_pure rfl rfl rfl rfl (op_nilCheck rfl rfl) ?_
                                  refine TL_want rfl rfl ?_
                                  refine TL_pure rfl rfl rfl rfl (op_fieldAddr fa77_5 rfl rfl) ?_
                                  refine TL_want rfl rfl ?_
                                  refine TL_pure rfl rfl rfl rfl (op_load_one ag24 rfl rfl) ?_
                                  refine TL_want rfl rfl ?_
                                  refine TL_pure rfl rfl rfl rfl (op_lenT Try.underlying24 rfl (List.length_map _)) ?_
                                  refine TL_fact (fun _ _ _ hr => RelP.slLen (i := 121) rfl hr) (fun hlen122 => ?_)
                                  rw [List.length_map] at hlen122
                                  refine TL_want rfl rfl ?_
                                  refine TL_pure rfl rfl rfl rfl (op_gtr rfl rfl) ?_
                                  refine TL_want rfl rfl ?_
                                  refine TL_pure rfl rfl rfl rfl (op_pick_true rfl rfl) ?_
                                  refine TL_pure rfl rfl rfl rfl (op_pick_false rfl rfl) ?_
                                  refine TL_nil ?_
                                  refine T_cond rfl (fun hq => ?_) (fun hq => ?_)
                                  · replace hm := condT hq hm
                                    refine T_seq ?_
                                    refine T_region ?_
                                    refine TL_pure rfl rfl rfl rfl (op_assign rfl) ?_
                                    refine TL_nil ?_
                                    refine T_keepH [2] [] rfl rfl rfl rfl (by rw [hF]; rfl) ?_
                                    refine T_ret ?_
                                    obtain rfl := someI hm
                                    refine ⟨[_], [], ⟨rfl, trivial⟩, ?_, rfl, rfl, rfl, rfl⟩
                                    rfl
                                  · replace hm := condF hq hm
                                    refine T_skip ?_
                                    refine T_keepH [0, 5] [] rfl rfl rfl rfl (by rw [hF]; rfl) ?_
                                    exact hj0 () hm
                                · replace hm := condF hq hm
                                  refine TL_pass rfl rfl rfl rfl rfl rfl rfl ?_
                                  refine TL_pass rfl rfl rfl rfl rfl rfl rfl ?_
                                  refine TL_pass rfl rfl rfl rfl rfl rfl rfl ?_
                                  refine TL_pass rfl rfl rfl rfl rfl rfl rfl ?_
                                  refine TL_pass rfl rfl rfl rfl rfl rfl rfl ?_
                                  refine TL_pass rfl rfl rfl rfl rfl rfl rfl ?_
                                  refine TL_want rfl rfl ?_
                                  refine TL_pure rfl rfl rfl rfl (op_pick_false rfl rfl) ?_
                                  refine TL_pure rfl rfl rfl rfl (op_pick_false rfl rfl) ?_
                                  refine TL_nil ?_
                                  refine T_cond_false rfl ?_
                                  refine T_skip ?_
                                  refine T_keepH [0, 5] [] rfl rfl rfl rfl (by rw [hF]; rfl) ?_
                                  exact hj0 () hm
                            · replace hm := condF hq hm
                              refine TL_pass rfl rfl rfl rfl rfl rfl rfl ?_
                              refine TL_pass rfl rfl rfl rfl rfl rfl rfl ?_
                              refine TL_pass rfl rfl rfl rfl rfl rfl rfl ?_
                              refine TL_pass rfl rfl rfl rfl rfl rfl rfl ?_
                              refine TL_pass rfl rfl rfl rfl rfl rfl rfl ?_
                              refine TL_want rfl rfl ?_
                              refine TL_pure rfl rfl rfl rfl (op_pick_false rfl rfl) ?_
                              refine TL_pure rfl rfl rfl rfl (op_pick_false rfl rfl) ?_
                              refine TL_pure rfl rfl rfl rfl (op_move rfl) ?_
                              refine TL_want rfl rfl ?_
                              refine TL_pure rfl rfl rfl rfl (op_move rfl) ?_
                              refine TL_want rfl rfl ?_
                              refine TL_pure rfl rfl rfl rfl (op_nilCheck rfl rfl) ?_
                              refine TL_want rfl rfl ?_
                              refine TL_pure rfl rfl rfl rfl (op_fieldAddrC (n := 1) fa77_0 rfl rfl rfl) ?_
                              refine TL_want rfl rfl ?_
                              refine TL_pure rfl rfl rfl rfl (op_load_one ag2 rfl rfl) ?_
                              refine TL_want rfl rfl ?_
                              refine TL_pure rfl rfl rfl rfl (op_neq rfl rfl) ?_
                              refine TL_want rfl rfl ?_
                              refine TL_pure rfl rfl rfl rfl (op_move rfl) ?_
                              refine TL_split 117 rfl rfl rfl (fun hq => ?_) (fun hq => ?_)
                              · replace hm := condT hq hm
                                refine TL_want rfl rfl ?_
                                refine TL_pure rfl rfl rfl rfl (op_move rfl) ?_
                                refine TL_want rfl rfl ?_
                                refine TL_pure rfl rfl rfl rfl (op_nilCheck rfl rfl) ?_
                                refine TL_want rfl rfl ?_
                                refine TL_pure rfl rfl rfl rfl (op_fieldAddr fa77_5 rfl rfl) ?_
                                refine TL_want rfl rfl ?_
                                refine TL_pure rfl rfl rfl rfl (op_load_one ag24 rfl rfl) ?_
                                refine TL_want rfl rfl ?_
                                refine TL_pure rfl rfl rfl rfl (op_lenT Try.underlying24 rfl (List.length_map _)) ?_
                                refine TL_fact (fun _ _ _ hr => RelP.slLen (i := 121) rfl hr) (fun hlen122 => ?_)
                                rw [List.length_map] at hlen122
                                refine TL_want rfl rfl ?_
                                refine TL_pure rfl rfl rfl rfl (op_gtr rfl rfl) ?_
                                refine TL_want rfl rfl ?_
                                refine TL_pure rfl rfl rfl rfl (op_pick_true rfl rfl) ?_
                                refine TL_pure rfl rfl rfl rfl (op_pick_false rfl rfl) ?_
                                refine TL_nil ?_
                                refine T_cond rfl (fun hq => ?_) (fun hq => ?_)
                                · replace hm := condT hq hm
                                  refine T_seq ?_
                                  refine T_region ?_
                                  refine TL_pure rfl rfl rfl rfl (op_assign rfl) ?_
                                  refine TL_nil ?_
                                  refine T_keepH [2] [] rfl rfl rfl rfl (by rw [hF]; rfl) ?_
                                  refine T_ret ?_
                                  obtain rfl := someI hm
                                  refine ⟨[_], [], ⟨rfl, trivial⟩, ?_, rfl, rfl, rfl, rfl⟩
                                  rfl
                                · replace hm := condF hq hm
                                  refine T_skip ?_
                                  refine T_keepH [0, 5] [] rfl rfl rfl rfl (by rw [hF]; rfl) ?_
                                  exact hj0 () hm
                              · replace hm := condF hq hm
                                refine TL_pass rfl rfl rfl rfl rfl rfl rfl ?_
                                refine TL_pass rfl rfl rfl rfl rfl rfl rfl ?_
                                refine TL_pass rfl rfl rfl rfl rfl rfl rfl ?_
                                refine TL_pass rfl rfl rfl rfl rfl rfl rfl ?_
                                refine TL_pass rfl rfl rfl rfl rfl rfl rfl ?_
                                refine TL_pass rfl rfl rfl rfl rfl rfl rfl ?_
                                refine TL_want rfl rfl ?_
                                refine TL_pure rfl rfl rfl rfl (op_pick_false rfl rfl) ?_
                                refine TL_pure rfl rfl rfl rfl (op_pick_false rfl rfl) ?_
                                refine TL_nil ?_
                                refine T_cond_false rfl ?_
                                refine T_skip ?_
                                refine T_keepH [0, 5] [] rfl rfl rfl rfl (by rw [hF]; rfl) ?_
                                exact hj0 () hm
                        · replace hm := condF hq hm
                          refine TL_pass rfl rfl rfl rfl rfl rfl rfl ?_
                          refine TL_pass rfl rfl rfl rfl rfl rfl rfl ?_
                          refine TL_pass rfl rfl rfl rfl rfl rfl rfl ?_
                          refine TL_pass rfl rfl rfl rfl rfl rfl rfl ?_
                          refine TL_pass rfl rfl rfl rfl rfl rfl rfl ?_
                          refine TL_pure rfl rfl rfl rfl (op_pick_false rfl rfl) ?_
                          refine TL_pure rfl rfl rfl rfl (op_move rfl) ?_
                          refine TL_want rfl rfl ?_
                          refine TL_pure rfl rfl rfl rfl (op_move rfl) ?_
                          refine TL_want rfl rfl ?_
                          refine TL_pure rfl rfl rfl rfl (op_not rfl) ?_
                          refine TL_want rfl rfl ?_
                          refine TL_pure rfl rfl rfl rfl (op_move rfl) ?_
                          refine TL_split 103 rfl rfl rfl (fun hq => ?_) (fun hq => ?_)
                          · replace hm := condT hq hm
                            refine TL_want rfl rfl ?_
                            refine TL_pure rfl rfl rfl rfl (op_move rfl) ?_
                            refine TL_want rfl rfl ?_
                            refine TL_pure rfl rfl rfl rfl (op_nilCheck rfl rfl) ?_
                            refine TL_want rfl rfl ?_
                            refine TL_pure rfl rfl rfl rfl (op_fieldAddrC (n := 2) fa77_4 rfl rfl rfl) ?_
                            refine TL_want rfl rfl ?_
                            obtain ⟨r107, hr107, hm⟩ := bindS hm
                            refine TL_callF (c_spec_l05Zero p0.Index r107 hr107) Try.call124 rfl rfl rfl rfl rfl ?_
                            refine TL_want rfl rfl ?_
                            refine TL_pure rfl rfl rfl rfl (op_not rfl) ?_
                            refine TL_want rfl rfl ?_
                            refine TL_pure rfl rfl rfl rfl (op_pick_true rfl rfl) ?_
                            refine TL_pure rfl rfl rfl rfl (op_pick_false rfl rfl) ?_
                            refine TL_pure rfl rfl rfl rfl (op_move rfl) ?_
                            refine TL_split 111 rfl rfl rfl (fun hq => ?_) (fun hq => ?_)
                            · replace hm := condT hq hm
                              refine TL_pass rfl rfl rfl rfl rfl rfl rfl ?_
                              refine TL_pass rfl rfl rfl rfl rfl rfl rfl ?_
                              refine TL_pass rfl rfl rfl rfl rfl rfl rfl ?_
                              refine TL_pass rfl rfl rfl rfl rfl rfl rfl ?_
                              refine TL_pass rfl rfl rfl rfl rfl rfl rfl ?_
                              refine TL_pass rfl rfl rfl rfl rfl rfl rfl ?_
                              refine TL_pass2 rfl rfl rfl rfl rfl rfl ?_
                              refine TL_pass2 rfl rfl rfl rfl rfl rfl ?_
                              refine TL_pass2 rfl rfl rfl rfl rfl rfl ?_
                              refine TL_pass2 rfl rfl rfl rfl rfl rfl ?_
                              refine TL_pass2 rfl rfl rfl rfl rfl rfl ?_
                              refine TL_pass2 rfl rfl rfl rfl rfl rfl ?_
                              refine TL_pass rfl rfl rfl rfl rfl rfl rfl ?_
                              refine TL_pure rfl rfl rfl rfl (op_pick_true rfl rfl) ?_
                              refine TL_nil ?_
                              refine T_cond_true rfl ?_
                              refine T_seq ?_
                              refine T_region ?_
                              refine TL_pure rfl rfl rfl rfl (op_assign rfl) ?_
                              refine TL_nil ?_
                              refine T_keepH [2] [] rfl rfl rfl rfl (by rw [hF]; rfl) ?_
                              refine T_ret ?_
                              obtain rfl := someI hm
                              refine ⟨[_], [], ⟨rfl, trivial⟩, ?_, rfl, rfl, rfl, rfl⟩
                              rfl
                            · replace hm := condF hq hm
                              refine TL_want rfl rfl ?_
                              refine TL_pure rfl rfl rfl rfl (op_move rfl) ?_
                              refine TL_want rfl rfl ?_
                              refine TL_pure rfl rfl rfl rfl (op_nilCheck rfl rfl) ?_
                              refine TL_want rfl rfl ?_
                              refine TL_pure rfl rfl rfl rfl (op_fieldAddrC (n := 1) fa77_0 rfl rfl rfl) ?_
                              refine TL_want rfl rfl ?_
                              refine TL_pure rfl rfl rfl rfl (op_load_one ag2 rfl rfl) ?_
                              refine TL_want rfl rfl ?_
                              refine TL_pure rfl rfl rfl rfl (op_neq rfl rfl) ?_
                              refine TL_want rfl rfl ?_
                              refine TL_pure rfl rfl rfl rfl (op_move rfl) ?_
                              refine TL_split 117 rfl rfl rfl (fun hq => ?_) (fun hq => ?_)
                              · replace hm := condT hq hm
                                refine TL_want rfl rfl ?_
                                refine TL_pure rfl rfl rfl rfl (op_move rfl) ?_
                                refine TL_want rfl rfl ?_
                                refine TL_pure rfl rfl rfl rfl (op_nilCheck rfl rfl) ?_
                                refine TL_want rfl rfl ?_
                                refine TL_pure rfl rfl rfl rfl (op_fieldAddr fa77_5 rfl rfl) ?_
                                refine TL_want rfl rfl ?_
                                refine TL_pure rfl rfl rfl rfl (op_load_one ag24 rfl rfl) ?_
                                refine TL_want rfl rfl ?_
                                refine TL_pure rfl rfl rfl rfl (op_lenT Try.underlying24 rfl (List.length_map _)) ?_
                                refine TL_fact (fun _ _ _ hr => RelP.slLen (i := 121) rfl hr) (fun hlen122 => ?_)
                                rw [List.length_map] at hlen122
                                refine TL_want rfl rfl ?_
                                refine TL_pure rfl rfl rfl rfl (op_gtr rfl rfl) ?_
                                refine TL_want rfl rfl ?_
                                refine TL_pure rfl rfl rfl rfl (op_pick_true rfl rfl) ?_
                                refine TL_pure rfl rfl rfl rfl (op_pick_false rfl rfl) ?_
                                refine TL_nil ?_
                                refine T_cond rfl (fun hq => ?_) (fun hq => ?_)
                                · replace hm := condT hq hm
                                  refine T_seq ?_
                                  refine T_region ?_
                                  refine TL_pure rfl rfl rfl rfl (op_assign rfl) ?_
                                  refine TL_nil ?_
                                  refine T_keepH [2] [] rfl rfl rfl rfl (by rw [hF]; rfl) ?_
                                  refine T_ret ?_
                                  obtain rfl := someI hm
                                  refine ⟨[_], [], ⟨rfl, trivial⟩, ?_, rfl, rfl, rfl, rfl⟩
                                  rfl
                                · replace hm := condF hq hm
                                  refine T_skip ?_
                                  refine T_keepH [0, 5] [] rfl rfl rfl rfl (by rw [hF]; rfl) ?_
                                  exact hj0 () hm
                              · replace hm := condF hq hm
                                refine TL_pass rfl rfl rfl rfl rfl rfl rfl ?_
                                refine TL_pass rfl rfl rfl rfl rfl rfl rfl ?_
                                refine TL_pass rfl rfl rfl rfl rfl rfl rfl ?_
                                refine TL_pass rfl rfl rfl rfl rfl rfl rfl ?_
                                refine TL_pass rfl rfl rfl rfl rfl rfl rfl ?_
                                refine TL_pass rfl rfl rfl rfl rfl rfl rfl ?_
                                refine TL_want rfl rfl ?_
                                refine TL_pure rfl rfl rfl rfl (op_pick_false rfl rfl) ?_
                                refine TL_pure rfl rfl rfl rfl (op_pick_false rfl rfl) ?_
                                refine TL_nil ?_
                                refine T_cond_false rfl ?_
                                refine T_skip ?_
                                refine T_keepH [0, 5] [] rfl rfl rfl rfl (by rw [hF]; rfl) ?_
                                exact hj0 () hm
                          · replace hm := condF hq hm
                            refine TL_pass rfl rfl rfl rfl rfl rfl rfl ?_
                            refine TL_pass rfl rfl rfl rfl rfl rfl rfl ?_
                            refine TL_pass rfl rfl rfl rfl rfl rfl rfl ?_
                            refine TL_pass rfl rfl rfl rfl rfl rfl rfl ?_
                            refine TL_pass rfl rfl rfl rfl rfl rfl rfl ?_
                            refine TL_want rfl rfl ?_
                            refine TL_pure rfl rfl rfl rfl (op_pick_false rfl rfl) ?_
                            refine TL_pure rfl rfl rfl rfl (op_pick_false rfl rfl) ?_
                            refine TL_pure rfl rfl rfl rfl (op_move rfl) ?_
                            refine TL_want rfl rfl ?_
                            refine TL_pure rfl rfl rfl rfl (op_move rfl) ?_
                            refine TL_want rfl rfl ?_
                            refine TL_pure rfl rfl rfl rfl (op_nilCheck rfl rfl) ?_
                            refine TL_want rfl rfl ?_
                            refine TL_pure rfl rfl rfl rfl (op_fieldAddrC (n := 1) fa77_0 rfl rfl rfl) ?_
                            refine TL_want rfl rfl ?_
                            refine TL_pure rfl rfl rfl rfl (op_load_one ag2 rfl rfl) ?_
                            refine TL_want rfl rfl ?_
                            refine TL_pure rfl rfl rfl rfl (op_neq rfl rfl) ?_
                            refine TL_want rfl rfl ?_
                            refine TL_pure rfl rfl rfl rfl (op_move rfl) ?_
                            refine TL_split 117 rfl rfl rfl (fun hq => ?_) (fun hq => ?_)
                            · replace hm := condT hq hm
                              refine TL_want rfl rfl ?_
                              refine TL_pure rfl rfl rfl rfl (op_move rfl) ?_
                              refine TL_want rfl rfl ?_
                              refine TL_pure rfl rfl rfl rfl (op_nilCheck rfl rfl) ?_
                              refine TL_want rfl rfl ?_
                              refine TL_pure rfl rfl rfl rfl (op_fieldAddr fa77_5 rfl rfl) ?_
                              refine TL_want rfl rfl ?_
                              refine TL_pure rfl rfl rfl rfl (op_load_one ag24 rfl rfl) ?_
                              refine TL_want rfl rfl ?_
                              refine TL_pure rfl rfl rfl rfl (op_lenT Try.underlying24 rfl (List.length_map _)) ?_
                              refine TL_fact (fun _ _ _ hr => RelP.slLen (i := 121) rfl hr) (fun hlen122 => ?_)
                              rw [List.length_map] at hlen122
                              refine TL_want rfl rfl ?_
                              refine TL_pure rfl rfl rfl rfl (op_gtr rfl rfl) ?_
                              refine TL_want rfl rfl ?_
                              refine TL_pure rfl rfl rfl rfl (op_pick_true rfl rfl) ?_
                              refine TL_pure rfl rfl rfl rfl (op_pick_false rfl rfl) ?_
                              refine TL_nil ?_
                              refine T_cond rfl (fun hq => ?_) (fun hq => ?_)
                              · replace hm := condT hq hm
                                refine T_seq ?_
                                refine T_region ?_
                                refine TL_pure rfl rfl rfl rfl (op_assign rfl) ?_
                                refine TL_nil ?_
                                refine T_keepH [2] [] rfl rfl rfl rfl (by rw [hF]; rfl) ?_
                                refine T_ret ?_
                                obtain rfl := someI hm
                                refine ⟨[_], [], ⟨rfl, trivial⟩, ?_, rfl, rfl, rfl, rfl⟩
                                rfl
                              · replace hm := condF hq hm
                                refine T_skip ?_
                                refine T_keepH [0, 5] [] rfl rfl rfl rfl (by rw [hF]; rfl) ?_
                                exact hj0 () hm
                            · replace hm := condF hq hm
                              refine TL_pass rfl rfl rfl rfl rfl rfl rfl ?_
                              refine TL_pass rfl rfl rfl rfl rfl rfl rfl ?_
                              refine TL_pass rfl rfl rfl rfl rfl rfl rfl ?_
                              refine TL_pass rfl rfl rfl rfl rfl rfl rfl ?_
                              refine TL_pass rfl rfl rfl rfl rfl rfl rfl ?_
                              refine TL_pass rfl rfl rfl rfl rfl rfl rfl ?_
                              refine TL_want rfl rfl ?_
                              refine TL_pure rfl rfl rfl rfl (op_pick_false rfl rfl) ?_
                              refine TL_pure rfl rfl rfl rfl (op_pick_false rfl rfl) ?_
                              refine TL_nil ?_
                              refine T_cond_false rfl ?_
                              refine T_skip ?_
                              refine T_keepH [0, 5] [] rfl rfl rfl rfl (by rw [hF]; rfl) ?_
                              exact hj0 () hm
            · refine TL_split 56 rfl rfl rfl (fun hq => ?_) (fun hq => ?_)
              · refine TL_pass rfl rfl rfl rfl rfl rfl rfl ?_
                refine TL_pass rfl rfl rfl rfl rfl rfl rfl ?_
                refine TL_pass rfl rfl rfl rfl rfl rfl rfl ?_
                refine TL_pass rfl rfl rfl rfl rfl rfl rfl ?_
                refine TL_pass rfl rfl rfl rfl rfl rfl rfl ?_
                refine TL_pure rfl rfl rfl rfl (op_pick_true rfl rfl) ?_
                refine TL_keepH [0, 3, 4, 62] [] rfl rfl rfl rfl (by rw [hF]; rfl) ?_
                exact TL_cast _ (by first | (rw [hq, Bool.true_or]; done) | (rw [hq]; rfl)) (hjj () trivial)
              · refine TL_want rfl rfl ?_
                refine TL_pure rfl rfl rfl rfl (op_move rfl) ?_
                refine TL_want rfl rfl ?_
                refine TL_pure rfl rfl rfl rfl (op_nilCheck rfl rfl) ?_
                refine TL_want rfl rfl ?_
                refine TL_pure rfl rfl rfl rfl (op_fieldAddrC (n := 1) fa77_0 rfl rfl rfl) ?_
                refine TL_want rfl rfl ?_
                refine TL_pure rfl rfl rfl rfl (op_load_one ag2 rfl rfl) ?_
                refine TL_want rfl rfl ?_
                refine TL_pure rfl rfl rfl rfl (op_eql rfl rfl) ?_
                refine TL_pure rfl rfl rfl rfl (op_pick_false rfl rfl) ?_
                refine TL_keepH [0, 3, 4, 62] [] rfl rfl rfl rfl (by rw [hF]; rfl) ?_
                exact TL_cast _ (by first | (rw [hq, Bool.false_or]; done) | (rw [hq]; rfl)) (hjj () trivial)
          · refine TL_split 44 rfl rfl rfl (fun hq => ?_) (fun hq => ?_)
            · refine TL_pass rfl rfl rfl rfl rfl rfl rfl ?_
              refine TL_pass rfl rfl rfl rfl rfl rfl rfl ?_
              refine TL_pass rfl rfl rfl rfl rfl rfl rfl ?_
              refine TL_pass rfl rfl rfl rfl rfl rfl rfl ?_
              refine TL_pass rfl rfl rfl rfl rfl rfl rfl ?_
              refine TL_pure rfl rfl rfl rfl (op_pick_true rfl rfl) ?_
              refine TL_keepH [0, 3, 50] [] rfl rfl rfl rfl (by rw [hF]; rfl) ?_
              exact TL_cast _ (by first | (rw [hq, Bool.true_or]; done) | (rw [hq]; rfl)) (hjj () trivial)
            · refine TL_want rfl rfl ?_
              refine TL_pure rfl rfl rfl rfl (op_move rfl) ?_
              refine TL_want rfl rfl ?_
              refine TL_pure rfl rfl rfl rfl (op_nilCheck rfl rfl) ?_
              refine TL_want rfl rfl ?_
              refine TL_pure rfl rfl rfl rfl (op_fieldAddrC (n := 1) fa77_0 rfl rfl rfl) ?_
              refine TL_want rfl rfl ?_
              refine TL_pure rfl rfl rfl rfl (op_load_one ag2 rfl rfl) ?_
              refine TL_want rfl rfl ?_
              refine TL_pure rfl rfl rfl rfl (op_eql rfl rfl) ?_
              refine TL_pure rfl rfl rfl rfl (op_pick_false rfl rfl) ?_
              refine TL_keepH [0, 3, 50] [] rfl rfl rfl rfl (by rw [hF]; rfl) ?_
              exact TL_cast _ (by first | (rw [hq, Bool.false_or]; done) | (rw [hq]; rfl)) (hjj () trivial)
        · refine TL_split 32 rfl rfl rfl (fun hq => ?_) (fun hq => ?_)
          · refine TL_pass rfl rfl rfl rfl rfl rfl rfl ?_
            refine TL_pass rfl rfl rfl rfl rfl rfl rfl ?_
            refine TL_pass rfl rfl rfl rfl rfl rfl rfl ?_
            refine TL_pass rfl rfl rfl rfl rfl rfl rfl ?_
            refine TL_pass rfl rfl rfl rfl rfl rfl rfl ?_
            refine TL_pure rfl rfl rfl rfl (op_pick_true rfl rfl) ?_
            refine TL_keepH [0, 38] [] rfl rfl rfl rfl (by rw [hF]; rfl) ?_
            exact TL_cast _ (by first | (rw [hq, Bool.true_or]; done) | (rw [hq]; rfl)) (hjj () trivial)
          · refine TL_want rfl rfl ?_
            refine TL_pure rfl rfl rfl rfl (op_move rfl) ?_
            refine TL_want rfl rfl ?_
            refine TL_pure rfl rfl rfl rfl (op_nilCheck rfl rfl) ?_
            refine TL_want rfl rfl ?_
            refine TL_pure rfl rfl rfl rfl (op_fieldAddrC (n := 1) fa77_0 rfl rfl rfl) ?_
            refine TL_want rfl rfl ?_
            refine TL_pure rfl rfl rfl rfl (op_load_one ag2 rfl rfl) ?_
            refine TL_want rfl rfl ?_
            refine TL_pure rfl rfl rfl rfl (op_eql rfl rfl) ?_
            refine TL_pure rfl rfl rfl rfl (op_pick_false rfl rfl) ?_
            refine TL_keepH [0, 38] [] rfl rfl rfl rfl (by rw [hF]; rfl) ?_
            exact TL_cast _ (by first | (rw [hq, Bool.false_or]; done) | (rw [hq]; rfl)) (hjj () trivial)
      · refine TL_split 25 rfl rfl rfl (fun hq => ?_) (fun hq => ?_)
        · refine TL_pass rfl rfl rfl rfl rfl rfl rfl ?_
          refine TL_pass rfl rfl rfl rfl rfl rfl rfl ?_
          refine TL_pass rfl rfl rfl rfl rfl rfl rfl ?_
          refine TL_pass rfl rfl rfl rfl rfl rfl rfl ?_
          refine TL_pass rfl rfl rfl rfl rfl rfl rfl ?_
          refine TL_pure rfl rfl rfl rfl (op_pick_true rfl rfl) ?_
          refine TL_keepH [0, 31] [] rfl rfl rfl rfl (by rw [hF]; rfl) ?_
          exact TL_cast _ (by first | (rw [hq, Bool.true_or]; done) | (rw [hq]; rfl)) (hjj () trivial)
        · refine TL_want rfl rfl ?_
          refine TL_pure rfl rfl rfl rfl (op_move rfl) ?_
          refine TL_want rfl rfl ?_
          refine TL_pure rfl rfl rfl rfl (op_nilCheck rfl rfl) ?_
          refine TL_want rfl rfl ?_
          refine TL_pure rfl rfl rfl rfl (op_fieldAddrC (n := 1) fa77_0 rfl rfl rfl) ?_
          refine TL_want rfl rfl ?_
          refine TL_pure rfl rfl rfl rfl (op_load_one ag2 rfl rfl) ?_
          refine TL_want rfl rfl ?_
          refine TL_pure rfl rfl rfl rfl (op_eql rfl rfl) ?_
          refine TL_pure rfl rfl rfl rfl (op_pick_false rfl rfl) ?_
          refine TL_keepH [0, 31] [] rfl rfl rfl rfl (by rw [hF]; rfl) ?_
          exact TL_cast _ (by first | (rw [hq, Bool.false_or]; done) | (rw [hq]; rfl)) (hjj () trivial)
    · refine TL_split 18 rfl rfl rfl (fun hq => ?_) (fun hq => ?_)
      · refine TL_pass rfl rfl rfl rfl rfl rfl rfl ?_
        refine TL_pass rfl rfl rfl rfl rfl rfl rfl ?_
        refine TL_pass rfl rfl rfl rfl rfl rfl rfl ?_
        refine TL_pass rfl rfl rfl rfl rfl rfl rfl ?_
        refine TL_pass rfl rfl rfl rfl rfl rfl rfl ?_
        refine TL_pure rfl rfl rfl rfl (op_pick_true rfl rfl) ?_
        refine TL_keepH [0, 24] [] rfl rfl rfl rfl (by rw [hF]; rfl) ?_
        exact TL_cast _ (by first | (rw [hq, Bool.true_or]; done) | (rw [hq]; rfl)) (hjj () trivial)
      · refine TL_want rfl rfl ?_
        refine TL_pure rfl rfl rfl rfl (op_move rfl) ?_
        refine TL_want rfl rfl ?_
        refine TL_pure rfl rfl rfl rfl (op_nilCheck rfl rfl) ?_
        refine TL_want rfl rfl ?_
        refine TL_pure rfl rfl rfl rfl (op_fieldAddrC (n := 1) fa77_0 rfl rfl rfl) ?_
        refine TL_want rfl rfl ?_
        refine TL_pure rfl rfl rfl rfl (op_load_one ag2 rfl rfl) ?_
        refine TL_want rfl rfl ?_
        refine TL_pure rfl rfl rfl rfl (op_eql rfl rfl) ?_
        refine TL_pure rfl rfl rfl rfl (op_pick_false rfl rfl) ?_
        refine TL_keepH [0, 24] [] rfl rfl rfl rfl (by rw [hF]; rfl) ?_
        exact TL_cast _ (by first | (rw [hq, Bool.false_or]; done) | (rw [hq]; rfl)) (hjj () trivial)
  · refine TL_split 11 rfl rfl rfl (fun hq => ?_) (fun hq => ?_)
    · refine TL_pass rfl rfl rfl rfl rfl rfl rfl ?_
      refine TL_pass rfl rfl rfl rfl rfl rfl rfl ?_
      refine TL_pass rfl rfl rfl rfl rfl rfl rfl ?_
      refine TL_pass rfl rfl rfl rfl rfl rfl rfl ?_
      refine TL_pass rfl rfl rfl rfl rfl rfl rfl ?_
      refine TL_pure rfl rfl rfl rfl (op_pick_true rfl rfl) ?_
      refine TL_keepH [0, 17] [] rfl rfl rfl rfl (by rw [hF]; rfl) ?_
      exact TL_cast _ (by first | (rw [hq, Bool.true_or]; done) | (rw [hq]; rfl)) (hjj () trivial)
    · refine TL_want rfl rfl ?_
      refine TL_pure rfl rfl rfl rfl (op_move rfl) ?_
      refine TL_want rfl rfl ?_
      refine TL_pure rfl rfl rfl rfl (op_nilCheck rfl rfl) ?_
      refine TL_want rfl rfl ?_
      refine TL_pure rfl rfl rfl rfl (op_fieldAddrC (n := 1) fa77_0 rfl rfl rfl) ?_
      refine TL_want rfl rfl ?_
      refine TL_pure rfl rfl rfl rfl (op_load_one ag2 rfl rfl) ?_
      refine TL_want rfl rfl ?_
      refine TL_pure rfl rfl rfl rfl (op_eql rfl rfl) ?_
      refine TL_pure rfl rfl rfl rfl (op_pick_false rfl rfl) ?_
      refine TL_keepH [0, 17] [] rfl rfl rfl rfl (by rw [hF]; rfl) ?_
      exact TL_cast _ (by first | (rw [hq, Bool.false_or]; done) | (rw [hq]; rfl)) (hjj () trivial)
theorem c_spec_l03Below (p0 : Int) (out : Int) (hm : m_spec_l03Below p0 = some out) : ACall Try.prog 96 [.int .i64 p0] [] (.int .i64 out) [] := by
  refine ACall.intro Try.func96 rfl Try.ntmps96 rfl (fun F hF => ?_)
  unfold m_spec_l03Below at hm
  refine T_seq ?_
  refine T_region ?_
  refine TL_pure rfl rfl rfl rfl (op_assign rfl) ?_
  refine TL_nil ?_
  refine T_seq ?_
  refine T_seq ?_
  refine T_region ?_
  refine TL_pure rfl rfl rfl rfl (op_move rfl) ?_
  refine TL_nil ?_
  refine T_block ?_
  refine T_join (fun (j0 : Bool) => ⟨[(3, .int .i64 p0), (4, .bool j0)], []⟩) (fun j0 => m_spec_l03Below_J0 p0 j0 = some out) (fun j0 hm => ?_) (fun hj0 => ?_)
  · unfold m_spec_l03Below_J0 at hm
    refine T_cond rfl (fun hq => ?_) (fun hq => ?_)
    · replace hm := condT hq hm
      refine T_seq ?_
      refine T_region ?_
      refine TL_pure rfl rfl rfl rfl (op_assign rfl) ?_
      refine TL_nil ?_
      refine T_keepH [2] [] rfl rfl rfl rfl (by rw [hF]; rfl) ?_
      refine T_ret ?_
      obtain rfl := someI hm
      refine ⟨[_], [], ⟨rfl, trivial⟩, ?_, rfl, rfl, rfl, rfl⟩
      rfl
    · replace hm := condF hq hm
      refine T_seq ?_
      refine T_region ?_
      refine TL_pure rfl rfl rfl rfl (op_eql rfl rfl) ?_
      refine TL_pure rfl rfl rfl rfl (op_assign rfl) ?_
      refine TL_nil ?_
      refine T_cond rfl (fun hq => ?_) (fun hq => ?_)
      · replace hm := condT hq hm
        refine T_seq ?_
        refine T_region ?_
        refine TL_pure rfl rfl rfl rfl (op_assign rfl) ?_
        refine TL_nil ?_
        refine T_keepH [2] [] rfl rfl rfl rfl (by rw [hF]; rfl) ?_
        refine T_ret ?_
        obtain rfl := someI hm
        refine ⟨[_], [], ⟨rfl, trivial⟩, ?_, rfl, rfl, rfl, rfl⟩
        rfl
      · replace hm := condF hq hm
        refine T_skip ?_
        refine T_seq ?_
        refine T_region ?_
        refine TL_pure rfl rfl rfl rfl (op_assign rfl) ?_
        refine TL_nil ?_
        refine T_keepH [2] [] rfl rfl rfl rfl (by rw [hF]; rfl) ?_
        refine T_ret ?_
        obtain rfl := someI hm
        refine ⟨[_], [], ⟨rfl, trivial⟩, ?_, rfl, rfl, rfl, rfl⟩
        rfl
  · refine T_seq ?_
    refine T_region ?_
    refine TL_pure rfl rfl rfl rfl (op_eql rfl rfl) ?_
    refine TL_pure rfl rfl rfl rfl (op_assign rfl) ?_
    refine TL_nil ?_
    refine T_cond rfl (fun hq => ?_) (fun hq => ?_)
    · replace hm := condT hq hm
      refine T_skip ?_
      refine T_keepH [3, 4] [] rfl rfl rfl rfl (by rw [hF]; rfl) ?_
      exact hj0 (decide (p0 = (1 : Int))) hm
    · replace hm := condF hq hm
      refine T_region ?_
      refine TL_pure rfl rfl rfl rfl (op_eql rfl rfl) ?_
      refine TL_pure rfl rfl rfl rfl (op_assign rfl) ?_
      refine TL_nil ?_
      refine T_keepH [3, 4] [] rfl rfl rfl rfl (by rw [hF]; rfl) ?_
      exact hj0 (decide (p0 = (7 : Int))) hm
theorem c_spec_l03End (p0 : List Stmt) (p1 : Int) (out : Int) (hm : m_spec_l03End p0 p1 = some out) : ACall Try.prog 94 [.sl 8 (List.map a_Stmt p0), .int .i64 p1] [] (.int .i64 out) [] := by
  refine ACall.intro Try.func94 rfl Try.ntmps94 rfl (fun F hF => ?_)
  unfold m_spec_l03End at hm
  refine T_seq ?_
  refine T_region ?_
  refine TL_pure rfl rfl rfl rfl (op_assign rfl) ?_
  refine TL_nil ?_
  refine T_seq ?_
  refine T_region ?_
  refine TL_pure rfl rfl rfl rfl (op_assign rfl) ?_
  refine TL_nil ?_
  refine T_seq ?_
  refine T_block ?_
  refine T_keepH [0, 1, 5] [] rfl rfl rfl rfl (by rw [hF]; rfl) ?_
  refine T_loop ?_
  obtain ⟨u0, hl0, hm⟩ := bindS hm
  refine TR_iter2 (m_spec_l03End_L0 p0) (fun (s0 : Int × Int) => ⟨[(0, .sl 8 (List.map a_Stmt p0)), (1, .int .i64 s0.1), (5, .int .i64 s0.2)], []⟩) (fun u0 => match u0 with | .inl u0 => .exit 0 | .inr u0 => .ret) (fun u0 => match u0 with | .inl u0 => ⟨[(1, .int .i64 u0)], []⟩ | .inr u0 => ⟨[(4, .int .i64 u0)], []⟩) (fun u0 => m_spec_l03End_A0 u0 = some out) hl0 hm (fun u0 hm => ?_) (fun hx0 s0 c0 hm hc0 => ?_)
  · rcases u0 with u0 | u0
    · unfold m_spec_l03End_A0 at hm
      refine T_seq ?_
      refine T_region ?_
      refine TL_pure rfl rfl rfl rfl (op_move rfl) ?_
      refine TL_pure rfl rfl rfl rfl (op_assign rfl) ?_
      refine TL_nil ?_
      refine T_keepH [4] [] rfl rfl rfl rfl (by rw [hF]; rfl) ?_
      refine T_ret ?_
      obtain rfl := someI hm
      refine ⟨[_], [], ⟨rfl, trivial⟩, ?_, rfl, rfl, rfl, rfl⟩
      rfl
    · unfold m_spec_l03End_A0 at hm
      obtain rfl := someI hm
      refine ⟨[_], [], ⟨rfl, trivial⟩, ?_, rfl, rfl, rfl, rfl⟩
      rfl
  · unfold m_spec_l03End_L0 at hm
    refine T_seq ?_
    refine T_seq ?_
    refine T_region ?_
    refine TL_pure rfl rfl rfl rfl (op_move rfl) ?_
    refine TL_pure rfl rfl rfl rfl (op_gtr rfl rfl) ?_
    refine TL_nil ?_
    refine T_cond rfl (fun hq => ?_) (fun hq => ?_)
    · replace hm := condT hq hm
      refine T_skip ?_
      refine T_block ?_
      refine T_seq ?_
      refine T_seq ?_
      refine T_region ?_
      refine TL_pure rfl rfl rfl rfl (op_move rfl) ?_
      refine TL_pure rfl rfl rfl rfl (op_move rfl) ?_
      refine TL_pure rfl rfl rfl rfl (op_lenT Try.underlying25 rfl (List.length_map _)) ?_
      refine TL_fact (fun _ _ _ hr => RelP.slLen (i := 9) rfl hr) (fun hlen10 => ?_)
      rw [List.length_map] at hlen10
      refine TL_pure rfl rfl rfl rfl (op_eql rfl rfl) ?_
      refine TL_nil ?_
      refine T_cond rfl (fun hq => ?_) (fun hq => ?_)
      · replace hm := condT hq hm
        refine T_seq ?_
        refine T_region ?_
        refine TL_pure rfl rfl rfl rfl (op_assign rfl) ?_
        refine TL_nil ?_
        refine T_keepH [4] [] rfl rfl rfl rfl (by rw [hF]; rfl) ?_
        refine T_ret ?_
        obtain rfl := someI hm
        have hn := CtlOK_out hc0
        exact hx0 (.inr (-1 : Int)) hn
      · replace hm := condF hq hm
        refine T_skip ?_
        refine T_seq ?_
        refine T_region ?_
        refine TL_pure rfl rfl rfl rfl (op_move rfl) ?_
        refine TL_pure rfl rfl rfl rfl (op_move rfl) ?_
        refine TL_pure rfl rfl rfl rfl (op_move rfl) ?_
        obtain ⟨x15, hx15, hm⟩ := bindS hm
        refine TL_pure rfl rfl rfl rfl (op_indexT el25 rfl rfl hx15 rfl) ?_
        refine TL_pure rfl rfl rfl rfl (op_fieldAddrC (n := 1) fa77_0 rfl rfl rfl) ?_
        refine TL_pure rfl rfl rfl rfl (op_load_one ag2 rfl rfl) ?_
        obtain ⟨r18, hr18, hm⟩ := bindS hm
        refine TL_callF (c_spec_l03Below x15.Kind r18 hr18) Try.call96 rfl rfl rfl rfl rfl ?_
        refine TL_pure rfl rfl rfl rfl (op_subW rfl rfl) ?_
        refine TL_pure rfl rfl rfl rfl (op_addW rfl rfl) ?_
        refine TL_pure rfl rfl rfl rfl (op_assign rfl) ?_
        refine TL_nil ?_
        refine T_region ?_
        refine TL_pure rfl rfl rfl rfl (op_move rfl) ?_
        refine TL_pure rfl rfl rfl rfl (op_addW rfl rfl) ?_
        refine TL_pure rfl rfl rfl rfl (op_assign rfl) ?_
        refine TL_nil ?_
        refine TR_keepH [0, 1, 5] [] rfl rfl rfl rfl (by rw [hF]; rfl) ?_
        obtain rfl := someI hm
        have hn := CtlOK_next hc0
        exact hn _ rfl
    · replace hm := condF hq hm
      refine T_keepH [1] [] rfl rfl rfl rfl (by rw [hF]; rfl) ?_
      refine T_exit ?_
      obtain rfl := someI hm
      have hn := CtlOK_out hc0
      exact hx0 (.inl s0.1) hn
theorem c_spec_l03Body (p0 : List Stmt) (out : Bool) (hm : m_spec_l03Body p0 = some out) : ACall Try.prog 52 [.sl 8 (List.map a_Stmt p0)] [] (.bool out) [] := by
  refine ACall.intro Try.func52 rfl Try.ntmps52 rfl (fun F hF => ?_)
  unfold m_spec_l03Body at hm
  refine T_seq ?_
  refine T_region ?_
  refine TL_pure rfl rfl rfl rfl (op_assign rfl) ?_
  refine TL_nil ?_
  refine T_seq ?_
  refine T_seq ?_
  refine T_region ?_
  refine TL_pure rfl rfl rfl rfl (op_move rfl) ?_
  refine TL_pure rfl rfl rfl rfl (op_lenT Try.underlying25 rfl (List.length_map _)) ?_
  refine TL_fact (fun _ _ _ hr => RelP.slLen (i := 4) rfl hr) (fun hlen5 => ?_)
  rw [List.length_map] at hlen5
  obtain ⟨r6, hr6, hm⟩ := bindS hm
  refine TL_callF (c_spec_l00In (p0.length : Int) (1 : Int) (30 : Int) r6 hr6) Try.call92 rfl rfl rfl rfl rfl ?_
  refine TL_pure rfl rfl rfl rfl (op_not rfl) ?_
  refine TL_nil ?_
  refine T_cond rfl (fun hq => ?_) (fun hq => ?_)
  · replace hm := condT hq hm
    refine T_seq ?_
    refine T_region ?_
    refine TL_pure rfl rfl rfl rfl (op_assign rfl) ?_
    refine TL_nil ?_
    refine T_keepH [2] [] rfl rfl rfl rfl (by rw [hF]; rfl) ?_
    refine T_ret ?_
    obtain rfl := someI hm
    refine ⟨[_], [], ⟨rfl, trivial⟩, ?_, rfl, rfl, rfl, rfl⟩
    rfl
  · replace hm := condF hq hm
    refine T_skip ?_
    refine T_seq ?_
    refine T_seq ?_
    refine T_region ?_
    refine TL_pure rfl rfl rfl rfl (op_assign rfl) ?_
    refine TL_nil ?_
    refine T_block ?_
    refine T_keepH [0, 3] [] rfl rfl rfl rfl (by rw [hF]; rfl) ?_
    refine T_loop ?_
    obtain ⟨u0, hl0, hm⟩ := bindS hm
    refine TR_iter2 (m_spec_l03Body_L0 p0) (fun (s0 : Int) => ⟨[(0, .sl 8 (List.map a_Stmt p0)), (3, .int .i64 s0)], []⟩) (fun u0 => match u0 with | .inl u0 => .exit 0 | .inr u0 => .ret) (fun u0 => match u0 with | .inl u0 => ⟨[(0, .sl 8 (List.map a_Stmt p0))], []⟩ | .inr u0 => ⟨[(2, .bool u0)], []⟩) (fun u0 => m_spec_l03Body_A0 p0 u0 = some out) hl0 hm (fun u0 hm => ?_) (fun hx0 s0 c0 hm hc0 => ?_)
    · rcases u0 with u0 | u0
      · unfold m_spec_l03Body_A0 at hm
        refine T_seq ?_
        refine T_region ?_
        refine TL_pure rfl rfl rfl rfl (op_move rfl) ?_
        obtain ⟨r20, hr20, hm⟩ := bindS hm
        refine TL_callF (c_spec_l03End p0 (0 : Int) r20 hr20) Try.call94 rfl rfl rfl rfl rfl ?_
        refine TL_pure rfl rfl rfl rfl (op_move rfl) ?_
        refine TL_pure rfl rfl rfl rfl (op_lenT Try.underlying25 rfl (List.length_map _)) ?_
        refine TL_pure rfl rfl rfl rfl (op_eql rfl rfl) ?_
        refine TL_pure rfl rfl rfl rfl (op_assign rfl) ?_
        refine TL_nil ?_
        refine T_keepH [2] [] rfl rfl rfl rfl (by rw [hF]; rfl) ?_
        refine T_ret ?_
        obtain rfl := someI hm
        refine ⟨[_], [], ⟨rfl, trivial⟩, ?_, rfl, rfl, rfl, rfl⟩
        rfl
      · unfold m_spec_l03Body_A0 at hm
        obtain rfl := someI hm
        refine ⟨[_], [], ⟨rfl, trivial⟩, ?_, rfl, rfl, rfl, rfl⟩
        rfl
    · unfold m_spec_l03Body_L0 at hm
      refine T_seq ?_
      refine T_seq ?_
      refine T_region ?_
      refine TL_pure rfl rfl rfl rfl (op_move rfl) ?_
      refine TL_pure rfl rfl rfl rfl (op_move rfl) ?_
      refine TL_pure rfl rfl rfl rfl (op_lenT Try.underlying25 rfl (List.length_map _)) ?_
      refine TL_pure rfl rfl rfl rfl (op_lss rfl rfl) ?_
      refine TL_nil ?_
      refine T_cond rfl (fun hq => ?_) (fun hq => ?_)
      · replace hm := condT hq hm
        refine T_skip ?_
        refine T_seq ?_
        refine T_block ?_
        refine T_seq ?_
        refine T_region ?_
        refine TL_pure rfl rfl rfl rfl (op_move rfl) ?_
        refine TL_pure rfl rfl rfl rfl (op_move rfl) ?_
        obtain ⟨x16, hx16, hm⟩ := bindS hm
        refine TL_pure rfl rfl rfl rfl (op_indexT el25 rfl rfl hx16 rfl) ?_
        obtain ⟨r17, hr17, hm⟩ := bindS hm
        refine TL_callF (c_spec_l03Stmt x16 r17 hr17) Try.call93 rfl rfl rfl rfl rfl ?_
        refine TL_pure rfl rfl rfl rfl (op_not rfl) ?_
        refine TL_nil ?_
        refine T_cond rfl (fun hq => ?_) (fun hq => ?_)
        · replace hm := condT hq hm
          refine T_seq ?_
          refine T_region ?_
          refine TL_pure rfl rfl rfl rfl (op_assign rfl) ?_
          refine TL_nil ?_
          refine T_keepH [2] [] rfl rfl rfl rfl (by rw [hF]; rfl) ?_
          refine T_ret ?_
          obtain rfl := someI hm
          have hn := CtlOK_out hc0
          exact hx0 (.inr false) hn
        · replace hm := condF hq hm
          refine T_skip ?_
          refine T_region ?_
          refine TL_pure rfl rfl rfl rfl (op_move rfl) ?_
          refine TL_pure rfl rfl rfl rfl (op_addW rfl rfl) ?_
          refine TL_pure rfl rfl rfl rfl (op_assign rfl) ?_
          refine TL_nil ?_
          refine TR_keepH [0, 3] [] rfl rfl rfl rfl (by rw [hF]; rfl) ?_
          obtain rfl := someI hm
          have hn := CtlOK_next hc0
          exact hn _ rfl
      · replace hm := condF hq hm
        refine T_keepH [0] [] rfl rfl rfl rfl (by rw [hF]; rfl) ?_
        refine T_exit ?_
        obtain rfl := someI hm
        have hn := CtlOK_out hc0
        exact hx0 (.inl ()) hn
theorem c_spec_l00Own (p0 : List Int) (out : List Int) (hm : m_spec_l00Own p0 = some out) : ACall Try.prog 126 [.sl 1 (List.map a_i64 p0)] [] (.ow 1000) [(1000, .arr ⟨false, true⟩ 1 2 (List.map a_i64 out))] := by
  refine ACall.intro Try.func126 rfl Try.ntmps126 rfl (fun F hF => ?_)
  unfold m_spec_l00Own at hm
  refine T_seq ?_
  refine T_region ?_
  refine TL_pure rfl rfl rfl rfl (op_assign rfl) ?_
  refine TL_nil ?_
  refine T_seq ?_
  refine T_region ?_
  refine TL_buildSlice 11 (es := List.map a_i64 ([] : List Int)) el29 z2 rfl rfl rfl rfl rfl rfl rfl rfl rfl ?_
  refine TL_pure rfl rfl rfl rfl (op_move rfl) ?_
  obtain ⟨q5, hq5, hm⟩ := bindS hm
  refine TL_appendT (f := a_i64) (a := ([] : List Int)) (b := p0) el29 z2 rfl rfl rfl rfl rfl rfl rfl (capI_spec hq5) rfl rfl rfl rfl rfl ?_
  refine TL_pure rfl rfl rfl rfl (op_assign rfl) ?_
  refine TL_nil ?_
  refine T_keepH [2] [11] rfl rfl rfl rfl (by rw [hF]; rfl) ?_
  refine T_deepen 11 (p' := false) (List.map a_i64 (([] : List Int) ++ p0)) (by rw [hF]; rfl) rfl (ElR.map (f := a_i64) (g := a_i64) (fun _ => ⟨⟨rfl, rfl⟩, trivial⟩) (([] : List Int) ++ p0)) rfl rfl rfl ?_
  refine T_ren [(11, 1000)] rfl rfl rfl (by rw [hF]; rfl) ?_
  refine T_ret ?_
  obtain rfl := someI hm
  refine ⟨[_], [1000], ⟨rfl, trivial⟩, ?_, rfl, rfl, rfl, rfl⟩
  rfl
theorem c_spec_l02Own (p0 : Term) (out : Term) (hm : m_spec_l02Own p0 = some out) : ACall Try.prog 103 [.cp [.int .i64 p0.Const, .sl 1 (List.map a_i64 p0.Coeffs)]] [] (.agg [.int .i64 out.Const, .ow 1000]) [(1000, .arr ⟨false, true⟩ 1 2 (List.map a_i64 out.Coeffs))] := by
  refine ACall.intro Try.func103 rfl Try.ntmps103 rfl (fun F hF => ?_)
  unfold m_spec_l02Own at hm
  refine T_seq ?_
  refine T_region ?_
  refine TL_alloc 11 z75 rfl rfl rfl rfl rfl rfl rfl ?_
  refine TL_nil ?_
  refine T_seq ?_
  refine T_drawZ [10] mix (by kernel_rfl) rfl ?_
  obtain ⟨r11, hr11, hm⟩ := bindS hm
  refine TZ_pure 0 (by kernel_rfl) rfl rfl rfl rfl rfl (op_move rfl) ?_
  refine TZ_pure 1 (by kernel_rfl) rfl rfl rfl rfl rfl (op_nilCheck rfl rfl) ?_
  refine TZ_pure 2 (by kernel_rfl) rfl rfl rfl rfl rfl (op_fieldAddrC (n := 1) fa75_0 rfl rfl rfl) ?_
  refine TZ_pure 3 (by kernel_rfl) rfl rfl rfl rfl rfl (op_load_one ag2 rfl rfl) ?_
  refine TZ_pure 4 (by kernel_rfl) rfl rfl rfl rfl rfl (op_move rfl) ?_
  refine TZ_pure 5 (by kernel_rfl) rfl rfl rfl rfl rfl (op_nilCheck rfl rfl) ?_
  refine TZ_pure 6 (by kernel_rfl) rfl rfl rfl rfl rfl (op_fieldAddr fa75_1 rfl rfl) ?_
  refine TZ_pure 7 (by kernel_rfl) rfl rfl rfl rfl rfl (op_load_one ag29 rfl rfl) ?_
  refine TZ_one 8 (by kernel_rfl) rfl ?_
  refine TL_callO [(1000, 13)] (c_spec_l00Own p0.Coeffs r11 hr11) Try.call126 rfl rfl rfl rfl rfl rfl rfl rfl rfl rfl rfl rfl rfl ?_
  refine TL_nil ?_
  refine TZ_pure 9 (by kernel_rfl) rfl rfl rfl rfl rfl (op_buildP pl75 z75 rfl rfl rfl rfl rfl) ?_
  refine TZ_one 10 (by kernel_rfl) rfl ?_
  refine TL_store_box sz75 rfl rfl rfl rfl rfl rfl rfl rfl rfl ?_
  refine TL_nil ?_
  refine TZ_done (by kernel_rfl) ?_
  refine T_keepH [2] [11, 13] rfl rfl rfl rfl (by rw [hF]; rfl) ?_
  refine T_ren [(11, 11), (13, 1000)] rfl rfl rfl (by rw [hF]; rfl) ?_
  refine T_ret ?_
  obtain rfl := someI hm
  refine ⟨[_], [1000], ⟨⟨_, _, rfl, rfl, .inr ⟨ag75, _, _, sz75, rfl, rfl⟩⟩, trivial⟩, ?_, rfl, rfl, rfl, rfl⟩
  rfl
theorem c_spec_l02OwnAll (p0 : List Term) (out : List Term) (hm : m_spec_l02OwnAll p0 = some out) : ACall Try.prog 65 [.sl 2 (List.map a_Term p0)] [] (.ow 1000) [(1000, .arr ⟨false, true⟩ 2 75 (List.map a_Term out))] := by
  refine ACall.intro Try.func65 rfl Try.ntmps65 rfl (fun F hF => ?_)
  unfold m_spec_l02OwnAll at hm
  refine T_seq ?_
  refine T_region ?_
  refine TL_pure rfl rfl rfl rfl (op_assign rfl) ?_
  refine TL_nil ?_
  refine T_seq ?_
  refine T_region ?_
  refine TL_buildSlice 11 (es := List.map a_Term ([] : List Term)) el24 z75 rfl rfl rfl rfl rfl rfl rfl rfl rfl ?_
  refine TL_pure rfl rfl rfl rfl (op_assign rfl) ?_
  refine TL_nil ?_
  refine T_seq ?_
  refine T_seq ?_
  refine T_region ?_
  refine TL_pure rfl rfl rfl rfl (op_assign rfl) ?_
  refine TL_nil ?_
  refine T_block ?_
  refine T_keepH [0, 3, 4] [11] rfl rfl rfl rfl (by rw [hF]; rfl) ?_
  refine T_deepen 11 (p' := false) (List.map a_Term ([] : List Term)) (by rw [hF]; rfl) rfl (ElR.nil) rfl rfl rfl ?_
  refine T_loop ?_
  obtain ⟨u0, hl0, hm⟩ := bindS hm
  refine TR_iter2 (m_spec_l02OwnAll_L0 p0) (fun (s0 : (List Term) × Int) => ⟨[(0, .sl 2 (List.map a_Term p0)), (3, .ow 11), (4, .int .i64 s0.2)], [(11, .arr ⟨false, true⟩ 2 75 (List.map a_Term s0.1))]⟩) (fun u0 => .exit 0) (fun u0 => ⟨[(3, .ow 11)], [(11, .arr ⟨false, true⟩ 2 75 (List.map a_Term u0))]⟩) (fun u0 => m_spec_l02OwnAll_A0 u0 = some out) hl0 hm (fun u0 hm => ?_) (fun hx0 s0 c0 hm hc0 => ?_)
  · unfold m_spec_l02OwnAll_A0 at hm
    refine T_seq ?_
    refine T_region ?_
    refine TL_pure rfl rfl rfl rfl (op_move rfl) ?_
    refine TL_pure rfl rfl rfl rfl (op_assign rfl) ?_
    refine TL_nil ?_
    refine T_keepH [2] [11] rfl rfl rfl rfl (by rw [hF]; rfl) ?_
    refine T_ren [(11, 1000)] rfl rfl rfl (by rw [hF]; rfl) ?_
    refine T_ret ?_
    obtain rfl := someI hm
    refine ⟨[_], [1000], ⟨rfl, trivial⟩, ?_, rfl, rfl, rfl, rfl⟩
    rfl
  · unfold m_spec_l02OwnAll_L0 at hm
    refine T_seq ?_
    refine T_seq ?_
    refine T_region ?_
    refine TL_pure rfl rfl rfl rfl (op_move rfl) ?_
    refine TL_pure rfl rfl rfl rfl (op_move rfl) ?_
    refine TL_pure rfl rfl rfl rfl (op_lenT Try.underlying24 rfl (List.length_map _)) ?_
    refine TL_fact (fun _ _ _ hr => RelP.slLen (i := 7) rfl hr) (fun hlen8 => ?_)
    rw [List.length_map] at hlen8
    refine TL_pure rfl rfl rfl rfl (op_lss rfl rfl) ?_
    refine TL_nil ?_
    refine T_cond rfl (fun hq => ?_) (fun hq => ?_)
    · replace hm := condT hq hm
      refine T_skip ?_
      refine T_seq ?_
      refine T_block ?_
      refine T_region ?_
      refine TL_pure rfl rfl rfl rfl (op_move rfl) ?_
      refine TL_pure rfl rfl rfl rfl (op_move rfl) ?_
      refine TL_pure rfl rfl rfl rfl (op_move rfl) ?_
      obtain ⟨x15, hx15, hm⟩ := bindS hm
      refine TL_pure rfl rfl rfl rfl (op_indexT el24 rfl rfl hx15 rfl) ?_
      obtain ⟨r16, hr16, hm⟩ := bindS hm
      refine TL_callO [(1000, 16)] (c_spec_l02Own x15 r16 hr16) Try.call103 rfl rfl rfl rfl rfl rfl rfl rfl rfl rfl rfl rfl rfl ?_
      refine TL_buildSliceD (ids := [16]) (es := List.map a_Term [r16]) 17 el24 z75 rfl rfl rfl rfl rfl rfl (by rw [hF]; intro j hj; simp only [List.mem_cons, List.not_mem_nil, or_false] at hj; rcases hj with rfl <;> rfl) rfl rfl rfl rfl rfl rfl ?_
      obtain ⟨q18, hq18, hm⟩ := bindS hm
      refine TL_appendDT (f := a_Term) (a := s0.1) (b := [r16]) el24 z75 rfl rfl rfl rfl rfl rfl rfl rfl (by rw [hF]; rfl) (capI_spec hq18) rfl rfl rfl rfl rfl ?_
      refine TL_pure rfl rfl rfl rfl (op_assign rfl) ?_
      refine TL_nil ?_
      refine T_region ?_
      refine TL_pure rfl rfl rfl rfl (op_move rfl) ?_
      refine TL_pure rfl rfl rfl rfl (op_addW rfl rfl) ?_
      refine TL_pure rfl rfl rfl rfl (op_assign rfl) ?_
      refine TL_nil ?_
      refine TR_keepH [0, 3, 4] [11] rfl rfl rfl rfl (by rw [hF]; rfl) ?_
      obtain rfl := someI hm
      have hn := CtlOK_next hc0
      exact hn _ rfl
    · replace hm := condF hq hm
      refine T_keepH [3] [11] rfl rfl rfl rfl (by rw [hF]; rfl) ?_
      refine T_exit ?_
      obtain rfl := someI hm
      have hn := CtlOK_out hc0
      exact hx0 s0.1 hn
theorem c_spec_l03OwnStmt (p0 : Stmt) (out : Stmt) (hm : m_spec_l03OwnStmt p0 = some out) : ACall Try.prog 95 [.cp [.int .i64 p0.Kind, .int .i64 p0.Var, .int .i64 p0.Event, .int .i64 p0.Sum.Const, .sl 1 (List.map a_i64 p0.Sum.Coeffs), .int .i64 p0.Index.Const, .sl 1 (List.map a_i64 p0.Index.Coeffs), .sl 2 (List.map a_Term p0.Facts)]] [] (.agg [.int .i64 out.Kind, .int .i64 out.Var, .int .i64 out.Event, .int .i64 out.Sum.Const, .ow 1000, .int .i64 out.Index.Const, .ow 1001, .ow 1002]) [(1000, .arr ⟨false, true⟩ 1 2 (List.map a_i64 out.Sum.Coeffs)), (1001, .arr ⟨false, true⟩ 1 2 (List.map a_i64 out.Index.Coeffs)), (1002, .arr ⟨false, true⟩ 2 75 (List.map a_Term out.Facts))] := by
  refine ACall.intro Try.func95 rfl Try.ntmps95 rfl (fun F hF => ?_)
  unfold m_spec_l03OwnStmt at hm
  refine T_seq ?_
  refine T_region ?_
  refine TL_alloc 11 z77 rfl rfl rfl rfl rfl rfl rfl ?_
  refine TL_nil ?_
  refine T_seq ?_
  refine T_drawZ [26] mix (by kernel_rfl) rfl ?_
  obtain ⟨r18, hr18, hm⟩ := bindS hm
  obtain ⟨r22, hr22, hm⟩ := bindS hm
  obtain ⟨r27, hr27, hm⟩ := bindS hm
  refine TZ_pure 0 (by kernel_rfl) rfl rfl rfl rfl rfl (op_move rfl) ?_
  refine TZ_pure 1 (by kernel_rfl) rfl rfl rfl rfl rfl (op_nilCheck rfl rfl) ?_
  refine TZ_pure 2 (by kernel_rfl) rfl rfl rfl rfl rfl (op_fieldAddrC (n := 1) fa77_0 rfl rfl rfl) ?_
  refine TZ_pure 3 (by kernel_rfl) rfl rfl rfl rfl rfl (op_load_one ag2 rfl rfl) ?_
  refine TZ_pure 4 (by kernel_rfl) rfl rfl rfl rfl rfl (op_move rfl) ?_
  refine TZ_pure 5 (by kernel_rfl) rfl rfl rfl rfl rfl (op_nilCheck rfl rfl) ?_
  refine TZ_pure 6 (by kernel_rfl) rfl rfl rfl rfl rfl (op_fieldAddrC (n := 1) fa77_1 rfl rfl rfl) ?_
  refine TZ_pure 7 (by kernel_rfl) rfl rfl rfl rfl rfl (op_load_one ag2 rfl rfl) ?_
  refine TZ_pure 8 (by kernel_rfl) rfl rfl rfl rfl rfl (op_move rfl) ?_
  refine TZ_pure 9 (by kernel_rfl) rfl rfl rfl rfl rfl (op_nilCheck rfl rfl) ?_
  refine TZ_pure 10 (by kernel_rfl) rfl rfl rfl rfl rfl (op_fieldAddrC (n := 1) fa77_2 rfl rfl rfl) ?_
  refine TZ_pure 11 (by kernel_rfl) rfl rfl rfl rfl rfl (op_load_one ag2 rfl rfl) ?_
  refine TZ_pure 12 (by kernel_rfl) rfl rfl rfl rfl rfl (op_move rfl) ?_
  refine TZ_pure 13 (by kernel_rfl) rfl rfl rfl rfl rfl (op_nilCheck rfl rfl) ?_
  refine TZ_pure 14 (by kernel_rfl) rfl rfl rfl rfl rfl (op_fieldAddrC (n := 2) fa77_3 rfl rfl rfl) ?_
  refine TZ_pure 16 (by kernel_rfl) rfl rfl rfl rfl rfl (op_move rfl) ?_
  refine TZ_pure 17 (by kernel_rfl) rfl rfl rfl rfl rfl (op_nilCheck rfl rfl) ?_
  refine TZ_pure 18 (by kernel_rfl) rfl rfl rfl rfl rfl (op_fieldAddrC (n := 2) fa77_4 rfl rfl rfl) ?_
  refine TZ_pure 20 (by kernel_rfl) rfl rfl rfl rfl rfl (op_move rfl) ?_
  refine TZ_pure 21 (by kernel_rfl) rfl rfl rfl rfl rfl (op_nilCheck rfl rfl) ?_
  refine TZ_pure 22 (by kernel_rfl) rfl rfl rfl rfl rfl (op_fieldAddr fa77_5 rfl rfl) ?_
  refine TZ_pure 23 (by kernel_rfl) rfl rfl rfl rfl rfl (op_load_one ag24 rfl rfl) ?_
  refine TZ_one 15 (by kernel_rfl) rfl ?_
  refine TL_callO [(1000, 15)] (c_spec_l02Own p0.Sum r18 hr18) Try.call103 rfl rfl rfl rfl rfl rfl rfl rfl rfl rfl rfl rfl rfl ?_
  refine TL_nil ?_
  refine TZ_one 19 (by kernel_rfl) rfl ?_
  refine TL_callO [(1000, 16)] (c_spec_l02Own p0.Index r22 hr22) Try.call103 rfl rfl rfl rfl rfl rfl rfl rfl rfl rfl rfl rfl rfl ?_
  refine TL_nil ?_
  refine TZ_one 24 (by kernel_rfl) rfl ?_
  refine TL_callO [(1000, 17)] (c_spec_l02OwnAll p0.Facts r27 hr27) Try.call65 rfl rfl rfl rfl rfl rfl rfl rfl rfl rfl rfl rfl rfl ?_
  refine TL_nil ?_
  refine TZ_pure 25 (by kernel_rfl) rfl rfl rfl rfl rfl (op_buildP pl77 z77 rfl rfl rfl rfl rfl) ?_
  refine TZ_one 26 (by kernel_rfl) rfl ?_
  refine TL_store_box sz77 rfl rfl rfl rfl rfl rfl rfl rfl rfl ?_
  refine TL_nil ?_
  refine TZ_done (by kernel_rfl) ?_
  refine T_keepH [2] [11, 15, 16, 17] rfl rfl rfl rfl (by rw [hF]; rfl) ?_
  refine T_ren [(11, 11), (15, 1000), (16, 1001), (17, 1002)] rfl rfl rfl (by rw [hF]; rfl) ?_
  refine T_ret ?_
  obtain rfl := someI hm
  refine ⟨[_], [1000, 1001, 1002], ⟨⟨_, _, rfl, rfl, .inr ⟨ag77, _, _, sz77, rfl, rfl⟩⟩, trivial⟩, ?_, rfl, rfl, rfl, rfl⟩
  rfl
theorem c_spec_l03Alone (p0 : Term) (p1 : Int) (out : Bool) (hm : m_spec_l03Alone p0 p1 = some out) : ACall Try.prog 110 [.cp [.int .i64 p0.Const, .sl 1 (List.map a_i64 p0.Coeffs)], .int .i64 p1] [] (.bool out) [] := by
  refine ACall.intro Try.func110 rfl Try.ntmps110 rfl (fun F hF => ?_)
  unfold m_spec_l03Alone at hm
  refine T_seq ?_
  refine T_region ?_
  refine TL_pure rfl rfl rfl rfl (op_assign rfl) ?_
  refine TL_nil ?_
  refine T_seq ?_
  refine T_seq ?_
  refine T_region ?_
  refine TL_pure rfl rfl rfl rfl (op_move rfl) ?_
  refine TL_pure rfl rfl rfl rfl (op_nilCheck rfl rfl) ?_
  refine TL_pure rfl rfl rfl rfl (op_fieldAddrC (n := 1) fa75_0 rfl rfl rfl) ?_
  refine TL_pure rfl rfl rfl rfl (op_load_one ag2 rfl rfl) ?_
  refine TL_pure rfl rfl rfl rfl (op_neq rfl rfl) ?_
  refine TL_pure rfl rfl rfl rfl (op_move rfl) ?_
  refine TL_join 9 (fun _ : Unit => ⟨[(0, .cp [.int .i64 p0.Const, .sl 1 (List.map a_i64 p0.Coeffs)]), (1, .int .i64 p1), (20, .bool ((!decide (p0.Const = (0 : Int))) || (!decide ((p0.Coeffs.length : Int) = (w64 (p1 + (1 : Int)))))))], []⟩) (fun _ => True) (fun _ _ => ?_) (fun hjj => ?_)
  · refine TL_nil ?_
    refine T_cond rfl (fun hq => ?_) (fun hq => ?_)
    · replace hm := condT hq hm
      refine T_seq ?_
      refine T_region ?_
      refine TL_pure rfl rfl rfl rfl (op_assign rfl) ?_
      refine TL_nil ?_
      refine T_keepH [4] [] rfl rfl rfl rfl (by rw [hF]; rfl) ?_
      refine T_ret ?_
      obtain rfl := someI hm
      refine ⟨[_], [], ⟨rfl, trivial⟩, ?_, rfl, rfl, rfl, rfl⟩
      rfl
    · replace hm := condF hq hm
      refine T_skip ?_
      refine T_seq ?_
      refine T_seq ?_
      refine T_region ?_
      refine TL_pure rfl rfl rfl rfl (op_assign rfl) ?_
      refine TL_nil ?_
      refine T_block ?_
      refine T_keepH [0, 1, 5] [] rfl rfl rfl rfl (by rw [hF]; rfl) ?_
      refine T_loop ?_
      obtain ⟨u0, hl0, hm⟩ := bindS hm
      refine TR_iter2 (m_spec_l03Alone_L0 p0 p1) (fun (s0 : Int) => ⟨[(0, .cp [.int .i64 p0.Const, .sl 1 (List.map a_i64 p0.Coeffs)]), (1, .int .i64 p1), (5, .int .i64 s0)], []⟩) (fun u0 => match u0 with | .inl u0 => .exit 0 | .inr u0 => .ret) (fun u0 => match u0 with | .inl u0 => ⟨[(0, .cp [.int .i64 p0.Const, .sl 1 (List.map a_i64 p0.Coeffs)]), (1, .int .i64 p1)], []⟩ | .inr u0 => ⟨[(4, .bool u0)], []⟩) (fun u0 => m_spec_l03Alone_A0 p0 p1 u0 = some out) hl0 hm (fun u0 hm => ?_) (fun hx0 s0 c0 hm hc0 => ?_)
      · rcases u0 with u0 | u0
        · unfold m_spec_l03Alone_A0 at hm
          refine T_seq ?_
          refine T_region ?_
          refine TL_pure rfl rfl rfl rfl (op_move rfl) ?_
          refine TL_pure rfl rfl rfl rfl (op_nilCheck rfl rfl) ?_
          refine TL_pure rfl rfl rfl rfl (op_fieldAddr fa75_1 rfl rfl) ?_
          refine TL_pure rfl rfl rfl rfl (op_load_one ag29 rfl rfl) ?_
          refine TL_pure rfl rfl rfl rfl (op_move rfl) ?_
          obtain ⟨x39, hx39, hm⟩ := bindS hm
          refine TL_pure rfl rfl rfl rfl (op_indexT el29 rfl rfl hx39 rfl) ?_
          refine TL_pure rfl rfl rfl rfl (op_load_one ag2 rfl rfl) ?_
          refine TL_pure rfl rfl rfl rfl (op_eql rfl rfl) ?_
          refine TL_pure rfl rfl rfl rfl (op_assign rfl) ?_
          refine TL_nil ?_
          refine T_keepH [4] [] rfl rfl rfl rfl (by rw [hF]; rfl) ?_
          refine T_ret ?_
          obtain rfl := someI hm
          refine ⟨[_], [], ⟨rfl, trivial⟩, ?_, rfl, rfl, rfl, rfl⟩
          rfl
        · unfold m_spec_l03Alone_A0 at hm
          obtain rfl := someI hm
          refine ⟨[_], [], ⟨rfl, trivial⟩, ?_, rfl, rfl, rfl, rfl⟩
          rfl
      · unfold m_spec_l03Alone_L0 at hm
        refine T_seq ?_
        refine T_seq ?_
        refine T_region ?_
        refine TL_pure rfl rfl rfl rfl (op_move rfl) ?_
        refine TL_pure rfl rfl rfl rfl (op_move rfl) ?_
        refine TL_pure rfl rfl rfl rfl (op_lss rfl rfl) ?_
        refine TL_nil ?_
        refine T_cond rfl (fun hq => ?_) (fun hq => ?_)
        · replace hm := condT hq hm
          refine T_skip ?_
          refine T_seq ?_
          refine T_block ?_
          refine T_seq ?_
          refine T_region ?_
          refine TL_pure rfl rfl rfl rfl (op_move rfl) ?_
          refine TL_pure rfl rfl rfl rfl (op_nilCheck rfl rfl) ?_
          refine TL_pure rfl rfl rfl rfl (op_fieldAddr fa75_1 rfl rfl) ?_
          refine TL_pure rfl rfl rfl rfl (op_load_one ag29 rfl rfl) ?_
          refine TL_pure rfl rfl rfl rfl (op_move rfl) ?_
          obtain ⟨x31, hx31, hm⟩ := bindS hm
          refine TL_pure rfl rfl rfl rfl (op_indexT el29 rfl rfl hx31 rfl) ?_
          refine TL_pure rfl rfl rfl rfl (op_load_one ag2 rfl rfl) ?_
          refine TL_pure rfl rfl rfl rfl (op_neq rfl rfl) ?_
          refine TL_nil ?_
          refine T_cond rfl (fun hq => ?_) (fun hq => ?_)
          · replace hm := condT hq hm
            refine T_seq ?_
            refine T_region ?_
            refine TL_pure rfl rfl rfl rfl (op_assign rfl) ?_
            refine TL_nil ?_
            refine T_keepH [4] [] rfl rfl rfl rfl (by rw [hF]; rfl) ?_
            refine T_ret ?_
            obtain rfl := someI hm
            have hn := CtlOK_out hc0
            exact hx0 (.inr false) hn
          · replace hm := condF hq hm
            refine T_skip ?_
            refine T_region ?_
            refine TL_pure rfl rfl rfl rfl (op_move rfl) ?_
            refine TL_pure rfl rfl rfl rfl (op_addW rfl rfl) ?_
            refine TL_pure rfl rfl rfl rfl (op_assign rfl) ?_
            refine TL_nil ?_
            refine TR_keepH [0, 1, 5] [] rfl rfl rfl rfl (by rw [hF]; rfl) ?_
            obtain rfl := someI hm
            have hn := CtlOK_next hc0
            exact hn _ rfl
        · replace hm := condF hq hm
          refine T_keepH [0, 1] [] rfl rfl rfl rfl (by rw [hF]; rfl) ?_
          refine T_exit ?_
          obtain rfl := someI hm
          have hn := CtlOK_out hc0
          exact hx0 (.inl ()) hn
  · refine TL_split 11 rfl rfl rfl (fun hq => ?_) (fun hq => ?_)
    · refine TL_pass rfl rfl rfl rfl rfl rfl rfl ?_
      refine TL_pass rfl rfl rfl rfl rfl rfl rfl ?_
      refine TL_pass rfl rfl rfl rfl rfl rfl rfl ?_
      refine TL_pass rfl rfl rfl rfl rfl rfl rfl ?_
      refine TL_pass rfl rfl rfl rfl rfl rfl rfl ?_
      refine TL_pass rfl rfl rfl rfl rfl rfl rfl ?_
      refine TL_pass rfl rfl rfl rfl rfl rfl rfl ?_
      refine TL_pass rfl rfl rfl rfl rfl rfl rfl ?_
      refine TL_pure rfl rfl rfl rfl (op_pick_true rfl rfl) ?_
      refine TL_keepH [0, 1, 20] [] rfl rfl rfl rfl (by rw [hF]; rfl) ?_
      exact TL_cast _ (by first | (rw [hq, Bool.true_or]; done) | (rw [hq]; rfl)) (hjj () trivial)
    · refine TL_want rfl rfl ?_
      refine TL_pure rfl rfl rfl rfl (op_move rfl) ?_
      refine TL_want rfl rfl ?_
      refine TL_pure rfl rfl rfl rfl (op_nilCheck rfl rfl) ?_
      refine TL_want rfl rfl ?_
      refine TL_pure rfl rfl rfl rfl (op_fieldAddr fa75_1 rfl rfl) ?_
      refine TL_want rfl rfl ?_
      refine TL_pure rfl rfl rfl rfl (op_load_one ag29 rfl rfl) ?_
      refine TL_want rfl rfl ?_
      refine TL_pure rfl rfl rfl rfl (op_lenT Try.underlying29 rfl (List.length_map _)) ?_
      refine TL_fact (fun _ _ _ hr => RelP.slLen (i := 15) rfl hr) (fun hlen16 => ?_)
      rw [List.length_map] at hlen16
      refine TL_want rfl rfl ?_
      refine TL_pure rfl rfl rfl rfl (op_move rfl) ?_
      refine TL_want rfl rfl ?_
      refine TL_pure rfl rfl rfl rfl (op_addW rfl rfl) ?_
      refine TL_want rfl rfl ?_
      refine TL_pure rfl rfl rfl rfl (op_neq rfl rfl) ?_
      refine TL_pure rfl rfl rfl rfl (op_pick_false rfl rfl) ?_
      refine TL_keepH [0, 1, 20] [] rfl rfl rfl rfl (by rw [hF]; rfl) ?_
      exact TL_cast _ (by first | (rw [hq, Bool.false_or]; done) | (rw [hq]; rfl)) (hjj () trivial)
theorem c_spec_l00Same (p0 : List Int) (p1 : List Int) (out : Bool) (hm : m_spec_l00Same p0 p1 = some out) : ACall Try.prog 143 [.sl 1 (List.map a_i64 p0), .sl 1 (List.map a_i64 p1)] [] (.bool out) [] := by
  refine ACall.intro Try.func143 rfl Try.ntmps143 rfl (fun F hF => ?_)
  unfold m_spec_l00Same at hm
  refine T_seq ?_
  refine T_region ?_
  refine TL_pure rfl rfl rfl rfl (op_assign rfl) ?_
  refine TL_nil ?_
  refine T_seq ?_
  refine T_seq ?_
  refine T_region ?_
  refine TL_pure rfl rfl rfl rfl (op_move rfl) ?_
  refine TL_pure rfl rfl rfl rfl (op_lenT Try.underlying29 rfl (List.length_map _)) ?_
  refine TL_fact (fun _ _ _ hr => RelP.slLen (i := 6) rfl hr) (fun hlen7 => ?_)
  rw [List.length_map] at hlen7
  refine TL_pure rfl rfl rfl rfl (op_move rfl) ?_
  refine TL_pure rfl rfl rfl rfl (op_lenT Try.underlying29 rfl (List.length_map _)) ?_
  refine TL_fact (fun _ _ _ hr => RelP.slLen (i := 8) rfl hr) (fun hlen9 => ?_)
  rw [List.length_map] at hlen9
  refine TL_pure rfl rfl rfl rfl (op_neq rfl rfl) ?_
  refine TL_nil ?_
  refine T_cond rfl (fun hq => ?_) (fun hq => ?_)
  · replace hm := condT hq hm
    refine T_seq ?_
    refine T_region ?_
    refine TL_pure rfl rfl rfl rfl (op_assign rfl) ?_
    refine TL_nil ?_
    refine T_keepH [4] [] rfl rfl rfl rfl (by rw [hF]; rfl) ?_
    refine T_ret ?_
    obtain rfl := someI hm
    refine ⟨[_], [], ⟨rfl, trivial⟩, ?_, rfl, rfl, rfl, rfl⟩
    rfl
  · replace hm := condF hq hm
    refine T_skip ?_
    refine T_seq ?_
    refine T_seq ?_
    refine T_region ?_
    refine TL_pure rfl rfl rfl rfl (op_assign rfl) ?_
    refine TL_nil ?_
    refine T_block ?_
    refine T_keepH [0, 1, 5] [] rfl rfl rfl rfl (by rw [hF]; rfl) ?_
    refine T_loop ?_
    obtain ⟨u0, hl0, hm⟩ := bindS hm
    refine TR_iter2 (m_spec_l00Same_L0 p0 p1) (fun (s0 : Int) => ⟨[(0, .sl 1 (List.map a_i64 p0)), (1, .sl 1 (List.map a_i64 p1)), (5, .int .i64 s0)], []⟩) (fun u0 => match u0 with | .inl u0 => .exit 0 | .inr u0 => .ret) (fun u0 => match u0 with | .inl u0 => ⟨[], []⟩ | .inr u0 => ⟨[(4, .bool u0)], []⟩) (fun u0 => m_spec_l00Same_A0 u0 = some out) hl0 hm (fun u0 hm => ?_) (fun hx0 s0 c0 hm hc0 => ?_)
    · rcases u0 with u0 | u0
      · unfold m_spec_l00Same_A0 at hm
        refine T_seq ?_
        refine T_region ?_
        refine TL_pure rfl rfl rfl rfl (op_assign rfl) ?_
        refine TL_nil ?_
        refine T_keepH [4] [] rfl rfl rfl rfl (by rw [hF]; rfl) ?_
        refine T_ret ?_
        obtain rfl := someI hm
        refine ⟨[_], [], ⟨rfl, trivial⟩, ?_, rfl, rfl, rfl, rfl⟩
        rfl
      · unfold m_spec_l00Same_A0 at hm
        obtain rfl := someI hm
        refine ⟨[_], [], ⟨rfl, trivial⟩, ?_, rfl, rfl, rfl, rfl⟩
        rfl
    · unfold m_spec_l00Same_L0 at hm
      refine T_seq ?_
      refine T_seq ?_
      refine T_region ?_
      refine TL_pure rfl rfl rfl rfl (op_move rfl) ?_
      refine TL_pure rfl rfl rfl rfl (op_move rfl) ?_
      refine TL_pure rfl rfl rfl rfl (op_lenT Try.underlying29 rfl (List.length_map _)) ?_
      refine TL_pure rfl rfl rfl rfl (op_lss rfl rfl) ?_
      refine TL_nil ?_
      refine T_cond rfl (fun hq => ?_) (fun hq => ?_)
      · replace hm := condT hq hm
        refine T_skip ?_
        refine T_seq ?_
        refine T_block ?_
        refine T_seq ?_
        refine T_drawZ [] mix (by kernel_rfl) rfl ?_
        obtain ⟨x19, hx19, hm⟩ := bindS hm
        obtain ⟨x23, hx23, hm⟩ := bindS hm
        refine TZ_pure 0 (by kernel_rfl) rfl rfl rfl rfl rfl (op_move rfl) ?_
        refine TZ_pure 1 (by kernel_rfl) rfl rfl rfl rfl rfl (op_move rfl) ?_
        refine TZ_pure 2 (by kernel_rfl) rfl rfl rfl rfl rfl (op_indexT el29 rfl rfl hx19 rfl) ?_
        refine TZ_pure 3 (by kernel_rfl) rfl rfl rfl rfl rfl (op_load_one ag2 rfl rfl) ?_
        refine TZ_pure 4 (by kernel_rfl) rfl rfl rfl rfl rfl (op_move rfl) ?_
        refine TZ_pure 5 (by kernel_rfl) rfl rfl rfl rfl rfl (op_move rfl) ?_
        refine TZ_pure 6 (by kernel_rfl) rfl rfl rfl rfl rfl (op_indexT el29 rfl rfl hx23 rfl) ?_
        refine TZ_pure 7 (by kernel_rfl) rfl rfl rfl rfl rfl (op_load_one ag2 rfl rfl) ?_
        refine TZ_pure 8 (by kernel_rfl) rfl rfl rfl rfl rfl (op_neq rfl rfl) ?_
        refine TZ_done (by kernel_rfl) ?_
        refine T_cond rfl (fun hq => ?_) (fun hq => ?_)
        · replace hm := condT hq hm
          refine T_seq ?_
          refine T_region ?_
          refine TL_pure rfl rfl rfl rfl (op_assign rfl) ?_
          refine TL_nil ?_
          refine T_keepH [4] [] rfl rfl rfl rfl (by rw [hF]; rfl) ?_
          refine T_ret ?_
          obtain rfl := someI hm
          have hn := CtlOK_out hc0
          exact hx0 (.inr false) hn
        · replace hm := condF hq hm
          refine T_skip ?_
          refine T_region ?_
          refine TL_pure rfl rfl rfl rfl (op_move rfl) ?_
          refine TL_pure rfl rfl rfl rfl (op_addW rfl rfl) ?_
          refine TL_pure rfl rfl rfl rfl (op_assign rfl) ?_
          refine TL_nil ?_
          refine TR_keepH [0, 1, 5] [] rfl rfl rfl rfl (by rw [hF]; rfl) ?_
          obtain rfl := someI hm
          have hn := CtlOK_next hc0
          exact hn _ rfl
      · replace hm := condF hq hm
        refine T_keepH [] [] rfl rfl rfl rfl (by rw [hF]; rfl) ?_
        refine T_exit ?_
        obtain rfl := someI hm
        have hn := CtlOK_out hc0
        exact hx0 (.inl ()) hn
theorem c_spec_l02Same (p0 : Term) (p1 : Term) (out : Bool) (hm : m_spec_l02Same p0 p1 = some out) : ACall Try.prog 133 [.cp [.int .i64 p0.Const, .sl 1 (List.map a_i64 p0.Coeffs)], .cp [.int .i64 p1.Const, .sl 1 (List.map a_i64 p1.Coeffs)]] [] (.bool out) [] := by
  refine ACall.intro Try.func133 rfl Try.ntmps133 rfl (fun F hF => ?_)
  unfold m_spec_l02Same at hm
  refine T_seq ?_
  refine T_region ?_
  refine TL_pure rfl rfl rfl rfl (op_assign rfl) ?_
  refine TL_nil ?_
  refine T_seq ?_
  refine T_drawZ [] mix (by kernel_rfl) rfl ?_
  refine TZ_pure 0 (by kernel_rfl) rfl rfl rfl rfl rfl (op_move rfl) ?_
  refine TZ_pure 1 (by kernel_rfl) rfl rfl rfl rfl rfl (op_nilCheck rfl rfl) ?_
  refine TZ_pure 2 (by kernel_rfl) rfl rfl rfl rfl rfl (op_fieldAddrC (n := 1) fa75_0 rfl rfl rfl) ?_
  refine TZ_pure 3 (by kernel_rfl) rfl rfl rfl rfl rfl (op_load_one ag2 rfl rfl) ?_
  refine TZ_pure 4 (by kernel_rfl) rfl rfl rfl rfl rfl (op_move rfl) ?_
  refine TZ_pure 5 (by kernel_rfl) rfl rfl rfl rfl rfl (op_nilCheck rfl rfl) ?_
  refine TZ_pure 6 (by kernel_rfl) rfl rfl rfl rfl rfl (op_fieldAddrC (n := 1) fa75_0 rfl rfl rfl) ?_
  refine TZ_pure 7 (by kernel_rfl) rfl rfl rfl rfl rfl (op_load_one ag2 rfl rfl) ?_
  refine TZ_pure 8 (by kernel_rfl) rfl rfl rfl rfl rfl (op_eql rfl rfl) ?_
  refine TZ_pure 9 (by kernel_rfl) rfl rfl rfl rfl rfl (op_move rfl) ?_
  refine TZ_split 14 rfl rfl rfl (fun hq => ?_) (fun hq => ?_)
  · replace hm := condT hq hm
    obtain ⟨r23, hr23, hm⟩ := bindS hm
    refine TZ_pureW 10 (by kernel_rfl) rfl rfl rfl rfl rfl rfl rfl (op_move rfl) ?_
    refine TZ_pureW 11 (by kernel_rfl) rfl rfl rfl rfl rfl rfl rfl (op_nilCheck rfl rfl) ?_
    refine TZ_pureW 12 (by kernel_rfl) rfl rfl rfl rfl rfl rfl rfl (op_fieldAddr fa75_1 rfl rfl) ?_
    refine TZ_pureW 13 (by kernel_rfl) rfl rfl rfl rfl rfl rfl rfl (op_load_one ag29 rfl rfl) ?_
    refine TZ_pureW 14 (by kernel_rfl) rfl rfl rfl rfl rfl rfl rfl (op_move rfl) ?_
    refine TZ_pureW 15 (by kernel_rfl) rfl rfl rfl rfl rfl rfl rfl (op_nilCheck rfl rfl) ?_
    refine TZ_pureW 16 (by kernel_rfl) rfl rfl rfl rfl rfl rfl rfl (op_fieldAddr fa75_1 rfl rfl) ?_
    refine TZ_pureW 17 (by kernel_rfl) rfl rfl rfl rfl rfl rfl rfl (op_load_one ag29 rfl rfl) ?_
    refine TZ_one 18 (by kernel_rfl) rfl ?_
    refine TL_want rfl rfl ?_
    refine TL_callF (c_spec_l00Same p0.Coeffs p1.Coeffs r23 hr23) Try.call143 rfl rfl rfl rfl rfl ?_
    refine TL_nil ?_
    refine TZ_pure 19 (by kernel_rfl) rfl rfl rfl rfl rfl (op_pick_true rfl rfl) ?_
    refine TZ_pure 20 (by kernel_rfl) rfl rfl rfl rfl rfl (op_assign rfl) ?_
    refine TZ_done (by kernel_rfl) ?_
    refine T_keepH [4] [] rfl rfl rfl rfl (by rw [hF]; rfl) ?_
    refine T_ret ?_
    obtain rfl := someI hm
    refine ⟨[_], [], ⟨rfl, trivial⟩, ?_, rfl, rfl, rfl, rfl⟩
    rfl
  · replace hm := condF hq hm
    refine TZ_pass 10 (by kernel_rfl) rfl rfl rfl rfl rfl rfl rfl rfl ?_
    refine TZ_pass 11 (by kernel_rfl) rfl rfl rfl rfl rfl rfl rfl rfl ?_
    refine TZ_pass 12 (by kernel_rfl) rfl rfl rfl rfl rfl rfl rfl rfl ?_
    refine TZ_pass 13 (by kernel_rfl) rfl rfl rfl rfl rfl rfl rfl rfl ?_
    refine TZ_pass 14 (by kernel_rfl) rfl rfl rfl rfl rfl rfl rfl rfl ?_
    refine TZ_pass 15 (by kernel_rfl) rfl rfl rfl rfl rfl rfl rfl rfl ?_
    refine TZ_pass 16 (by kernel_rfl) rfl rfl rfl rfl rfl rfl rfl rfl ?_
    refine TZ_pass 17 (by kernel_rfl) rfl rfl rfl rfl rfl rfl rfl rfl ?_
    refine TZ_one 18 (by kernel_rfl) rfl ?_
    refine TL_pass rfl rfl rfl rfl rfl rfl rfl ?_
    refine TL_nil ?_
    refine TZ_pure 19 (by kernel_rfl) rfl rfl rfl rfl rfl (op_pick_false rfl rfl) ?_
    refine TZ_pure 20 (by kernel_rfl) rfl rfl rfl rfl rfl (op_assign rfl) ?_
    refine TZ_done (by kernel_rfl) ?_
    refine T_keepH [4] [] rfl rfl rfl rfl (by rw [hF]; rfl) ?_
    refine T_ret ?_
    obtain rfl := someI hm
    refine ⟨[_], [], ⟨rfl, trivial⟩, ?_, rfl, rfl, rfl, rfl⟩
    rfl
theorem c_spec_l03Equal (p0 : List Stmt) (p1 : List Stmt) (out : Bool) (hm : m_spec_l03Equal p0 p1 = some out) : ACall Try.prog 111 [.sl 8 (List.map a_Stmt p0), .sl 8 (List.map a_Stmt p1)] [] (.bool out) [] := by
  refine ACall.intro Try.func111 rfl Try.ntmps111 rfl (fun F hF => ?_)
  unfold m_spec_l03Equal at hm
  refine T_seq ?_
  refine T_region ?_
  refine TL_pure rfl rfl rfl rfl (op_assign rfl) ?_
  refine TL_nil ?_
  refine T_seq ?_
  refine T_seq ?_
  refine T_region ?_
  refine TL_pure rfl rfl rfl rfl (op_move rfl) ?_
  refine TL_pure rfl rfl rfl rfl (op_lenT Try.underlying25 rfl (List.length_map _)) ?_
  refine TL_fact (fun _ _ _ hr => RelP.slLen (i := 9) rfl hr) (fun hlen10 => ?_)
  rw [List.length_map] at hlen10
  refine TL_pure rfl rfl rfl rfl (op_move rfl) ?_
  refine TL_pure rfl rfl rfl rfl (op_lenT Try.underlying25 rfl (List.length_map _)) ?_
  refine TL_fact (fun _ _ _ hr => RelP.slLen (i := 11) rfl hr) (fun hlen12 => ?_)
  rw [List.length_map] at hlen12
  refine TL_pure rfl rfl rfl rfl (op_neq rfl rfl) ?_
  refine TL_nil ?_
  refine T_cond rfl (fun hq => ?_) (fun hq => ?_)
  · replace hm := condT hq hm
    refine T_seq ?_
    refine T_region ?_
    refine TL_pure rfl rfl rfl rfl (op_assign rfl) ?_
    refine TL_nil ?_
    refine T_keepH [4] [] rfl rfl rfl rfl (by rw [hF]; rfl) ?_
    refine T_ret ?_
    obtain rfl := someI hm
    refine ⟨[_], [], ⟨rfl, trivial⟩, ?_, rfl, rfl, rfl, rfl⟩
    rfl
  · replace hm := condF hq hm
    refine T_skip ?_
    refine T_seq ?_
    refine T_seq ?_
    refine T_region ?_
    refine TL_pure rfl rfl rfl rfl (op_assign rfl) ?_
    refine TL_nil ?_
    refine T_block ?_
    refine T_keepH [0, 1, 5] [] rfl rfl rfl rfl (by rw [hF]; rfl) ?_
    refine T_loop ?_
    obtain ⟨u0, hl0, hm⟩ := bindS hm
    refine TR_iter2 (m_spec_l03Equal_L0 p0 p1) (fun (s0 : Int) => ⟨[(0, .sl 8 (List.map a_Stmt p0)), (1, .sl 8 (List.map a_Stmt p1)), (5, .int .i64 s0)], []⟩) (fun u0 => match u0 with | .inl u0 => .exit 0 | .inr u0 => .ret) (fun u0 => match u0 with | .inl u0 => ⟨[], []⟩ | .inr u0 => ⟨[(4, .bool u0)], []⟩) (fun u0 => m_spec_l03Equal_A0 u0 = some out) hl0 hm (fun u0 hm => ?_) (fun hx0 s0 c0 hm hc0 => ?_)
    · rcases u0 with u0 | u0
      · unfold m_spec_l03Equal_A0 at hm
        refine T_seq ?_
        refine T_region ?_
        refine TL_pure rfl rfl rfl rfl (op_assign rfl) ?_
        refine TL_nil ?_
        refine T_keepH [4] [] rfl rfl rfl rfl (by rw [hF]; rfl) ?_
        refine T_ret ?_
        obtain rfl := someI hm
        refine ⟨[_], [], ⟨rfl, trivial⟩, ?_, rfl, rfl, rfl, rfl⟩
        rfl
      · unfold m_spec_l03Equal_A0 at hm
        obtain rfl := someI hm
        refine ⟨[_], [], ⟨rfl, trivial⟩, ?_, rfl, rfl, rfl, rfl⟩
        rfl
    · unfold m_spec_l03Equal_L0 at hm
      refine T_seq ?_
      refine T_seq ?_
      refine T_region ?_
      refine TL_pure rfl rfl rfl rfl (op_move rfl) ?_
      refine TL_pure rfl rfl rfl rfl (op_move rfl) ?_
      refine TL_pure rfl rfl rfl rfl (op_lenT Try.underlying25 rfl (List.length_map _)) ?_
      refine TL_pure rfl rfl rfl rfl (op_lss rfl rfl) ?_
      refine TL_nil ?_
      refine T_cond rfl (fun hq => ?_) (fun hq => ?_)
      · replace hm := condT hq hm
        refine T_skip ?_
        refine T_seq ?_
        refine T_block ?_
        refine T_seq ?_
        refine T_region ?_
        refine TL_pure rfl rfl rfl rfl (op_move rfl) ?_
        refine TL_pure rfl rfl rfl rfl (op_move rfl) ?_
        obtain ⟨x22, hx22, hm⟩ := bindS hm
        refine TL_pure rfl rfl rfl rfl (op_indexT el25 rfl rfl hx22 rfl) ?_
        refine TL_pure rfl rfl rfl rfl (op_assign rfl) ?_
        refine TL_nil ?_
        refine T_seq ?_
        refine T_region ?_
        refine TL_pure rfl rfl rfl rfl (op_move rfl) ?_
        refine TL_pure rfl rfl rfl rfl (op_move rfl) ?_
        obtain ⟨x25, hx25, hm⟩ := bindS hm
        refine TL_pure rfl rfl rfl rfl (op_indexT el25 rfl rfl hx25 rfl) ?_
        refine TL_pure rfl rfl rfl rfl (op_assign rfl) ?_
        refine TL_nil ?_
        refine T_seq ?_
        refine T_seq ?_
        refine T_drawZ [] mix (by kernel_rfl) rfl ?_
        refine TZ_pure 0 (by kernel_rfl) rfl rfl rfl rfl rfl (op_move rfl) ?_
        refine TZ_pure 1 (by kernel_rfl) rfl rfl rfl rfl rfl (op_nilCheck rfl rfl) ?_
        refine TZ_pure 2 (by kernel_rfl) rfl rfl rfl rfl rfl (op_fieldAddrC (n := 1) fa77_0 rfl rfl rfl) ?_
        refine TZ_pure 3 (by kernel_rfl) rfl rfl rfl rfl rfl (op_load_one ag2 rfl rfl) ?_
        refine TZ_pure 4 (by kernel_rfl) rfl rfl rfl rfl rfl (op_move rfl) ?_
        refine TZ_pure 5 (by kernel_rfl) rfl rfl rfl rfl rfl (op_nilCheck rfl rfl) ?_
        refine TZ_pure 6 (by kernel_rfl) rfl rfl rfl rfl rfl (op_fieldAddrC (n := 1) fa77_0 rfl rfl rfl) ?_
        refine TZ_pure 7 (by kernel_rfl) rfl rfl rfl rfl rfl (op_load_one ag2 rfl rfl) ?_
        refine TZ_pure 8 (by kernel_rfl) rfl rfl rfl rfl rfl (op_neq rfl rfl) ?_
        refine TZ_pure 9 (by kernel_rfl) rfl rfl rfl rfl rfl (op_move rfl) ?_
        refine TZ_split 35 rfl rfl rfl (fun hq => ?_) (fun hq => ?_)
        · replace hm := condT hq hm
          refine TZ_pass 10 (by kernel_rfl) rfl rfl rfl rfl rfl rfl rfl rfl ?_
          refine TZ_pass 11 (by kernel_rfl) rfl rfl rfl rfl rfl rfl rfl rfl ?_
          refine TZ_pass 12 (by kernel_rfl) rfl rfl rfl rfl rfl rfl rfl rfl ?_
          refine TZ_pass 13 (by kernel_rfl) rfl rfl rfl rfl rfl rfl rfl rfl ?_
          refine TZ_pass 14 (by kernel_rfl) rfl rfl rfl rfl rfl rfl rfl rfl ?_
          refine TZ_pass 15 (by kernel_rfl) rfl rfl rfl rfl rfl rfl rfl rfl ?_
          refine TZ_pass 16 (by kernel_rfl) rfl rfl rfl rfl rfl rfl rfl rfl ?_
          refine TZ_pass 17 (by kernel_rfl) rfl rfl rfl rfl rfl rfl rfl rfl ?_
          refine TZ_pass 18 (by kernel_rfl) rfl rfl rfl rfl rfl rfl rfl rfl ?_
          refine TZ_pure 19 (by kernel_rfl) rfl rfl rfl rfl rfl (op_pick_true rfl rfl) ?_
          refine TZ_pure 20 (by kernel_rfl) rfl rfl rfl rfl rfl (op_move rfl) ?_
          refine TZ_pass 21 (by kernel_rfl) rfl rfl rfl rfl rfl rfl rfl rfl ?_
          refine TZ_pass 22 (by kernel_rfl) rfl rfl rfl rfl rfl rfl rfl rfl ?_
          refine TZ_pass 23 (by kernel_rfl) rfl rfl rfl rfl rfl rfl rfl rfl ?_
          refine TZ_pass 24 (by kernel_rfl) rfl rfl rfl rfl rfl rfl rfl rfl ?_
          refine TZ_pass 25 (by kernel_rfl) rfl rfl rfl rfl rfl rfl rfl rfl ?_
          refine TZ_pass 26 (by kernel_rfl) rfl rfl rfl rfl rfl rfl rfl rfl ?_
          refine TZ_pass 27 (by kernel_rfl) rfl rfl rfl rfl rfl rfl rfl rfl ?_
          refine TZ_pass 28 (by kernel_rfl) rfl rfl rfl rfl rfl rfl rfl rfl ?_
          refine TZ_pass 29 (by kernel_rfl) rfl rfl rfl rfl rfl rfl rfl rfl ?_
          refine TZ_pure 30 (by kernel_rfl) rfl rfl rfl rfl rfl (op_pick_true rfl rfl) ?_
          refine TZ_pure 31 (by kernel_rfl) rfl rfl rfl rfl rfl (op_move rfl) ?_
          refine TZ_pass 32 (by kernel_rfl) rfl rfl rfl rfl rfl rfl rfl rfl ?_
          refine TZ_pass 33 (by kernel_rfl) rfl rfl rfl rfl rfl rfl rfl rfl ?_
          refine TZ_pass 34 (by kernel_rfl) rfl rfl rfl rfl rfl rfl rfl rfl ?_
          refine TZ_pass 35 (by kernel_rfl) rfl rfl rfl rfl rfl rfl rfl rfl ?_
          refine TZ_pass 36 (by kernel_rfl) rfl rfl rfl rfl rfl rfl rfl rfl ?_
          refine TZ_pass 37 (by kernel_rfl) rfl rfl rfl rfl rfl rfl rfl rfl ?_
          refine TZ_one 38 (by kernel_rfl) rfl ?_
          refine TL_pass rfl rfl rfl rfl rfl rfl rfl ?_
          refine TL_nil ?_
          refine TZ_pass 39 (by kernel_rfl) rfl rfl rfl rfl rfl rfl rfl rfl ?_
          refine TZ_pure 40 (by kernel_rfl) rfl rfl rfl rfl rfl (op_pick_true rfl rfl) ?_
          refine TZ_pure 41 (by kernel_rfl) rfl rfl rfl rfl rfl (op_move rfl) ?_
          refine TZ_pass 42 (by kernel_rfl) rfl rfl rfl rfl rfl rfl rfl rfl ?_
          refine TZ_pass 43 (by kernel_rfl) rfl rfl rfl rfl rfl rfl rfl rfl ?_
          refine TZ_pass 44 (by kernel_rfl) rfl rfl rfl rfl rfl rfl rfl rfl ?_
          refine TZ_pass 45 (by kernel_rfl) rfl rfl rfl rfl rfl rfl rfl rfl ?_
          refine TZ_pass 46 (by kernel_rfl) rfl rfl rfl rfl rfl rfl rfl rfl ?_
          refine TZ_pass 47 (by kernel_rfl) rfl rfl rfl rfl rfl rfl rfl rfl ?_
          refine TZ_one 48 (by kernel_rfl) rfl ?_
          refine TL_pass rfl rfl rfl rfl rfl rfl rfl ?_
          refine TL_nil ?_
          refine TZ_pass 49 (by kernel_rfl) rfl rfl rfl rfl rfl rfl rfl rfl ?_
          refine TZ_pure 50 (by kernel_rfl) rfl rfl rfl rfl rfl (op_pick_true rfl rfl) ?_
          refine TZ_pure 51 (by kernel_rfl) rfl rfl rfl rfl rfl (op_move rfl) ?_
          refine TZ_pass 52 (by kernel_rfl) rfl rfl rfl rfl rfl rfl rfl rfl ?_
          refine TZ_pass 53 (by kernel_rfl) rfl rfl rfl rfl rfl rfl rfl rfl ?_
          refine TZ_pass 54 (by kernel_rfl) rfl rfl rfl rfl rfl rfl rfl rfl ?_
          refine TZ_pass 55 (by kernel_rfl) rfl rfl rfl rfl rfl rfl rfl rfl ?_
          refine TZ_pass 56 (by kernel_rfl) rfl rfl rfl rfl rfl rfl rfl rfl ?_
          refine TZ_pass 57 (by kernel_rfl) rfl rfl rfl rfl rfl rfl rfl rfl ?_
          refine TZ_pass 58 (by kernel_rfl) rfl rfl rfl rfl rfl rfl rfl rfl ?_
          refine TZ_pass 59 (by kernel_rfl) rfl rfl rfl rfl rfl rfl rfl rfl ?_
          refine TZ_pass 60 (by kernel_rfl) rfl rfl rfl rfl rfl rfl rfl rfl ?_
          refine TZ_pass 61 (by kernel_rfl) rfl rfl rfl rfl rfl rfl rfl rfl ?_
          refine TZ_pass 62 (by kernel_rfl) rfl rfl rfl rfl rfl rfl rfl rfl ?_
          refine TZ_pure 63 (by kernel_rfl) rfl rfl rfl rfl rfl (op_pick_true rfl rfl) ?_
          refine TZ_done (by kernel_rfl) ?_
          refine T_cond_true rfl ?_
          refine T_seq ?_
          refine T_region ?_
          refine TL_pure rfl rfl rfl rfl (op_assign rfl) ?_
          refine TL_nil ?_
          refine T_keepH [4] [] rfl rfl rfl rfl (by rw [hF]; rfl) ?_
          refine T_ret ?_
          obtain rfl := someI hm
          have hn := CtlOK_out hc0
          exact hx0 (.inr false) hn
        · replace hm := condF hq hm
          refine TZ_pureW 10 (by kernel_rfl) rfl rfl rfl rfl rfl rfl rfl (op_move rfl) ?_
          refine TZ_pureW 11 (by kernel_rfl) rfl rfl rfl rfl rfl rfl rfl (op_nilCheck rfl rfl) ?_
          refine TZ_pureW 12 (by kernel_rfl) rfl rfl rfl rfl rfl rfl rfl (op_fieldAddrC (n := 1) fa77_1 rfl rfl rfl) ?_
          refine TZ_pureW 13 (by kernel_rfl) rfl rfl rfl rfl rfl rfl rfl (op_load_one ag2 rfl rfl) ?_
          refine TZ_pureW 14 (by kernel_rfl) rfl rfl rfl rfl rfl rfl rfl (op_move rfl) ?_
          refine TZ_pureW 15 (by kernel_rfl) rfl rfl rfl rfl rfl rfl rfl (op_nilCheck rfl rfl) ?_
          refine TZ_pureW 16 (by kernel_rfl) rfl rfl rfl rfl rfl rfl rfl (op_fieldAddrC (n := 1) fa77_1 rfl rfl rfl) ?_
          refine TZ_pureW 17 (by kernel_rfl) rfl rfl rfl rfl rfl rfl rfl (op_load_one ag2 rfl rfl) ?_
          refine TZ_pureW 18 (by kernel_rfl) rfl rfl rfl rfl rfl rfl rfl (op_neq rfl rfl) ?_
          refine TZ_pure 19 (by kernel_rfl) rfl rfl rfl rfl rfl (op_pick_false rfl rfl) ?_
          refine TZ_pure 20 (by kernel_rfl) rfl rfl rfl rfl rfl (op_move rfl) ?_
          refine TZ_split 46 rfl rfl rfl (fun hq => ?_) (fun hq => ?_)
          · replace hm := condT hq hm
            refine TZ_pass 21 (by kernel_rfl) rfl rfl rfl rfl rfl rfl rfl rfl ?_
            refine TZ_pass 22 (by kernel_rfl) rfl rfl rfl rfl rfl rfl rfl rfl ?_
            refine TZ_pass 23 (by kernel_rfl) rfl rfl rfl rfl rfl rfl rfl rfl ?_
            refine TZ_pass 24 (by kernel_rfl) rfl rfl rfl rfl rfl rfl rfl rfl ?_
            refine TZ_pass 25 (by kernel_rfl) rfl rfl rfl rfl rfl rfl rfl rfl ?_
            refine TZ_pass 26 (by kernel_rfl) rfl rfl rfl rfl rfl rfl rfl rfl ?_
            refine TZ_pass 27 (by kernel_rfl) rfl rfl rfl rfl rfl rfl rfl rfl ?_
            refine TZ_pass 28 (by kernel_rfl) rfl rfl rfl rfl rfl rfl rfl rfl ?_
            refine TZ_pass 29 (by kernel_rfl) rfl rfl rfl rfl rfl rfl rfl rfl ?_
            refine TZ_pure 30 (by kernel_rfl) rfl rfl rfl rfl rfl (op_pick_true rfl rfl) ?_
            refine TZ_pure 31 (by kernel_rfl) rfl rfl rfl rfl rfl (op_move rfl) ?_
            refine TZ_pass 32 (by kernel_rfl) rfl rfl rfl rfl rfl rfl rfl rfl ?_
            refine TZ_pass 33 (by kernel_rfl) rfl rfl rfl rfl rfl rfl rfl rfl ?_
            refine TZ_pass 34 (by kernel_rfl) rfl rfl rfl rfl rfl rfl rfl rfl ?_
            refine TZ_pass 35 (by kernel_rfl) rfl rfl rfl rfl rfl rfl rfl rfl ?_
            refine TZ_pass 36 (by kernel_rfl) rfl rfl rfl rfl rfl rfl rfl rfl ?_
            refine TZ_pass 37 (by kernel_rfl) rfl rfl rfl rfl rfl rfl rfl rfl ?_
            refine TZ_one 38 (by kernel_rfl) rfl ?_
            refine TL_pass rfl rfl rfl rfl rfl rfl rfl ?_
            refine TL_nil ?_
            refine TZ_pass 39 (by kernel_rfl) rfl rfl rfl rfl rfl rfl rfl rfl ?_
            refine TZ_pure 40 (by kernel_rfl) rfl rfl rfl rfl rfl (op_pick_true rfl rfl) ?_
            refine TZ_pure 41 (by kernel_rfl) rfl rfl rfl rfl rfl (op_move rfl) ?_
            refine TZ_pass 42 (by kernel_rfl) rfl rfl rfl rfl rfl rfl rfl rfl ?_
            refine TZ_pass 43 (by kernel_rfl) rfl rfl rfl rfl rfl rfl rfl rfl ?_
            refine TZ_pass 44 (by kernel_rfl) rfl rfl rfl rfl rfl rfl rfl rfl ?_
            refine TZ_pass 45 (by kernel_rfl) rfl rfl rfl rfl rfl rfl rfl rfl ?_
            refine TZ_pass 46 (by kernel_rfl) rfl rfl rfl rfl rfl rfl rfl rfl ?_
            refine TZ_pass 47 (by kernel_rfl) rfl rfl rfl rfl rfl rfl rfl rfl ?_
            refine TZ_one 48 (by kernel_rfl) rfl ?_
            refine TL_pass rfl rfl rfl rfl rfl rfl rfl ?_
            refine TL_nil ?_
            refine TZ_pass 49 (by kernel_rfl) rfl rfl rfl rfl rfl rfl rfl rfl ?_
            refine TZ_pure 50 (by kernel_rfl) rfl rfl rfl rfl rfl (op_pick_true rfl rfl) ?_
            refine TZ_pure 51 (by kernel_rfl) rfl rfl rfl rfl rfl (op_move rfl) ?_
            refine TZ_pass 52 (by kernel_rfl) rfl rfl rfl rfl rfl rfl rfl rfl ?_
            refine TZ_pass 53 (by kernel_rfl) rfl rfl rfl rfl rfl rfl rfl rfl ?_
            refine TZ_pass 54 (by kernel_rfl) rfl rfl rfl rfl rfl rfl rfl rfl ?_
            refine TZ_pass 55 (by kernel_rfl) rfl rfl rfl rfl rfl rfl rfl rfl ?_
            refine TZ_pass 56 (by kernel_rfl) rfl rfl rfl rfl rfl rfl rfl rfl ?_
            refine TZ_pass 57 (by kernel_rfl) rfl rfl rfl rfl rfl rfl rfl rfl ?_
            refine TZ_pass 58 (by kernel_rfl) rfl rfl rfl rfl rfl rfl rfl rfl ?_
            refine TZ_pass 59 (by kernel_rfl) rfl rfl rfl rfl rfl rfl rfl rfl ?_
            refine TZ_pass 60 (by kernel_rfl) rfl rfl rfl rfl rfl rfl rfl rfl ?_
            refine TZ_pass 61 (by kernel_rfl) rfl rfl rfl rfl rfl rfl rfl rfl ?_
            refine TZ_pass 62 (by kernel_rfl) rfl rfl rfl rfl rfl rfl rfl rfl ?_
            refine TZ_pure 63 (by kernel_rfl) rfl rfl rfl rfl rfl (op_pick_true rfl rfl) ?_
            refine TZ_done (by kernel_rfl) ?_
            refine T_cond_true rfl ?_
            refine T_seq ?_
            refine T_region ?_
            refine TL_pure rfl rfl rfl rfl (op_assign rfl) ?_
            refine TL_nil ?_
            refine T_keepH [4] [] rfl rfl rfl rfl (by rw [hF]; rfl) ?_
            refine T_ret ?_
            obtain rfl := someI hm
            have hn := CtlOK_out hc0
            exact hx0 (.inr false) hn
          · replace hm := condF hq hm
            refine TZ_pureW 21 (by kernel_rfl) rfl rfl rfl rfl rfl rfl rfl (op_move rfl) ?_
            refine TZ_pureW 22 (by kernel_rfl) rfl rfl rfl rfl rfl rfl rfl (op_nilCheck rfl rfl) ?_
            refine TZ_pureW 23 (by kernel_rfl) rfl rfl rfl rfl rfl rfl rfl (op_fieldAddrC (n := 1) fa77_2 rfl rfl rfl) ?_
            refine TZ_pureW 24 (by kernel_rfl) rfl rfl rfl rfl rfl rfl rfl (op_load_one ag2 rfl rfl) ?_
            refine TZ_pureW 25 (by kernel_rfl) rfl rfl rfl rfl rfl rfl rfl (op_move rfl) ?_
            refine TZ_pureW 26 (by kernel_rfl) rfl rfl rfl rfl rfl rfl rfl (op_nilCheck rfl rfl) ?_
            refine TZ_pureW 27 (by kernel_rfl) rfl rfl rfl rfl rfl rfl rfl (op_fieldAddrC (n := 1) fa77_2 rfl rfl rfl) ?_
            refine TZ_pureW 28 (by kernel_rfl) rfl rfl rfl rfl rfl rfl rfl (op_load_one ag2 rfl rfl) ?_
            refine TZ_pureW 29 (by kernel_rfl) rfl rfl rfl rfl rfl rfl rfl (op_neq rfl rfl) ?_
            refine TZ_pure 30 (by kernel_rfl) rfl rfl rfl rfl rfl (op_pick_false rfl rfl) ?_
            refine TZ_pure 31 (by kernel_rfl) rfl rfl rfl rfl rfl (op_move rfl) ?_
            refine TZ_split 57 rfl rfl rfl (fun hq => ?_) (fun hq => ?_)
            · replace hm := condT hq hm
              refine TZ_pass 32 (by kernel_rfl) rfl rfl rfl rfl rfl rfl rfl rfl ?_
              refine TZ_pass 33 (by kernel_rfl) rfl rfl rfl rfl rfl rfl rfl rfl ?_
              refine TZ_pass 34 (by kernel_rfl) rfl rfl rfl rfl rfl rfl rfl rfl ?_
              refine TZ_pass 35 (by kernel_rfl) rfl rfl rfl rfl rfl rfl rfl rfl ?_
              refine TZ_pass 36 (by kernel_rfl) rfl rfl rfl rfl rfl rfl rfl rfl ?_
              refine TZ_pass 37 (by kernel_rfl) rfl rfl rfl rfl rfl rfl rfl rfl ?_
              refine TZ_one 38 (by kernel_rfl) rfl ?_
              refine TL_pass rfl rfl rfl rfl rfl rfl rfl ?_
              refine TL_nil ?_
              refine TZ_pass 39 (by kernel_rfl) rfl rfl rfl rfl rfl rfl rfl rfl ?_
              refine TZ_pure 40 (by kernel_rfl) rfl rfl rfl rfl rfl (op_pick_true rfl rfl) ?_
              refine TZ_pure 41 (by kernel_rfl) rfl rfl rfl rfl rfl (op_move rfl) ?_
              refine TZ_pass 42 (by kernel_rfl) rfl rfl rfl rfl rfl rfl rfl rfl ?_
              refine TZ_pass 43 (by kernel_rfl) rfl rfl rfl rfl rfl rfl rfl rfl ?_
              refine TZ_pass 44 (by kernel_rfl) rfl rfl rfl rfl rfl rfl rfl rfl ?_
              refine TZ_pass 45 (by kernel_rfl) rfl rfl rfl rfl rfl rfl rfl rfl ?_
              refine TZ_pass 46 (by kernel_rfl) rfl rfl rfl rfl rfl rfl rfl rfl ?_
              refine TZ_pass 47 (by kernel_rfl) rfl rfl rfl rfl rfl rfl rfl rfl ?_
              refine TZ_one 48 (by kernel_rfl) rfl ?_
              refine TL_pass rfl rfl rfl rfl rfl rfl rfl ?_
              refine TL_nil ?_
              refine TZ_pass 49 (by kernel_rfl) rfl rfl rfl rfl rfl rfl rfl rfl ?_
              refine TZ_pure 50 (by kernel_rfl) rfl rfl rfl rfl rfl (op_pick_true rfl rfl) ?_
              refine TZ_pure 51 (by kernel_rfl) rfl rfl rfl rfl rfl (op_move rfl) ?_
              refine TZ_pass 52 (by kernel_rfl) rfl rfl rfl rfl rfl rfl rfl rfl ?_
              refine TZ_pass 53 (by kernel_rfl) rfl rfl rfl rfl rfl rfl rfl rfl ?_
              refine TZ_pass 54 (by kernel_rfl) rfl rfl rfl rfl rfl rfl rfl rfl ?_
              refine TZ_pass 55 (by kernel_rfl) rfl rfl rfl rfl rfl rfl rfl rfl ?_
              refine TZ_pass 56 (by kernel_rfl) rfl rfl rfl rfl rfl rfl rfl rfl ?_
              refine TZ_pass 57 (by kernel_rfl) rfl rfl rfl rfl rfl rfl rfl rfl ?_
              refine TZ_pass 58 (by kernel_rfl) rfl rfl rfl rfl rfl rfl rfl rfl ?_
              refine TZ_pass 59 (by kernel_rfl) rfl rfl rfl rfl rfl rfl rfl rfl ?_
              refine TZ_pass 60 (by kernel_rfl) rfl rfl rfl rfl rfl rfl rfl rfl ?_
              refine TZ_pass 61 (by kernel_rfl) rfl rfl rfl rfl rfl rfl rfl rfl ?_
              refine TZ_pass 62 (by kernel_rfl) rfl rfl rfl rfl rfl rfl rfl rfl ?_
              refine TZ_pure 63 (by kernel_rfl) rfl rfl rfl rfl rfl (op_pick_true rfl rfl) ?_
              refine TZ_done (by kernel_rfl) ?_
              refine T_cond_true rfl ?_
              refine T_seq ?_
              refine T_region ?_
              refine TL_pure rfl rfl rfl rfl (op_assign rfl) ?_
              refine TL_nil ?_
              refine T_keepH [4] [] rfl rfl rfl rfl (by rw [hF]; rfl) ?_
              refine T_ret ?_
              obtain rfl := someI hm
              have hn := CtlOK_out hc0
              exact hx0 (.inr false) hn
            · replace hm := condF hq hm
              obtain ⟨r64, hr64, hm⟩ := bindS hm
              refine TZ_pureW 32 (by kernel_rfl) rfl rfl rfl rfl rfl rfl rfl (op_move rfl) ?_
              refine TZ_pureW 33 (by kernel_rfl) rfl rfl rfl rfl rfl rfl rfl (op_nilCheck rfl rfl) ?_
              refine TZ_pureW 34 (by kernel_rfl) rfl rfl rfl rfl rfl rfl rfl (op_fieldAddrC (n := 2) fa77_3 rfl rfl rfl) ?_
              refine TZ_pureW 35 (by kernel_rfl) rfl rfl rfl rfl rfl rfl rfl (op_move rfl) ?_
              refine TZ_pureW 36 (by kernel_rfl) rfl rfl rfl rfl rfl rfl rfl (op_nilCheck rfl rfl) ?_
              refine TZ_pureW 37 (by kernel_rfl) rfl rfl rfl rfl rfl rfl rfl (op_fieldAddrC (n := 2) fa77_3 rfl rfl rfl) ?_
              refine TZ_one 38 (by kernel_rfl) rfl ?_
              refine TL_want rfl rfl ?_
              refine TL_callF (c_spec_l02Same x22.Sum x25.Sum r64 hr64) Try.call133 rfl rfl rfl rfl rfl ?_
              refine TL_nil ?_
              refine TZ_pureW 39 (by kernel_rfl) rfl rfl rfl rfl rfl rfl rfl (op_not rfl) ?_
              refine TZ_pure 40 (by kernel_rfl) rfl rfl rfl rfl rfl (op_pick_false rfl rfl) ?_
              refine TZ_pure 41 (by kernel_rfl) rfl rfl rfl rfl rfl (op_move rfl) ?_
              refine TZ_split 67 rfl rfl rfl (fun hq => ?_) (fun hq => ?_)
              · replace hm := condT hq hm
                refine TZ_pass 42 (by kernel_rfl) rfl rfl rfl rfl rfl rfl rfl rfl ?_
                refine TZ_pass 43 (by kernel_rfl) rfl rfl rfl rfl rfl rfl rfl rfl ?_
                refine TZ_pass 44 (by kernel_rfl) rfl rfl rfl rfl rfl rfl rfl rfl ?_
                refine TZ_pass 45 (by kernel_rfl) rfl rfl rfl rfl rfl rfl rfl rfl ?_
                refine TZ_pass 46 (by kernel_rfl) rfl rfl rfl rfl rfl rfl rfl rfl ?_
                refine TZ_pass 47 (by kernel_rfl) rfl rfl rfl rfl rfl rfl rfl rfl ?_
                refine TZ_one 48 (by kernel_rfl) rfl ?_
                refine TL_pass rfl rfl rfl rfl rfl rfl rfl ?_
                refine TL_nil ?_
                refine TZ_pass 49 (by kernel_rfl) rfl rfl rfl rfl rfl rfl rfl rfl ?_
                refine TZ_pure 50 (by kernel_rfl) rfl rfl rfl rfl rfl (op_pick_true rfl rfl) ?_
                refine TZ_pure 51 (by kernel_rfl) rfl rfl rfl rfl rfl (op_move rfl) ?_
                refine TZ_pass 52 (by kernel_rfl) rfl rfl rfl rfl rfl rfl rfl rfl ?_
                refine TZ_pass 53 (by kernel_rfl) rfl rfl rfl rfl rfl rfl rfl rfl ?_
                refine TZ_pass 54 (by kernel_rfl) rfl rfl rfl rfl rfl rfl rfl rfl ?_
                refine TZ_pass 55 (by kernel_rfl) rfl rfl rfl rfl rfl rfl rfl rfl ?_
                refine TZ_pass 56 (by kernel_rfl) rfl rfl rfl rfl rfl rfl rfl rfl ?_
                refine TZ_pass 57 (by kernel_rfl) rfl rfl rfl rfl rfl rfl rfl rfl ?_
                refine TZ_pass 58 (by kernel_rfl) rfl rfl rfl rfl rfl rfl rfl rfl ?_
                refine TZ_pass 59 (by kernel_rfl) rfl rfl rfl rfl rfl rfl rfl rfl ?_
                refine TZ_pass 60 (by kernel_rfl) rfl rfl rfl rfl rfl rfl rfl rfl ?_
                refine TZ_pass 61 (by kernel_rfl) rfl rfl rfl rfl rfl rfl rfl rfl ?_
                refine TZ_pass 62 (by kernel_rfl) rfl rfl rfl rfl rfl rfl rfl rfl ?_
                refine TZ_pure 63 (by kernel_rfl) rfl rfl rfl rfl rfl (op_pick_true rfl rfl) ?_
                refine TZ_done (by kernel_rfl) ?_
                refine T_cond_true rfl ?_
                refine T_seq ?_
                refine T_region ?_
                refine TL_pure rfl rfl rfl rfl (op_assign rfl) ?_
                refine TL_nil ?_
                refine T_keepH [4] [] rfl rfl rfl rfl (by rw [hF]; rfl) ?_
                refine T_ret ?_
                obtain rfl := someI hm
                have hn := CtlOK_out hc0
                exact hx0 (.inr false) hn
              · replace hm := condF hq hm
                obtain ⟨r74, hr74, hm⟩ := bindS hm
                refine TZ_pureW 42 (by kernel_rfl) rfl rfl rfl rfl rfl rfl rfl (op_move rfl) ?_
                refine TZ_pureW 43 (by kernel_rfl) rfl rfl rfl rfl rfl rfl rfl (op_nilCheck rfl rfl) ?_
                refine TZ_pureW 44 (by kernel_rfl) rfl rfl rfl rfl rfl rfl rfl (op_fieldAddrC (n := 2) fa77_4 rfl rfl rfl) ?_
                refine TZ_pureW 45 (by kernel_rfl) rfl rfl rfl rfl rfl rfl rfl (op_move rfl) ?_
                refine TZ_pureW 46 (by kernel_rfl) rfl rfl rfl rfl rfl rfl rfl (op_nilCheck rfl rfl) ?_
                refine TZ_pureW 47 (by kernel_rfl) rfl rfl rfl rfl rfl rfl rfl (op_fieldAddrC (n := 2) fa77_4 rfl rfl rfl) ?_
                refine TZ_one 48 (by kernel_rfl) rfl ?_
                refine TL_want rfl rfl ?_
                refine TL_callF (c_spec_l02Same x22.Index x25.Index r74 hr74) Try.call133 rfl rfl rfl rfl rfl ?_
                refine TL_nil ?_
                refine TZ_pureW 49 (by kernel_rfl) rfl rfl rfl rfl rfl rfl rfl (op_not rfl) ?_
                refine TZ_pure 50 (by kernel_rfl) rfl rfl rfl rfl rfl (op_pick_false rfl rfl) ?_
                refine TZ_pure 51 (by kernel_rfl) rfl rfl rfl rfl rfl (op_move rfl) ?_
                refine TZ_split 77 rfl rfl rfl (fun hq => ?_) (fun hq => ?_)
                · replace hm := condT hq hm
                  refine TZ_pass 52 (by kernel_rfl) rfl rfl rfl rfl rfl rfl rfl rfl ?_
                  refine TZ_pass 53 (by kernel_rfl) rfl rfl rfl rfl rfl rfl rfl rfl ?_
                  refine TZ_pass 54 (by kernel_rfl) rfl rfl rfl rfl rfl rfl rfl rfl ?_
                  refine TZ_pass 55 (by kernel_rfl) rfl rfl rfl rfl rfl rfl rfl rfl ?_
                  refine TZ_pass 56 (by kernel_rfl) rfl rfl rfl rfl rfl rfl rfl rfl ?_
                  refine TZ_pass 57 (by kernel_rfl) rfl rfl rfl rfl rfl rfl rfl rfl ?_
                  refine TZ_pass 58 (by kernel_rfl) rfl rfl rfl rfl rfl rfl rfl rfl ?_
                  refine TZ_pass 59 (by kernel_rfl) rfl rfl rfl rfl rfl rfl rfl rfl ?_
                  refine TZ_pass 60 (by kernel_rfl) rfl rfl rfl rfl rfl rfl rfl rfl ?_
                  refine TZ_pass 61 (by kernel_rfl) rfl rfl rfl rfl rfl rfl rfl rfl ?_
                  refine TZ_pass 62 (by kernel_rfl) rfl rfl rfl rfl rfl rfl rfl rfl ?_
                  refine TZ_pure 63 (by kernel_rfl) rfl rfl rfl rfl rfl (op_pick_true rfl rfl) ?_
                  refine TZ_done (by kernel_rfl) ?_
                  refine T_cond_true rfl ?_
                  refine T_seq ?_
                  refine T_region ?_
                  refine TL_pure rfl rfl rfl rfl (op_assign rfl) ?_
                  refine TL_nil ?_
                  refine T_keepH [4] [] rfl rfl rfl rfl (by rw [hF]; rfl) ?_
                  refine T_ret ?_
                  obtain rfl := someI hm
                  have hn := CtlOK_out hc0
                  exact hx0 (.inr false) hn
                · replace hm := condF hq hm
                  refine TZ_pureW 52 (by kernel_rfl) rfl rfl rfl rfl rfl rfl rfl (op_move rfl) ?_
                  refine TZ_pureW 53 (by kernel_rfl) rfl rfl rfl rfl rfl rfl rfl (op_nilCheck rfl rfl) ?_
                  refine TZ_pureW 54 (by kernel_rfl) rfl rfl rfl rfl rfl rfl rfl (op_fieldAddr fa77_5 rfl rfl) ?_
                  refine TZ_pureW 55 (by kernel_rfl) rfl rfl rfl rfl rfl rfl rfl (op_load_one ag24 rfl rfl) ?_
                  refine TZ_pureW 56 (by kernel_rfl) rfl rfl rfl rfl rfl rfl rfl (op_lenT Try.underlying24 rfl (List.length_map _)) ?_
                  refine TZ_fact (fun _ _ _ hr => RelP.slLen (i := 81) rfl hr) (fun hlen82 => ?_)
                  rw [List.length_map] at hlen82
                  refine TZ_pureW 57 (by kernel_rfl) rfl rfl rfl rfl rfl rfl rfl (op_move rfl) ?_
                  refine TZ_pureW 58 (by kernel_rfl) rfl rfl rfl rfl rfl rfl rfl (op_nilCheck rfl rfl) ?_
                  refine TZ_pureW 59 (by kernel_rfl) rfl rfl rfl rfl rfl rfl rfl (op_fieldAddr fa77_5 rfl rfl) ?_
                  refine TZ_pureW 60 (by kernel_rfl) rfl rfl rfl rfl rfl rfl rfl (op_load_one ag24 rfl rfl) ?_
                  refine TZ_pureW 61 (by kernel_rfl) rfl rfl rfl rfl rfl rfl rfl (op_lenT Try.underlying24 rfl (List.length_map _)) ?_
                  refine TZ_fact (fun _ _ _ hr => RelP.slLen (i := 86) rfl hr) (fun hlen87 => ?_)
                  rw [List.length_map] at hlen87
                  refine TZ_pureW 62 (by kernel_rfl) rfl rfl rfl rfl rfl rfl rfl (op_neq rfl rfl) ?_
                  refine TZ_pure 63 (by kernel_rfl) rfl rfl rfl rfl rfl (op_pick_false rfl rfl) ?_
                  refine TZ_done (by kernel_rfl) ?_
                  refine T_cond rfl (fun hq => ?_) (fun hq => ?_)
                  · replace hm := condT hq hm
                    refine T_seq ?_
                    refine T_region ?_
                    refine TL_pure rfl rfl rfl rfl (op_assign rfl) ?_
                    refine TL_nil ?_
                    refine T_keepH [4] [] rfl rfl rfl rfl (by rw [hF]; rfl) ?_
                    refine T_ret ?_
                    obtain rfl := someI hm
                    have hn := CtlOK_out hc0
                    exact hx0 (.inr false) hn
                  · replace hm := condF hq hm
                    refine T_skip ?_
                    refine T_seq ?_
                    refine T_region ?_
                    refine TL_pure rfl rfl rfl rfl (op_assign rfl) ?_
                    refine TL_nil ?_
                    refine T_block ?_
                    refine T_keepH [0, 1, 5, 6, 7, 8, 36, 37, 38, 39, 40, 41, 42, 43, 44, 47, 48, 49, 50, 51, 52, 53, 54, 55, 58, 59, 60, 61, 62, 63, 64, 65, 68, 69, 70, 71, 72, 73, 74, 75, 78, 79, 80, 81, 82, 83, 84, 85, 86, 87, 88] [] rfl rfl rfl rfl (by rw [hF]; rfl) ?_
                    refine T_loop ?_
                    obtain ⟨u1, hl1, hm⟩ := bindS hm
                    refine TR_iter2 (m_spec_l03Equal_L1 x22 x25) (fun (s1 : Int) => ⟨[(0, .sl 8 (List.map a_Stmt p0)), (1, .sl 8 (List.map a_Stmt p1)), (5, .int .i64 s0), (6, .cp [.int .i64 x22.Kind, .int .i64 x22.Var, .int .i64 x22.Event, .int .i64 x22.Sum.Const, .sl 1 (List.map a_i64 x22.Sum.Coeffs), .int .i64 x22.Index.Const, .sl 1 (List.map a_i64 x22.Index.Coeffs), .sl 2 (List.map a_Term x22.Facts)]), (7, .cp [.int .i64 x25.Kind, .int .i64 x25.Var, .int .i64 x25.Event, .int .i64 x25.Sum.Const, .sl 1 (List.map a_i64 x25.Sum.Coeffs), .int .i64 x25.Index.Const, .sl 1 (List.map a_i64 x25.Index.Coeffs), .sl 2 (List.map a_Term x25.Facts)]), (8, .int .i64 s1), (36, .cp [.int .i64 x22.Kind, .int .i64 x22.Var, .int .i64 x22.Event, .int .i64 x22.Sum.Const, .sl 1 (List.map a_i64 x22.Sum.Coeffs), .int .i64 x22.Index.Const, .sl 1 (List.map a_i64 x22.Index.Coeffs), .sl 2 (List.map a_Term x22.Facts)]), (37, .cp [.int .i64 x22.Kind, .int .i64 x22.Var, .int .i64 x22.Event, .int .i64 x22.Sum.Const, .sl 1 (List.map a_i64 x22.Sum.Coeffs), .int .i64 x22.Index.Const, .sl 1 (List.map a_i64 x22.Index.Coeffs), .sl 2 (List.map a_Term x22.Facts)]), (38, .cp [.int .i64 x22.Var]), (39, .int .i64 x22.Var), (40, .cp [.int .i64 x25.Kind, .int .i64 x25.Var, .int .i64 x25.Event, .int .i64 x25.Sum.Const, .sl 1 (List.map a_i64 x25.Sum.Coeffs), .int .i64 x25.Index.Const, .sl 1 (List.map a_i64 x25.Index.Coeffs), .sl 2 (List.map a_Term x25.Facts)]), (41, .cp [.int .i64 x25.Kind, .int .i64 x25.Var, .int .i64 x25.Event, .int .i64 x25.Sum.Const, .sl 1 (List.map a_i64 x25.Sum.Coeffs), .int .i64 x25.Index.Const, .sl 1 (List.map a_i64 x25.Index.Coeffs), .sl 2 (List.map a_Term x25.Facts)]), (42, .cp [.int .i64 x25.Var]), (43, .int .i64 x25.Var), (44, .bool (!decide (x22.Var = x25.Var))), (47, .cp [.int .i64 x22.Kind, .int .i64 x22.Var, .int .i64 x22.Event, .int .i64 x22.Sum.Const, .sl 1 (List.map a_i64 x22.Sum.Coeffs), .int .i64 x22.Index.Const, .sl 1 (List.map a_i64 x22.Index.Coeffs), .sl 2 (List.map a_Term x22.Facts)]), (48, .cp [.int .i64 x22.Kind, .int .i64 x22.Var, .int .i64 x22.Event, .int .i64 x22.Sum.Const, .sl 1 (List.map a_i64 x22.Sum.Coeffs), .int .i64 x22.Index.Const, .sl 1 (List.map a_i64 x22.Index.Coeffs), .sl 2 (List.map a_Term x22.Facts)]), (49, .cp [.int .i64 x22.Event]), (50, .int .i64 x22.Event), (51, .cp [.int .i64 x25.Kind, .int .i64 x25.Var, .int .i64 x25.Event, .int .i64 x25.Sum.Const, .sl 1 (List.map a_i64 x25.Sum.Coeffs), .int .i64 x25.Index.Const, .sl 1 (List.map a_i64 x25.Index.Coeffs), .sl 2 (List.map a_Term x25.Facts)]), (52, .cp [.int .i64 x25.Kind, .int .i64 x25.Var, .int .i64 x25.Event, .int .i64 x25.Sum.Const, .sl 1 (List.map a_i64 x25.Sum.Coeffs), .int .i64 x25.Index.Const, .sl 1 (List.map a_i64 x25.Index.Coeffs), .sl 2 (List.map a_Term x25.Facts)]), (53, .cp [.int .i64 x25.Event]), (54, .int .i64 x25.Event), (55, .bool (!decide (x22.Event = x25.Event))), (58, .cp [.int .i64 x22.Kind, .int .i64 x22.Var, .int .i64 x22.Event, .int .i64 x22.Sum.Const, .sl 1 (List.map a_i64 x22.Sum.Coeffs), .int .i64 x22.Index.Const, .sl 1 (List.map a_i64 x22.Index.Coeffs), .sl 2 (List.map a_Term x22.Facts)]), (59, .cp [.int .i64 x22.Kind, .int .i64 x22.Var, .int .i64 x22.Event, .int .i64 x22.Sum.Const, .sl 1 (List.map a_i64 x22.Sum.Coeffs), .int .i64 x22.Index.Const, .sl 1 (List.map a_i64 x22.Index.Coeffs), .sl 2 (List.map a_Term x22.Facts)]), (60, .cp [.int .i64 x22.Sum.Const, .sl 1 (List.map a_i64 x22.Sum.Coeffs)]), (61, .cp [.int .i64 x25.Kind, .int .i64 x25.Var, .int .i64 x25.Event, .int .i64 x25.Sum.Const, .sl 1 (List.map a_i64 x25.Sum.Coeffs), .int .i64 x25.Index.Const, .sl 1 (List.map a_i64 x25.Index.Coeffs), .sl 2 (List.map a_Term x25.Facts)]), (62, .cp [.int .i64 x25.Kind, .int .i64 x25.Var, .int .i64 x25.Event, .int .i64 x25.Sum.Const, .sl 1 (List.map a_i64 x25.Sum.Coeffs), .int .i64 x25.Index.Const, .sl 1 (List.map a_i64 x25.Index.Coeffs), .sl 2 (List.map a_Term x25.Facts)]), (63, .cp [.int .i64 x25.Sum.Const, .sl 1 (List.map a_i64 x25.Sum.Coeffs)]), (64, .bool r64), (65, .bool (!r64)), (68, .cp [.int .i64 x22.Kind, .int .i64 x22.Var, .int .i64 x22.Event, .int .i64 x22.Sum.Const, .sl 1 (List.map a_i64 x22.Sum.Coeffs), .int .i64 x22.Index.Const, .sl 1 (List.map a_i64 x22.Index.Coeffs), .sl 2 (List.map a_Term x22.Facts)]), (69, .cp [.int .i64 x22.Kind, .int .i64 x22.Var, .int .i64 x22.Event, .int .i64 x22.Sum.Const, .sl 1 (List.map a_i64 x22.Sum.Coeffs), .int .i64 x22.Index.Const, .sl 1 (List.map a_i64 x22.Index.Coeffs), .sl 2 (List.map a_Term x22.Facts)]), (70, .cp [.int .i64 x22.Index.Const, .sl 1 (List.map a_i64 x22.Index.Coeffs)]), (71, .cp [.int .i64 x25.Kind, .int .i64 x25.Var, .int .i64 x25.Event, .int .i64 x25.Sum.Const, .sl 1 (List.map a_i64 x25.Sum.Coeffs), .int .i64 x25.Index.Const, .sl 1 (List.map a_i64 x25.Index.Coeffs), .sl 2 (List.map a_Term x25.Facts)]), (72, .cp [.int .i64 x25.Kind, .int .i64 x25.Var, .int .i64 x25.Event, .int .i64 x25.Sum.Const, .sl 1 (List.map a_i64 x25.Sum.Coeffs), .int .i64 x25.Index.Const, .sl 1 (List.map a_i64 x25.Index.Coeffs), .sl 2 (List.map a_Term x25.Facts)]), (73, .cp [.int .i64 x25.Index.Const, .sl 1 (List.map a_i64 x25.Index.Coeffs)]), (74, .bool r74), (75, .bool (!r74)), (78, .cp [.int .i64 x22.Kind, .int .i64 x22.Var, .int .i64 x22.Event, .int .i64 x22.Sum.Const, .sl 1 (List.map a_i64 x22.Sum.Coeffs), .int .i64 x22.Index.Const, .sl 1 (List.map a_i64 x22.Index.Coeffs), .sl 2 (List.map a_Term x22.Facts)]), (79, .cp [.int .i64 x22.Kind, .int .i64 x22.Var, .int .i64 x22.Event, .int .i64 x22.Sum.Const, .sl 1 (List.map a_i64 x22.Sum.Coeffs), .int .i64 x22.Index.Const, .sl 1 (List.map a_i64 x22.Index.Coeffs), .sl 2 (List.map a_Term x22.Facts)]), (80, .cp [.sl 2 (List.map a_Term x22.Facts)]), (81, .sl 2 (List.map a_Term x22.Facts)), (82, .int .i64 (x22.Facts.length : Int)), (83, .cp [.int .i64 x25.Kind, .int .i64 x25.Var, .int .i64 x25.Event, .int .i64 x25.Sum.Const, .sl 1 (List.map a_i64 x25.Sum.Coeffs), .int .i64 x25.Index.Const, .sl 1 (List.map a_i64 x25.Index.Coeffs), .sl 2 (List.map a_Term x25.Facts)]), (84, .cp [.int .i64 x25.Kind, .int .i64 x25.Var, .int .i64 x25.Event, .int .i64 x25.Sum.Const, .sl 1 (List.map a_i64 x25.Sum.Coeffs), .int .i64 x25.Index.Const, .sl 1 (List.map a_i64 x25.Index.Coeffs), .sl 2 (List.map a_Term x25.Facts)]), (85, .cp [.sl 2 (List.map a_Term x25.Facts)]), (86, .sl 2 (List.map a_Term x25.Facts)), (87, .int .i64 (x25.Facts.length : Int)), (88, .bool (!decide ((x22.Facts.length : Int) = (x25.Facts.length : Int))))], []⟩) (fun u1 => match u1 with | .inl u1 => .exit 2 | .inr u1 => .ret) (fun u1 => match u1 with | .inl u1 => ⟨[(0, .sl 8 (List.map a_Stmt p0)), (1, .sl 8 (List.map a_Stmt p1)), (5, .int .i64 s0), (36, .cp [.int .i64 x22.Kind, .int .i64 x22.Var, .int .i64 x22.Event, .int .i64 x22.Sum.Const, .sl 1 (List.map a_i64 x22.Sum.Coeffs), .int .i64 x22.Index.Const, .sl 1 (List.map a_i64 x22.Index.Coeffs), .sl 2 (List.map a_Term x22.Facts)]), (37, .cp [.int .i64 x22.Kind, .int .i64 x22.Var, .int .i64 x22.Event, .int .i64 x22.Sum.Const, .sl 1 (List.map a_i64 x22.Sum.Coeffs), .int .i64 x22.Index.Const, .sl 1 (List.map a_i64 x22.Index.Coeffs), .sl 2 (List.map a_Term x22.Facts)]), (38, .cp [.int .i64 x22.Var]), (39, .int .i64 x22.Var), (40, .cp [.int .i64 x25.Kind, .int .i64 x25.Var, .int .i64 x25.Event, .int .i64 x25.Sum.Const, .sl 1 (List.map a_i64 x25.Sum.Coeffs), .int .i64 x25.Index.Const, .sl 1 (List.map a_i64 x25.Index.Coeffs), .sl 2 (List.map a_Term x25.Facts)]), (41, .cp [.int .i64 x25.Kind, .int .i64 x25.Var, .int .i64 x25.Event, .int .i64 x25.Sum.Const, .sl 1 (List.map a_i64 x25.Sum.Coeffs), .int .i64 x25.Index.Const, .sl 1 (List.map a_i64 x25.Index.Coeffs), .sl 2 (List.map a_Term x25.Facts)]), (42, .cp [.int .i64 x25.Var]), (43, .int .i64 x25.Var), (44, .bool (!decide (x22.Var = x25.Var))), (47, .cp [.int .i64 x22.Kind, .int .i64 x22.Var, .int .i64 x22.Event, .int .i64 x22.Sum.Const, .sl 1 (List.map a_i64 x22.Sum.Coeffs), .int .i64 x22.Index.Const, .sl 1 (List.map a_i64 x22.Index.Coeffs), .sl 2 (List.map a_Term x22.Facts)]), (48, .cp [.int .i64 x22.Kind, .int .i64 x22.Var, .int .i64 x22.Event, .int .i64 x22.Sum.Const, .sl 1 (List.map a_i64 x22.Sum.Coeffs), .int .i64 x22.Index.Const, .sl 1 (List.map a_i64 x22.Index.Coeffs), .sl 2 (List.map a_Term x22.Facts)]), (49, .cp [.int .i64 x22.Event]), (50, .int .i64 x22.Event), (51, .cp [.int .i64 x25.Kind, .int .i64 x25.Var, .int .i64 x25.Event, .int .i64 x25.Sum.Const, .sl 1 (List.map a_i64 x25.Sum.Coeffs), .int .i64 x25.Index.Const, .sl 1 (List.map a_i64 x25.Index.Coeffs), .sl 2 (List.map a_Term x25.Facts)]), (52, .cp [.int .i64 x25.Kind, .int .i64 x25.Var, .int .i64 x25.Event, .int .i64 x25.Sum.Const, .sl 1 (List.map a_i64 x25.Sum.Coeffs), .int .i64 x25.Index.Const, .sl 1 (List.map a_i64 x25.Index.Coeffs), .sl 2 (List.map a_Term x25.Facts)]), (53, .cp [.int .i64 x25.Event]), (54, .int .i64 x25.Event), (55, .bool (!decide (x22.Event = x25.Event))), (58, .cp [.int .i64 x22.Kind, .int .i64 x22.Var, .int .i64 x22.Event, .int .i64 x22.Sum.Const, .sl 1 (List.map a_i64 x22.Sum.Coeffs), .int .i64 x22.Index.Const, .sl 1 (List.map a_i64 x22.Index.Coeffs), .sl 2 (List.map a_Term x22.Facts)]), (59, .cp [.int .i64 x22.Kind, .int .i64 x22.Var, .int .i64 x22.Event, .int .i64 x22.Sum.Const, .sl 1 (List.map a_i64 x22.Sum.Coeffs), .int .i64 x22.Index.Const, .sl 1 (List.map a_i64 x22.Index.Coeffs), .sl 2 (List.map a_Term x22.Facts)]), (60, .cp [.int .i64 x22.Sum.Const, .sl 1 (List.map a_i64 x22.Sum.Coeffs)]), (61, .cp [.int .i64 x25.Kind, .int .i64 x25.Var, .int .i64 x25.Event, .int .i64 x25.Sum.Const, .sl 1 (List.map a_i64 x25.Sum.Coeffs), .int .i64 x25.Index.Const, .sl 1 (List.map a_i64 x25.Index.Coeffs), .sl 2 (List.map a_Term x25.Facts)]), (62, .cp [.int .i64 x25.Kind, .int .i64 x25.Var, .int .i64 x25.Event, .int .i64 x25.Sum.Const, .sl 1 (List.map a_i64 x25.Sum.Coeffs), .int .i64 x25.Index.Const, .sl 1 (List.map a_i64 x25.Index.Coeffs), .sl 2 (List.map a_Term x25.Facts)]), (63, .cp [.int .i64 x25.Sum.Const, .sl 1 (List.map a_i64 x25.Sum.Coeffs)]), (64, .bool r64), (65, .bool (!r64)), (68, .cp [.int .i64 x22.Kind, .int .i64 x22.Var, .int .i64 x22.Event, .int .i64 x22.Sum.Const, .sl 1 (List.map a_i64 x22.Sum.Coeffs), .int .i64 x22.Index.Const, .sl 1 (List.map a_i64 x22.Index.Coeffs), .sl 2 (List.map a_Term x22.Facts)]), (69, .cp [.int .i64 x22.Kind, .int .i64 x22.Var, .int .i64 x22.Event, .int .i64 x22.Sum.Const, .sl 1 (List.map a_i64 x22.Sum.Coeffs), .int .i64 x22.Index.Const, .sl 1 (List.map a_i64 x22.Index.Coeffs), .sl 2 (List.map a_Term x22.Facts)]), (70, .cp [.int .i64 x22.Index.Const, .sl 1 (List.map a_i64 x22.Index.Coeffs)]), (71, .cp [.int .i64 x25.Kind, .int .i64 x25.Var, .int .i64 x25.Event, .int .i64 x25.Sum.Const, .sl 1 (List.map a_i64 x25.Sum.Coeffs), .int .i64 x25.Index.Const, .sl 1 (List.map a_i64 x25.Index.Coeffs), .sl 2 (List.map a_Term x25.Facts)]), (72, .cp [.int .i64 x25.Kind, .int .i64 x25.Var, .int .i64 x25.Event, .int .i64 x25.Sum.Const, .sl 1 (List.map a_i64 x25.Sum.Coeffs), .int .i64 x25.Index.Const, .sl 1 (List.map a_i64 x25.Index.Coeffs), .sl 2 (List.map a_Term x25.Facts)]), (73, .cp [.int .i64 x25.Index.Const, .sl 1 (List.map a_i64 x25.Index.Coeffs)]), (74, .bool r74), (75, .bool (!r74)), (78, .cp [.int .i64 x22.Kind, .int .i64 x22.Var, .int .i64 x22.Event, .int .i64 x22.Sum.Const, .sl 1 (List.map a_i64 x22.Sum.Coeffs), .int .i64 x22.Index.Const, .sl 1 (List.map a_i64 x22.Index.Coeffs), .sl 2 (List.map a_Term x22.Facts)]), (79, .cp [.int .i64 x22.Kind, .int .i64 x22.Var, .int .i64 x22.Event, .int .i64 x22.Sum.Const, .sl 1 (List.map a_i64 x22.Sum.Coeffs), .int .i64 x22.Index.Const, .sl 1 (List.map a_i64 x22.Index.Coeffs), .sl 2 (List.map a_Term x22.Facts)]), (80, .cp [.sl 2 (List.map a_Term x22.Facts)]), (81, .sl 2 (List.map a_Term x22.Facts)), (82, .int .i64 (x22.Facts.length : Int)), (83, .cp [.int .i64 x25.Kind, .int .i64 x25.Var, .int .i64 x25.Event, .int .i64 x25.Sum.Const, .sl 1 (List.map a_i64 x25.Sum.Coeffs), .int .i64 x25.Index.Const, .sl 1 (List.map a_i64 x25.Index.Coeffs), .sl 2 (List.map a_Term x25.Facts)]), (84, .cp [.int .i64 x25.Kind, .int .i64 x25.Var, .int .i64 x25.Event, .int .i64 x25.Sum.Const, .sl 1 (List.map a_i64 x25.Sum.Coeffs), .int .i64 x25.Index.Const, .sl 1 (List.map a_i64 x25.Index.Coeffs), .sl 2 (List.map a_Term x25.Facts)]), (85, .cp [.sl 2 (List.map a_Term x25.Facts)]), (86, .sl 2 (List.map a_Term x25.Facts)), (87, .int .i64 (x25.Facts.length : Int)), (88, .bool (!decide ((x22.Facts.length : Int) = (x25.Facts.length : Int))))], []⟩ | .inr u1 => ⟨[(4, .bool u1)], []⟩) (fun u1 => m_spec_l03Equal_A1 s0 u1 = some c0) hl1 hm (fun u1 hm => ?_) (fun hx1 s1 c1 hm hc1 => ?_)
                    · rcases u1 with u1 | u1
                      · unfold m_spec_l03Equal_A1 at hm
                        refine T_region ?_
                        refine TL_pure rfl rfl rfl rfl (op_move rfl) ?_
                        refine TL_pure rfl rfl rfl rfl (op_addW rfl rfl) ?_
                        refine TL_pure rfl rfl rfl rfl (op_assign rfl) ?_
                        refine TL_nil ?_
                        refine TR_keepH [0, 1, 5] [] rfl rfl rfl rfl (by rw [hF]; rfl) ?_
                        obtain rfl := someI hm
                        have hn := CtlOK_next hc0
                        exact hn _ rfl
                      · unfold m_spec_l03Equal_A1 at hm
                        obtain rfl := someI hm
                        have hn := CtlOK_out hc0
                        exact hx0 (.inr u1) hn
                    · unfold m_spec_l03Equal_L1 at hm
                      refine T_seq ?_
                      refine T_seq ?_
                      refine T_region ?_
                      refine TL_pure rfl rfl rfl rfl (op_move rfl) ?_
                      refine TL_pure rfl rfl rfl rfl (op_move rfl) ?_
                      refine TL_pure rfl rfl rfl rfl (op_nilCheck rfl rfl) ?_
                      refine TL_pure rfl rfl rfl rfl (op_fieldAddr fa77_5 rfl rfl) ?_
                      refine TL_pure rfl rfl rfl rfl (op_load_one ag24 rfl rfl) ?_
                      refine TL_pure rfl rfl rfl rfl (op_lenT Try.underlying24 rfl (List.length_map _)) ?_
                      refine TL_pure rfl rfl rfl rfl (op_lss rfl rfl) ?_
                      refine TL_nil ?_
                      refine T_cond rfl (fun hq => ?_) (fun hq => ?_)
                      · replace hm := condT hq hm
                        refine T_skip ?_
                        refine T_seq ?_
                        refine T_block ?_
                        refine T_seq ?_
                        refine T_drawZ [] mix (by kernel_rfl) rfl ?_
                        obtain ⟨x104, hx104, hm⟩ := bindS hm
                        obtain ⟨x110, hx110, hm⟩ := bindS hm
                        obtain ⟨r111, hr111, hm⟩ := bindS hm
                        refine TZ_pure 0 (by kernel_rfl) rfl rfl rfl rfl rfl (op_move rfl) ?_
                        refine TZ_pure 1 (by kernel_rfl) rfl rfl rfl rfl rfl (op_nilCheck rfl rfl) ?_
                        refine TZ_pure 2 (by kernel_rfl) rfl rfl rfl rfl rfl (op_fieldAddr fa77_5 rfl rfl) ?_
                        refine TZ_pure 3 (by kernel_rfl) rfl rfl rfl rfl rfl (op_load_one ag24 rfl rfl) ?_
                        refine TZ_pure 4 (by kernel_rfl) rfl rfl rfl rfl rfl (op_move rfl) ?_
                        refine TZ_pure 5 (by kernel_rfl) rfl rfl rfl rfl rfl (op_indexT el24 rfl rfl hx104 rfl) ?_
                        refine TZ_pure 6 (by kernel_rfl) rfl rfl rfl rfl rfl (op_move rfl) ?_
                        refine TZ_pure 7 (by kernel_rfl) rfl rfl rfl rfl rfl (op_nilCheck rfl rfl) ?_
                        refine TZ_pure 8 (by kernel_rfl) rfl rfl rfl rfl rfl (op_fieldAddr fa77_5 rfl rfl) ?_
                        refine TZ_pure 9 (by kernel_rfl) rfl rfl rfl rfl rfl (op_load_one ag24 rfl rfl) ?_
                        refine TZ_pure 10 (by kernel_rfl) rfl rfl rfl rfl rfl (op_move rfl) ?_
                        refine TZ_pure 11 (by kernel_rfl) rfl rfl rfl rfl rfl (op_indexT el24 rfl rfl hx110 rfl) ?_
                        refine TZ_one 12 (by kernel_rfl) rfl ?_
                        refine TL_callF (c_spec_l02Same x104 x110 r111 hr111) Try.call133 rfl rfl rfl rfl rfl ?_
                        refine TL_nil ?_
                        refine TZ_pure 13 (by kernel_rfl) rfl rfl rfl rfl rfl (op_not rfl) ?_
                        refine TZ_done (by kernel_rfl) ?_
                        refine T_cond rfl (fun hq => ?_) (fun hq => ?_)
                        · replace hm := condT hq hm
                          refine T_seq ?_
                          refine T_region ?_
                          refine TL_pure rfl rfl rfl rfl (op_assign rfl) ?_
                          refine TL_nil ?_
                          refine T_keepH [4] [] rfl rfl rfl rfl (by rw [hF]; rfl) ?_
                          refine T_ret ?_
                          obtain rfl := someI hm
                          have hn := CtlOK_out hc1
                          exact hx1 (.inr false) hn
                        · replace hm := condF hq hm
                          refine T_skip ?_
                          refine T_region ?_
                          refine TL_pure rfl rfl rfl rfl (op_move rfl) ?_
                          refine TL_pure rfl rfl rfl rfl (op_addW rfl rfl) ?_
                          refine TL_pure rfl rfl rfl rfl (op_assign rfl) ?_
                          refine TL_nil ?_
                          refine TR_keepH [0, 1, 5, 6, 7, 8, 36, 37, 38, 39, 40, 41, 42, 43, 44, 47, 48, 49, 50, 51, 52, 53, 54, 55, 58, 59, 60, 61, 62, 63, 64, 65, 68, 69, 70, 71, 72, 73, 74, 75, 78, 79, 80, 81, 82, 83, 84, 85, 86, 87, 88] [] rfl rfl rfl rfl (by rw [hF]; rfl) ?_
                          obtain rfl := someI hm
                          have hn := CtlOK_next hc1
                          exact hn _ rfl
                      · replace hm := condF hq hm
                        refine T_keepH [0, 1, 5, 36, 37, 38, 39, 40, 41, 42, 43, 44, 47, 48, 49, 50, 51, 52, 53, 54, 55, 58, 59, 60, 61, 62, 63, 64, 65, 68, 69, 70, 71, 72, 73, 74, 75, 78, 79, 80, 81, 82, 83, 84, 85, 86, 87, 88] [] rfl rfl rfl rfl (by rw [hF]; rfl) ?_
                        refine T_exit ?_
                        obtain rfl := someI hm
                        have hn := CtlOK_out hc1
                        exact hx1 (.inl ()) hn
      · replace hm := condF hq hm
        refine T_keepH [] [] rfl rfl rfl rfl (by rw [hF]; rfl) ?_
        refine T_exit ?_
        obtain rfl := someI hm
        have hn := CtlOK_out hc0
        exact hx0 (.inl ()) hn
end Go.Mod
