import Derived.Test.YtkiapbiifhkaaaaRows
import Derived.Test.YtkiapbiifhkaaaaGc
import Derived.Test.YtkiapbiifhkaaaaGd
namespace Go.Mod
open Go Go.AM Go.Proofs
set_option linter.unusedVariables false
set_option linter.unusedSimpArgs false
set_option maxRecDepth 100000
set_option maxHeartbeats 8000000
def a_u8 (x : Int) : AV := .int .u8 x
def aLa_u8 (x : List Int) : AV := .sl 1 (List.map a_u8 x)
def a_Instr (x : Instr) : AV := .agg [.int .i64 x.Op, .int .i64 x.Arg]
def a_i64 (x : Int) : AV := .int .i64 x
theorem ag160 : tyAgg Try.prog 160 = some false := by kernel_rfl
theorem ag2 : tyAgg Try.prog 2 = some false := by kernel_rfl
theorem ag22 : tyAgg Try.prog 22 = some false := by kernel_rfl
theorem ag26 : tyAgg Try.prog 26 = some false := by kernel_rfl
theorem ag28 : tyAgg Try.prog 28 = some true := by kernel_rfl
theorem ag3 : tyAgg Try.prog 3 = some false := by kernel_rfl
theorem ag35 : tyAgg Try.prog 35 = some true := by kernel_rfl
theorem ag40 : tyAgg Try.prog 40 = some true := by kernel_rfl
theorem ag5 : tyAgg Try.prog 5 = some false := by kernel_rfl
theorem el22 : tyElem Try.prog 22 = some (5, 1) := by kernel_rfl
theorem el24 : tyElem Try.prog 24 = some (40, 2) := by kernel_rfl
theorem el26 : tyElem Try.prog 26 = some (2, 1) := by kernel_rfl
theorem fa107_0 : tyField Try.prog 107 0 = some 0 := by kernel_rfl
theorem fa107_1 : tyField Try.prog 107 1 = some 4 := by kernel_rfl
theorem fa107_2 : tyField Try.prog 107 2 = some 5 := by kernel_rfl
theorem fa107_3 : tyField Try.prog 107 3 = some 6 := by kernel_rfl
theorem fa162_0 : tyField Try.prog 162 0 = some 0 := by kernel_rfl
theorem fa162_1 : tyField Try.prog 162 1 = some 1 := by kernel_rfl
theorem fa162_2 : tyField Try.prog 162 2 = some 2 := by kernel_rfl
theorem fa28_0 : tyField Try.prog 28 0 = some 0 := by kernel_rfl
theorem fa28_1 : tyField Try.prog 28 1 = some 1 := by kernel_rfl
theorem fa35_0 : tyField Try.prog 35 0 = some 0 := by kernel_rfl
theorem fa35_1 : tyField Try.prog 35 1 = some 2 := by kernel_rfl
theorem fa35_2 : tyField Try.prog 35 2 = some 3 := by kernel_rfl
theorem fa40_0 : tyField Try.prog 40 0 = some 0 := by kernel_rfl
theorem fa40_1 : tyField Try.prog 40 1 = some 1 := by kernel_rfl
theorem mix : Try.prog.follows .mixedOrders = true := by kernel_rfl
theorem pl107 : tyPlaces Try.prog 107 = some [(0, 4), (4, 1), (5, 1), (6, 1)] := by kernel_rfl
theorem pl162 : tyPlaces Try.prog 162 = some [(0, 1), (1, 1), (2, 1)] := by kernel_rfl
theorem pl28 : tyPlaces Try.prog 28 = some [(0, 1), (1, 1)] := by kernel_rfl
theorem pl35 : tyPlaces Try.prog 35 = some [(0, 2), (2, 1), (3, 1)] := by kernel_rfl
theorem pl40 : tyPlaces Try.prog 40 = some [(0, 1), (1, 1)] := by kernel_rfl
theorem sz160 : tySize Try.prog 160 = some 1 := by kernel_rfl
theorem sz2 : tySize Try.prog 2 = some 1 := by kernel_rfl
theorem sz26 : tySize Try.prog 26 = some 1 := by kernel_rfl
theorem sz28 : tySize Try.prog 28 = some 2 := by kernel_rfl
theorem sz3 : tySize Try.prog 3 = some 1 := by kernel_rfl
theorem sz35 : tySize Try.prog 35 = some 4 := by kernel_rfl
theorem sz40 : tySize Try.prog 40 = some 2 := by kernel_rfl
theorem z107 : tyZero Try.prog 107 = some (.agg #[.slice none 0 0, .slice none 0 0, .slice none 0 0, .int .i64 0, .slice none 0 0, .slice none 0 0, .int .i64 0], 7, 136) := by kernel_rfl
theorem z162 : tyZero Try.prog 162 = some (.agg #[.slice none 0 0, .int .i64 0, .int .u64 0], 3, 40) := by kernel_rfl
theorem z2 : tyZero Try.prog 2 = some (.int .i64 0, 1, 8) := by kernel_rfl
theorem z28 : tyZero Try.prog 28 = some (.agg #[.slice none 0 0, .slice none 0 0], 2, 48) := by kernel_rfl
theorem z35 : tyZero Try.prog 35 = some (.agg #[.slice none 0 0, .slice none 0 0, .slice none 0 0, .int .i64 0], 4, 80) := by kernel_rfl
theorem z40 : tyZero Try.prog 40 = some (.agg #[.int .i64 0, .int .i64 0], 2, 16) := by kernel_rfl
theorem c_laws_r8Long (p0 : List Int) (p1 : List Int) (out : Bool) (hm : m_laws_r8Long p0 p1 = some out) : ACall Try.prog 12 [.sl 1 (List.map a_u8 p0), .sl 1 (List.map a_u8 p1)] [] (.bool out) [] := by
  refine ACall.intro Try.func12 rfl Try.ntmps12 rfl (fun F hF => ?_)
  unfold m_laws_r8Long at hm
  refine T_seq ?_
  refine T_region ?_
  refine TL_pure rfl rfl rfl rfl (op_assign rfl) ?_
  refine TL_nil ?_
  refine T_seq ?_
  refine T_region ?_
  refine TL_pure rfl rfl rfl rfl (op_move rfl) ?_
  refine TL_pure rfl rfl rfl rfl (op_lenT Try.underlying22 rfl (List.length_map _)) ?_
  refine TL_fact (fun _ _ _ hr => RelP.slLen (i := 5) rfl hr) (fun hlen6 => ?_)
  rw [List.length_map] at hlen6
  refine TL_pure rfl rfl rfl rfl (op_gtr rfl rfl) ?_
  refine TL_pure rfl rfl rfl rfl (op_move rfl) ?_
  refine TL_join 4 (fun _ : Unit => ⟨[(12, .bool ((decide ((48 : Int) < (p0.length : Int))) || (decide ((48 : Int) < (p1.length : Int)))))], []⟩) (fun _ => True) (fun _ _ => ?_) (fun hjj => ?_)
  · refine TL_pure rfl rfl rfl rfl (op_assign rfl) ?_
    refine TL_nil ?_
    refine T_keepH [4] [] rfl rfl rfl rfl (by rw [hF]; rfl) ?_
    refine T_ret ?_
    obtain rfl := someI hm
    refine ⟨[_], [], ⟨rfl, trivial⟩, ?_, rfl, rfl, rfl, rfl⟩
    rfl
  · refine TL_split 8 rfl rfl rfl (fun hq => ?_) (fun hq => ?_)
    · refine TL_pass rfl rfl rfl rfl rfl rfl rfl ?_
      refine TL_pass rfl rfl rfl rfl rfl rfl rfl ?_
      refine TL_pass rfl rfl rfl rfl rfl rfl rfl ?_
      refine TL_pure rfl rfl rfl rfl (op_pick_true rfl rfl) ?_
      refine TL_keepH [12] [] rfl rfl rfl rfl (by rw [hF]; rfl) ?_
      exact TL_cast _ (by first | (rw [hq, Bool.true_or]; done) | (rw [hq]; rfl)) (hjj () trivial)
    · refine TL_want rfl rfl ?_
      refine TL_pure rfl rfl rfl rfl (op_move rfl) ?_
      refine TL_want rfl rfl ?_
      refine TL_pure rfl rfl rfl rfl (op_lenT Try.underlying22 rfl (List.length_map _)) ?_
      refine TL_fact (fun _ _ _ hr => RelP.slLen (i := 9) rfl hr) (fun hlen10 => ?_)
      rw [List.length_map] at hlen10
      refine TL_want rfl rfl ?_
      refine TL_pure rfl rfl rfl rfl (op_gtr rfl rfl) ?_
      refine TL_pure rfl rfl rfl rfl (op_pick_false rfl rfl) ?_
      refine TL_keepH [12] [] rfl rfl rfl rfl (by rw [hF]; rfl) ?_
      exact TL_cast _ (by first | (rw [hq, Bool.false_or]; done) | (rw [hq]; rfl)) (hjj () trivial)
theorem c_spec_l00From (p0 : List Int) (out : l00Src) (hm : m_spec_l00From p0 = some out) : ACall Try.prog 63 [.sl 1 (List.map a_u8 p0)] [] (.ptr 1000 0 0) [(1000, .box [.sl 1 (List.map a_u8 out.code), .int .i64 out.at_, .int .u64 out.seed])] := by
  refine ACall.intro Try.func63 rfl Try.ntmps63 rfl (fun F hF => ?_)
  unfold m_spec_l00From at hm
  refine T_seq ?_
  refine T_region ?_
  refine TL_pure rfl rfl rfl rfl (op_assign rfl) ?_
  refine TL_nil ?_
  refine T_seq ?_
  refine T_region ?_
  refine TL_pure rfl rfl rfl rfl (op_move rfl) ?_
  refine TL_pure rfl rfl rfl rfl (op_buildP pl162 z162 rfl rfl rfl rfl rfl) ?_
  refine TL_box 11 rfl rfl rfl rfl rfl rfl rfl ?_
  refine TL_pure rfl rfl rfl rfl (op_assign rfl) ?_
  refine TL_nil ?_
  refine T_keepH [2] [11] rfl rfl rfl rfl (by rw [hF]; rfl) ?_
  refine T_ren [(11, 1000)] rfl rfl rfl (by rw [hF]; rfl) ?_
  refine T_ret ?_
  obtain rfl := someI hm
  refine ⟨[_], [1000], ⟨rfl, trivial⟩, ?_, rfl, rfl, rfl, rfl⟩
  rfl
theorem c_spec_l00Src_next (p0 : l00Src) (out : Int × l00Src) (hm : m_spec_l00Src_next p0 = some out) : ACall Try.prog 167 [.ptr 0 0 0] [(0, .box [.sl 1 (List.map a_u8 p0.code), .int .i64 p0.at_, .int .u64 p0.seed])] (.int .i64 out.1) [(0, .box [.sl 1 (List.map a_u8 out.2.code), .int .i64 out.2.at_, .int .u64 out.2.seed])] := by
  refine ACall.intro Try.func167 rfl Try.ntmps167 rfl (fun F hF => ?_)
  unfold m_spec_l00Src_next at hm
  refine T_seq ?_
  refine T_region ?_
  refine TL_pure rfl rfl rfl rfl (op_assign rfl) ?_
  refine TL_nil ?_
  refine T_seq ?_
  refine T_region ?_
  refine TL_pure rfl rfl rfl rfl (op_assign rfl) ?_
  refine TL_nil ?_
  refine T_join (fun (j0 : Int) => ⟨[(0, .ptr 0 0 0), (3, .int .i64 j0)], [(0, .box [.sl 1 (List.map a_u8 p0.code), .int .i64 p0.at_, .int .u64 p0.seed])]⟩) (fun j0 => m_spec_l00Src_next_J0 p0 j0 = some out) (fun j0 hm => ?_) (fun hj0 => ?_)
  · unfold m_spec_l00Src_next_J0 at hm
    refine T_seq ?_
    refine T_region ?_
    refine TL_pure rfl rfl rfl rfl (op_move rfl) ?_
    refine TL_pure rfl rfl rfl rfl (op_nilCheck rfl rfl) ?_
    refine TL_pure rfl rfl rfl rfl (op_fieldAddr fa162_1 rfl rfl) ?_
    refine TL_pure rfl rfl rfl rfl (op_load_one ag3 rfl rfl) ?_
    refine TL_pure rfl rfl rfl rfl (op_addW rfl rfl) ?_
    refine TL_pure rfl rfl rfl rfl (op_nilCheck rfl rfl) ?_
    refine TL_pure rfl rfl rfl rfl (op_fieldAddr fa162_1 rfl rfl) ?_
    refine TL_store_box sz3 rfl rfl rfl rfl rfl rfl rfl rfl rfl ?_
    refine TL_nil ?_
    refine T_seq ?_
    refine T_region ?_
    refine TL_pure rfl rfl rfl rfl (op_move rfl) ?_
    refine TL_pure rfl rfl rfl rfl (op_move rfl) ?_
    refine TL_pure rfl rfl rfl rfl (op_nilCheck rfl rfl) ?_
    refine TL_pure rfl rfl rfl rfl (op_fieldAddr fa162_2 rfl rfl) ?_
    refine TL_pure rfl rfl rfl rfl (op_load_one ag160 rfl rfl) ?_
    refine TL_pure rfl rfl rfl rfl (op_mulK wrap_u64 rfl rfl) ?_
    refine TL_pure rfl rfl rfl rfl (op_move rfl) ?_
    refine TL_pure rfl rfl rfl rfl (op_convK wrap_u64 ⟨_, Try.underlying3⟩ Try.underlying160 rfl) ?_
    refine TL_pure rfl rfl rfl rfl (op_addK wrap_u64 rfl rfl) ?_
    refine TL_pure rfl rfl rfl rfl (op_addK wrap_u64 rfl rfl) ?_
    refine TL_pure rfl rfl rfl rfl (op_nilCheck rfl rfl) ?_
    refine TL_pure rfl rfl rfl rfl (op_fieldAddr fa162_2 rfl rfl) ?_
    refine TL_store_box sz160 rfl rfl rfl rfl rfl rfl rfl rfl rfl ?_
    refine TL_nil ?_
    refine T_seq ?_
    refine T_seq ?_
    refine T_drawZ [] mix (by kernel_rfl) rfl ?_
    refine TZ_pure 0 (by kernel_rfl) rfl rfl rfl rfl rfl (op_move rfl) ?_
    refine TZ_pure 1 (by kernel_rfl) rfl rfl rfl rfl rfl (op_nilCheck rfl rfl) ?_
    refine TZ_pure 2 (by kernel_rfl) rfl rfl rfl rfl rfl (op_fieldAddr fa162_1 rfl rfl) ?_
    refine TZ_pure 3 (by kernel_rfl) rfl rfl rfl rfl rfl (op_load_one ag3 rfl rfl) ?_
    refine TZ_pure 4 (by kernel_rfl) rfl rfl rfl rfl rfl (op_move rfl) ?_
    refine TZ_pure 5 (by kernel_rfl) rfl rfl rfl rfl rfl (op_nilCheck rfl rfl) ?_
    refine TZ_pure 6 (by kernel_rfl) rfl rfl rfl rfl rfl (op_fieldAddr fa162_0 rfl rfl) ?_
    refine TZ_pure 7 (by kernel_rfl) rfl rfl rfl rfl rfl (op_load_one ag22 rfl rfl) ?_
    refine TZ_pure 8 (by kernel_rfl) rfl rfl rfl rfl rfl (op_lenT Try.underlying22 rfl (List.length_map _)) ?_
    refine TZ_fact (fun _ _ _ hr => RelP.slLen (i := 51) rfl hr) (fun hlen52 => ?_)
    rw [List.length_map] at hlen52
    refine TZ_pure 9 (by kernel_rfl) rfl rfl rfl rfl rfl (op_leq rfl rfl) ?_
    refine TZ_done (by kernel_rfl) ?_
    refine T_cond rfl (fun hq => ?_) (fun hq => ?_)
    · replace hm := condT hq hm
      refine T_seq ?_
      refine T_region ?_
      refine TL_pure rfl rfl rfl rfl (op_move rfl) ?_
      refine TL_pure rfl rfl rfl rfl (op_assign rfl) ?_
      refine TL_nil ?_
      refine T_keepH [2] [0] rfl rfl rfl rfl (by rw [hF]; rfl) ?_
      refine T_ret ?_
      obtain rfl := someI hm
      refine ⟨[_], [0], ⟨rfl, trivial⟩, ?_, rfl, rfl, rfl, rfl⟩
      rfl
    · replace hm := condF hq hm
      refine T_skip ?_
      refine T_seq ?_
      refine T_region ?_
      refine TL_pure rfl rfl rfl rfl (op_move rfl) ?_
      refine TL_pure rfl rfl rfl rfl (op_nilCheck rfl rfl) ?_
      refine TL_pure rfl rfl rfl rfl (op_fieldAddr fa162_2 rfl rfl) ?_
      refine TL_pure rfl rfl rfl rfl (op_load_one ag160 rfl rfl) ?_
      refine TL_pure rfl rfl rfl rfl (op_shrC (n := 40) rfl (by decide) rfl rfl) ?_
      refine TL_pure rfl rfl rfl rfl (op_andU rfl rfl) ?_
      refine TL_pure rfl rfl rfl rfl (op_convW ⟨_, Try.underlying160⟩ Try.underlying2 rfl) ?_
      refine TL_pure rfl rfl rfl rfl (op_assign rfl) ?_
      refine TL_nil ?_
      refine T_keepH [2] [0] rfl rfl rfl rfl (by rw [hF]; rfl) ?_
      refine T_ret ?_
      obtain rfl := someI hm
      refine ⟨[_], [0], ⟨rfl, trivial⟩, ?_, rfl, rfl, rfl, rfl⟩
      rfl
  · refine T_seq ?_
    refine T_drawZ [] mix (by kernel_rfl) rfl ?_
    refine TZ_pure 0 (by kernel_rfl) rfl rfl rfl rfl rfl (op_move rfl) ?_
    refine TZ_pure 1 (by kernel_rfl) rfl rfl rfl rfl rfl (op_nilCheck rfl rfl) ?_
    refine TZ_pure 2 (by kernel_rfl) rfl rfl rfl rfl rfl (op_fieldAddr fa162_1 rfl rfl) ?_
    refine TZ_pure 3 (by kernel_rfl) rfl rfl rfl rfl rfl (op_load_one ag3 rfl rfl) ?_
    refine TZ_pure 4 (by kernel_rfl) rfl rfl rfl rfl rfl (op_move rfl) ?_
    refine TZ_pure 5 (by kernel_rfl) rfl rfl rfl rfl rfl (op_nilCheck rfl rfl) ?_
    refine TZ_pure 6 (by kernel_rfl) rfl rfl rfl rfl rfl (op_fieldAddr fa162_0 rfl rfl) ?_
    refine TZ_pure 7 (by kernel_rfl) rfl rfl rfl rfl rfl (op_load_one ag22 rfl rfl) ?_
    refine TZ_pure 8 (by kernel_rfl) rfl rfl rfl rfl rfl (op_lenT Try.underlying22 rfl (List.length_map _)) ?_
    refine TZ_fact (fun _ _ _ hr => RelP.slLen (i := 11) rfl hr) (fun hlen12 => ?_)
    rw [List.length_map] at hlen12
    refine TZ_pure 9 (by kernel_rfl) rfl rfl rfl rfl rfl (op_lss rfl rfl) ?_
    refine TZ_done (by kernel_rfl) ?_
    refine T_cond rfl (fun hq => ?_) (fun hq => ?_)
    · replace hm := condT hq hm
      refine T_drawZ [] mix (by kernel_rfl) rfl ?_
      obtain ⟨x22, hx22, hm⟩ := bindS hm
      refine TZ_pure 0 (by kernel_rfl) rfl rfl rfl rfl rfl (op_move rfl) ?_
      refine TZ_pure 1 (by kernel_rfl) rfl rfl rfl rfl rfl (op_nilCheck rfl rfl) ?_
      refine TZ_pure 2 (by kernel_rfl) rfl rfl rfl rfl rfl (op_fieldAddr fa162_0 rfl rfl) ?_
      refine TZ_pure 3 (by kernel_rfl) rfl rfl rfl rfl rfl (op_load_one ag22 rfl rfl) ?_
      refine TZ_pure 4 (by kernel_rfl) rfl rfl rfl rfl rfl (op_move rfl) ?_
      refine TZ_pure 5 (by kernel_rfl) rfl rfl rfl rfl rfl (op_nilCheck rfl rfl) ?_
      refine TZ_pure 6 (by kernel_rfl) rfl rfl rfl rfl rfl (op_fieldAddr fa162_1 rfl rfl) ?_
      refine TZ_pure 7 (by kernel_rfl) rfl rfl rfl rfl rfl (op_load_one ag3 rfl rfl) ?_
      refine TZ_pure 8 (by kernel_rfl) rfl rfl rfl rfl rfl (op_indexT el22 rfl rfl hx22 rfl) ?_
      refine TZ_pure 9 (by kernel_rfl) rfl rfl rfl rfl rfl (op_load_one ag5 rfl rfl) ?_
      refine TZ_pure 10 (by kernel_rfl) rfl rfl rfl rfl rfl (op_convW ⟨_, Try.underlying5⟩ Try.underlying3 rfl) ?_
      refine TZ_pure 11 (by kernel_rfl) rfl rfl rfl rfl rfl (op_assign rfl) ?_
      refine TZ_done (by kernel_rfl) ?_
      refine T_keepH [0, 3] [0] rfl rfl rfl rfl (by rw [hF]; rfl) ?_
      exact hj0 (w64 x22) hm
    · replace hm := condF hq hm
      refine T_skip ?_
      refine T_keepH [0, 3] [0] rfl rfl rfl rfl (by rw [hF]; rfl) ?_
      exact hj0 (0 : Int) hm
theorem c_spec_l00Src_pick (p0 : l00Src) (p1 : Int) (out : Int × l00Src) (hm : m_spec_l00Src_pick p0 p1 = some out) : ACall Try.prog 120 [.ptr 0 0 0, .int .i64 p1] [(0, .box [.sl 1 (List.map a_u8 p0.code), .int .i64 p0.at_, .int .u64 p0.seed])] (.int .i64 out.1) [(0, .box [.sl 1 (List.map a_u8 out.2.code), .int .i64 out.2.at_, .int .u64 out.2.seed])] := by
  refine ACall.intro Try.func120 rfl Try.ntmps120 rfl (fun F hF => ?_)
  unfold m_spec_l00Src_pick at hm
  refine T_seq ?_
  refine T_region ?_
  refine TL_pure rfl rfl rfl rfl (op_assign rfl) ?_
  refine TL_nil ?_
  refine T_seq ?_
  refine T_seq ?_
  refine T_region ?_
  refine TL_pure rfl rfl rfl rfl (op_move rfl) ?_
  refine TL_pure rfl rfl rfl rfl (op_leq rfl rfl) ?_
  refine TL_nil ?_
  refine T_cond rfl (fun hq => ?_) (fun hq => ?_)
  · replace hm := condT hq hm
    refine T_seq ?_
    refine T_region ?_
    refine TL_pure rfl rfl rfl rfl (op_assign rfl) ?_
    refine TL_nil ?_
    refine T_keepH [4] [0] rfl rfl rfl rfl (by rw [hF]; rfl) ?_
    refine T_ret ?_
    obtain rfl := someI hm
    refine ⟨[_], [0], ⟨rfl, trivial⟩, ?_, rfl, rfl, rfl, rfl⟩
    rfl
  · replace hm := condF hq hm
    refine T_skip ?_
    refine T_seq ?_
    refine T_region ?_
    refine TL_pure rfl rfl rfl rfl (op_move rfl) ?_
    obtain ⟨r9, hr9, hm⟩ := bindS hm
    refine TL_call [(0, 0)] [] [] (c_spec_l00Src_next p0 r9 hr9) Try.call167 rfl rfl rfl rfl rfl ⟨rfl, trivial⟩ rfl rfl rfl rfl rfl rfl rfl rfl rfl rfl rfl ?_
    refine TL_pure rfl rfl rfl rfl (op_assign rfl) ?_
    refine TL_nil ?_
    refine T_seq ?_
    refine T_seq ?_
    refine T_region ?_
    refine TL_pure rfl rfl rfl rfl (op_move rfl) ?_
    refine TL_pure rfl rfl rfl rfl (op_gtr rfl rfl) ?_
    refine TL_nil ?_
    refine T_cond rfl (fun hq => ?_) (fun hq => ?_)
    · replace hm := condT hq hm
      refine T_region ?_
      refine TL_pure rfl rfl rfl rfl (op_move rfl) ?_
      refine TL_pure rfl rfl rfl rfl (op_mulW rfl rfl) ?_
      refine TL_pure rfl rfl rfl rfl (op_move rfl) ?_
      obtain ⟨r15, hr15, hm⟩ := bindS hm
      refine TL_call [(0, 0)] [] [] (c_spec_l00Src_next r9.2 r15 hr15) Try.call167 rfl rfl rfl rfl rfl ⟨rfl, trivial⟩ rfl rfl rfl rfl rfl rfl rfl rfl rfl rfl rfl ?_
      refine TL_pure rfl rfl rfl rfl (op_addW rfl rfl) ?_
      refine TL_pure rfl rfl rfl rfl (op_assign rfl) ?_
      refine TL_nil ?_
      refine T_seq ?_
      refine T_region ?_
      refine TL_pure rfl rfl rfl rfl (op_move rfl) ?_
      refine TL_pure rfl rfl rfl rfl (op_move rfl) ?_
      obtain ⟨q19, hq19, hm⟩ := bindS hm
      refine TL_pure rfl rfl rfl rfl (op_remT rfl rfl hq19) ?_
      refine TL_pure rfl rfl rfl rfl (op_assign rfl) ?_
      refine TL_nil ?_
      refine T_keepH [4] [0] rfl rfl rfl rfl (by rw [hF]; rfl) ?_
      refine T_ret ?_
      obtain rfl := someI hm
      refine ⟨[_], [0], ⟨rfl, trivial⟩, ?_, rfl, rfl, rfl, rfl⟩
      rfl
    · replace hm := condF hq hm
      refine T_skip ?_
      refine T_seq ?_
      refine T_region ?_
      refine TL_pure rfl rfl rfl rfl (op_move rfl) ?_
      refine TL_pure rfl rfl rfl rfl (op_move rfl) ?_
      obtain ⟨q19, hq19, hm⟩ := bindS hm
      refine TL_pure rfl rfl rfl rfl (op_remT rfl rfl hq19) ?_
      refine TL_pure rfl rfl rfl rfl (op_assign rfl) ?_
      refine TL_nil ?_
      refine T_keepH [4] [0] rfl rfl rfl rfl (by rw [hF]; rfl) ?_
      refine T_ret ?_
      obtain rfl := someI hm
      refine ⟨[_], [0], ⟨rfl, trivial⟩, ?_, rfl, rfl, rfl, rfl⟩
      rfl
theorem c_spec_l00Src_one (p0 : l00Src) (p1 : Int) (out : Bool × l00Src) (hm : m_spec_l00Src_one p0 p1 = some out) : ACall Try.prog 118 [.ptr 0 0 0, .int .i64 p1] [(0, .box [.sl 1 (List.map a_u8 p0.code), .int .i64 p0.at_, .int .u64 p0.seed])] (.bool out.1) [(0, .box [.sl 1 (List.map a_u8 out.2.code), .int .i64 out.2.at_, .int .u64 out.2.seed])] := by
  refine ACall.intro Try.func118 rfl Try.ntmps118 rfl (fun F hF => ?_)
  unfold m_spec_l00Src_one at hm
  refine T_seq ?_
  refine T_region ?_
  refine TL_pure rfl rfl rfl rfl (op_assign rfl) ?_
  refine TL_nil ?_
  refine T_seq ?_
  refine T_region ?_
  refine TL_pure rfl rfl rfl rfl (op_move rfl) ?_
  refine TL_pure rfl rfl rfl rfl (op_move rfl) ?_
  obtain ⟨r7, hr7, hm⟩ := bindS hm
  refine TL_call [(0, 0)] [] [] (c_spec_l00Src_pick p0 p1 r7 hr7) Try.call120 rfl rfl rfl rfl rfl ⟨rfl, trivial⟩ rfl rfl rfl rfl rfl rfl rfl rfl rfl rfl rfl ?_
  refine TL_pure rfl rfl rfl rfl (op_eql rfl rfl) ?_
  refine TL_pure rfl rfl rfl rfl (op_assign rfl) ?_
  refine TL_nil ?_
  refine T_keepH [4] [0] rfl rfl rfl rfl (by rw [hF]; rfl) ?_
  refine T_ret ?_
  obtain rfl := someI hm
  refine ⟨[_], [0], ⟨rfl, trivial⟩, ?_, rfl, rfl, rfl, rfl⟩
  rfl
theorem c_spec_l07DrawTidy (p0 : l00Src) (out : (List Instr) × l00Src) (hm : m_spec_l07DrawTidy p0 = some out) : ACall Try.prog 119 [.ptr 0 0 0] [(0, .box [.sl 1 (List.map a_u8 p0.code), .int .i64 p0.at_, .int .u64 p0.seed])] (.ow 1000) [(0, .box [.sl 1 (List.map a_u8 out.2.code), .int .i64 out.2.at_, .int .u64 out.2.seed]), (1000, .arr ⟨false, true⟩ 2 40 (List.map a_Instr out.1))] := by
  refine ACall.intro Try.func119 rfl Try.ntmps119 rfl (fun F hF => ?_)
  unfold m_spec_l07DrawTidy at hm
  refine T_seq ?_
  refine T_region ?_
  refine TL_pure rfl rfl rfl rfl (op_assign rfl) ?_
  refine TL_nil ?_
  refine T_seq ?_
  refine T_region ?_
  refine TL_buildSlice 11 (es := List.map a_Instr ([] : List Instr)) el24 z40 rfl rfl rfl rfl rfl rfl rfl rfl rfl ?_
  refine TL_pure rfl rfl rfl rfl (op_assign rfl) ?_
  refine TL_nil ?_
  refine T_seq ?_
  refine T_region ?_
  refine TL_pure rfl rfl rfl rfl (op_move rfl) ?_
  obtain ⟨r12, hr12, hm⟩ := bindS hm
  refine TL_call [(0, 0)] [] [] (c_spec_l00Src_pick p0 (5 : Int) r12 hr12) Try.call120 rfl rfl rfl rfl rfl ⟨rfl, trivial⟩ rfl rfl rfl rfl rfl rfl rfl rfl rfl rfl rfl ?_
  refine TL_pure rfl rfl rfl rfl (op_addW rfl rfl) ?_
  refine TL_pure rfl rfl rfl rfl (op_assign rfl) ?_
  refine TL_nil ?_
  refine T_seq ?_
  refine T_seq ?_
  refine T_region ?_
  refine TL_pure rfl rfl rfl rfl (op_assign rfl) ?_
  refine TL_nil ?_
  refine T_block ?_
  refine T_keepH [0, 3, 4, 5] [0, 11] rfl rfl rfl rfl (by rw [hF]; rfl) ?_
  refine T_loop ?_
  obtain ⟨u0, hl0, hm⟩ := bindS hm
  refine TR_iter2 (m_spec_l07DrawTidy_L0 r12) (fun (s0 : (List Int) × Int × Int × (List Instr) × Int) => ⟨[(0, .ptr 0 0 0), (3, .ow 11), (4, .int .i64 (w64 ((1 : Int) + r12.1))), (5, .int .i64 s0.2.2.2.2)], [(0, .box [.sl 1 (List.map a_u8 s0.1), .int .i64 s0.2.1, .int .u64 s0.2.2.1]), (11, .arr ⟨false, false⟩ 2 40 (List.map a_Instr s0.2.2.2.1))]⟩) (fun u0 => .exit 0) (fun u0 => ⟨[(3, .ow 11)], [(0, .box [.sl 1 (List.map a_u8 u0.2.1), .int .i64 u0.2.2.1, .int .u64 u0.2.2.2]), (11, .arr ⟨false, false⟩ 2 40 (List.map a_Instr u0.1))]⟩) (fun u0 => m_spec_l07DrawTidy_A0 u0 = some out) hl0 hm (fun u0 hm => ?_) (fun hx0 s0 c0 hm hc0 => ?_)
  · unfold m_spec_l07DrawTidy_A0 at hm
    refine T_seq ?_
    refine T_region ?_
    refine TL_pure rfl rfl rfl rfl (op_move rfl) ?_
    refine TL_pure rfl rfl rfl rfl (op_buildP pl40 z40 rfl rfl rfl rfl rfl) ?_
    refine TL_buildSlice 39 (es := List.map a_Instr [(Instr.mk (11 : Int) (0 : Int))]) el24 z40 rfl rfl rfl rfl rfl rfl rfl rfl rfl ?_
    obtain ⟨q102, hq102, hm⟩ := bindS hm
    refine TL_appendT (f := a_Instr) (a := u0.1) (b := [(Instr.mk (11 : Int) (0 : Int))]) el24 z40 rfl rfl rfl rfl rfl rfl rfl (capI_spec hq102) rfl rfl rfl rfl rfl ?_
    refine TL_pure rfl rfl rfl rfl (op_assign rfl) ?_
    refine TL_nil ?_
    refine T_keepH [2] [0, 11] rfl rfl rfl rfl (by rw [hF]; rfl) ?_
    refine T_deepen 11 (p' := false) (List.map a_Instr (u0.1 ++ [(Instr.mk (11 : Int) (0 : Int))])) (by rw [hF]; rfl) rfl (ElR.map (f := a_Instr) (g := a_Instr) (fun _ => ⟨⟨rfl, rfl⟩, ⟨⟨rfl, rfl⟩, trivial⟩⟩) (u0.1 ++ [(Instr.mk (11 : Int) (0 : Int))])) rfl rfl rfl ?_
    refine T_ren [(0, 0), (11, 1000)] rfl rfl rfl (by rw [hF]; rfl) ?_
    refine T_ret ?_
    obtain rfl := someI hm
    refine ⟨[_], [0, 1000], ⟨rfl, trivial⟩, ?_, rfl, rfl, rfl, rfl⟩
    rfl
  · unfold m_spec_l07DrawTidy_L0 at hm
    refine T_seq ?_
    refine T_seq ?_
    refine T_region ?_
    refine TL_pure rfl rfl rfl rfl (op_move rfl) ?_
    refine TL_pure rfl rfl rfl rfl (op_move rfl) ?_
    refine TL_pure rfl rfl rfl rfl (op_lss rfl rfl) ?_
    refine TL_nil ?_
    refine T_cond rfl (fun hq => ?_) (fun hq => ?_)
    · replace hm := condT hq hm
      refine T_skip ?_
      refine T_seq ?_
      refine T_block ?_
      refine T_seq ?_
      refine T_region ?_
      refine TL_pure rfl rfl rfl rfl (op_move rfl) ?_
      obtain ⟨r20, hr20, hm⟩ := bindS hm
      refine TL_call [(0, 0)] [] [] (c_spec_l00Src_pick (l00Src.mk s0.1 s0.2.1 s0.2.2.1) (4 : Int) r20 hr20) Try.call120 rfl rfl rfl rfl rfl ⟨rfl, trivial⟩ rfl rfl rfl rfl rfl rfl rfl rfl rfl rfl rfl ?_
      refine TL_pure rfl rfl rfl rfl (op_buildP pl40 z40 rfl rfl rfl rfl rfl) ?_
      refine TL_alloc 30 z40 rfl rfl rfl rfl rfl rfl rfl ?_
      refine TL_store_box sz40 rfl rfl rfl rfl rfl rfl rfl rfl rfl ?_
      refine TL_nil ?_
      refine T_seq ?_
      refine T_region ?_
      refine TL_pure rfl rfl rfl rfl (op_move rfl) ?_
      obtain ⟨r23, hr23, hm⟩ := bindS hm
      refine TL_call [(0, 0)] [] [] (c_spec_l00Src_pick r20.2 (9 : Int) r23 hr23) Try.call120 rfl rfl rfl rfl rfl ⟨rfl, trivial⟩ rfl rfl rfl rfl rfl rfl rfl rfl rfl rfl rfl ?_
      refine TL_pure rfl rfl rfl rfl (op_subW rfl rfl) ?_
      refine TL_pure rfl rfl rfl rfl (op_buildP pl40 z40 rfl rfl rfl rfl rfl) ?_
      refine TL_alloc 31 z40 rfl rfl rfl rfl rfl rfl rfl ?_
      refine TL_store_box sz40 rfl rfl rfl rfl rfl rfl rfl rfl rfl ?_
      refine TL_nil ?_
      refine T_seq ?_
      refine T_region ?_
      refine TL_pure rfl rfl rfl rfl (op_move rfl) ?_
      obtain ⟨r27, hr27, hm⟩ := bindS hm
      refine TL_call [(0, 0)] [] [] (c_spec_l00Src_pick r23.2 (4 : Int) r27 hr27) Try.call120 rfl rfl rfl rfl rfl ⟨rfl, trivial⟩ rfl rfl rfl rfl rfl rfl rfl rfl rfl rfl rfl ?_
      refine TL_pure rfl rfl rfl rfl (op_buildP pl40 z40 rfl rfl rfl rfl rfl) ?_
      refine TL_alloc 32 z40 rfl rfl rfl rfl rfl rfl rfl ?_
      refine TL_store_box sz40 rfl rfl rfl rfl rfl rfl rfl rfl rfl ?_
      refine TL_nil ?_
      refine T_seq ?_
      refine T_region ?_
      refine TL_pure rfl rfl rfl rfl (op_move rfl) ?_
      refine TL_pure rfl rfl rfl rfl (op_move rfl) ?_
      refine TL_pure rfl rfl rfl rfl (op_addW rfl rfl) ?_
      obtain ⟨r32, hr32, hm⟩ := bindS hm
      refine TL_call [(0, 0)] [] [] (c_spec_l00Src_pick r27.2 (w64 ((w64 ((1 : Int) + r12.1)) + (1 : Int))) r32 hr32) Try.call120 rfl rfl rfl rfl rfl ⟨rfl, trivial⟩ rfl rfl rfl rfl rfl rfl rfl rfl rfl rfl rfl ?_
      refine TL_pure rfl rfl rfl rfl (op_mulW rfl rfl) ?_
      refine TL_pure rfl rfl rfl rfl (op_assign rfl) ?_
      refine TL_nil ?_
      refine T_seq ?_
      refine T_region ?_
      refine TL_pure rfl rfl rfl rfl (op_move rfl) ?_
      obtain ⟨r35, hr35, hm⟩ := bindS hm
      refine TL_call [(0, 0)] [] [] (c_spec_l00Src_pick r32.2 (6 : Int) r35 hr35) Try.call120 rfl rfl rfl rfl rfl ⟨rfl, trivial⟩ rfl rfl rfl rfl rfl rfl rfl rfl rfl rfl rfl ?_
      refine TL_nil ?_
      refine T_block ?_
      refine T_seq ?_
      refine T_region ?_
      refine TL_pure rfl rfl rfl rfl (op_eql rfl rfl) ?_
      refine TL_pure rfl rfl rfl rfl (op_assign rfl) ?_
      refine TL_nil ?_
      refine T_cond rfl (fun hq => ?_) (fun hq => ?_)
      · replace hm := condT hq hm
        refine T_region ?_
        refine TL_pure rfl rfl rfl rfl (op_move rfl) ?_
        refine TL_pure rfl rfl rfl rfl (op_load_agg ag40 sz40 rfl rfl rfl) ?_
        refine TL_pure rfl rfl rfl rfl (op_load_agg ag40 sz40 rfl rfl rfl) ?_
        refine TL_pure rfl rfl rfl rfl (op_buildP pl40 z40 rfl rfl rfl rfl rfl) ?_
        refine TL_pure rfl rfl rfl rfl (op_load_agg ag40 sz40 rfl rfl rfl) ?_
        refine TL_buildSlice 33 (es := List.map a_Instr [(Instr.mk (1 : Int) r20.1), (Instr.mk (0 : Int) (w64 (r23.1 - (2 : Int)))), (Instr.mk (3 : Int) (0 : Int)), (Instr.mk (2 : Int) r27.1)]) el24 z40 rfl rfl rfl rfl rfl rfl rfl rfl rfl ?_
        obtain ⟨q44, hq44, hm⟩ := bindS hm
        refine TL_appendT (f := a_Instr) (a := s0.2.2.2.1) (b := [(Instr.mk (1 : Int) r20.1), (Instr.mk (0 : Int) (w64 (r23.1 - (2 : Int)))), (Instr.mk (3 : Int) (0 : Int)), (Instr.mk (2 : Int) r27.1)]) el24 z40 rfl rfl rfl rfl rfl rfl rfl (capI_spec hq44) rfl rfl rfl rfl rfl ?_
        refine TL_pure rfl rfl rfl rfl (op_assign rfl) ?_
        refine TL_nil ?_
        refine T_region ?_
        refine TL_pure rfl rfl rfl rfl (op_move rfl) ?_
        refine TL_pure rfl rfl rfl rfl (op_addW rfl rfl) ?_
        refine TL_pure rfl rfl rfl rfl (op_assign rfl) ?_
        refine TL_nil ?_
        refine TR_keepH [0, 3, 4, 5] [0, 11] rfl rfl rfl rfl (by rw [hF]; rfl) ?_
        obtain rfl := someI hm
        have hn := CtlOK_next hc0
        exact hn _ rfl
      · replace hm := condF hq hm
        refine T_seq ?_
        refine T_region ?_
        refine TL_pure rfl rfl rfl rfl (op_eql rfl rfl) ?_
        refine TL_pure rfl rfl rfl rfl (op_assign rfl) ?_
        refine TL_nil ?_
        refine T_cond rfl (fun hq => ?_) (fun hq => ?_)
        · replace hm := condT hq hm
          refine T_region ?_
          refine TL_pure rfl rfl rfl rfl (op_move rfl) ?_
          refine TL_pure rfl rfl rfl rfl (op_load_agg ag40 sz40 rfl rfl rfl) ?_
          refine TL_pure rfl rfl rfl rfl (op_fieldAddr fa40_1 rfl rfl) ?_
          refine TL_pure rfl rfl rfl rfl (op_load_one ag2 rfl rfl) ?_
          refine TL_pure rfl rfl rfl rfl (op_buildP pl40 z40 rfl rfl rfl rfl rfl) ?_
          refine TL_pure rfl rfl rfl rfl (op_move rfl) ?_
          refine TL_pure rfl rfl rfl rfl (op_buildP pl40 z40 rfl rfl rfl rfl rfl) ?_
          refine TL_pure rfl rfl rfl rfl (op_move rfl) ?_
          refine TL_pure rfl rfl rfl rfl (op_rem rfl rfl (by decide)) ?_
          refine TL_pure rfl rfl rfl rfl (op_buildP pl40 z40 rfl rfl rfl rfl rfl) ?_
          refine TL_buildSlice 34 (es := List.map a_Instr [(Instr.mk (1 : Int) r20.1), (Instr.mk (4 : Int) (w64 (r23.1 - (2 : Int)))), (Instr.mk (6 : Int) (w64 ((4 : Int) * r32.1))), (Instr.mk (9 : Int) (Int.tmod s0.2.2.2.2 (4 : Int)))]) el24 z40 rfl rfl rfl rfl rfl rfl rfl rfl rfl ?_
          obtain ⟨q58, hq58, hm⟩ := bindS hm
          refine TL_appendT (f := a_Instr) (a := s0.2.2.2.1) (b := [(Instr.mk (1 : Int) r20.1), (Instr.mk (4 : Int) (w64 (r23.1 - (2 : Int)))), (Instr.mk (6 : Int) (w64 ((4 : Int) * r32.1))), (Instr.mk (9 : Int) (Int.tmod s0.2.2.2.2 (4 : Int)))]) el24 z40 rfl rfl rfl rfl rfl rfl rfl (capI_spec hq58) rfl rfl rfl rfl rfl ?_
          refine TL_pure rfl rfl rfl rfl (op_assign rfl) ?_
          refine TL_nil ?_
          refine T_region ?_
          refine TL_pure rfl rfl rfl rfl (op_move rfl) ?_
          refine TL_pure rfl rfl rfl rfl (op_addW rfl rfl) ?_
          refine TL_pure rfl rfl rfl rfl (op_assign rfl) ?_
          refine TL_nil ?_
          refine TR_keepH [0, 3, 4, 5] [0, 11] rfl rfl rfl rfl (by rw [hF]; rfl) ?_
          obtain rfl := someI hm
          have hn := CtlOK_next hc0
          exact hn _ rfl
        · replace hm := condF hq hm
          refine T_seq ?_
          refine T_region ?_
          refine TL_pure rfl rfl rfl rfl (op_eql rfl rfl) ?_
          refine TL_pure rfl rfl rfl rfl (op_assign rfl) ?_
          refine TL_nil ?_
          refine T_cond rfl (fun hq => ?_) (fun hq => ?_)
          · replace hm := condT hq hm
            refine T_region ?_
            refine TL_pure rfl rfl rfl rfl (op_move rfl) ?_
            refine TL_pure rfl rfl rfl rfl (op_load_agg ag40 sz40 rfl rfl rfl) ?_
            refine TL_pure rfl rfl rfl rfl (op_buildP pl40 z40 rfl rfl rfl rfl rfl) ?_
            refine TL_pure rfl rfl rfl rfl (op_load_agg ag40 sz40 rfl rfl rfl) ?_
            refine TL_pure rfl rfl rfl rfl (op_fieldAddr fa40_1 rfl rfl) ?_
            refine TL_pure rfl rfl rfl rfl (op_load_one ag2 rfl rfl) ?_
            refine TL_pure rfl rfl rfl rfl (op_buildP pl40 z40 rfl rfl rfl rfl rfl) ?_
            refine TL_buildSlice 35 (es := List.map a_Instr [(Instr.mk (0 : Int) (w64 (r23.1 - (2 : Int)))), (Instr.mk (7 : Int) (0 : Int)), (Instr.mk (2 : Int) r27.1), (Instr.mk (9 : Int) r27.1)]) el24 z40 rfl rfl rfl rfl rfl rfl rfl rfl rfl ?_
            obtain ⟨q69, hq69, hm⟩ := bindS hm
            refine TL_appendT (f := a_Instr) (a := s0.2.2.2.1) (b := [(Instr.mk (0 : Int) (w64 (r23.1 - (2 : Int)))), (Instr.mk (7 : Int) (0 : Int)), (Instr.mk (2 : Int) r27.1), (Instr.mk (9 : Int) r27.1)]) el24 z40 rfl rfl rfl rfl rfl rfl rfl (capI_spec hq69) rfl rfl rfl rfl rfl ?_
            refine TL_pure rfl rfl rfl rfl (op_assign rfl) ?_
            refine TL_nil ?_
            refine T_region ?_
            refine TL_pure rfl rfl rfl rfl (op_move rfl) ?_
            refine TL_pure rfl rfl rfl rfl (op_addW rfl rfl) ?_
            refine TL_pure rfl rfl rfl rfl (op_assign rfl) ?_
            refine TL_nil ?_
            refine TR_keepH [0, 3, 4, 5] [0, 11] rfl rfl rfl rfl (by rw [hF]; rfl) ?_
            obtain rfl := someI hm
            have hn := CtlOK_next hc0
            exact hn _ rfl
          · replace hm := condF hq hm
            refine T_seq ?_
            refine T_region ?_
            refine TL_pure rfl rfl rfl rfl (op_eql rfl rfl) ?_
            refine TL_pure rfl rfl rfl rfl (op_assign rfl) ?_
            refine TL_nil ?_
            refine T_cond rfl (fun hq => ?_) (fun hq => ?_)
            · replace hm := condT hq hm
              refine T_region ?_
              refine TL_pure rfl rfl rfl rfl (op_move rfl) ?_
              refine TL_pure rfl rfl rfl rfl (op_load_agg ag40 sz40 rfl rfl rfl) ?_
              refine TL_pure rfl rfl rfl rfl (op_load_agg ag40 sz40 rfl rfl rfl) ?_
              refine TL_pure rfl rfl rfl rfl (op_buildP pl40 z40 rfl rfl rfl rfl rfl) ?_
              refine TL_pure rfl rfl rfl rfl (op_move rfl) ?_
              refine TL_pure rfl rfl rfl rfl (op_buildP pl40 z40 rfl rfl rfl rfl rfl) ?_
              refine TL_buildSlice 36 (es := List.map a_Instr [(Instr.mk (0 : Int) (w64 (r23.1 - (2 : Int)))), (Instr.mk (1 : Int) r20.1), (Instr.mk (8 : Int) (0 : Int)), (Instr.mk (5 : Int) (w64 ((4 : Int) * r32.1)))]) el24 z40 rfl rfl rfl rfl rfl rfl rfl rfl rfl ?_
              obtain ⟨q79, hq79, hm⟩ := bindS hm
              refine TL_appendT (f := a_Instr) (a := s0.2.2.2.1) (b := [(Instr.mk (0 : Int) (w64 (r23.1 - (2 : Int)))), (Instr.mk (1 : Int) r20.1), (Instr.mk (8 : Int) (0 : Int)), (Instr.mk (5 : Int) (w64 ((4 : Int) * r32.1)))]) el24 z40 rfl rfl rfl rfl rfl rfl rfl (capI_spec hq79) rfl rfl rfl rfl rfl ?_
              refine TL_pure rfl rfl rfl rfl (op_assign rfl) ?_
              refine TL_nil ?_
              refine T_region ?_
              refine TL_pure rfl rfl rfl rfl (op_move rfl) ?_
              refine TL_pure rfl rfl rfl rfl (op_addW rfl rfl) ?_
              refine TL_pure rfl rfl rfl rfl (op_assign rfl) ?_
              refine TL_nil ?_
              refine TR_keepH [0, 3, 4, 5] [0, 11] rfl rfl rfl rfl (by rw [hF]; rfl) ?_
              obtain rfl := someI hm
              have hn := CtlOK_next hc0
              exact hn _ rfl
            · replace hm := condF hq hm
              refine T_seq ?_
              refine T_region ?_
              refine TL_pure rfl rfl rfl rfl (op_eql rfl rfl) ?_
              refine TL_pure rfl rfl rfl rfl (op_assign rfl) ?_
              refine TL_nil ?_
              refine T_cond rfl (fun hq => ?_) (fun hq => ?_)
              · replace hm := condT hq hm
                refine T_region ?_
                refine TL_pure rfl rfl rfl rfl (op_move rfl) ?_
                refine TL_pure rfl rfl rfl rfl (op_load_agg ag40 sz40 rfl rfl rfl) ?_
                refine TL_pure rfl rfl rfl rfl (op_buildP pl40 z40 rfl rfl rfl rfl rfl) ?_
                refine TL_pure rfl rfl rfl rfl (op_load_agg ag40 sz40 rfl rfl rfl) ?_
                refine TL_pure rfl rfl rfl rfl (op_load_agg ag40 sz40 rfl rfl rfl) ?_
                refine TL_buildSlice 37 (es := List.map a_Instr [(Instr.mk (1 : Int) r20.1), (Instr.mk (10 : Int) (0 : Int)), (Instr.mk (0 : Int) (w64 (r23.1 - (2 : Int)))), (Instr.mk (2 : Int) r27.1)]) el24 z40 rfl rfl rfl rfl rfl rfl rfl rfl rfl ?_
                obtain ⟨q88, hq88, hm⟩ := bindS hm
                refine TL_appendT (f := a_Instr) (a := s0.2.2.2.1) (b := [(Instr.mk (1 : Int) r20.1), (Instr.mk (10 : Int) (0 : Int)), (Instr.mk (0 : Int) (w64 (r23.1 - (2 : Int)))), (Instr.mk (2 : Int) r27.1)]) el24 z40 rfl rfl rfl rfl rfl rfl rfl (capI_spec hq88) rfl rfl rfl rfl rfl ?_
                refine TL_pure rfl rfl rfl rfl (op_assign rfl) ?_
                refine TL_nil ?_
                refine T_region ?_
                refine TL_pure rfl rfl rfl rfl (op_move rfl) ?_
                refine TL_pure rfl rfl rfl rfl (op_addW rfl rfl) ?_
                refine TL_pure rfl rfl rfl rfl (op_assign rfl) ?_
                refine TL_nil ?_
                refine TR_keepH [0, 3, 4, 5] [0, 11] rfl rfl rfl rfl (by rw [hF]; rfl) ?_
                obtain rfl := someI hm
                have hn := CtlOK_next hc0
                exact hn _ rfl
              · replace hm := condF hq hm
                refine T_seq ?_
                refine T_region ?_
                refine TL_pure rfl rfl rfl rfl (op_eql rfl rfl) ?_
                refine TL_pure rfl rfl rfl rfl (op_assign rfl) ?_
                refine TL_nil ?_
                refine T_cond rfl (fun hq => ?_) (fun hq => ?_)
                · replace hm := condT hq hm
                  refine T_region ?_
                  refine TL_pure rfl rfl rfl rfl (op_move rfl) ?_
                  refine TL_pure rfl rfl rfl rfl (op_load_agg ag40 sz40 rfl rfl rfl) ?_
                  refine TL_pure rfl rfl rfl rfl (op_load_agg ag40 sz40 rfl rfl rfl) ?_
                  refine TL_pure rfl rfl rfl rfl (op_buildP pl40 z40 rfl rfl rfl rfl rfl) ?_
                  refine TL_pure rfl rfl rfl rfl (op_move rfl) ?_
                  refine TL_pure rfl rfl rfl rfl (op_buildP pl40 z40 rfl rfl rfl rfl rfl) ?_
                  refine TL_buildSlice 38 (es := List.map a_Instr [(Instr.mk (1 : Int) r20.1), (Instr.mk (0 : Int) (w64 (r23.1 - (2 : Int)))), (Instr.mk (3 : Int) (0 : Int)), (Instr.mk (6 : Int) (w64 ((4 : Int) * r32.1)))]) el24 z40 rfl rfl rfl rfl rfl rfl rfl rfl rfl ?_
                  obtain ⟨q98, hq98, hm⟩ := bindS hm
                  refine TL_appendT (f := a_Instr) (a := s0.2.2.2.1) (b := [(Instr.mk (1 : Int) r20.1), (Instr.mk (0 : Int) (w64 (r23.1 - (2 : Int)))), (Instr.mk (3 : Int) (0 : Int)), (Instr.mk (6 : Int) (w64 ((4 : Int) * r32.1)))]) el24 z40 rfl rfl rfl rfl rfl rfl rfl (capI_spec hq98) rfl rfl rfl rfl rfl ?_
                  refine TL_pure rfl rfl rfl rfl (op_assign rfl) ?_
                  refine TL_nil ?_
                  refine T_region ?_
                  refine TL_pure rfl rfl rfl rfl (op_move rfl) ?_
                  refine TL_pure rfl rfl rfl rfl (op_addW rfl rfl) ?_
                  refine TL_pure rfl rfl rfl rfl (op_assign rfl) ?_
                  refine TL_nil ?_
                  refine TR_keepH [0, 3, 4, 5] [0, 11] rfl rfl rfl rfl (by rw [hF]; rfl) ?_
                  obtain rfl := someI hm
                  have hn := CtlOK_next hc0
                  exact hn _ rfl
                · replace hm := condF hq hm
                  refine T_skip ?_
                  refine T_region ?_
                  refine TL_pure rfl rfl rfl rfl (op_move rfl) ?_
                  refine TL_pure rfl rfl rfl rfl (op_addW rfl rfl) ?_
                  refine TL_pure rfl rfl rfl rfl (op_assign rfl) ?_
                  refine TL_nil ?_
                  refine TR_keepH [0, 3, 4, 5] [0, 11] rfl rfl rfl rfl (by rw [hF]; rfl) ?_
                  obtain rfl := someI hm
                  have hn := CtlOK_next hc0
                  exact hn _ rfl
    · replace hm := condF hq hm
      refine T_keepH [3] [0, 11] rfl rfl rfl rfl (by rw [hF]; rfl) ?_
      refine T_exit ?_
      obtain rfl := someI hm
      have hn := CtlOK_out hc0
      exact hx0 (s0.2.2.2.1, s0.1, s0.2.1, s0.2.2.1) hn
theorem c_spec_l00Src_among (p0 : l00Src) (p1 : List Int) (out : Int × l00Src) (hm : m_spec_l00Src_among p0 p1 = some out) : ACall Try.prog 122 [.ptr 0 0 0, .sl 1 (List.map a_i64 p1)] [(0, .box [.sl 1 (List.map a_u8 p0.code), .int .i64 p0.at_, .int .u64 p0.seed])] (.int .i64 out.1) [(0, .box [.sl 1 (List.map a_u8 out.2.code), .int .i64 out.2.at_, .int .u64 out.2.seed])] := by
  refine ACall.intro Try.func122 rfl Try.ntmps122 rfl (fun F hF => ?_)
  unfold m_spec_l00Src_among at hm
  refine T_seq ?_
  refine T_region ?_
  refine TL_pure rfl rfl rfl rfl (op_assign rfl) ?_
  refine TL_nil ?_
  refine T_seq ?_
  refine T_region ?_
  refine TL_pure rfl rfl rfl rfl (op_move rfl) ?_
  refine TL_pure rfl rfl rfl rfl (op_move rfl) ?_
  refine TL_pure rfl rfl rfl rfl (op_move rfl) ?_
  refine TL_pure rfl rfl rfl rfl (op_lenT Try.underlying26 rfl (List.length_map _)) ?_
  refine TL_fact (fun _ _ _ hr => RelP.slLen (i := 7) rfl hr) (fun hlen8 => ?_)
  rw [List.length_map] at hlen8
  obtain ⟨r9, hr9, hm⟩ := bindS hm
  refine TL_call [(0, 0)] [] [] (c_spec_l00Src_pick p0 (p1.length : Int) r9 hr9) Try.call120 rfl rfl rfl rfl rfl ⟨rfl, trivial⟩ rfl rfl rfl rfl rfl rfl rfl rfl rfl rfl rfl ?_
  obtain ⟨x10, hx10, hm⟩ := bindS hm
  refine TL_pure rfl rfl rfl rfl (op_indexT el26 rfl rfl hx10 rfl) ?_
  refine TL_pure rfl rfl rfl rfl (op_load_one ag2 rfl rfl) ?_
  refine TL_pure rfl rfl rfl rfl (op_assign rfl) ?_
  refine TL_nil ?_
  refine T_keepH [4] [0] rfl rfl rfl rfl (by rw [hF]; rfl) ?_
  refine T_ret ?_
  obtain rfl := someI hm
  refine ⟨[_], [0], ⟨rfl, trivial⟩, ?_, rfl, rfl, rfl, rfl⟩
  rfl
theorem c_spec_l00Min (p0 : Int) (p1 : Int) (out : Int) (hm : m_spec_l00Min p0 p1 = some out) : ACall Try.prog 168 [.int .i64 p0, .int .i64 p1] [] (.int .i64 out) [] := by
  refine ACall.intro Try.func168 rfl Try.ntmps168 rfl (fun F hF => ?_)
  unfold m_spec_l00Min at hm
  refine T_seq ?_
  refine T_region ?_
  refine TL_pure rfl rfl rfl rfl (op_assign rfl) ?_
  refine TL_nil ?_
  refine T_seq ?_
  refine T_seq ?_
  refine T_region ?_
  refine TL_pure rfl rfl rfl rfl (op_move rfl) ?_
  refine TL_pure rfl rfl rfl rfl (op_move rfl) ?_
  refine TL_pure rfl rfl rfl rfl (op_lss rfl rfl) ?_
  refine TL_nil ?_
  refine T_cond rfl (fun hq => ?_) (fun hq => ?_)
  · replace hm := condT hq hm
    refine T_seq ?_
    refine T_region ?_
    refine TL_pure rfl rfl rfl rfl (op_move rfl) ?_
    refine TL_pure rfl rfl rfl rfl (op_assign rfl) ?_
    refine TL_nil ?_
    refine T_keepH [4] [] rfl rfl rfl rfl (by rw [hF]; rfl) ?_
    refine T_ret ?_
    obtain rfl := someI hm
    refine ⟨[_], [], ⟨rfl, trivial⟩, ?_, rfl, rfl, rfl, rfl⟩
    rfl
  · replace hm := condF hq hm
    refine T_skip ?_
    refine T_seq ?_
    refine T_region ?_
    refine TL_pure rfl rfl rfl rfl (op_move rfl) ?_
    refine TL_pure rfl rfl rfl rfl (op_assign rfl) ?_
    refine TL_nil ?_
    refine T_keepH [4] [] rfl rfl rfl rfl (by rw [hF]; rfl) ?_
    refine T_ret ?_
    obtain rfl := someI hm
    refine ⟨[_], [], ⟨rfl, trivial⟩, ?_, rfl, rfl, rfl, rfl⟩
    rfl
theorem c_spec_l07DrawInstr (p0 : l00Src) (p1 : Int) (out : Instr × l00Src) (hm : m_spec_l07DrawInstr p0 p1 = some out) : ACall Try.prog 121 [.ptr 0 0 0, .int .i64 p1] [(0, .box [.sl 1 (List.map a_u8 p0.code), .int .i64 p0.at_, .int .u64 p0.seed])] (.agg [.int .i64 out.1.Op, .int .i64 out.1.Arg]) [(0, .box [.sl 1 (List.map a_u8 out.2.code), .int .i64 out.2.at_, .int .u64 out.2.seed])] := by
  refine ACall.intro Try.func121 rfl Try.ntmps121 rfl (fun F hF => ?_)
  unfold m_spec_l07DrawInstr at hm
  refine T_seq ?_
  refine T_region ?_
  refine TL_alloc 11 z40 rfl rfl rfl rfl rfl rfl rfl ?_
  refine TL_nil ?_
  refine T_seq ?_
  refine T_region ?_
  refine TL_pure rfl rfl rfl rfl (op_move rfl) ?_
  obtain ⟨r7, hr7, hm⟩ := bindS hm
  refine TL_call [(0, 0)] [] [] (c_spec_l00Src_pick p0 (12 : Int) r7 hr7) Try.call120 rfl rfl rfl rfl rfl ⟨rfl, trivial⟩ rfl rfl rfl rfl rfl rfl rfl rfl rfl rfl rfl ?_
  refine TL_pure rfl rfl rfl rfl (op_buildP pl40 z40 rfl rfl rfl rfl rfl) ?_
  refine TL_alloc 12 z40 rfl rfl rfl rfl rfl rfl rfl ?_
  refine TL_store_box sz40 rfl rfl rfl rfl rfl rfl rfl rfl rfl ?_
  refine TL_nil ?_
  refine T_seq ?_
  refine T_seq ?_
  refine T_region ?_
  refine TL_pure rfl rfl rfl rfl (op_fieldAddr fa40_0 rfl rfl) ?_
  refine TL_pure rfl rfl rfl rfl (op_load_one ag2 rfl rfl) ?_
  refine TL_nil ?_
  refine T_block ?_
  refine T_join (fun (j0 : Bool) => ⟨[(0, .ptr 0 0 0), (1, .int .i64 p1), (4, .ptr 11 0 0), (5, .ptr 12 0 0), (10, .int .i64 r7.1), (11, .bool j0)], [(0, .box [.sl 1 (List.map a_u8 r7.2.code), .int .i64 r7.2.at_, .int .u64 r7.2.seed]), (11, .box [.int .i64 (0 : Int), .int .i64 (0 : Int)]), (12, .box [.int .i64 r7.1, .int .i64 (0 : Int)])]⟩) (fun j0 => m_spec_l07DrawInstr_J0 p1 r7 j0 = some out) (fun j0 hm => ?_) (fun hj0 => ?_)
  · unfold m_spec_l07DrawInstr_J0 at hm
    refine T_cond rfl (fun hq => ?_) (fun hq => ?_)
    · replace hm := condT hq hm
      refine T_seq ?_
      refine T_region ?_
      refine TL_pure rfl rfl rfl rfl (op_move rfl) ?_
      obtain ⟨r15, hr15, hm⟩ := bindS hm
      refine TL_call [(0, 0)] [] [] (c_spec_l00Src_pick r7.2 (9 : Int) r15 hr15) Try.call120 rfl rfl rfl rfl rfl ⟨rfl, trivial⟩ rfl rfl rfl rfl rfl rfl rfl rfl rfl rfl rfl ?_
      refine TL_pure rfl rfl rfl rfl (op_subW rfl rfl) ?_
      refine TL_pure rfl rfl rfl rfl (op_fieldAddr fa40_1 rfl rfl) ?_
      refine TL_store_box sz2 rfl rfl rfl rfl rfl rfl rfl rfl rfl ?_
      refine TL_nil ?_
      refine T_seq ?_
      refine T_region ?_
      refine TL_pure rfl rfl rfl rfl (op_move rfl) ?_
      obtain ⟨r19, hr19, hm⟩ := bindS hm
      refine TL_call [(0, 0)] [] [] (c_spec_l00Src_one r15.2 (20 : Int) r19 hr19) Try.call118 rfl rfl rfl rfl rfl ⟨rfl, trivial⟩ rfl rfl rfl rfl rfl rfl rfl rfl rfl rfl rfl ?_
      refine TL_nil ?_
      refine T_cond rfl (fun hq => ?_) (fun hq => ?_)
      · replace hm := condT hq hm
        refine T_region ?_
        refine TL_pure rfl rfl rfl rfl (op_move rfl) ?_
        refine TL_buildSlice 13 (es := List.map a_i64 [(1000000 : Int), (-1000000 : Int)]) el26 z2 rfl rfl rfl rfl rfl rfl rfl rfl rfl ?_
        refine TL_freeze 13 (by rw [hF]; rfl) rfl rfl rfl ?_
        obtain ⟨r22, hr22, hm⟩ := bindS hm
        refine TL_call [(0, 0)] [] [] (c_spec_l00Src_among r19.2 [(1000000 : Int), (-1000000 : Int)] r22 hr22) Try.call122 rfl rfl rfl rfl rfl ⟨rfl, trivial⟩ rfl rfl rfl rfl rfl rfl rfl rfl rfl rfl rfl ?_
        refine TL_pure rfl rfl rfl rfl (op_fieldAddr fa40_1 rfl rfl) ?_
        refine TL_store_box sz2 rfl rfl rfl rfl rfl rfl rfl rfl rfl ?_
        refine TL_nil ?_
        refine T_seq ?_
        refine T_region ?_
        refine TL_pure rfl rfl rfl rfl (op_load_agg ag40 sz40 rfl rfl rfl) ?_
        refine TL_store_box sz40 rfl rfl rfl rfl rfl rfl rfl rfl rfl ?_
        refine TL_nil ?_
        refine T_keepH [4] [0, 11] rfl rfl rfl rfl (by rw [hF]; rfl) ?_
        refine T_ret ?_
        obtain rfl := someI hm
        refine ⟨[_], [0], ⟨⟨_, _, rfl, rfl, .inr ⟨ag40, _, _, sz40, rfl, rfl⟩⟩, trivial⟩, ?_, rfl, rfl, rfl, rfl⟩
        rfl
      · replace hm := condF hq hm
        refine T_skip ?_
        refine T_seq ?_
        refine T_region ?_
        refine TL_pure rfl rfl rfl rfl (op_load_agg ag40 sz40 rfl rfl rfl) ?_
        refine TL_store_box sz40 rfl rfl rfl rfl rfl rfl rfl rfl rfl ?_
        refine TL_nil ?_
        refine T_keepH [4] [0, 11] rfl rfl rfl rfl (by rw [hF]; rfl) ?_
        refine T_ret ?_
        obtain rfl := someI hm
        refine ⟨[_], [0], ⟨⟨_, _, rfl, rfl, .inr ⟨ag40, _, _, sz40, rfl, rfl⟩⟩, trivial⟩, ?_, rfl, rfl, rfl, rfl⟩
        rfl
    · replace hm := condF hq hm
      refine T_join (fun (j1 : Bool) => ⟨[(0, .ptr 0 0 0), (1, .int .i64 p1), (4, .ptr 11 0 0), (5, .ptr 12 0 0), (10, .int .i64 r7.1), (24, .bool j1)], [(0, .box [.sl 1 (List.map a_u8 r7.2.code), .int .i64 r7.2.at_, .int .u64 r7.2.seed]), (11, .box [.int .i64 (0 : Int), .int .i64 (0 : Int)]), (12, .box [.int .i64 r7.1, .int .i64 (0 : Int)])]⟩) (fun j1 => m_spec_l07DrawInstr_J1 p1 r7 j1 = some out) (fun j1 hm => ?_) (fun hj1 => ?_)
      · unfold m_spec_l07DrawInstr_J1 at hm
        refine T_cond rfl (fun hq => ?_) (fun hq => ?_)
        · replace hm := condT hq hm
          refine T_region ?_
          refine TL_pure rfl rfl rfl rfl (op_move rfl) ?_
          obtain ⟨r28, hr28, hm⟩ := bindS hm
          refine TL_call [(0, 0)] [] [] (c_spec_l00Src_pick r7.2 (4 : Int) r28 hr28) Try.call120 rfl rfl rfl rfl rfl ⟨rfl, trivial⟩ rfl rfl rfl rfl rfl rfl rfl rfl rfl rfl rfl ?_
          refine TL_pure rfl rfl rfl rfl (op_fieldAddr fa40_1 rfl rfl) ?_
          refine TL_store_box sz2 rfl rfl rfl rfl rfl rfl rfl rfl rfl ?_
          refine TL_nil ?_
          refine T_seq ?_
          refine T_region ?_
          refine TL_pure rfl rfl rfl rfl (op_load_agg ag40 sz40 rfl rfl rfl) ?_
          refine TL_store_box sz40 rfl rfl rfl rfl rfl rfl rfl rfl rfl ?_
          refine TL_nil ?_
          refine T_keepH [4] [0, 11] rfl rfl rfl rfl (by rw [hF]; rfl) ?_
          refine T_ret ?_
          obtain rfl := someI hm
          refine ⟨[_], [0], ⟨⟨_, _, rfl, rfl, .inr ⟨ag40, _, _, sz40, rfl, rfl⟩⟩, trivial⟩, ?_, rfl, rfl, rfl, rfl⟩
          rfl
        · replace hm := condF hq hm
          refine T_join (fun (j2 : Bool) => ⟨[(0, .ptr 0 0 0), (1, .int .i64 p1), (4, .ptr 11 0 0), (5, .ptr 12 0 0), (10, .int .i64 r7.1), (30, .bool j2)], [(0, .box [.sl 1 (List.map a_u8 r7.2.code), .int .i64 r7.2.at_, .int .u64 r7.2.seed]), (11, .box [.int .i64 (0 : Int), .int .i64 (0 : Int)]), (12, .box [.int .i64 r7.1, .int .i64 (0 : Int)])]⟩) (fun j2 => m_spec_l07DrawInstr_J2 p1 r7 j2 = some out) (fun j2 hm => ?_) (fun hj2 => ?_)
          · unfold m_spec_l07DrawInstr_J2 at hm
            refine T_cond rfl (fun hq => ?_) (fun hq => ?_)
            · replace hm := condT hq hm
              refine T_region ?_
              refine TL_pure rfl rfl rfl rfl (op_move rfl) ?_
              refine TL_pure rfl rfl rfl rfl (op_move rfl) ?_
              refine TL_pure rfl rfl rfl rfl (op_addW rfl rfl) ?_
              obtain ⟨r36, hr36, hm⟩ := bindS hm
              refine TL_callF (c_spec_l00Min (w64 (p1 + (1 : Int))) (80 : Int) r36 hr36) Try.call168 rfl rfl rfl rfl rfl ?_
              obtain ⟨r37, hr37, hm⟩ := bindS hm
              refine TL_call [(0, 0)] [] [] (c_spec_l00Src_pick r7.2 r36 r37 hr37) Try.call120 rfl rfl rfl rfl rfl ⟨rfl, trivial⟩ rfl rfl rfl rfl rfl rfl rfl rfl rfl rfl rfl ?_
              refine TL_pure rfl rfl rfl rfl (op_fieldAddr fa40_1 rfl rfl) ?_
              refine TL_store_box sz2 rfl rfl rfl rfl rfl rfl rfl rfl rfl ?_
              refine TL_nil ?_
              refine T_seq ?_
              refine T_region ?_
              refine TL_pure rfl rfl rfl rfl (op_load_agg ag40 sz40 rfl rfl rfl) ?_
              refine TL_store_box sz40 rfl rfl rfl rfl rfl rfl rfl rfl rfl ?_
              refine TL_nil ?_
              refine T_keepH [4] [0, 11] rfl rfl rfl rfl (by rw [hF]; rfl) ?_
              refine T_ret ?_
              obtain rfl := someI hm
              refine ⟨[_], [0], ⟨⟨_, _, rfl, rfl, .inr ⟨ag40, _, _, sz40, rfl, rfl⟩⟩, trivial⟩, ?_, rfl, rfl, rfl, rfl⟩
              rfl
            · replace hm := condF hq hm
              refine T_seq ?_
              refine T_region ?_
              refine TL_pure rfl rfl rfl rfl (op_eql rfl rfl) ?_
              refine TL_pure rfl rfl rfl rfl (op_assign rfl) ?_
              refine TL_nil ?_
              refine T_cond rfl (fun hq => ?_) (fun hq => ?_)
              · replace hm := condT hq hm
                refine T_region ?_
                refine TL_pure rfl rfl rfl rfl (op_move rfl) ?_
                obtain ⟨r42, hr42, hm⟩ := bindS hm
                refine TL_call [(0, 0)] [] [] (c_spec_l00Src_pick r7.2 (4 : Int) r42 hr42) Try.call120 rfl rfl rfl rfl rfl ⟨rfl, trivial⟩ rfl rfl rfl rfl rfl rfl rfl rfl rfl rfl rfl ?_
                refine TL_pure rfl rfl rfl rfl (op_fieldAddr fa40_1 rfl rfl) ?_
                refine TL_store_box sz2 rfl rfl rfl rfl rfl rfl rfl rfl rfl ?_
                refine TL_nil ?_
                refine T_seq ?_
                refine T_region ?_
                refine TL_pure rfl rfl rfl rfl (op_load_agg ag40 sz40 rfl rfl rfl) ?_
                refine TL_store_box sz40 rfl rfl rfl rfl rfl rfl rfl rfl rfl ?_
                refine TL_nil ?_
                refine T_keepH [4] [0, 11] rfl rfl rfl rfl (by rw [hF]; rfl) ?_
                refine T_ret ?_
                obtain rfl := someI hm
                refine ⟨[_], [0], ⟨⟨_, _, rfl, rfl, .inr ⟨ag40, _, _, sz40, rfl, rfl⟩⟩, trivial⟩, ?_, rfl, rfl, rfl, rfl⟩
                rfl
              · replace hm := condF hq hm
                refine T_skip ?_
                refine T_seq ?_
                refine T_region ?_
                refine TL_pure rfl rfl rfl rfl (op_load_agg ag40 sz40 rfl rfl rfl) ?_
                refine TL_store_box sz40 rfl rfl rfl rfl rfl rfl rfl rfl rfl ?_
                refine TL_nil ?_
                refine T_keepH [4] [0, 11] rfl rfl rfl rfl (by rw [hF]; rfl) ?_
                refine T_ret ?_
                obtain rfl := someI hm
                refine ⟨[_], [0], ⟨⟨_, _, rfl, rfl, .inr ⟨ag40, _, _, sz40, rfl, rfl⟩⟩, trivial⟩, ?_, rfl, rfl, rfl, rfl⟩
                rfl
          · refine T_seq ?_
            refine T_region ?_
            refine TL_pure rfl rfl rfl rfl (op_eql rfl rfl) ?_
            refine TL_pure rfl rfl rfl rfl (op_assign rfl) ?_
            refine TL_nil ?_
            refine T_cond rfl (fun hq => ?_) (fun hq => ?_)
            · replace hm := condT hq hm
              refine T_skip ?_
              refine T_keepH [0, 1, 4, 5, 10, 30] [0, 11, 12] rfl rfl rfl rfl (by rw [hF]; rfl) ?_
              exact hj2 (decide (r7.1 = (5 : Int))) hm
            · replace hm := condF hq hm
              refine T_region ?_
              refine TL_pure rfl rfl rfl rfl (op_eql rfl rfl) ?_
              refine TL_pure rfl rfl rfl rfl (op_assign rfl) ?_
              refine TL_nil ?_
              refine T_keepH [0, 1, 4, 5, 10, 30] [0, 11, 12] rfl rfl rfl rfl (by rw [hF]; rfl) ?_
              exact hj2 (decide (r7.1 = (6 : Int))) hm
      · refine T_seq ?_
        refine T_region ?_
        refine TL_pure rfl rfl rfl rfl (op_eql rfl rfl) ?_
        refine TL_pure rfl rfl rfl rfl (op_assign rfl) ?_
        refine TL_nil ?_
        refine T_cond rfl (fun hq => ?_) (fun hq => ?_)
        · replace hm := condT hq hm
          refine T_skip ?_
          refine T_keepH [0, 1, 4, 5, 10, 24] [0, 11, 12] rfl rfl rfl rfl (by rw [hF]; rfl) ?_
          exact hj1 (decide (r7.1 = (1 : Int))) hm
        · replace hm := condF hq hm
          refine T_region ?_
          refine TL_pure rfl rfl rfl rfl (op_eql rfl rfl) ?_
          refine TL_pure rfl rfl rfl rfl (op_assign rfl) ?_
          refine TL_nil ?_
          refine T_keepH [0, 1, 4, 5, 10, 24] [0, 11, 12] rfl rfl rfl rfl (by rw [hF]; rfl) ?_
          exact hj1 (decide (r7.1 = (2 : Int))) hm
  · refine T_seq ?_
    refine T_region ?_
    refine TL_pure rfl rfl rfl rfl (op_eql rfl rfl) ?_
    refine TL_pure rfl rfl rfl rfl (op_assign rfl) ?_
    refine TL_nil ?_
    refine T_cond rfl (fun hq => ?_) (fun hq => ?_)
    · replace hm := condT hq hm
      refine T_skip ?_
      refine T_keepH [0, 1, 4, 5, 10, 11] [0, 11, 12] rfl rfl rfl rfl (by rw [hF]; rfl) ?_
      exact hj0 (decide (r7.1 = (0 : Int))) hm
    · replace hm := condF hq hm
      refine T_region ?_
      refine TL_pure rfl rfl rfl rfl (op_eql rfl rfl) ?_
      refine TL_pure rfl rfl rfl rfl (op_assign rfl) ?_
      refine TL_nil ?_
      refine T_keepH [0, 1, 4, 5, 10, 11] [0, 11, 12] rfl rfl rfl rfl (by rw [hF]; rfl) ?_
      exact hj0 (decide (r7.1 = (4 : Int))) hm
theorem c_spec_l07DrawOk (p0 : l00Src) (out : (List Instr) × l00Src) (hm : m_spec_l07DrawOk p0 = some out) : ACall Try.prog 64 [.ptr 0 0 0] [(0, .box [.sl 1 (List.map a_u8 p0.code), .int .i64 p0.at_, .int .u64 p0.seed])] (.ow 1000) [(0, .box [.sl 1 (List.map a_u8 out.2.code), .int .i64 out.2.at_, .int .u64 out.2.seed]), (1000, .arr ⟨false, true⟩ 2 40 (List.map a_Instr out.1))] := by
  refine ACall.intro Try.func64 rfl Try.ntmps64 rfl (fun F hF => ?_)
  unfold m_spec_l07DrawOk at hm
  refine T_seq ?_
  refine T_region ?_
  refine TL_pure rfl rfl rfl rfl (op_assign rfl) ?_
  refine TL_nil ?_
  refine T_seq ?_
  refine T_seq ?_
  refine T_region ?_
  refine TL_pure rfl rfl rfl rfl (op_move rfl) ?_
  obtain ⟨r7, hr7, hm⟩ := bindS hm
  refine TL_call [(0, 0)] [] [] (c_spec_l00Src_one p0 (3 : Int) r7 hr7) Try.call118 rfl rfl rfl rfl rfl ⟨rfl, trivial⟩ rfl rfl rfl rfl rfl rfl rfl rfl rfl rfl rfl ?_
  refine TL_pure rfl rfl rfl rfl (op_not rfl) ?_
  refine TL_nil ?_
  refine T_cond rfl (fun hq => ?_) (fun hq => ?_)
  · replace hm := condT hq hm
    refine T_seq ?_
    refine T_region ?_
    refine TL_pure rfl rfl rfl rfl (op_move rfl) ?_
    obtain ⟨r10, hr10, hm⟩ := bindS hm
    refine TL_call [(0, 0)] [(1000, 11)] [] (c_spec_l07DrawTidy r7.2 r10 hr10) Try.call119 rfl rfl rfl rfl rfl ⟨rfl, trivial⟩ rfl rfl rfl rfl rfl rfl rfl rfl rfl rfl rfl ?_
    refine TL_pure rfl rfl rfl rfl (op_assign rfl) ?_
    refine TL_nil ?_
    refine T_keepH [2] [0, 11] rfl rfl rfl rfl (by rw [hF]; rfl) ?_
    refine T_ren [(0, 0), (11, 1000)] rfl rfl rfl (by rw [hF]; rfl) ?_
    refine T_ret ?_
    obtain rfl := someI hm
    refine ⟨[_], [0, 1000], ⟨rfl, trivial⟩, ?_, rfl, rfl, rfl, rfl⟩
    rfl
  · replace hm := condF hq hm
    refine T_skip ?_
    refine T_seq ?_
    refine T_region ?_
    refine TL_buildSlice 12 (es := List.map a_Instr ([] : List Instr)) el24 z40 rfl rfl rfl rfl rfl rfl rfl rfl rfl ?_
    refine TL_pure rfl rfl rfl rfl (op_assign rfl) ?_
    refine TL_nil ?_
    refine T_seq ?_
    refine T_region ?_
    refine TL_pure rfl rfl rfl rfl (op_move rfl) ?_
    obtain ⟨r13, hr13, hm⟩ := bindS hm
    refine TL_call [(0, 0)] [] [] (c_spec_l00Src_pick r7.2 (9 : Int) r13 hr13) Try.call120 rfl rfl rfl rfl rfl ⟨rfl, trivial⟩ rfl rfl rfl rfl rfl rfl rfl rfl rfl rfl rfl ?_
    refine TL_pure rfl rfl rfl rfl (op_addW rfl rfl) ?_
    refine TL_pure rfl rfl rfl rfl (op_assign rfl) ?_
    refine TL_nil ?_
    refine T_join (fun (j0 : (List Int) × Int × Int × Int) => ⟨[(0, .ptr 0 0 0), (3, .ow 12), (4, .int .i64 j0.2.2.2)], [(0, .box [.sl 1 (List.map a_u8 j0.1), .int .i64 j0.2.1, .int .u64 j0.2.2.1]), (12, .arr ⟨false, false⟩ 2 40 (List.map a_Instr ([] : List Instr)))]⟩) (fun j0 => m_spec_l07DrawOk_J0 j0 = some out) (fun j0 hm => ?_) (fun hj0 => ?_)
    · unfold m_spec_l07DrawOk_J0 at hm
      refine T_seq ?_
      refine T_seq ?_
      refine T_region ?_
      refine TL_pure rfl rfl rfl rfl (op_assign rfl) ?_
      refine TL_nil ?_
      refine T_block ?_
      refine T_keepH [0, 3, 4, 5] [0, 12] rfl rfl rfl rfl (by rw [hF]; rfl) ?_
      refine T_loop ?_
      obtain ⟨u0, hl0, hm⟩ := bindS hm
      refine TR_iter2 (m_spec_l07DrawOk_L0 j0) (fun (s0 : (List Int) × Int × Int × (List Instr) × Int) => ⟨[(0, .ptr 0 0 0), (3, .ow 12), (4, .int .i64 j0.2.2.2), (5, .int .i64 s0.2.2.2.2)], [(0, .box [.sl 1 (List.map a_u8 s0.1), .int .i64 s0.2.1, .int .u64 s0.2.2.1]), (12, .arr ⟨false, false⟩ 2 40 (List.map a_Instr s0.2.2.2.1))]⟩) (fun u0 => .exit 0) (fun u0 => ⟨[(3, .ow 12)], [(0, .box [.sl 1 (List.map a_u8 u0.2.1), .int .i64 u0.2.2.1, .int .u64 u0.2.2.2]), (12, .arr ⟨false, false⟩ 2 40 (List.map a_Instr u0.1))]⟩) (fun u0 => m_spec_l07DrawOk_A0 u0 = some out) hl0 hm (fun u0 hm => ?_) (fun hx0 s0 c0 hm hc0 => ?_)
      · unfold m_spec_l07DrawOk_A0 at hm
        refine T_seq ?_
        refine T_region ?_
        refine TL_pure rfl rfl rfl rfl (op_move rfl) ?_
        refine TL_pure rfl rfl rfl rfl (op_assign rfl) ?_
        refine TL_nil ?_
        refine T_keepH [2] [0, 12] rfl rfl rfl rfl (by rw [hF]; rfl) ?_
        refine T_deepen 12 (p' := false) (List.map a_Instr u0.1) (by rw [hF]; rfl) rfl (ElR.map (f := a_Instr) (g := a_Instr) (fun _ => ⟨⟨rfl, rfl⟩, ⟨⟨rfl, rfl⟩, trivial⟩⟩) u0.1) rfl rfl rfl ?_
        refine T_ren [(0, 0), (12, 1000)] rfl rfl rfl (by rw [hF]; rfl) ?_
        refine T_ret ?_
        obtain rfl := someI hm
        refine ⟨[_], [0, 1000], ⟨rfl, trivial⟩, ?_, rfl, rfl, rfl, rfl⟩
        rfl
      · unfold m_spec_l07DrawOk_L0 at hm
        refine T_seq ?_
        refine T_seq ?_
        refine T_region ?_
        refine TL_pure rfl rfl rfl rfl (op_move rfl) ?_
        refine TL_pure rfl rfl rfl rfl (op_move rfl) ?_
        refine TL_pure rfl rfl rfl rfl (op_lss rfl rfl) ?_
        refine TL_nil ?_
        refine T_cond rfl (fun hq => ?_) (fun hq => ?_)
        · replace hm := condT hq hm
          refine T_skip ?_
          refine T_seq ?_
          refine T_block ?_
          refine T_region ?_
          refine TL_pure rfl rfl rfl rfl (op_move rfl) ?_
          refine TL_pure rfl rfl rfl rfl (op_move rfl) ?_
          refine TL_pure rfl rfl rfl rfl (op_move rfl) ?_
          obtain ⟨r25, hr25, hm⟩ := bindS hm
          refine TL_call [(0, 0)] [] [] (c_spec_l07DrawInstr (l00Src.mk s0.1 s0.2.1 s0.2.2.1) j0.2.2.2 r25 hr25) Try.call121 rfl rfl rfl rfl rfl ⟨rfl, trivial⟩ rfl rfl rfl rfl rfl rfl rfl rfl rfl rfl rfl ?_
          refine TL_buildSlice 15 (es := List.map a_Instr [r25.1]) el24 z40 rfl rfl rfl rfl rfl rfl rfl rfl rfl ?_
          obtain ⟨q27, hq27, hm⟩ := bindS hm
          refine TL_appendT (f := a_Instr) (a := s0.2.2.2.1) (b := [r25.1]) el24 z40 rfl rfl rfl rfl rfl rfl rfl (capI_spec hq27) rfl rfl rfl rfl rfl ?_
          refine TL_pure rfl rfl rfl rfl (op_assign rfl) ?_
          refine TL_nil ?_
          refine T_region ?_
          refine TL_pure rfl rfl rfl rfl (op_move rfl) ?_
          refine TL_pure rfl rfl rfl rfl (op_addW rfl rfl) ?_
          refine TL_pure rfl rfl rfl rfl (op_assign rfl) ?_
          refine TL_nil ?_
          refine TR_keepH [0, 3, 4, 5] [0, 12] rfl rfl rfl rfl (by rw [hF]; rfl) ?_
          obtain rfl := someI hm
          have hn := CtlOK_next hc0
          exact hn _ rfl
        · replace hm := condF hq hm
          refine T_keepH [3] [0, 12] rfl rfl rfl rfl (by rw [hF]; rfl) ?_
          refine T_exit ?_
          obtain rfl := someI hm
          have hn := CtlOK_out hc0
          exact hx0 (s0.2.2.2.1, s0.1, s0.2.1, s0.2.2.1) hn
    · refine T_seq ?_
      refine T_region ?_
      refine TL_pure rfl rfl rfl rfl (op_move rfl) ?_
      obtain ⟨r16, hr16, hm⟩ := bindS hm
      refine TL_call [(0, 0)] [] [] (c_spec_l00Src_one r13.2 (14 : Int) r16 hr16) Try.call118 rfl rfl rfl rfl rfl ⟨rfl, trivial⟩ rfl rfl rfl rfl rfl rfl rfl rfl rfl rfl rfl ?_
      refine TL_nil ?_
      refine T_cond rfl (fun hq => ?_) (fun hq => ?_)
      · replace hm := condT hq hm
        refine T_region ?_
        refine TL_pure rfl rfl rfl rfl (op_assign rfl) ?_
        refine TL_nil ?_
        refine T_keepH [0, 3, 4] [0, 12] rfl rfl rfl rfl (by rw [hF]; rfl) ?_
        exact hj0 (r16.2.code, r16.2.at_, r16.2.seed, (80 : Int)) hm
      · replace hm := condF hq hm
        refine T_skip ?_
        refine T_keepH [0, 3, 4] [0, 12] rfl rfl rfl rfl (by rw [hF]; rfl) ?_
        exact hj0 (r16.2.code, r16.2.at_, r16.2.seed, (w64 ((1 : Int) + r13.1))) hm
theorem c_spec_R8Code (p0 : List Int) (out : List Instr) (hm : m_spec_R8Code p0 = some out) : ACall Try.prog 13 [.sl 1 (List.map a_u8 p0)] [] (.ow 1000) [(1000, .arr ⟨false, true⟩ 2 40 (List.map a_Instr out))] := by
  refine ACall.intro Try.func13 rfl Try.ntmps13 rfl (fun F hF => ?_)
  unfold m_spec_R8Code at hm
  refine T_seq ?_
  refine T_region ?_
  refine TL_pure rfl rfl rfl rfl (op_assign rfl) ?_
  refine TL_nil ?_
  refine T_seq ?_
  refine T_region ?_
  refine TL_pure rfl rfl rfl rfl (op_move rfl) ?_
  obtain ⟨r5, hr5, hm⟩ := bindS hm
  refine TLE_call [] [(1000, 11)] [] (c_spec_l00From p0 r5 hr5) (fun _ => rfl) Try.call63 rfl rfl rfl rfl rfl trivial rfl rfl rfl rfl rfl rfl rfl rfl rfl rfl rfl ?_
  refine TL_pure rfl rfl rfl rfl (op_assign rfl) ?_
  refine TL_nil ?_
  refine T_seq ?_
  refine T_region ?_
  refine TL_pure rfl rfl rfl rfl (op_move rfl) ?_
  obtain ⟨r7, hr7, hm⟩ := bindS hm
  refine TL_call [(0, 11)] [(1000, 12)] [] (c_spec_l07DrawOk r5 r7 hr7) Try.call64 rfl rfl rfl rfl rfl ⟨rfl, trivial⟩ rfl rfl rfl rfl rfl rfl rfl rfl rfl rfl rfl ?_
  refine TL_pure rfl rfl rfl rfl (op_assign rfl) ?_
  refine TL_nil ?_
  refine T_keepH [2] [12] rfl rfl rfl rfl (by rw [hF]; rfl) ?_
  refine T_ren [(12, 1000)] rfl rfl rfl (by rw [hF]; rfl) ?_
  refine T_ret ?_
  obtain rfl := someI hm
  refine ⟨[_], [1000], ⟨rfl, trivial⟩, ?_, rfl, rfl, rfl, rfl⟩
  rfl
theorem c_spec_l03DrawState (p0 : l00Src) (out : State × l00Src) (hm : m_spec_l03DrawState p0 = some out) : ACall Try.prog 65 [.ptr 0 0 0] [(0, .box [.sl 1 (List.map a_u8 p0.code), .int .i64 p0.at_, .int .u64 p0.seed])] (.agg [.ow 1000, .ow 1001]) [(0, .box [.sl 1 (List.map a_u8 out.2.code), .int .i64 out.2.at_, .int .u64 out.2.seed]), (1000, .arr ⟨false, true⟩ 1 2 (List.map a_i64 out.1.Vars)), (1001, .arr ⟨false, true⟩ 1 2 (List.map a_i64 out.1.Cells))] := by
  refine ACall.intro Try.func65 rfl Try.ntmps65 rfl (fun F hF => ?_)
  unfold m_spec_l03DrawState at hm
  refine T_seq ?_
  refine T_region ?_
  refine TL_alloc 11 z28 rfl rfl rfl rfl rfl rfl rfl ?_
  refine TL_nil ?_
  refine T_seq ?_
  refine T_region ?_
  refine TL_buildSlice 12 (es := List.map a_i64 ([] : List Int)) el26 z2 rfl rfl rfl rfl rfl rfl rfl rfl rfl ?_
  refine TL_buildSlice 13 (es := List.map a_i64 ([] : List Int)) el26 z2 rfl rfl rfl rfl rfl rfl rfl rfl rfl ?_
  refine TL_pure rfl rfl rfl rfl (op_buildP pl28 z28 rfl rfl rfl rfl rfl) ?_
  refine TL_alloc 14 z28 rfl rfl rfl rfl rfl rfl rfl ?_
  refine TL_store_box sz28 rfl rfl rfl rfl rfl rfl rfl rfl rfl ?_
  refine TL_nil ?_
  refine T_seq ?_
  refine T_seq ?_
  refine T_region ?_
  refine TL_pure rfl rfl rfl rfl (op_assign rfl) ?_
  refine TL_nil ?_
  refine T_block ?_
  refine T_keepH [0, 2, 3, 4] [0, 11, 12, 13, 14] rfl rfl rfl rfl (by rw [hF]; rfl) ?_
  refine T_loop ?_
  obtain ⟨u0, hl0, hm⟩ := bindS hm
  refine TR_iter2 (m_spec_l03DrawState_L0) (fun (s0 : (List Int) × Int × Int × (List Int) × Int) => ⟨[(0, .ptr 0 0 0), (2, .ptr 11 0 0), (3, .ptr 14 0 0), (4, .int .i64 s0.2.2.2.2)], [(0, .box [.sl 1 (List.map a_u8 s0.1), .int .i64 s0.2.1, .int .u64 s0.2.2.1]), (11, .box [.snil, .snil]), (12, .arr ⟨false, false⟩ 1 2 (List.map a_i64 s0.2.2.2.1)), (13, .arr ⟨false, false⟩ 1 2 (List.map a_i64 ([] : List Int))), (14, .box [.ow 12, .ow 13])]⟩) (fun u0 => .exit 0) (fun u0 => ⟨[(0, .ptr 0 0 0), (2, .ptr 11 0 0), (3, .ptr 14 0 0)], [(0, .box [.sl 1 (List.map a_u8 u0.1), .int .i64 u0.2.1, .int .u64 u0.2.2.1]), (11, .box [.snil, .snil]), (12, .arr ⟨false, false⟩ 1 2 (List.map a_i64 u0.2.2.2)), (13, .arr ⟨false, false⟩ 1 2 (List.map a_i64 ([] : List Int))), (14, .box [.ow 12, .ow 13])]⟩) (fun u0 => m_spec_l03DrawState_A0 u0 = some out) hl0 hm (fun u0 hm => ?_) (fun hx0 s0 c0 hm hc0 => ?_)
  · unfold m_spec_l03DrawState_A0 at hm
    refine T_seq ?_
    refine T_seq ?_
    refine T_region ?_
    refine TL_pure rfl rfl rfl rfl (op_assign rfl) ?_
    refine TL_nil ?_
    refine T_block ?_
    refine T_keepH [0, 2, 3, 5] [0, 11, 12, 13, 14] rfl rfl rfl rfl (by rw [hF]; rfl) ?_
    refine T_loop ?_
    obtain ⟨u1, hl1, hm⟩ := bindS hm
    refine TR_iter2 (m_spec_l03DrawState_L1) (fun (s1 : (List Int) × Int × Int × (List Int) × Int) => ⟨[(0, .ptr 0 0 0), (2, .ptr 11 0 0), (3, .ptr 14 0 0), (5, .int .i64 s1.2.2.2.2)], [(0, .box [.sl 1 (List.map a_u8 s1.1), .int .i64 s1.2.1, .int .u64 s1.2.2.1]), (11, .box [.snil, .snil]), (12, .arr ⟨false, false⟩ 1 2 (List.map a_i64 u0.2.2.2)), (13, .arr ⟨false, false⟩ 1 2 (List.map a_i64 s1.2.2.2.1)), (14, .box [.ow 12, .ow 13])]⟩) (fun u1 => .exit 2) (fun u1 => ⟨[(0, .ptr 0 0 0), (2, .ptr 11 0 0), (3, .ptr 14 0 0)], [(0, .box [.sl 1 (List.map a_u8 u1.1), .int .i64 u1.2.1, .int .u64 u1.2.2.1]), (11, .box [.snil, .snil]), (12, .arr ⟨false, false⟩ 1 2 (List.map a_i64 u0.2.2.2)), (13, .arr ⟨false, false⟩ 1 2 (List.map a_i64 u1.2.2.2)), (14, .box [.ow 12, .ow 13])]⟩) (fun u1 => m_spec_l03DrawState_A1 u0 u1 = some out) hl1 hm (fun u1 hm => ?_) (fun hx1 s1 c1 hm hc1 => ?_)
    · unfold m_spec_l03DrawState_A1 at hm
      refine T_seq ?_
      refine T_seq ?_
      refine T_region ?_
      refine TL_pure rfl rfl rfl rfl (op_move rfl) ?_
      obtain ⟨r34, hr34, hm⟩ := bindS hm
      refine TL_call [(0, 0)] [] [] (c_spec_l00Src_one (l00Src.mk u1.1 u1.2.1 u1.2.2.1) (8 : Int) r34 hr34) Try.call118 rfl rfl rfl rfl rfl ⟨rfl, trivial⟩ rfl rfl rfl rfl rfl rfl rfl rfl rfl rfl rfl ?_
      refine TL_nil ?_
      refine T_cond rfl (fun hq => ?_) (fun hq => ?_)
      · replace hm := condT hq hm
        refine T_drawZ [3, 4, 6] mix (by kernel_rfl) rfl ?_
        obtain ⟨r39, hr39, hm⟩ := bindS hm
        obtain ⟨x40, hx40, hm⟩ := bindS hm
        refine TZ_pure 0 (by kernel_rfl) rfl rfl rfl rfl rfl (op_fieldAddr fa28_0 rfl rfl) ?_
        refine TZ_pure 2 (by kernel_rfl) rfl rfl rfl rfl rfl (op_move rfl) ?_
        refine TZ_cut 4 [true, true, true, false, false, false, false] ⟨[(0, .ptr 0 0 0), (2, .ptr 11 0 0), (3, .ptr 14 0 0), (33, .ptr 0 0 0), (34, .bool r34.1), (35, .ptr 14 0 0), (36, .ow 12), (37, .ptr 0 0 0)], [(0, .box [.sl 1 (List.map a_u8 r34.2.code), .int .i64 r34.2.at_, .int .u64 r34.2.seed]), (11, .box [.snil, .snil]), (12, .arr ⟨false, false⟩ 1 2 (List.map a_i64 u0.2.2.2)), (13, .arr ⟨false, false⟩ 1 2 (List.map a_i64 u1.2.2.2)), (14, .box [.ow 12, .ow 13])]⟩ ?_ (fun hS4334_0 => ?_)
        · refine TZ_one 3 (by kernel_rfl) rfl ?_
          refine TL_buildSlice 4655 (es := List.map a_i64 [(1000000000 : Int), (-1000000000 : Int)]) el26 z2 rfl rfl rfl rfl rfl rfl rfl rfl rfl ?_
          refine TL_nil ?_
          refine TZ_one 4 (by kernel_rfl) rfl ?_
          refine TL_freeze 4655 (by rw [hF]; rfl) rfl rfl rfl ?_
          refine TL_call [(0, 0)] [] [] (c_spec_l00Src_among r34.2 [(1000000000 : Int), (-1000000000 : Int)] r39 hr39) Try.call122 rfl rfl rfl rfl rfl ⟨rfl, trivial⟩ rfl rfl rfl rfl rfl rfl rfl rfl rfl rfl rfl ?_
          refine TL_nil ?_
          refine TZ_pure 5 (by kernel_rfl) rfl rfl rfl rfl rfl (op_indexO el26 rfl rfl rfl hx40) ?_
          refine TZ_one 6 (by kernel_rfl) rfl ?_
          refine TL_storeT sz2 rfl rfl ((getI_spec hx40).2) (v' := r39.1) rfl rfl rfl rfl rfl rfl rfl rfl rfl rfl ?_
          refine TL_nil ?_
          refine TZ_done (by kernel_rfl) ?_
          refine T_seq ?_
          refine T_region ?_
          refine TL_pure rfl rfl rfl rfl (op_load_agg ag28 sz28 rfl rfl rfl) ?_
          refine TL_store_box sz28 rfl rfl rfl rfl rfl rfl rfl rfl rfl ?_
          refine TL_nil ?_
          refine T_keepH [2] [0, 11, 12, 13] rfl rfl rfl rfl (by rw [hF]; rfl) ?_
          refine T_deepen 12 (p' := false) (List.map a_i64 (u0.2.2.2.set (((0 : Int)).toNat) r39.1)) (by rw [hF]; rfl) rfl (ElR.map (f := a_i64) (g := a_i64) (fun _ => ⟨⟨rfl, rfl⟩, trivial⟩) (u0.2.2.2.set (((0 : Int)).toNat) r39.1)) rfl rfl rfl ?_
          refine T_deepen 13 (p' := false) (List.map a_i64 u1.2.2.2) (by rw [hF]; rfl) rfl (ElR.map (f := a_i64) (g := a_i64) (fun _ => ⟨⟨rfl, rfl⟩, trivial⟩) u1.2.2.2) rfl rfl rfl ?_
          refine T_ren [(0, 0), (11, 11), (12, 1000), (13, 1001)] rfl rfl rfl (by rw [hF]; rfl) ?_
          refine T_ret ?_
          obtain rfl := someI hm
          refine ⟨[_], [0, 1000, 1001], ⟨⟨_, _, rfl, rfl, .inr ⟨ag28, _, _, sz28, rfl, rfl⟩⟩, trivial⟩, ?_, rfl, rfl, rfl, rfl⟩
          rfl
        refine TZ_cut 3 [true, true, true, true, false, false, false] ⟨[(0, .ptr 0 0 0), (2, .ptr 11 0 0), (3, .ptr 14 0 0), (33, .ptr 0 0 0), (34, .bool r34.1), (35, .ptr 14 0 0), (36, .ow 12), (37, .ptr 0 0 0), (38, .ow 4655)], [(0, .box [.sl 1 (List.map a_u8 r34.2.code), .int .i64 r34.2.at_, .int .u64 r34.2.seed]), (11, .box [.snil, .snil]), (12, .arr ⟨false, false⟩ 1 2 (List.map a_i64 u0.2.2.2)), (13, .arr ⟨false, false⟩ 1 2 (List.map a_i64 u1.2.2.2)), (14, .box [.ow 12, .ow 13]), (4655, .arr ⟨false, false⟩ 1 2 (List.map a_i64 [(1000000000 : Int), (-1000000000 : Int)]))]⟩ ?_ (fun hS4334_1 => ?_)
        · refine TZ_one 4 (by kernel_rfl) rfl ?_
          refine TL_freeze 4655 (by rw [hF]; rfl) rfl rfl rfl ?_
          refine TL_call [(0, 0)] [] [] (c_spec_l00Src_among r34.2 [(1000000000 : Int), (-1000000000 : Int)] r39 hr39) Try.call122 rfl rfl rfl rfl rfl ⟨rfl, trivial⟩ rfl rfl rfl rfl rfl rfl rfl rfl rfl rfl rfl ?_
          refine TL_nil ?_
          refine TZ_pure 5 (by kernel_rfl) rfl rfl rfl rfl rfl (op_indexO el26 rfl rfl rfl hx40) ?_
          refine TZ_one 6 (by kernel_rfl) rfl ?_
          refine TL_storeT sz2 rfl rfl ((getI_spec hx40).2) (v' := r39.1) rfl rfl rfl rfl rfl rfl rfl rfl rfl rfl ?_
          refine TL_nil ?_
          refine TZ_done (by kernel_rfl) ?_
          refine T_seq ?_
          refine T_region ?_
          refine TL_pure rfl rfl rfl rfl (op_load_agg ag28 sz28 rfl rfl rfl) ?_
          refine TL_store_box sz28 rfl rfl rfl rfl rfl rfl rfl rfl rfl ?_
          refine TL_nil ?_
          refine T_keepH [2] [0, 11, 12, 13] rfl rfl rfl rfl (by rw [hF]; rfl) ?_
          refine T_deepen 12 (p' := false) (List.map a_i64 (u0.2.2.2.set (((0 : Int)).toNat) r39.1)) (by rw [hF]; rfl) rfl (ElR.map (f := a_i64) (g := a_i64) (fun _ => ⟨⟨rfl, rfl⟩, trivial⟩) (u0.2.2.2.set (((0 : Int)).toNat) r39.1)) rfl rfl rfl ?_
          refine T_deepen 13 (p' := false) (List.map a_i64 u1.2.2.2) (by rw [hF]; rfl) rfl (ElR.map (f := a_i64) (g := a_i64) (fun _ => ⟨⟨rfl, rfl⟩, trivial⟩) u1.2.2.2) rfl rfl rfl ?_
          refine T_ren [(0, 0), (11, 11), (12, 1000), (13, 1001)] rfl rfl rfl (by rw [hF]; rfl) ?_
          refine T_ret ?_
          obtain rfl := someI hm
          refine ⟨[_], [0, 1000, 1001], ⟨⟨_, _, rfl, rfl, .inr ⟨ag28, _, _, sz28, rfl, rfl⟩⟩, trivial⟩, ?_, rfl, rfl, rfl, rfl⟩
          rfl
        refine TZ_cut 3 [true, false, true, true, true, false, false] ⟨[(0, .ptr 0 0 0), (2, .ptr 11 0 0), (3, .ptr 14 0 0), (33, .ptr 0 0 0), (34, .bool r34.1), (35, .ptr 14 0 0), (37, .ptr 0 0 0), (38, .sl 1 (List.map a_i64 [(1000000000 : Int), (-1000000000 : Int)])), (39, .int .i64 r39.1)], [(0, .box [.sl 1 (List.map a_u8 r39.2.code), .int .i64 r39.2.at_, .int .u64 r39.2.seed]), (11, .box [.snil, .snil]), (12, .arr ⟨false, false⟩ 1 2 (List.map a_i64 u0.2.2.2)), (13, .arr ⟨false, false⟩ 1 2 (List.map a_i64 u1.2.2.2)), (14, .box [.ow 12, .ow 13])]⟩ ?_ (fun hS4334_2 => ?_)
        · refine TZ_pure 1 (by kernel_rfl) rfl rfl rfl rfl rfl (op_load_one ag26 rfl rfl) ?_
          refine TZ_pure 5 (by kernel_rfl) rfl rfl rfl rfl rfl (op_indexO el26 rfl rfl rfl hx40) ?_
          refine TZ_one 6 (by kernel_rfl) rfl ?_
          refine TL_storeT sz2 rfl rfl ((getI_spec hx40).2) (v' := r39.1) rfl rfl rfl rfl rfl rfl rfl rfl rfl rfl ?_
          refine TL_nil ?_
          refine TZ_done (by kernel_rfl) ?_
          refine T_seq ?_
          refine T_region ?_
          refine TL_pure rfl rfl rfl rfl (op_load_agg ag28 sz28 rfl rfl rfl) ?_
          refine TL_store_box sz28 rfl rfl rfl rfl rfl rfl rfl rfl rfl ?_
          refine TL_nil ?_
          refine T_keepH [2] [0, 11, 12, 13] rfl rfl rfl rfl (by rw [hF]; rfl) ?_
          refine T_deepen 12 (p' := false) (List.map a_i64 (u0.2.2.2.set (((0 : Int)).toNat) r39.1)) (by rw [hF]; rfl) rfl (ElR.map (f := a_i64) (g := a_i64) (fun _ => ⟨⟨rfl, rfl⟩, trivial⟩) (u0.2.2.2.set (((0 : Int)).toNat) r39.1)) rfl rfl rfl ?_
          refine T_deepen 13 (p' := false) (List.map a_i64 u1.2.2.2) (by rw [hF]; rfl) rfl (ElR.map (f := a_i64) (g := a_i64) (fun _ => ⟨⟨rfl, rfl⟩, trivial⟩) u1.2.2.2) rfl rfl rfl ?_
          refine T_ren [(0, 0), (11, 11), (12, 1000), (13, 1001)] rfl rfl rfl (by rw [hF]; rfl) ?_
          refine T_ret ?_
          obtain rfl := someI hm
          refine ⟨[_], [0, 1000, 1001], ⟨⟨_, _, rfl, rfl, .inr ⟨ag28, _, _, sz28, rfl, rfl⟩⟩, trivial⟩, ?_, rfl, rfl, rfl, rfl⟩
          rfl
        refine TZ_cut 4 [true, false, true, true, false, false, false] ⟨[(0, .ptr 0 0 0), (2, .ptr 11 0 0), (3, .ptr 14 0 0), (33, .ptr 0 0 0), (34, .bool r34.1), (35, .ptr 14 0 0), (37, .ptr 0 0 0), (38, .ow 4655)], [(0, .box [.sl 1 (List.map a_u8 r34.2.code), .int .i64 r34.2.at_, .int .u64 r34.2.seed]), (11, .box [.snil, .snil]), (12, .arr ⟨false, false⟩ 1 2 (List.map a_i64 u0.2.2.2)), (13, .arr ⟨false, false⟩ 1 2 (List.map a_i64 u1.2.2.2)), (14, .box [.ow 12, .ow 13]), (4655, .arr ⟨false, false⟩ 1 2 (List.map a_i64 [(1000000000 : Int), (-1000000000 : Int)]))]⟩ ?_ (fun hS4334_3 => ?_)
        · refine TZ_each [1, 4] (by kernel_rfl) rfl ?_
          refine ⟨?_, ?_⟩
          · refine ⟨_, rfl, ?_⟩
            refine TL_pure rfl rfl rfl rfl (op_load_one ag26 rfl rfl) ?_
            refine TL_nil ?_
            refine TZ_keepH [0, 2, 3, 33, 34, 35, 36, 37, 38] [0, 11, 12, 13, 14, 4655] rfl rfl rfl rfl (by rw [hF]; rfl) ?_
            exact hS4334_1
          · refine ⟨_, rfl, ?_⟩
            refine TL_freeze 4655 (by rw [hF]; rfl) rfl rfl rfl ?_
            refine TL_call [(0, 0)] [] [] (c_spec_l00Src_among r34.2 [(1000000000 : Int), (-1000000000 : Int)] r39 hr39) Try.call122 rfl rfl rfl rfl rfl ⟨rfl, trivial⟩ rfl rfl rfl rfl rfl rfl rfl rfl rfl rfl rfl ?_
            refine TL_nil ?_
            refine TZ_keepH [0, 2, 3, 33, 34, 35, 37, 38, 39] [0, 11, 12, 13, 14] rfl rfl rfl rfl (by rw [hF]; rfl) ?_
            exact hS4334_2
        refine TZ_each [1, 3] (by kernel_rfl) rfl ?_
        refine ⟨?_, ?_⟩
        · refine ⟨_, rfl, ?_⟩
          refine TL_pure rfl rfl rfl rfl (op_load_one ag26 rfl rfl) ?_
          refine TL_nil ?_
          refine TZ_keepH [0, 2, 3, 33, 34, 35, 36, 37] [0, 11, 12, 13, 14] rfl rfl rfl rfl (by rw [hF]; rfl) ?_
          exact hS4334_0
        · refine ⟨_, rfl, ?_⟩
          refine TL_buildSlice 4655 (es := List.map a_i64 [(1000000000 : Int), (-1000000000 : Int)]) el26 z2 rfl rfl rfl rfl rfl rfl rfl rfl rfl ?_
          refine TL_nil ?_
          refine TZ_keepH [0, 2, 3, 33, 34, 35, 37, 38] [0, 11, 12, 13, 14, 4655] rfl rfl rfl rfl (by rw [hF]; rfl) ?_
          exact hS4334_3
      · replace hm := condF hq hm
        refine T_skip ?_
        refine T_seq ?_
        refine T_region ?_
        refine TL_pure rfl rfl rfl rfl (op_load_agg ag28 sz28 rfl rfl rfl) ?_
        refine TL_store_box sz28 rfl rfl rfl rfl rfl rfl rfl rfl rfl ?_
        refine TL_nil ?_
        refine T_keepH [2] [0, 11, 12, 13] rfl rfl rfl rfl (by rw [hF]; rfl) ?_
        refine T_deepen 12 (p' := false) (List.map a_i64 u0.2.2.2) (by rw [hF]; rfl) rfl (ElR.map (f := a_i64) (g := a_i64) (fun _ => ⟨⟨rfl, rfl⟩, trivial⟩) u0.2.2.2) rfl rfl rfl ?_
        refine T_deepen 13 (p' := false) (List.map a_i64 u1.2.2.2) (by rw [hF]; rfl) rfl (ElR.map (f := a_i64) (g := a_i64) (fun _ => ⟨⟨rfl, rfl⟩, trivial⟩) u1.2.2.2) rfl rfl rfl ?_
        refine T_ren [(0, 0), (11, 11), (12, 1000), (13, 1001)] rfl rfl rfl (by rw [hF]; rfl) ?_
        refine T_ret ?_
        obtain rfl := someI hm
        refine ⟨[_], [0, 1000, 1001], ⟨⟨_, _, rfl, rfl, .inr ⟨ag28, _, _, sz28, rfl, rfl⟩⟩, trivial⟩, ?_, rfl, rfl, rfl, rfl⟩
        rfl
    · unfold m_spec_l03DrawState_L1 at hm
      refine T_seq ?_
      refine T_seq ?_
      refine T_region ?_
      refine TL_pure rfl rfl rfl rfl (op_move rfl) ?_
      refine TL_pure rfl rfl rfl rfl (op_lss rfl rfl) ?_
      refine TL_nil ?_
      refine T_cond rfl (fun hq => ?_) (fun hq => ?_)
      · replace hm := condT hq hm
        refine T_skip ?_
        refine T_seq ?_
        refine T_block ?_
        refine T_drawZ [3, 5, 6, 8] mix (by kernel_rfl) rfl ?_
        obtain ⟨r28, hr28, hm⟩ := bindS hm
        obtain ⟨q31, hq31, hm⟩ := bindS hm
        refine TZ_pure 0 (by kernel_rfl) rfl rfl rfl rfl rfl (op_fieldAddr fa28_1 rfl rfl) ?_
        refine TZ_pure 2 (by kernel_rfl) rfl rfl rfl rfl rfl (op_move rfl) ?_
        refine TZ_cut 6 [true, true, true, false, false, false, false, false, false] ⟨[(0, .ptr 0 0 0), (2, .ptr 11 0 0), (3, .ptr 14 0 0), (5, .int .i64 s1.2.2.2.2), (21, .int .i64 s1.2.2.2.2), (22, .bool (decide (s1.2.2.2.2 < (8 : Int)))), (25, .ptr 14 0 1), (26, .ow 13), (27, .ptr 0 0 0)], [(0, .box [.sl 1 (List.map a_u8 s1.1), .int .i64 s1.2.1, .int .u64 s1.2.2.1]), (11, .box [.snil, .snil]), (12, .arr ⟨false, false⟩ 1 2 (List.map a_i64 u0.2.2.2)), (13, .arr ⟨false, false⟩ 1 2 (List.map a_i64 s1.2.2.2.1)), (14, .box [.ow 12, .ow 13])]⟩ ?_ (fun hS3614_0 => ?_)
        · refine TZ_one 3 (by kernel_rfl) rfl ?_
          refine TL_call [(0, 0)] [] [] (c_spec_l00Src_pick (l00Src.mk s1.1 s1.2.1 s1.2.2.1) (9 : Int) r28 hr28) Try.call120 rfl rfl rfl rfl rfl ⟨rfl, trivial⟩ rfl rfl rfl rfl rfl rfl rfl rfl rfl rfl rfl ?_
          refine TL_nil ?_
          refine TZ_pure 4 (by kernel_rfl) rfl rfl rfl rfl rfl (op_subW rfl rfl) ?_
          refine TZ_one 5 (by kernel_rfl) rfl ?_
          refine TL_buildSlice 4095 (es := List.map a_i64 [(w64 (r28.1 - (2 : Int)))]) el26 z2 rfl rfl rfl rfl rfl rfl rfl rfl rfl ?_
          refine TL_nil ?_
          refine TZ_one 6 (by kernel_rfl) rfl ?_
          refine TL_appendT (f := a_i64) (a := s1.2.2.2.1) (b := [(w64 (r28.1 - (2 : Int)))]) el26 z2 rfl rfl rfl rfl rfl rfl rfl (capI_spec hq31) rfl rfl rfl rfl rfl ?_
          refine TL_nil ?_
          refine TZ_pure 7 (by kernel_rfl) rfl rfl rfl rfl rfl (op_fieldAddr fa28_1 rfl rfl) ?_
          refine TZ_one 8 (by kernel_rfl) rfl ?_
          refine TL_store_box sz26 rfl rfl rfl rfl rfl rfl rfl rfl rfl ?_
          refine TL_nil ?_
          refine TZ_done (by kernel_rfl) ?_
          refine T_region ?_
          refine TL_pure rfl rfl rfl rfl (op_move rfl) ?_
          refine TL_pure rfl rfl rfl rfl (op_addW rfl rfl) ?_
          refine TL_pure rfl rfl rfl rfl (op_assign rfl) ?_
          refine TL_nil ?_
          refine TR_keepH [0, 2, 3, 5] [0, 11, 12, 13, 14] rfl rfl rfl rfl (by rw [hF]; rfl) ?_
          obtain rfl := someI hm
          have hn := CtlOK_next hc1
          exact hn _ rfl
        refine TZ_cut 4 [true, true, true, true, true, false, false, false, false] ⟨[(0, .ptr 0 0 0), (2, .ptr 11 0 0), (3, .ptr 14 0 0), (5, .int .i64 s1.2.2.2.2), (21, .int .i64 s1.2.2.2.2), (22, .bool (decide (s1.2.2.2.2 < (8 : Int)))), (25, .ptr 14 0 1), (26, .ow 13), (27, .ptr 0 0 0), (28, .int .i64 r28.1), (29, .int .i64 (w64 (r28.1 - (2 : Int))))], [(0, .box [.sl 1 (List.map a_u8 r28.2.code), .int .i64 r28.2.at_, .int .u64 r28.2.seed]), (11, .box [.snil, .snil]), (12, .arr ⟨false, false⟩ 1 2 (List.map a_i64 u0.2.2.2)), (13, .arr ⟨false, false⟩ 1 2 (List.map a_i64 s1.2.2.2.1)), (14, .box [.ow 12, .ow 13])]⟩ ?_ (fun hS3614_1 => ?_)
        · refine TZ_one 5 (by kernel_rfl) rfl ?_
          refine TL_buildSlice 4095 (es := List.map a_i64 [(w64 (r28.1 - (2 : Int)))]) el26 z2 rfl rfl rfl rfl rfl rfl rfl rfl rfl ?_
          refine TL_nil ?_
          refine TZ_one 6 (by kernel_rfl) rfl ?_
          refine TL_appendT (f := a_i64) (a := s1.2.2.2.1) (b := [(w64 (r28.1 - (2 : Int)))]) el26 z2 rfl rfl rfl rfl rfl rfl rfl (capI_spec hq31) rfl rfl rfl rfl rfl ?_
          refine TL_nil ?_
          refine TZ_pure 7 (by kernel_rfl) rfl rfl rfl rfl rfl (op_fieldAddr fa28_1 rfl rfl) ?_
          refine TZ_one 8 (by kernel_rfl) rfl ?_
          refine TL_store_box sz26 rfl rfl rfl rfl rfl rfl rfl rfl rfl ?_
          refine TL_nil ?_
          refine TZ_done (by kernel_rfl) ?_
          refine T_region ?_
          refine TL_pure rfl rfl rfl rfl (op_move rfl) ?_
          refine TL_pure rfl rfl rfl rfl (op_addW rfl rfl) ?_
          refine TL_pure rfl rfl rfl rfl (op_assign rfl) ?_
          refine TL_nil ?_
          refine TR_keepH [0, 2, 3, 5] [0, 11, 12, 13, 14] rfl rfl rfl rfl (by rw [hF]; rfl) ?_
          obtain rfl := someI hm
          have hn := CtlOK_next hc1
          exact hn _ rfl
        refine TZ_cut 4 [true, false, true, true, true, true, false, false, false] ⟨[(0, .ptr 0 0 0), (2, .ptr 11 0 0), (3, .ptr 14 0 0), (5, .int .i64 s1.2.2.2.2), (21, .int .i64 s1.2.2.2.2), (22, .bool (decide (s1.2.2.2.2 < (8 : Int)))), (25, .ptr 14 0 1), (27, .ptr 0 0 0), (28, .int .i64 r28.1), (29, .int .i64 (w64 (r28.1 - (2 : Int)))), (30, .ow 4095)], [(0, .box [.sl 1 (List.map a_u8 r28.2.code), .int .i64 r28.2.at_, .int .u64 r28.2.seed]), (11, .box [.snil, .snil]), (12, .arr ⟨false, false⟩ 1 2 (List.map a_i64 u0.2.2.2)), (13, .arr ⟨false, false⟩ 1 2 (List.map a_i64 s1.2.2.2.1)), (14, .box [.ow 12, .ow 13]), (4095, .arr ⟨false, false⟩ 1 2 (List.map a_i64 [(w64 (r28.1 - (2 : Int)))]))]⟩ ?_ (fun hS3614_2 => ?_)
        · refine TZ_pure 1 (by kernel_rfl) rfl rfl rfl rfl rfl (op_load_one ag26 rfl rfl) ?_
          refine TZ_one 6 (by kernel_rfl) rfl ?_
          refine TL_appendT (f := a_i64) (a := s1.2.2.2.1) (b := [(w64 (r28.1 - (2 : Int)))]) el26 z2 rfl rfl rfl rfl rfl rfl rfl (capI_spec hq31) rfl rfl rfl rfl rfl ?_
          refine TL_nil ?_
          refine TZ_pure 7 (by kernel_rfl) rfl rfl rfl rfl rfl (op_fieldAddr fa28_1 rfl rfl) ?_
          refine TZ_one 8 (by kernel_rfl) rfl ?_
          refine TL_store_box sz26 rfl rfl rfl rfl rfl rfl rfl rfl rfl ?_
          refine TL_nil ?_
          refine TZ_done (by kernel_rfl) ?_
          refine T_region ?_
          refine TL_pure rfl rfl rfl rfl (op_move rfl) ?_
          refine TL_pure rfl rfl rfl rfl (op_addW rfl rfl) ?_
          refine TL_pure rfl rfl rfl rfl (op_assign rfl) ?_
          refine TL_nil ?_
          refine TR_keepH [0, 2, 3, 5] [0, 11, 12, 13, 14] rfl rfl rfl rfl (by rw [hF]; rfl) ?_
          obtain rfl := someI hm
          have hn := CtlOK_next hc1
          exact hn _ rfl
        refine TZ_cut 6 [true, false, true, true, false, false, false, false, false] ⟨[(0, .ptr 0 0 0), (2, .ptr 11 0 0), (3, .ptr 14 0 0), (5, .int .i64 s1.2.2.2.2), (21, .int .i64 s1.2.2.2.2), (22, .bool (decide (s1.2.2.2.2 < (8 : Int)))), (25, .ptr 14 0 1), (27, .ptr 0 0 0), (28, .int .i64 r28.1)], [(0, .box [.sl 1 (List.map a_u8 r28.2.code), .int .i64 r28.2.at_, .int .u64 r28.2.seed]), (11, .box [.snil, .snil]), (12, .arr ⟨false, false⟩ 1 2 (List.map a_i64 u0.2.2.2)), (13, .arr ⟨false, false⟩ 1 2 (List.map a_i64 s1.2.2.2.1)), (14, .box [.ow 12, .ow 13])]⟩ ?_ (fun hS3614_3 => ?_)
        · refine TZ_pure 4 (by kernel_rfl) rfl rfl rfl rfl rfl (op_subW rfl rfl) ?_
          refine TZ_each [1, 5] (by kernel_rfl) rfl ?_
          refine ⟨?_, ?_⟩
          · refine ⟨_, rfl, ?_⟩
            refine TL_pure rfl rfl rfl rfl (op_load_one ag26 rfl rfl) ?_
            refine TL_nil ?_
            refine TZ_keepH [0, 2, 3, 5, 21, 22, 25, 26, 27, 28, 29] [0, 11, 12, 13, 14] rfl rfl rfl rfl (by rw [hF]; rfl) ?_
            exact hS3614_1
          · refine ⟨_, rfl, ?_⟩
            refine TL_buildSlice 4095 (es := List.map a_i64 [(w64 (r28.1 - (2 : Int)))]) el26 z2 rfl rfl rfl rfl rfl rfl rfl rfl rfl ?_
            refine TL_nil ?_
            refine TZ_keepH [0, 2, 3, 5, 21, 22, 25, 27, 28, 29, 30] [0, 11, 12, 13, 14, 4095] rfl rfl rfl rfl (by rw [hF]; rfl) ?_
            exact hS3614_2
        refine TZ_each [1, 3] (by kernel_rfl) rfl ?_
        refine ⟨?_, ?_⟩
        · refine ⟨_, rfl, ?_⟩
          refine TL_pure rfl rfl rfl rfl (op_load_one ag26 rfl rfl) ?_
          refine TL_nil ?_
          refine TZ_keepH [0, 2, 3, 5, 21, 22, 25, 26, 27] [0, 11, 12, 13, 14] rfl rfl rfl rfl (by rw [hF]; rfl) ?_
          exact hS3614_0
        · refine ⟨_, rfl, ?_⟩
          refine TL_call [(0, 0)] [] [] (c_spec_l00Src_pick (l00Src.mk s1.1 s1.2.1 s1.2.2.1) (9 : Int) r28 hr28) Try.call120 rfl rfl rfl rfl rfl ⟨rfl, trivial⟩ rfl rfl rfl rfl rfl rfl rfl rfl rfl rfl rfl ?_
          refine TL_nil ?_
          refine TZ_keepH [0, 2, 3, 5, 21, 22, 25, 27, 28] [0, 11, 12, 13, 14] rfl rfl rfl rfl (by rw [hF]; rfl) ?_
          exact hS3614_3
      · replace hm := condF hq hm
        refine T_keepH [0, 2, 3] [0, 11, 12, 13, 14] rfl rfl rfl rfl (by rw [hF]; rfl) ?_
        refine T_exit ?_
        obtain rfl := someI hm
        have hn := CtlOK_out hc1
        exact hx1 (s1.1, s1.2.1, s1.2.2.1, s1.2.2.2.1) hn
  · unfold m_spec_l03DrawState_L0 at hm
    refine T_seq ?_
    refine T_seq ?_
    refine T_region ?_
    refine TL_pure rfl rfl rfl rfl (op_move rfl) ?_
    refine TL_pure rfl rfl rfl rfl (op_lss rfl rfl) ?_
    refine TL_nil ?_
    refine T_cond rfl (fun hq => ?_) (fun hq => ?_)
    · replace hm := condT hq hm
      refine T_skip ?_
      refine T_seq ?_
      refine T_block ?_
      refine T_drawZ [3, 5, 6, 8] mix (by kernel_rfl) rfl ?_
      obtain ⟨r16, hr16, hm⟩ := bindS hm
      obtain ⟨q19, hq19, hm⟩ := bindS hm
      refine TZ_pure 0 (by kernel_rfl) rfl rfl rfl rfl rfl (op_fieldAddr fa28_0 rfl rfl) ?_
      refine TZ_pure 2 (by kernel_rfl) rfl rfl rfl rfl rfl (op_move rfl) ?_
      refine TZ_cut 6 [true, true, true, false, false, false, false, false, false] ⟨[(0, .ptr 0 0 0), (2, .ptr 11 0 0), (3, .ptr 14 0 0), (4, .int .i64 s0.2.2.2.2), (9, .int .i64 s0.2.2.2.2), (10, .bool (decide (s0.2.2.2.2 < (4 : Int)))), (13, .ptr 14 0 0), (14, .ow 12), (15, .ptr 0 0 0)], [(0, .box [.sl 1 (List.map a_u8 s0.1), .int .i64 s0.2.1, .int .u64 s0.2.2.1]), (11, .box [.snil, .snil]), (12, .arr ⟨false, false⟩ 1 2 (List.map a_i64 s0.2.2.2.1)), (13, .arr ⟨false, false⟩ 1 2 (List.map a_i64 ([] : List Int))), (14, .box [.ow 12, .ow 13])]⟩ ?_ (fun hS1454_0 => ?_)
      · refine TZ_one 3 (by kernel_rfl) rfl ?_
        refine TL_call [(0, 0)] [] [] (c_spec_l00Src_pick (l00Src.mk s0.1 s0.2.1 s0.2.2.1) (9 : Int) r16 hr16) Try.call120 rfl rfl rfl rfl rfl ⟨rfl, trivial⟩ rfl rfl rfl rfl rfl rfl rfl rfl rfl rfl rfl ?_
        refine TL_nil ?_
        refine TZ_pure 4 (by kernel_rfl) rfl rfl rfl rfl rfl (op_subW rfl rfl) ?_
        refine TZ_one 5 (by kernel_rfl) rfl ?_
        refine TL_buildSlice 1935 (es := List.map a_i64 [(w64 (r16.1 - (2 : Int)))]) el26 z2 rfl rfl rfl rfl rfl rfl rfl rfl rfl ?_
        refine TL_nil ?_
        refine TZ_one 6 (by kernel_rfl) rfl ?_
        refine TL_appendT (f := a_i64) (a := s0.2.2.2.1) (b := [(w64 (r16.1 - (2 : Int)))]) el26 z2 rfl rfl rfl rfl rfl rfl rfl (capI_spec hq19) rfl rfl rfl rfl rfl ?_
        refine TL_nil ?_
        refine TZ_pure 7 (by kernel_rfl) rfl rfl rfl rfl rfl (op_fieldAddr fa28_0 rfl rfl) ?_
        refine TZ_one 8 (by kernel_rfl) rfl ?_
        refine TL_store_box sz26 rfl rfl rfl rfl rfl rfl rfl rfl rfl ?_
        refine TL_nil ?_
        refine TZ_done (by kernel_rfl) ?_
        refine T_region ?_
        refine TL_pure rfl rfl rfl rfl (op_move rfl) ?_
        refine TL_pure rfl rfl rfl rfl (op_addW rfl rfl) ?_
        refine TL_pure rfl rfl rfl rfl (op_assign rfl) ?_
        refine TL_nil ?_
        refine TR_keepH [0, 2, 3, 4] [0, 11, 12, 13, 14] rfl rfl rfl rfl (by rw [hF]; rfl) ?_
        obtain rfl := someI hm
        have hn := CtlOK_next hc0
        exact hn _ rfl
      refine TZ_cut 4 [true, true, true, true, true, false, false, false, false] ⟨[(0, .ptr 0 0 0), (2, .ptr 11 0 0), (3, .ptr 14 0 0), (4, .int .i64 s0.2.2.2.2), (9, .int .i64 s0.2.2.2.2), (10, .bool (decide (s0.2.2.2.2 < (4 : Int)))), (13, .ptr 14 0 0), (14, .ow 12), (15, .ptr 0 0 0), (16, .int .i64 r16.1), (17, .int .i64 (w64 (r16.1 - (2 : Int))))], [(0, .box [.sl 1 (List.map a_u8 r16.2.code), .int .i64 r16.2.at_, .int .u64 r16.2.seed]), (11, .box [.snil, .snil]), (12, .arr ⟨false, false⟩ 1 2 (List.map a_i64 s0.2.2.2.1)), (13, .arr ⟨false, false⟩ 1 2 (List.map a_i64 ([] : List Int))), (14, .box [.ow 12, .ow 13])]⟩ ?_ (fun hS1454_1 => ?_)
      · refine TZ_one 5 (by kernel_rfl) rfl ?_
        refine TL_buildSlice 1935 (es := List.map a_i64 [(w64 (r16.1 - (2 : Int)))]) el26 z2 rfl rfl rfl rfl rfl rfl rfl rfl rfl ?_
        refine TL_nil ?_
        refine TZ_one 6 (by kernel_rfl) rfl ?_
        refine TL_appendT (f := a_i64) (a := s0.2.2.2.1) (b := [(w64 (r16.1 - (2 : Int)))]) el26 z2 rfl rfl rfl rfl rfl rfl rfl (capI_spec hq19) rfl rfl rfl rfl rfl ?_
        refine TL_nil ?_
        refine TZ_pure 7 (by kernel_rfl) rfl rfl rfl rfl rfl (op_fieldAddr fa28_0 rfl rfl) ?_
        refine TZ_one 8 (by kernel_rfl) rfl ?_
        refine TL_store_box sz26 rfl rfl rfl rfl rfl rfl rfl rfl rfl ?_
        refine TL_nil ?_
        refine TZ_done (by kernel_rfl) ?_
        refine T_region ?_
        refine TL_pure rfl rfl rfl rfl (op_move rfl) ?_
        refine TL_pure rfl rfl rfl rfl (op_addW rfl rfl) ?_
        refine TL_pure rfl rfl rfl rfl (op_assign rfl) ?_
        refine TL_nil ?_
        refine TR_keepH [0, 2, 3, 4] [0, 11, 12, 13, 14] rfl rfl rfl rfl (by rw [hF]; rfl) ?_
        obtain rfl := someI hm
        have hn := CtlOK_next hc0
        exact hn _ rfl
      refine TZ_cut 4 [true, false, true, true, true, true, false, false, false] ⟨[(0, .ptr 0 0 0), (2, .ptr 11 0 0), (3, .ptr 14 0 0), (4, .int .i64 s0.2.2.2.2), (9, .int .i64 s0.2.2.2.2), (10, .bool (decide (s0.2.2.2.2 < (4 : Int)))), (13, .ptr 14 0 0), (15, .ptr 0 0 0), (16, .int .i64 r16.1), (17, .int .i64 (w64 (r16.1 - (2 : Int)))), (18, .ow 1935)], [(0, .box [.sl 1 (List.map a_u8 r16.2.code), .int .i64 r16.2.at_, .int .u64 r16.2.seed]), (11, .box [.snil, .snil]), (12, .arr ⟨false, false⟩ 1 2 (List.map a_i64 s0.2.2.2.1)), (13, .arr ⟨false, false⟩ 1 2 (List.map a_i64 ([] : List Int))), (14, .box [.ow 12, .ow 13]), (1935, .arr ⟨false, false⟩ 1 2 (List.map a_i64 [(w64 (r16.1 - (2 : Int)))]))]⟩ ?_ (fun hS1454_2 => ?_)
      · refine TZ_pure 1 (by kernel_rfl) rfl rfl rfl rfl rfl (op_load_one ag26 rfl rfl) ?_
        refine TZ_one 6 (by kernel_rfl) rfl ?_
        refine TL_appendT (f := a_i64) (a := s0.2.2.2.1) (b := [(w64 (r16.1 - (2 : Int)))]) el26 z2 rfl rfl rfl rfl rfl rfl rfl (capI_spec hq19) rfl rfl rfl rfl rfl ?_
        refine TL_nil ?_
        refine TZ_pure 7 (by kernel_rfl) rfl rfl rfl rfl rfl (op_fieldAddr fa28_0 rfl rfl) ?_
        refine TZ_one 8 (by kernel_rfl) rfl ?_
        refine TL_store_box sz26 rfl rfl rfl rfl rfl rfl rfl rfl rfl ?_
        refine TL_nil ?_
        refine TZ_done (by kernel_rfl) ?_
        refine T_region ?_
        refine TL_pure rfl rfl rfl rfl (op_move rfl) ?_
        refine TL_pure rfl rfl rfl rfl (op_addW rfl rfl) ?_
        refine TL_pure rfl rfl rfl rfl (op_assign rfl) ?_
        refine TL_nil ?_
        refine TR_keepH [0, 2, 3, 4] [0, 11, 12, 13, 14] rfl rfl rfl rfl (by rw [hF]; rfl) ?_
        obtain rfl := someI hm
        have hn := CtlOK_next hc0
        exact hn _ rfl
      refine TZ_cut 6 [true, false, true, true, false, false, false, false, false] ⟨[(0, .ptr 0 0 0), (2, .ptr 11 0 0), (3, .ptr 14 0 0), (4, .int .i64 s0.2.2.2.2), (9, .int .i64 s0.2.2.2.2), (10, .bool (decide (s0.2.2.2.2 < (4 : Int)))), (13, .ptr 14 0 0), (15, .ptr 0 0 0), (16, .int .i64 r16.1)], [(0, .box [.sl 1 (List.map a_u8 r16.2.code), .int .i64 r16.2.at_, .int .u64 r16.2.seed]), (11, .box [.snil, .snil]), (12, .arr ⟨false, false⟩ 1 2 (List.map a_i64 s0.2.2.2.1)), (13, .arr ⟨false, false⟩ 1 2 (List.map a_i64 ([] : List Int))), (14, .box [.ow 12, .ow 13])]⟩ ?_ (fun hS1454_3 => ?_)
      · refine TZ_pure 4 (by kernel_rfl) rfl rfl rfl rfl rfl (op_subW rfl rfl) ?_
        refine TZ_each [1, 5] (by kernel_rfl) rfl ?_
        refine ⟨?_, ?_⟩
        · refine ⟨_, rfl, ?_⟩
          refine TL_pure rfl rfl rfl rfl (op_load_one ag26 rfl rfl) ?_
          refine TL_nil ?_
          refine TZ_keepH [0, 2, 3, 4, 9, 10, 13, 14, 15, 16, 17] [0, 11, 12, 13, 14] rfl rfl rfl rfl (by rw [hF]; rfl) ?_
          exact hS1454_1
        · refine ⟨_, rfl, ?_⟩
          refine TL_buildSlice 1935 (es := List.map a_i64 [(w64 (r16.1 - (2 : Int)))]) el26 z2 rfl rfl rfl rfl rfl rfl rfl rfl rfl ?_
          refine TL_nil ?_
          refine TZ_keepH [0, 2, 3, 4, 9, 10, 13, 15, 16, 17, 18] [0, 11, 12, 13, 14, 1935] rfl rfl rfl rfl (by rw [hF]; rfl) ?_
          exact hS1454_2
      refine TZ_each [1, 3] (by kernel_rfl) rfl ?_
      refine ⟨?_, ?_⟩
      · refine ⟨_, rfl, ?_⟩
        refine TL_pure rfl rfl rfl rfl (op_load_one ag26 rfl rfl) ?_
        refine TL_nil ?_
        refine TZ_keepH [0, 2, 3, 4, 9, 10, 13, 14, 15] [0, 11, 12, 13, 14] rfl rfl rfl rfl (by rw [hF]; rfl) ?_
        exact hS1454_0
      · refine ⟨_, rfl, ?_⟩
        refine TL_call [(0, 0)] [] [] (c_spec_l00Src_pick (l00Src.mk s0.1 s0.2.1 s0.2.2.1) (9 : Int) r16 hr16) Try.call120 rfl rfl rfl rfl rfl ⟨rfl, trivial⟩ rfl rfl rfl rfl rfl rfl rfl rfl rfl rfl rfl ?_
        refine TL_nil ?_
        refine TZ_keepH [0, 2, 3, 4, 9, 10, 13, 15, 16] [0, 11, 12, 13, 14] rfl rfl rfl rfl (by rw [hF]; rfl) ?_
        exact hS1454_3
    · replace hm := condF hq hm
      refine T_keepH [0, 2, 3] [0, 11, 12, 13, 14] rfl rfl rfl rfl (by rw [hF]; rfl) ?_
      refine T_exit ?_
      obtain rfl := someI hm
      have hn := CtlOK_out hc0
      exact hx0 (s0.1, s0.2.1, s0.2.2.1, s0.2.2.2.1) hn
theorem c_spec_R8State (p0 : List Int) (out : State) (hm : m_spec_R8State p0 = some out) : ACall Try.prog 14 [.sl 1 (List.map a_u8 p0)] [] (.agg [.ow 1000, .ow 1001]) [(1000, .arr ⟨false, true⟩ 1 2 (List.map a_i64 out.Vars)), (1001, .arr ⟨false, true⟩ 1 2 (List.map a_i64 out.Cells))] := by
  refine ACall.intro Try.func14 rfl Try.ntmps14 rfl (fun F hF => ?_)
  unfold m_spec_R8State at hm
  refine T_seq ?_
  refine T_region ?_
  refine TL_alloc 11 z28 rfl rfl rfl rfl rfl rfl rfl ?_
  refine TL_nil ?_
  refine T_seq ?_
  refine T_region ?_
  refine TL_pure rfl rfl rfl rfl (op_move rfl) ?_
  obtain ⟨r5, hr5, hm⟩ := bindS hm
  refine TLE_call [] [(1000, 12)] [] (c_spec_l00From p0 r5 hr5) (fun _ => rfl) Try.call63 rfl rfl rfl rfl rfl trivial rfl rfl rfl rfl rfl rfl rfl rfl rfl rfl rfl ?_
  refine TL_pure rfl rfl rfl rfl (op_assign rfl) ?_
  refine TL_nil ?_
  refine T_seq ?_
  refine T_region ?_
  refine TL_pure rfl rfl rfl rfl (op_move rfl) ?_
  obtain ⟨r7, hr7, hm⟩ := bindS hm
  refine TL_call [(0, 12)] [(1000, 13), (1001, 14)] [] (c_spec_l03DrawState r5 r7 hr7) Try.call65 rfl rfl rfl rfl rfl ⟨rfl, trivial⟩ rfl rfl rfl rfl rfl rfl rfl rfl rfl rfl rfl ?_
  refine TL_store_box sz28 rfl rfl rfl rfl rfl rfl rfl rfl rfl ?_
  refine TL_nil ?_
  refine T_keepH [2] [11, 13, 14] rfl rfl rfl rfl (by rw [hF]; rfl) ?_
  refine T_ren [(11, 11), (13, 1000), (14, 1001)] rfl rfl rfl (by rw [hF]; rfl) ?_
  refine T_ret ?_
  obtain rfl := someI hm
  refine ⟨[_], [1000, 1001], ⟨⟨_, _, rfl, rfl, .inr ⟨ag28, _, _, sz28, rfl, rfl⟩⟩, trivial⟩, ?_, rfl, rfl, rfl, rfl⟩
  rfl
theorem c_impl_size (p0 : Int) (out : Int) (hm : m_impl_size p0 = some out) : ACall Try.prog 129 [.int .i64 p0] [] (.int .i64 out) [] := by
  refine ACall.intro Try.func129 rfl Try.ntmps129 rfl (fun F hF => ?_)
  unfold m_impl_size at hm
  refine T_seq ?_
  refine T_region ?_
  refine TL_pure rfl rfl rfl rfl (op_assign rfl) ?_
  refine TL_nil ?_
  refine T_seq ?_
  refine T_region ?_
  refine TL_pure rfl rfl rfl rfl (op_move rfl) ?_
  refine TL_pure rfl rfl rfl rfl (op_assign rfl) ?_
  refine TL_nil ?_
  refine T_keepH [2] [] rfl rfl rfl rfl (by rw [hF]; rfl) ?_
  refine T_ret ?_
  obtain rfl := someI hm
  refine ⟨[_], [], ⟨rfl, trivial⟩, ?_, rfl, rfl, rfl, rfl⟩
  rfl
theorem c_impl_within (p0 : Int) (p1 : Int) (p2 : Int) (out : Bool) (hm : m_impl_within p0 p1 p2 = some out) : ACall Try.prog 72 [.int .i64 p0, .int .i64 p1, .int .i64 p2] [] (.bool out) [] := by
  refine ACall.intro Try.func72 rfl Try.ntmps72 rfl (fun F hF => ?_)
  unfold m_impl_within at hm
  refine T_seq ?_
  refine T_region ?_
  refine TL_pure rfl rfl rfl rfl (op_assign rfl) ?_
  refine TL_nil ?_
  refine T_seq ?_
  refine T_region ?_
  refine TL_pure rfl rfl rfl rfl (op_move rfl) ?_
  refine TL_pure rfl rfl rfl rfl (op_move rfl) ?_
  refine TL_pure rfl rfl rfl rfl (op_leq rfl rfl) ?_
  refine TL_pure rfl rfl rfl rfl (op_move rfl) ?_
  refine TL_join 4 (fun _ : Unit => ⟨[(14, .bool ((decide (p1 ≤ p0)) && (decide (p0 ≤ p2))))], []⟩) (fun _ => True) (fun _ _ => ?_) (fun hjj => ?_)
  · refine TL_pure rfl rfl rfl rfl (op_assign rfl) ?_
    refine TL_nil ?_
    refine T_keepH [6] [] rfl rfl rfl rfl (by rw [hF]; rfl) ?_
    refine T_ret ?_
    obtain rfl := someI hm
    refine ⟨[_], [], ⟨rfl, trivial⟩, ?_, rfl, rfl, rfl, rfl⟩
    rfl
  · refine TL_split 10 rfl rfl rfl (fun hq => ?_) (fun hq => ?_)
    · refine TL_want rfl rfl ?_
      refine TL_pure rfl rfl rfl rfl (op_move rfl) ?_
      refine TL_want rfl rfl ?_
      refine TL_pure rfl rfl rfl rfl (op_move rfl) ?_
      refine TL_want rfl rfl ?_
      refine TL_pure rfl rfl rfl rfl (op_leq rfl rfl) ?_
      refine TL_pure rfl rfl rfl rfl (op_pick_true rfl rfl) ?_
      refine TL_keepH [14] [] rfl rfl rfl rfl (by rw [hF]; rfl) ?_
      exact TL_cast _ (by first | (rw [hq, Bool.true_and]; done) | (rw [hq]; rfl)) (hjj () trivial)
    · refine TL_pass rfl rfl rfl rfl rfl rfl rfl ?_
      refine TL_pass rfl rfl rfl rfl rfl rfl rfl ?_
      refine TL_pass rfl rfl rfl rfl rfl rfl rfl ?_
      refine TL_pure rfl rfl rfl rfl (op_pick_false rfl rfl) ?_
      refine TL_keepH [14] [] rfl rfl rfl rfl (by rw [hF]; rfl) ?_
      exact TL_cast _ (by first | (rw [hq, Bool.false_and]; done) | (rw [hq]; rfl)) (hjj () trivial)
theorem c_impl_isCoeff (p0 : Int) (out : Bool) (hm : m_impl_isCoeff p0 = some out) : ACall Try.prog 171 [.int .i64 p0] [] (.bool out) [] := by
  refine ACall.intro Try.func171 rfl Try.ntmps171 rfl (fun F hF => ?_)
  unfold m_impl_isCoeff at hm
  refine T_seq ?_
  refine T_region ?_
  refine TL_pure rfl rfl rfl rfl (op_assign rfl) ?_
  refine TL_nil ?_
  refine T_seq ?_
  refine T_region ?_
  refine TL_pure rfl rfl rfl rfl (op_move rfl) ?_
  obtain ⟨r4, hr4, hm⟩ := bindS hm
  refine TL_callF (c_impl_within p0 (-1000000 : Int) (1000000 : Int) r4 hr4) Try.call72 rfl rfl rfl rfl rfl ?_
  refine TL_pure rfl rfl rfl rfl (op_assign rfl) ?_
  refine TL_nil ?_
  refine T_keepH [2] [] rfl rfl rfl rfl (by rw [hF]; rfl) ?_
  refine T_ret ?_
  obtain rfl := someI hm
  refine ⟨[_], [], ⟨rfl, trivial⟩, ?_, rfl, rfl, rfl, rfl⟩
  rfl
theorem c_impl_isVar (p0 : Int) (out : Bool) (hm : m_impl_isVar p0 = some out) : ACall Try.prog 172 [.int .i64 p0] [] (.bool out) [] := by
  refine ACall.intro Try.func172 rfl Try.ntmps172 rfl (fun F hF => ?_)
  unfold m_impl_isVar at hm
  refine T_seq ?_
  refine T_region ?_
  refine TL_pure rfl rfl rfl rfl (op_assign rfl) ?_
  refine TL_nil ?_
  refine T_seq ?_
  refine T_region ?_
  refine TL_pure rfl rfl rfl rfl (op_move rfl) ?_
  obtain ⟨r4, hr4, hm⟩ := bindS hm
  refine TL_callF (c_impl_within p0 (0 : Int) (3 : Int) r4 hr4) Try.call72 rfl rfl rfl rfl rfl ?_
  refine TL_pure rfl rfl rfl rfl (op_assign rfl) ?_
  refine TL_nil ?_
  refine T_keepH [2] [] rfl rfl rfl rfl (by rw [hF]; rfl) ?_
  refine T_ret ?_
  obtain rfl := someI hm
  refine ⟨[_], [], ⟨rfl, trivial⟩, ?_, rfl, rfl, rfl, rfl⟩
  rfl
theorem c_impl_isPlace (p0 : Int) (out : Bool) (hm : m_impl_isPlace p0 = some out) : ACall Try.prog 173 [.int .i64 p0] [] (.bool out) [] := by
  refine ACall.intro Try.func173 rfl Try.ntmps173 rfl (fun F hF => ?_)
  unfold m_impl_isPlace at hm
  refine T_seq ?_
  refine T_region ?_
  refine TL_pure rfl rfl rfl rfl (op_assign rfl) ?_
  refine TL_nil ?_
  refine T_seq ?_
  refine T_region ?_
  refine TL_pure rfl rfl rfl rfl (op_move rfl) ?_
  obtain ⟨r4, hr4, hm⟩ := bindS hm
  refine TL_callF (c_impl_within p0 (0 : Int) (79 : Int) r4 hr4) Try.call72 rfl rfl rfl rfl rfl ?_
  refine TL_pure rfl rfl rfl rfl (op_assign rfl) ?_
  refine TL_nil ?_
  refine T_keepH [2] [] rfl rfl rfl rfl (by rw [hF]; rfl) ?_
  refine T_ret ?_
  obtain rfl := someI hm
  refine ⟨[_], [], ⟨rfl, trivial⟩, ?_, rfl, rfl, rfl, rfl⟩
  rfl
theorem c_impl_isEvent (p0 : Int) (out : Bool) (hm : m_impl_isEvent p0 = some out) : ACall Try.prog 174 [.int .i64 p0] [] (.bool out) [] := by
  refine ACall.intro Try.func174 rfl Try.ntmps174 rfl (fun F hF => ?_)
  unfold m_impl_isEvent at hm
  refine T_seq ?_
  refine T_region ?_
  refine TL_pure rfl rfl rfl rfl (op_assign rfl) ?_
  refine TL_nil ?_
  refine T_seq ?_
  refine T_region ?_
  refine TL_pure rfl rfl rfl rfl (op_move rfl) ?_
  obtain ⟨r4, hr4, hm⟩ := bindS hm
  refine TL_callF (c_impl_within p0 (0 : Int) (3 : Int) r4 hr4) Try.call72 rfl rfl rfl rfl rfl ?_
  refine TL_pure rfl rfl rfl rfl (op_assign rfl) ?_
  refine TL_nil ?_
  refine T_keepH [2] [] rfl rfl rfl rfl (by rw [hF]; rfl) ?_
  refine T_ret ?_
  obtain rfl := someI hm
  refine ⟨[_], [], ⟨rfl, trivial⟩, ?_, rfl, rfl, rfl, rfl⟩
  rfl
theorem c_impl_ValidInstr (p0 : Instr) (out : Bool) (hm : m_impl_ValidInstr p0 = some out) : ACall Try.prog 132 [.agg [.int .i64 p0.Op, .int .i64 p0.Arg]] [] (.bool out) [] := by
  refine ACall.intro Try.func132 rfl Try.ntmps132 rfl (fun F hF => ?_)
  unfold m_impl_ValidInstr at hm
  refine T_seq ?_
  refine T_region ?_
  refine TL_box 11 rfl rfl rfl rfl rfl rfl rfl ?_
  refine TL_pure rfl rfl rfl rfl (op_assign rfl) ?_
  refine TL_nil ?_
  refine T_seq ?_
  refine T_seq ?_
  refine T_region ?_
  refine TL_pure rfl rfl rfl rfl (op_fieldAddr fa40_0 rfl rfl) ?_
  refine TL_pure rfl rfl rfl rfl (op_load_one ag2 rfl rfl) ?_
  refine TL_nil ?_
  refine T_block ?_
  refine T_join (fun (j0 : Bool) => ⟨[(1, .ptr 11 0 0), (4, .int .i64 p0.Op), (5, .bool j0)], [(11, .box [.int .i64 p0.Op, .int .i64 p0.Arg])]⟩) (fun j0 => m_impl_ValidInstr_J0 p0 j0 = some out) (fun j0 hm => ?_) (fun hj0 => ?_)
  · unfold m_impl_ValidInstr_J0 at hm
    refine T_cond rfl (fun hq => ?_) (fun hq => ?_)
    · replace hm := condT hq hm
      refine T_seq ?_
      refine T_region ?_
      refine TL_pure rfl rfl rfl rfl (op_fieldAddr fa40_1 rfl rfl) ?_
      refine TL_pure rfl rfl rfl rfl (op_load_one ag2 rfl rfl) ?_
      obtain ⟨r10, hr10, hm⟩ := bindS hm
      refine TL_callF (c_impl_isCoeff p0.Arg r10 hr10) Try.call171 rfl rfl rfl rfl rfl ?_
      refine TL_pure rfl rfl rfl rfl (op_assign rfl) ?_
      refine TL_nil ?_
      refine T_keepH [2] [] rfl rfl rfl rfl (by rw [hF]; rfl) ?_
      refine T_ret ?_
      obtain rfl := someI hm
      refine ⟨[_], [], ⟨rfl, trivial⟩, ?_, rfl, rfl, rfl, rfl⟩
      rfl
    · replace hm := condF hq hm
      refine T_join (fun (j1 : Bool) => ⟨[(1, .ptr 11 0 0), (4, .int .i64 p0.Op), (11, .bool j1)], [(11, .box [.int .i64 p0.Op, .int .i64 p0.Arg])]⟩) (fun j1 => m_impl_ValidInstr_J1 p0 j1 = some out) (fun j1 hm => ?_) (fun hj1 => ?_)
      · unfold m_impl_ValidInstr_J1 at hm
        refine T_cond rfl (fun hq => ?_) (fun hq => ?_)
        · replace hm := condT hq hm
          refine T_seq ?_
          refine T_region ?_
          refine TL_pure rfl rfl rfl rfl (op_fieldAddr fa40_1 rfl rfl) ?_
          refine TL_pure rfl rfl rfl rfl (op_load_one ag2 rfl rfl) ?_
          obtain ⟨r16, hr16, hm⟩ := bindS hm
          refine TL_callF (c_impl_isVar p0.Arg r16 hr16) Try.call172 rfl rfl rfl rfl rfl ?_
          refine TL_pure rfl rfl rfl rfl (op_assign rfl) ?_
          refine TL_nil ?_
          refine T_keepH [2] [] rfl rfl rfl rfl (by rw [hF]; rfl) ?_
          refine T_ret ?_
          obtain rfl := someI hm
          refine ⟨[_], [], ⟨rfl, trivial⟩, ?_, rfl, rfl, rfl, rfl⟩
          rfl
        · replace hm := condF hq hm
          refine T_join (fun (j2 : Bool) => ⟨[(1, .ptr 11 0 0), (4, .int .i64 p0.Op), (17, .bool j2)], [(11, .box [.int .i64 p0.Op, .int .i64 p0.Arg])]⟩) (fun j2 => m_impl_ValidInstr_J2 p0 j2 = some out) (fun j2 hm => ?_) (fun hj2 => ?_)
          · unfold m_impl_ValidInstr_J2 at hm
            refine T_cond rfl (fun hq => ?_) (fun hq => ?_)
            · replace hm := condT hq hm
              refine T_seq ?_
              refine T_region ?_
              refine TL_pure rfl rfl rfl rfl (op_fieldAddr fa40_1 rfl rfl) ?_
              refine TL_pure rfl rfl rfl rfl (op_load_one ag2 rfl rfl) ?_
              obtain ⟨r22, hr22, hm⟩ := bindS hm
              refine TL_callF (c_impl_isPlace p0.Arg r22 hr22) Try.call173 rfl rfl rfl rfl rfl ?_
              refine TL_pure rfl rfl rfl rfl (op_assign rfl) ?_
              refine TL_nil ?_
              refine T_keepH [2] [] rfl rfl rfl rfl (by rw [hF]; rfl) ?_
              refine T_ret ?_
              obtain rfl := someI hm
              refine ⟨[_], [], ⟨rfl, trivial⟩, ?_, rfl, rfl, rfl, rfl⟩
              rfl
            · replace hm := condF hq hm
              refine T_seq ?_
              refine T_region ?_
              refine TL_pure rfl rfl rfl rfl (op_eql rfl rfl) ?_
              refine TL_pure rfl rfl rfl rfl (op_assign rfl) ?_
              refine TL_nil ?_
              refine T_cond rfl (fun hq => ?_) (fun hq => ?_)
              · replace hm := condT hq hm
                refine T_seq ?_
                refine T_region ?_
                refine TL_pure rfl rfl rfl rfl (op_fieldAddr fa40_1 rfl rfl) ?_
                refine TL_pure rfl rfl rfl rfl (op_load_one ag2 rfl rfl) ?_
                obtain ⟨r27, hr27, hm⟩ := bindS hm
                refine TL_callF (c_impl_isEvent p0.Arg r27 hr27) Try.call174 rfl rfl rfl rfl rfl ?_
                refine TL_pure rfl rfl rfl rfl (op_assign rfl) ?_
                refine TL_nil ?_
                refine T_keepH [2] [] rfl rfl rfl rfl (by rw [hF]; rfl) ?_
                refine T_ret ?_
                obtain rfl := someI hm
                refine ⟨[_], [], ⟨rfl, trivial⟩, ?_, rfl, rfl, rfl, rfl⟩
                rfl
              · replace hm := condF hq hm
                refine T_join (fun (j3 : Bool) => ⟨[(1, .ptr 11 0 0), (28, .bool j3)], [(11, .box [.int .i64 p0.Op, .int .i64 p0.Arg])]⟩) (fun j3 => m_impl_ValidInstr_J3 p0 j3 = some out) (fun j3 hm => ?_) (fun hj3 => ?_)
                · unfold m_impl_ValidInstr_J3 at hm
                  refine T_cond rfl (fun hq => ?_) (fun hq => ?_)
                  · replace hm := condT hq hm
                    refine T_seq ?_
                    refine T_region ?_
                    refine TL_pure rfl rfl rfl rfl (op_fieldAddr fa40_1 rfl rfl) ?_
                    refine TL_pure rfl rfl rfl rfl (op_load_one ag2 rfl rfl) ?_
                    refine TL_pure rfl rfl rfl rfl (op_eql rfl rfl) ?_
                    refine TL_pure rfl rfl rfl rfl (op_assign rfl) ?_
                    refine TL_nil ?_
                    refine T_keepH [2] [] rfl rfl rfl rfl (by rw [hF]; rfl) ?_
                    refine T_ret ?_
                    obtain rfl := someI hm
                    refine ⟨[_], [], ⟨rfl, trivial⟩, ?_, rfl, rfl, rfl, rfl⟩
                    rfl
                  · replace hm := condF hq hm
                    refine T_skip ?_
                    refine T_seq ?_
                    refine T_region ?_
                    refine TL_pure rfl rfl rfl rfl (op_assign rfl) ?_
                    refine TL_nil ?_
                    refine T_keepH [2] [] rfl rfl rfl rfl (by rw [hF]; rfl) ?_
                    refine T_ret ?_
                    obtain rfl := someI hm
                    refine ⟨[_], [], ⟨rfl, trivial⟩, ?_, rfl, rfl, rfl, rfl⟩
                    rfl
                · refine T_seq ?_
                  refine T_region ?_
                  refine TL_pure rfl rfl rfl rfl (op_eql rfl rfl) ?_
                  refine TL_pure rfl rfl rfl rfl (op_assign rfl) ?_
                  refine TL_nil ?_
                  refine T_cond rfl (fun hq => ?_) (fun hq => ?_)
                  · replace hm := condT hq hm
                    refine T_skip ?_
                    refine T_keepH [1, 28] [11] rfl rfl rfl rfl (by rw [hF]; rfl) ?_
                    exact hj3 (decide (p0.Op = (3 : Int))) hm
                  · replace hm := condF hq hm
                    refine T_seq ?_
                    refine T_region ?_
                    refine TL_pure rfl rfl rfl rfl (op_eql rfl rfl) ?_
                    refine TL_pure rfl rfl rfl rfl (op_assign rfl) ?_
                    refine TL_nil ?_
                    refine T_cond rfl (fun hq => ?_) (fun hq => ?_)
                    · replace hm := condT hq hm
                      refine T_skip ?_
                      refine T_keepH [1, 28] [11] rfl rfl rfl rfl (by rw [hF]; rfl) ?_
                      exact hj3 (decide (p0.Op = (7 : Int))) hm
                    · replace hm := condF hq hm
                      refine T_seq ?_
                      refine T_region ?_
                      refine TL_pure rfl rfl rfl rfl (op_eql rfl rfl) ?_
                      refine TL_pure rfl rfl rfl rfl (op_assign rfl) ?_
                      refine TL_nil ?_
                      refine T_cond rfl (fun hq => ?_) (fun hq => ?_)
                      · replace hm := condT hq hm
                        refine T_skip ?_
                        refine T_keepH [1, 28] [11] rfl rfl rfl rfl (by rw [hF]; rfl) ?_
                        exact hj3 (decide (p0.Op = (8 : Int))) hm
                      · replace hm := condF hq hm
                        refine T_seq ?_
                        refine T_region ?_
                        refine TL_pure rfl rfl rfl rfl (op_eql rfl rfl) ?_
                        refine TL_pure rfl rfl rfl rfl (op_assign rfl) ?_
                        refine TL_nil ?_
                        refine T_cond rfl (fun hq => ?_) (fun hq => ?_)
                        · replace hm := condT hq hm
                          refine T_skip ?_
                          refine T_keepH [1, 28] [11] rfl rfl rfl rfl (by rw [hF]; rfl) ?_
                          exact hj3 (decide (p0.Op = (10 : Int))) hm
                        · replace hm := condF hq hm
                          refine T_region ?_
                          refine TL_pure rfl rfl rfl rfl (op_eql rfl rfl) ?_
                          refine TL_pure rfl rfl rfl rfl (op_assign rfl) ?_
                          refine TL_nil ?_
                          refine T_keepH [1, 28] [11] rfl rfl rfl rfl (by rw [hF]; rfl) ?_
                          exact hj3 (decide (p0.Op = (11 : Int))) hm
          · refine T_seq ?_
            refine T_region ?_
            refine TL_pure rfl rfl rfl rfl (op_eql rfl rfl) ?_
            refine TL_pure rfl rfl rfl rfl (op_assign rfl) ?_
            refine TL_nil ?_
            refine T_cond rfl (fun hq => ?_) (fun hq => ?_)
            · replace hm := condT hq hm
              refine T_skip ?_
              refine T_keepH [1, 4, 17] [11] rfl rfl rfl rfl (by rw [hF]; rfl) ?_
              exact hj2 (decide (p0.Op = (5 : Int))) hm
            · replace hm := condF hq hm
              refine T_region ?_
              refine TL_pure rfl rfl rfl rfl (op_eql rfl rfl) ?_
              refine TL_pure rfl rfl rfl rfl (op_assign rfl) ?_
              refine TL_nil ?_
              refine T_keepH [1, 4, 17] [11] rfl rfl rfl rfl (by rw [hF]; rfl) ?_
              exact hj2 (decide (p0.Op = (6 : Int))) hm
      · refine T_seq ?_
        refine T_region ?_
        refine TL_pure rfl rfl rfl rfl (op_eql rfl rfl) ?_
        refine TL_pure rfl rfl rfl rfl (op_assign rfl) ?_
        refine TL_nil ?_
        refine T_cond rfl (fun hq => ?_) (fun hq => ?_)
        · replace hm := condT hq hm
          refine T_skip ?_
          refine T_keepH [1, 4, 11] [11] rfl rfl rfl rfl (by rw [hF]; rfl) ?_
          exact hj1 (decide (p0.Op = (1 : Int))) hm
        · replace hm := condF hq hm
          refine T_region ?_
          refine TL_pure rfl rfl rfl rfl (op_eql rfl rfl) ?_
          refine TL_pure rfl rfl rfl rfl (op_assign rfl) ?_
          refine TL_nil ?_
          refine T_keepH [1, 4, 11] [11] rfl rfl rfl rfl (by rw [hF]; rfl) ?_
          exact hj1 (decide (p0.Op = (2 : Int))) hm
  · refine T_seq ?_
    refine T_region ?_
    refine TL_pure rfl rfl rfl rfl (op_eql rfl rfl) ?_
    refine TL_pure rfl rfl rfl rfl (op_assign rfl) ?_
    refine TL_nil ?_
    refine T_cond rfl (fun hq => ?_) (fun hq => ?_)
    · replace hm := condT hq hm
      refine T_skip ?_
      refine T_keepH [1, 4, 5] [11] rfl rfl rfl rfl (by rw [hF]; rfl) ?_
      exact hj0 (decide (p0.Op = (0 : Int))) hm
    · replace hm := condF hq hm
      refine T_region ?_
      refine TL_pure rfl rfl rfl rfl (op_eql rfl rfl) ?_
      refine TL_pure rfl rfl rfl rfl (op_assign rfl) ?_
      refine TL_nil ?_
      refine T_keepH [1, 4, 5] [11] rfl rfl rfl rfl (by rw [hF]; rfl) ?_
      exact hj0 (decide (p0.Op = (4 : Int))) hm
theorem c_impl_ValidCode_1 (p0 : Instr) (out : Bool) (hm : m_impl_ValidCode_1 p0 = some out) : ACall Try.prog 131 [.agg [.int .i64 p0.Op, .int .i64 p0.Arg]] [] (.bool out) [] := by
  refine ACall.intro Try.func131 rfl Try.ntmps131 rfl (fun F hF => ?_)
  unfold m_impl_ValidCode_1 at hm
  refine T_seq ?_
  refine T_region ?_
  refine TL_box 11 rfl rfl rfl rfl rfl rfl rfl ?_
  refine TL_pure rfl rfl rfl rfl (op_assign rfl) ?_
  refine TL_nil ?_
  refine T_seq ?_
  refine T_region ?_
  refine TL_pure rfl rfl rfl rfl (op_load_agg ag40 sz40 rfl rfl rfl) ?_
  obtain ⟨r4, hr4, hm⟩ := bindS hm
  refine TL_callF (c_impl_ValidInstr p0 r4 hr4) Try.call132 rfl rfl rfl rfl rfl ?_
  refine TL_pure rfl rfl rfl rfl (op_not rfl) ?_
  refine TL_pure rfl rfl rfl rfl (op_assign rfl) ?_
  refine TL_nil ?_
  refine T_keepH [2] [] rfl rfl rfl rfl (by rw [hF]; rfl) ?_
  refine T_ret ?_
  obtain rfl := someI hm
  refine ⟨[_], [], ⟨rfl, trivial⟩, ?_, rfl, rfl, rfl, rfl⟩
  rfl
theorem c_slices_IndexFunc_impl_Instr_impl_Instr_fValidCode_1 (p0 : List Instr) (out : Int) (hm : m_slices_IndexFunc_impl_Instr_impl_Instr_fValidCode_1 p0 = some out) : ACall Try.prog 170 [.sl 2 (List.map a_Instr p0), .fn (.func 131) [] []] [] (.int .i64 out) [] := by
  refine ACall.intro Try.func170 rfl Try.ntmps170 rfl (fun F hF => ?_)
  unfold m_slices_IndexFunc_impl_Instr_impl_Instr_fValidCode_1 at hm
  refine T_seq ?_
  refine T_region ?_
  refine TL_pure rfl rfl rfl rfl (op_assign rfl) ?_
  refine TL_nil ?_
  refine T_seq ?_
  refine T_seq ?_
  refine T_region ?_
  refine TL_pure rfl rfl rfl rfl (op_move rfl) ?_
  refine TL_pure rfl rfl rfl rfl (op_lenT Try.underlying24 rfl (List.length_map _)) ?_
  refine TL_fact (fun _ _ _ hr => RelP.slLen (i := 6) rfl hr) (fun hlen7 => ?_)
  rw [List.length_map] at hlen7
  refine TL_pure rfl rfl rfl rfl (op_move rfl) ?_
  refine TL_nil ?_
  refine T_block ?_
  refine T_keepH [0, 1, 7, 8] [] rfl rfl rfl rfl (by rw [hF]; rfl) ?_
  refine T_loop ?_
  obtain ⟨u0, hl0, hm⟩ := bindS hm
  refine TR_forL2 p0 (m_slices_IndexFunc_impl_Instr_impl_Instr_fValidCode_1_L0) (fun (s0 : Unit) => (.inl ())) (fun n0 (s0 : Unit) => ⟨[(0, .sl 2 (List.map a_Instr p0)), (1, .fn (.func 131) [] []), (7, .int .i64 (p0.length : Int)), (8, .int .i64 (n0 : Int))], []⟩) (fun u0 => match u0 with | .inl u0 => .exit 0 | .inr u0 => .ret) (fun u0 => match u0 with | .inl u0 => ⟨[], []⟩ | .inr u0 => ⟨[(4, .int .i64 u0)], []⟩) (fun u0 => m_slices_IndexFunc_impl_Instr_impl_Instr_fValidCode_1_A0 u0 = some out) hl0 hm (fun u0 hm => ?_) (fun hx0 s0 hm => ?_) (fun hx0 n0 x0 s0 c0 hxn0 hlt0 hm hc0 => ?_)
  · rcases u0 with u0 | u0
    · unfold m_slices_IndexFunc_impl_Instr_impl_Instr_fValidCode_1_A0 at hm
      refine T_seq ?_
      refine T_region ?_
      refine TL_pure rfl rfl rfl rfl (op_assign rfl) ?_
      refine TL_nil ?_
      refine T_keepH [4] [] rfl rfl rfl rfl (by rw [hF]; rfl) ?_
      refine T_ret ?_
      obtain rfl := someI hm
      refine ⟨[_], [], ⟨rfl, trivial⟩, ?_, rfl, rfl, rfl, rfl⟩
      rfl
    · unfold m_slices_IndexFunc_impl_Instr_impl_Instr_fValidCode_1_A0 at hm
      obtain rfl := someI hm
      refine ⟨[_], [], ⟨rfl, trivial⟩, ?_, rfl, rfl, rfl, rfl⟩
      rfl
  · refine T_seq ?_
    refine T_region ?_
    refine TL_pure rfl rfl rfl rfl (op_lss rfl rfl) ?_
    refine TL_nil ?_
    refine T_seq ?_
    refine T_if_false rfl (decide_eq_false (by simp)) ?_
    refine T_keepH [] [] rfl rfl rfl rfl (by rw [hF]; rfl) ?_
    refine T_exit ?_
    exact hx0 (.inl ()) hm
  · unfold m_slices_IndexFunc_impl_Instr_impl_Instr_fValidCode_1_L0 at hm
    refine T_seq ?_
    refine T_region ?_
    refine TL_pure rfl rfl rfl rfl (op_lss rfl rfl) ?_
    refine TL_nil ?_
    refine T_seq ?_
    refine T_if_true rfl (decide_eq_true (Int.ofNat_lt.2 hlt0)) ?_
    refine T_skip ?_
    refine T_seq ?_
    refine T_block ?_
    refine T_seq ?_
    refine T_region ?_
    refine TL_pure rfl rfl rfl rfl (op_move rfl) ?_
    refine TL_pure rfl rfl rfl rfl (op_assign rfl) ?_
    refine TL_nil ?_
    refine T_seq ?_
    refine T_region ?_
    refine TL_pure rfl rfl rfl rfl (op_move rfl) ?_
    refine TL_pure rfl rfl rfl rfl (op_move rfl) ?_
    refine TL_pure rfl rfl rfl rfl (op_move rfl) ?_
    refine TL_pure rfl rfl rfl rfl (op_index_sl el24 rfl rfl rfl (get_map hxn0) rfl) ?_
    refine TL_pure rfl rfl rfl rfl (op_load_agg ag40 sz40 rfl rfl rfl) ?_
    obtain ⟨r16, hr16, hm⟩ := bindS hm
    refine TL_callV rfl (c_impl_ValidCode_1 x0 r16 hr16) Try.call131 rfl rfl rfl rfl rfl ?_
    refine TL_nil ?_
    refine T_cond rfl (fun hq => ?_) (fun hq => ?_)
    · replace hm := condT hq hm
      refine T_seq ?_
      refine T_region ?_
      refine TL_pure rfl rfl rfl rfl (op_move rfl) ?_
      refine TL_pure rfl rfl rfl rfl (op_assign rfl) ?_
      refine TL_nil ?_
      refine T_keepH [4] [] rfl rfl rfl rfl (by rw [hF]; rfl) ?_
      refine T_ret ?_
      obtain rfl := someI hm
      have hn := CtlOK_out hc0
      exact hx0 (.inr (n0 : Int)) hn
    · replace hm := condF hq hm
      refine T_skip ?_
      refine T_region ?_
      refine TL_pure rfl rfl rfl rfl (op_addN rfl rfl (Nat.lt_of_lt_of_le hlt0 hlen7)) ?_
      refine TL_pure rfl rfl rfl rfl (op_move rfl) ?_
      refine TL_nil ?_
      refine TR_keepH [0, 1, 7, 8] [] rfl rfl rfl rfl (by rw [hF]; rfl) ?_
      obtain rfl := someI hm
      have hn := CtlOK_next hc0
      exact hn _ rfl
theorem c_slices_ContainsFunc_impl_Instr_impl_Instr_fValidCode_1 (p0 : List Instr) (out : Bool) (hm : m_slices_ContainsFunc_impl_Instr_impl_Instr_fValidCode_1 p0 = some out) : ACall Try.prog 130 [.sl 2 (List.map a_Instr p0), .fn (.func 131) [] []] [] (.bool out) [] := by
  refine ACall.intro Try.func130 rfl Try.ntmps130 rfl (fun F hF => ?_)
  unfold m_slices_ContainsFunc_impl_Instr_impl_Instr_fValidCode_1 at hm
  refine T_seq ?_
  refine T_region ?_
  refine TL_pure rfl rfl rfl rfl (op_assign rfl) ?_
  refine TL_nil ?_
  refine T_seq ?_
  refine T_region ?_
  refine TL_pure rfl rfl rfl rfl (op_move rfl) ?_
  refine TL_pure rfl rfl rfl rfl (op_move rfl) ?_
  obtain ⟨r7, hr7, hm⟩ := bindS hm
  refine TL_callF (c_slices_IndexFunc_impl_Instr_impl_Instr_fValidCode_1 p0 r7 hr7) Try.call170 rfl rfl rfl rfl rfl ?_
  refine TL_pure rfl rfl rfl rfl (op_geq rfl rfl) ?_
  refine TL_pure rfl rfl rfl rfl (op_assign rfl) ?_
  refine TL_nil ?_
  refine T_keepH [4] [] rfl rfl rfl rfl (by rw [hF]; rfl) ?_
  refine T_ret ?_
  obtain rfl := someI hm
  refine ⟨[_], [], ⟨rfl, trivial⟩, ?_, rfl, rfl, rfl, rfl⟩
  rfl
theorem c_impl_ValidCode (p0 : List Instr) (out : Bool) (hm : m_impl_ValidCode p0 = some out) : ACall Try.prog 69 [.sl 2 (List.map a_Instr p0)] [] (.bool out) [] := by
  refine ACall.intro Try.func69 rfl Try.ntmps69 rfl (fun F hF => ?_)
  unfold m_impl_ValidCode at hm
  refine T_seq ?_
  refine T_region ?_
  refine TL_pure rfl rfl rfl rfl (op_assign rfl) ?_
  refine TL_nil ?_
  refine T_seq ?_
  refine T_region ?_
  refine TL_pure rfl rfl rfl rfl (op_move rfl) ?_
  refine TL_pure rfl rfl rfl rfl (op_lenT Try.underlying24 rfl (List.length_map _)) ?_
  refine TL_fact (fun _ _ _ hr => RelP.slLen (i := 3) rfl hr) (fun hlen4 => ?_)
  rw [List.length_map] at hlen4
  obtain ⟨r5, hr5, hm⟩ := bindS hm
  refine TL_callF (c_impl_size (p0.length : Int) r5 hr5) Try.call129 rfl rfl rfl rfl rfl ?_
  obtain ⟨r6, hr6, hm⟩ := bindS hm
  refine TL_callF (c_impl_within r5 (1 : Int) (80 : Int) r6 hr6) Try.call72 rfl rfl rfl rfl rfl ?_
  refine TL_pure rfl rfl rfl rfl (op_move rfl) ?_
  refine TL_split 7 rfl rfl rfl (fun hq => ?_) (fun hq => ?_)
  · replace hm := condT hq hm
    refine TL_want rfl rfl ?_
    refine TL_pure rfl rfl rfl rfl (op_move rfl) ?_
    refine TL_want rfl rfl ?_
    obtain ⟨r9, hr9, hm⟩ := bindS hm
    refine TL_callF (c_slices_ContainsFunc_impl_Instr_impl_Instr_fValidCode_1 p0 r9 hr9) Try.call130 rfl rfl rfl rfl rfl ?_
    refine TL_want rfl rfl ?_
    refine TL_pure rfl rfl rfl rfl (op_not rfl) ?_
    refine TL_pure rfl rfl rfl rfl (op_pick_true rfl rfl) ?_
    refine TL_pure rfl rfl rfl rfl (op_assign rfl) ?_
    refine TL_nil ?_
    refine T_keepH [2] [] rfl rfl rfl rfl (by rw [hF]; rfl) ?_
    refine T_ret ?_
    obtain rfl := someI hm
    refine ⟨[_], [], ⟨rfl, trivial⟩, ?_, rfl, rfl, rfl, rfl⟩
    rfl
  · replace hm := condF hq hm
    refine TL_pass rfl rfl rfl rfl rfl rfl rfl ?_
    refine TL_pass rfl rfl rfl rfl rfl rfl rfl ?_
    refine TL_pass rfl rfl rfl rfl rfl rfl rfl ?_
    refine TL_pure rfl rfl rfl rfl (op_pick_false rfl rfl) ?_
    refine TL_pure rfl rfl rfl rfl (op_assign rfl) ?_
    refine TL_nil ?_
    refine T_keepH [2] [] rfl rfl rfl rfl (by rw [hF]; rfl) ?_
    refine T_ret ?_
    obtain rfl := someI hm
    refine ⟨[_], [], ⟨rfl, trivial⟩, ?_, rfl, rfl, rfl, rfl⟩
    rfl
theorem c_impl_allWithin (p0 : List Int) (p1 : Int) (p2 : Int) (out : Bool) (hm : m_impl_allWithin p0 p1 p2 = some out) : ACall Try.prog 71 [.sl 1 (List.map a_i64 p0), .int .i64 p1, .int .i64 p2] [] (.bool out) [] := by
  refine ACall.intro Try.func71 rfl Try.ntmps71 rfl (fun F hF => ?_)
  unfold m_impl_allWithin at hm
  refine T_seq ?_
  refine T_region ?_
  refine TL_pure rfl rfl rfl rfl (op_assign rfl) ?_
  refine TL_nil ?_
  refine T_seq ?_
  refine T_seq ?_
  refine T_region ?_
  refine TL_pure rfl rfl rfl rfl (op_move rfl) ?_
  refine TL_pure rfl rfl rfl rfl (op_lenT Try.underlying26 rfl (List.length_map _)) ?_
  refine TL_fact (fun _ _ _ hr => RelP.slLen (i := 9) rfl hr) (fun hlen10 => ?_)
  rw [List.length_map] at hlen10
  refine TL_pure rfl rfl rfl rfl (op_move rfl) ?_
  refine TL_nil ?_
  refine T_block ?_
  refine T_keepH [1, 2, 9, 10, 11] [] rfl rfl rfl rfl (by rw [hF]; rfl) ?_
  refine T_loop ?_
  obtain ⟨u0, hl0, hm⟩ := bindS hm
  refine TR_forL2 p0 (m_impl_allWithin_L0 p1 p2) (fun (s0 : Unit) => (.inl ())) (fun n0 (s0 : Unit) => ⟨[(1, .int .i64 p1), (2, .int .i64 p2), (9, .sl 1 (List.map a_i64 p0)), (10, .int .i64 (p0.length : Int)), (11, .int .i64 (n0 : Int))], []⟩) (fun u0 => match u0 with | .inl u0 => .exit 0 | .inr u0 => .ret) (fun u0 => match u0 with | .inl u0 => ⟨[], []⟩ | .inr u0 => ⟨[(6, .bool u0)], []⟩) (fun u0 => m_impl_allWithin_A0 u0 = some out) hl0 hm (fun u0 hm => ?_) (fun hx0 s0 hm => ?_) (fun hx0 n0 x0 s0 c0 hxn0 hlt0 hm hc0 => ?_)
  · rcases u0 with u0 | u0
    · unfold m_impl_allWithin_A0 at hm
      refine T_seq ?_
      refine T_region ?_
      refine TL_pure rfl rfl rfl rfl (op_assign rfl) ?_
      refine TL_nil ?_
      refine T_keepH [6] [] rfl rfl rfl rfl (by rw [hF]; rfl) ?_
      refine T_ret ?_
      obtain rfl := someI hm
      refine ⟨[_], [], ⟨rfl, trivial⟩, ?_, rfl, rfl, rfl, rfl⟩
      rfl
    · unfold m_impl_allWithin_A0 at hm
      obtain rfl := someI hm
      refine ⟨[_], [], ⟨rfl, trivial⟩, ?_, rfl, rfl, rfl, rfl⟩
      rfl
  · refine T_seq ?_
    refine T_region ?_
    refine TL_pure rfl rfl rfl rfl (op_lss rfl rfl) ?_
    refine TL_nil ?_
    refine T_seq ?_
    refine T_if_false rfl (decide_eq_false (by simp)) ?_
    refine T_keepH [] [] rfl rfl rfl rfl (by rw [hF]; rfl) ?_
    refine T_exit ?_
    exact hx0 (.inl ()) hm
  · unfold m_impl_allWithin_L0 at hm
    refine T_seq ?_
    refine T_region ?_
    refine TL_pure rfl rfl rfl rfl (op_lss rfl rfl) ?_
    refine TL_nil ?_
    refine T_seq ?_
    refine T_if_true rfl (decide_eq_true (Int.ofNat_lt.2 hlt0)) ?_
    refine T_skip ?_
    refine T_seq ?_
    refine T_block ?_
    refine T_seq ?_
    refine T_region ?_
    refine TL_pure rfl rfl rfl rfl (op_index_sl el26 rfl rfl rfl (get_map hxn0) rfl) ?_
    refine TL_pure rfl rfl rfl rfl (op_load_one ag2 rfl rfl) ?_
    refine TL_pure rfl rfl rfl rfl (op_assign rfl) ?_
    refine TL_nil ?_
    refine T_seq ?_
    refine T_region ?_
    refine TL_pure rfl rfl rfl rfl (op_move rfl) ?_
    refine TL_pure rfl rfl rfl rfl (op_move rfl) ?_
    refine TL_pure rfl rfl rfl rfl (op_move rfl) ?_
    obtain ⟨r18, hr18, hm⟩ := bindS hm
    refine TL_callF (c_impl_within x0 p1 p2 r18 hr18) Try.call72 rfl rfl rfl rfl rfl ?_
    refine TL_pure rfl rfl rfl rfl (op_not rfl) ?_
    refine TL_nil ?_
    refine T_cond rfl (fun hq => ?_) (fun hq => ?_)
    · replace hm := condT hq hm
      refine T_seq ?_
      refine T_region ?_
      refine TL_pure rfl rfl rfl rfl (op_assign rfl) ?_
      refine TL_nil ?_
      refine T_keepH [6] [] rfl rfl rfl rfl (by rw [hF]; rfl) ?_
      refine T_ret ?_
      obtain rfl := someI hm
      have hn := CtlOK_out hc0
      exact hx0 (.inr false) hn
    · replace hm := condF hq hm
      refine T_skip ?_
      refine T_region ?_
      refine TL_pure rfl rfl rfl rfl (op_addN rfl rfl (Nat.lt_of_lt_of_le hlt0 hlen10)) ?_
      refine TL_pure rfl rfl rfl rfl (op_move rfl) ?_
      refine TL_nil ?_
      refine TR_keepH [1, 2, 9, 10, 11] [] rfl rfl rfl rfl (by rw [hF]; rfl) ?_
      obtain rfl := someI hm
      have hn := CtlOK_next hc0
      exact hn _ rfl
theorem c_impl_ValidState (p0 : State) (out : Bool) (hm : m_impl_ValidState p0 = some out) : ACall Try.prog 70 [.agg [.sl 1 (List.map a_i64 p0.Vars), .sl 1 (List.map a_i64 p0.Cells)]] [] (.bool out) [] := by
  refine ACall.intro Try.func70 rfl Try.ntmps70 rfl (fun F hF => ?_)
  unfold m_impl_ValidState at hm
  refine T_seq ?_
  refine T_region ?_
  refine TL_box 11 rfl rfl rfl rfl rfl rfl rfl ?_
  refine TL_pure rfl rfl rfl rfl (op_assign rfl) ?_
  refine TL_nil ?_
  refine T_seq ?_
  refine T_region ?_
  refine TL_pure rfl rfl rfl rfl (op_fieldAddr fa28_0 rfl rfl) ?_
  refine TL_pure rfl rfl rfl rfl (op_load_one ag26 rfl rfl) ?_
  refine TL_pure rfl rfl rfl rfl (op_lenT Try.underlying26 rfl (List.length_map _)) ?_
  refine TL_fact (fun _ _ _ hr => RelP.slLen (i := 4) rfl hr) (fun hlen5 => ?_)
  rw [List.length_map] at hlen5
  refine TL_pure rfl rfl rfl rfl (op_eql rfl rfl) ?_
  refine TL_pure rfl rfl rfl rfl (op_move rfl) ?_
  refine TL_join 5 (fun _ : Unit => ⟨[(1, .ptr 11 0 0), (12, .bool ((decide ((p0.Vars.length : Int) = (4 : Int))) && (decide ((p0.Cells.length : Int) = (8 : Int)))))], [(11, .box [.sl 1 (List.map a_i64 p0.Vars), .sl 1 (List.map a_i64 p0.Cells)])]⟩) (fun _ => True) (fun _ _ => ?_) (fun hjj => ?_)
  · refine TL_pure rfl rfl rfl rfl (op_move rfl) ?_
    refine TL_split 13 rfl rfl rfl (fun hq => ?_) (fun hq => ?_)
    · replace hm := condT hq hm
      refine TL_want rfl rfl ?_
      refine TL_pure rfl rfl rfl rfl (op_fieldAddr fa28_0 rfl rfl) ?_
      refine TL_want rfl rfl ?_
      refine TL_pure rfl rfl rfl rfl (op_load_one ag26 rfl rfl) ?_
      refine TL_want rfl rfl ?_
      obtain ⟨r16, hr16, hm⟩ := bindS hm
      refine TL_callF (c_impl_allWithin p0.Vars (-1000000000 : Int) (1000000000 : Int) r16 hr16) Try.call71 rfl rfl rfl rfl rfl ?_
      refine TL_pure rfl rfl rfl rfl (op_pick_true rfl rfl) ?_
      refine TL_pure rfl rfl rfl rfl (op_move rfl) ?_
      refine TL_split 18 rfl rfl rfl (fun hq => ?_) (fun hq => ?_)
      · replace hm := condT hq hm
        refine TL_want rfl rfl ?_
        refine TL_pure rfl rfl rfl rfl (op_fieldAddr fa28_1 rfl rfl) ?_
        refine TL_want rfl rfl ?_
        refine TL_pure rfl rfl rfl rfl (op_load_one ag26 rfl rfl) ?_
        refine TL_want rfl rfl ?_
        obtain ⟨r21, hr21, hm⟩ := bindS hm
        refine TL_callF (c_impl_allWithin p0.Cells (-1000000000 : Int) (1000000000 : Int) r21 hr21) Try.call71 rfl rfl rfl rfl rfl ?_
        refine TL_pure rfl rfl rfl rfl (op_pick_true rfl rfl) ?_
        refine TL_pure rfl rfl rfl rfl (op_assign rfl) ?_
        refine TL_nil ?_
        refine T_keepH [2] [] rfl rfl rfl rfl (by rw [hF]; rfl) ?_
        refine T_ret ?_
        obtain rfl := someI hm
        refine ⟨[_], [], ⟨rfl, trivial⟩, ?_, rfl, rfl, rfl, rfl⟩
        rfl
      · replace hm := condF hq hm
        refine TL_pass rfl rfl rfl rfl rfl rfl rfl ?_
        refine TL_pass rfl rfl rfl rfl rfl rfl rfl ?_
        refine TL_pass rfl rfl rfl rfl rfl rfl rfl ?_
        refine TL_pure rfl rfl rfl rfl (op_pick_false rfl rfl) ?_
        refine TL_pure rfl rfl rfl rfl (op_assign rfl) ?_
        refine TL_nil ?_
        refine T_keepH [2] [] rfl rfl rfl rfl (by rw [hF]; rfl) ?_
        refine T_ret ?_
        obtain rfl := someI hm
        refine ⟨[_], [], ⟨rfl, trivial⟩, ?_, rfl, rfl, rfl, rfl⟩
        rfl
    · replace hm := condF hq hm
      refine TL_pass rfl rfl rfl rfl rfl rfl rfl ?_
      refine TL_pass rfl rfl rfl rfl rfl rfl rfl ?_
      refine TL_pass rfl rfl rfl rfl rfl rfl rfl ?_
      refine TL_pure rfl rfl rfl rfl (op_pick_false rfl rfl) ?_
      refine TL_pure rfl rfl rfl rfl (op_move rfl) ?_
      refine TL_pass rfl rfl rfl rfl rfl rfl rfl ?_
      refine TL_pass rfl rfl rfl rfl rfl rfl rfl ?_
      refine TL_pass rfl rfl rfl rfl rfl rfl rfl ?_
      refine TL_pure rfl rfl rfl rfl (op_pick_false rfl rfl) ?_
      refine TL_pure rfl rfl rfl rfl (op_assign rfl) ?_
      refine TL_nil ?_
      refine T_keepH [2] [] rfl rfl rfl rfl (by rw [hF]; rfl) ?_
      refine T_ret ?_
      obtain rfl := someI hm
      refine ⟨[_], [], ⟨rfl, trivial⟩, ?_, rfl, rfl, rfl, rfl⟩
      rfl
  · refine TL_split 7 rfl rfl rfl (fun hq => ?_) (fun hq => ?_)
    · refine TL_want rfl rfl ?_
      refine TL_pure rfl rfl rfl rfl (op_fieldAddr fa28_1 rfl rfl) ?_
      refine TL_want rfl rfl ?_
      refine TL_pure rfl rfl rfl rfl (op_load_one ag26 rfl rfl) ?_
      refine TL_want rfl rfl ?_
      refine TL_pure rfl rfl rfl rfl (op_lenT Try.underlying26 rfl (List.length_map _)) ?_
      refine TL_fact (fun _ _ _ hr => RelP.slLen (i := 9) rfl hr) (fun hlen10 => ?_)
      rw [List.length_map] at hlen10
      refine TL_want rfl rfl ?_
      refine TL_pure rfl rfl rfl rfl (op_eql rfl rfl) ?_
      refine TL_pure rfl rfl rfl rfl (op_pick_true rfl rfl) ?_
      refine TL_keepH [1, 12] [11] rfl rfl rfl rfl (by rw [hF]; rfl) ?_
      exact TL_cast _ (by first | (rw [hq, Bool.true_and]; done) | (rw [hq]; rfl)) (hjj () trivial)
    · refine TL_pass rfl rfl rfl rfl rfl rfl rfl ?_
      refine TL_pass rfl rfl rfl rfl rfl rfl rfl ?_
      refine TL_pass rfl rfl rfl rfl rfl rfl rfl ?_
      refine TL_pass rfl rfl rfl rfl rfl rfl rfl ?_
      refine TL_pure rfl rfl rfl rfl (op_pick_false rfl rfl) ?_
      refine TL_keepH [1, 12] [11] rfl rfl rfl rfl (by rw [hF]; rfl) ?_
      exact TL_cast _ (by first | (rw [hq, Bool.false_and]; done) | (rw [hq]; rfl)) (hjj () trivial)
theorem c_impl_copyInts (p0 : List Int) (out : List Int) (hm : m_impl_copyInts p0 = some out) : ACall Try.prog 124 [.sl 1 (List.map a_i64 p0)] [] (.ow 1000) [(1000, .arr ⟨false, true⟩ 1 2 (List.map a_i64 out))] := by
  refine ACall.intro Try.func124 rfl Try.ntmps124 rfl (fun F hF => ?_)
  unfold m_impl_copyInts at hm
  refine T_seq ?_
  refine T_region ?_
  refine TL_pure rfl rfl rfl rfl (op_assign rfl) ?_
  refine TL_nil ?_
  refine T_seq ?_
  refine T_region ?_
  refine TL_buildSlice 11 (es := List.map a_i64 ([] : List Int)) el26 z2 rfl rfl rfl rfl rfl rfl rfl rfl rfl ?_
  refine TL_pure rfl rfl rfl rfl (op_move rfl) ?_
  obtain ⟨q5, hq5, hm⟩ := bindS hm
  refine TL_appendT (f := a_i64) (a := ([] : List Int)) (b := p0) el26 z2 rfl rfl rfl rfl rfl rfl rfl (capI_spec hq5) rfl rfl rfl rfl rfl ?_
  refine TL_pure rfl rfl rfl rfl (op_assign rfl) ?_
  refine TL_nil ?_
  refine T_keepH [2] [11] rfl rfl rfl rfl (by rw [hF]; rfl) ?_
  refine T_deepen 11 (p' := false) (List.map a_i64 (([] : List Int) ++ p0)) (by rw [hF]; rfl) rfl (ElR.map (f := a_i64) (g := a_i64) (fun _ => ⟨⟨rfl, rfl⟩, trivial⟩) (([] : List Int) ++ p0)) rfl rfl rfl ?_
  refine T_ren [(11, 1000)] rfl rfl rfl (by rw [hF]; rfl) ?_
  refine T_ret ?_
  obtain rfl := someI hm
  refine ⟨[_], [1000], ⟨rfl, trivial⟩, ?_, rfl, rfl, rfl, rfl⟩
  rfl
theorem c_impl_State_own (p0 : State) (out : State) (hm : m_impl_State_own p0 = some out) : ACall Try.prog 123 [.agg [.sl 1 (List.map a_i64 p0.Vars), .sl 1 (List.map a_i64 p0.Cells)]] [] (.agg [.ow 1000, .ow 1001]) [(1000, .arr ⟨false, true⟩ 1 2 (List.map a_i64 out.Vars)), (1001, .arr ⟨false, true⟩ 1 2 (List.map a_i64 out.Cells))] := by
  refine ACall.intro Try.func123 rfl Try.ntmps123 rfl (fun F hF => ?_)
  unfold m_impl_State_own at hm
  refine T_seq ?_
  refine T_region ?_
  refine TL_box 11 rfl rfl rfl rfl rfl rfl rfl ?_
  refine TL_alloc 12 z28 rfl rfl rfl rfl rfl rfl rfl ?_
  refine TL_nil ?_
  refine T_seq ?_
  refine T_drawZ [7] mix (by kernel_rfl) rfl ?_
  obtain ⟨r5, hr5, hm⟩ := bindS hm
  obtain ⟨r8, hr8, hm⟩ := bindS hm
  refine TZ_pure 0 (by kernel_rfl) rfl rfl rfl rfl rfl (op_fieldAddr fa28_0 rfl rfl) ?_
  refine TZ_pure 1 (by kernel_rfl) rfl rfl rfl rfl rfl (op_load_one ag26 rfl rfl) ?_
  refine TZ_pure 3 (by kernel_rfl) rfl rfl rfl rfl rfl (op_fieldAddr fa28_1 rfl rfl) ?_
  refine TZ_pure 4 (by kernel_rfl) rfl rfl rfl rfl rfl (op_load_one ag26 rfl rfl) ?_
  refine TZ_one 2 (by kernel_rfl) rfl ?_
  refine TL_callO [(1000, 15)] (c_impl_copyInts p0.Vars r5 hr5) Try.call124 rfl rfl rfl rfl rfl rfl rfl rfl rfl rfl rfl rfl rfl ?_
  refine TL_nil ?_
  refine TZ_one 5 (by kernel_rfl) rfl ?_
  refine TL_callO [(1000, 16)] (c_impl_copyInts p0.Cells r8 hr8) Try.call124 rfl rfl rfl rfl rfl rfl rfl rfl rfl rfl rfl rfl rfl ?_
  refine TL_nil ?_
  refine TZ_pure 6 (by kernel_rfl) rfl rfl rfl rfl rfl (op_buildP pl28 z28 rfl rfl rfl rfl rfl) ?_
  refine TZ_one 7 (by kernel_rfl) rfl ?_
  refine TL_store_box sz28 rfl rfl rfl rfl rfl rfl rfl rfl rfl ?_
  refine TL_nil ?_
  refine TZ_done (by kernel_rfl) ?_
  refine T_keepH [2] [12, 15, 16] rfl rfl rfl rfl (by rw [hF]; rfl) ?_
  refine T_ren [(12, 12), (15, 1000), (16, 1001)] rfl rfl rfl (by rw [hF]; rfl) ?_
  refine T_ret ?_
  obtain rfl := someI hm
  refine ⟨[_], [1000, 1001], ⟨⟨_, _, rfl, rfl, .inr ⟨ag28, _, _, sz28, rfl, rfl⟩⟩, trivial⟩, ?_, rfl, rfl, rfl, rfl⟩
  rfl
theorem c_impl_isIndex (p0 : Int) (p1 : Int) (out : Bool) (hm : m_impl_isIndex p0 p1 = some out) : ACall Try.prog 92 [.int .i64 p0, .int .i64 p1] [] (.bool out) [] := by
  refine ACall.intro Try.func92 rfl Try.ntmps92 rfl (fun F hF => ?_)
  unfold m_impl_isIndex at hm
  refine T_seq ?_
  refine T_region ?_
  refine TL_pure rfl rfl rfl rfl (op_assign rfl) ?_
  refine TL_nil ?_
  refine T_seq ?_
  refine T_region ?_
  refine TL_pure rfl rfl rfl rfl (op_move rfl) ?_
  refine TL_pure rfl rfl rfl rfl (op_move rfl) ?_
  obtain ⟨r7, hr7, hm⟩ := bindS hm
  refine TL_callF (c_impl_size p1 r7 hr7) Try.call129 rfl rfl rfl rfl rfl ?_
  refine TL_pure rfl rfl rfl rfl (op_subW rfl rfl) ?_
  obtain ⟨r9, hr9, hm⟩ := bindS hm
  refine TL_callF (c_impl_within p0 (0 : Int) (w64 (r7 - (1 : Int))) r9 hr9) Try.call72 rfl rfl rfl rfl rfl ?_
  refine TL_pure rfl rfl rfl rfl (op_assign rfl) ?_
  refine TL_nil ?_
  refine T_keepH [4] [] rfl rfl rfl rfl (by rw [hF]; rfl) ?_
  refine T_ret ?_
  obtain rfl := someI hm
  refine ⟨[_], [], ⟨rfl, trivial⟩, ?_, rfl, rfl, rfl, rfl⟩
  rfl
theorem c_impl_Instr_moves (p0 : Instr) (out : Int × Int) (hm : m_impl_Instr_moves p0 = some out) : ACall Try.prog 125 [.agg [.int .i64 p0.Op, .int .i64 p0.Arg]] [] (.tup [.int .i64 out.1, .int .i64 out.2]) [] := by
  refine ACall.intro Try.func125 rfl Try.ntmps125 rfl (fun F hF => ?_)
  unfold m_impl_Instr_moves at hm
  refine T_seq ?_
  refine T_region ?_
  refine TL_box 11 rfl rfl rfl rfl rfl rfl rfl ?_
  refine TL_pure rfl rfl rfl rfl (op_assign rfl) ?_
  refine TL_pure rfl rfl rfl rfl (op_assign rfl) ?_
  refine TL_nil ?_
  refine T_seq ?_
  refine T_seq ?_
  refine T_region ?_
  refine TL_pure rfl rfl rfl rfl (op_fieldAddr fa40_0 rfl rfl) ?_
  refine TL_pure rfl rfl rfl rfl (op_load_one ag2 rfl rfl) ?_
  refine TL_nil ?_
  refine T_block ?_
  refine T_join (fun (j0 : Bool) => ⟨[(5, .int .i64 p0.Op), (6, .bool j0)], []⟩) (fun j0 => m_impl_Instr_moves_J0 p0 j0 = some out) (fun j0 hm => ?_) (fun hj0 => ?_)
  · unfold m_impl_Instr_moves_J0 at hm
    refine T_cond rfl (fun hq => ?_) (fun hq => ?_)
    · replace hm := condT hq hm
      refine T_seq ?_
      refine T_region ?_
      refine TL_pure rfl rfl rfl rfl (op_assign rfl) ?_
      refine TL_pure rfl rfl rfl rfl (op_assign rfl) ?_
      refine TL_nil ?_
      refine T_keepH [2, 3] [] rfl rfl rfl rfl (by rw [hF]; rfl) ?_
      refine T_ret ?_
      obtain rfl := someI hm
      refine ⟨[_, _], [], ⟨rfl, rfl, trivial⟩, ?_, rfl, rfl, rfl, rfl⟩
      rfl
    · replace hm := condF hq hm
      refine T_join (fun (j1 : Bool) => ⟨[(5, .int .i64 p0.Op), (9, .bool j1)], []⟩) (fun j1 => m_impl_Instr_moves_J1 p0 j1 = some out) (fun j1 hm => ?_) (fun hj1 => ?_)
      · unfold m_impl_Instr_moves_J1 at hm
        refine T_cond rfl (fun hq => ?_) (fun hq => ?_)
        · replace hm := condT hq hm
          refine T_seq ?_
          refine T_region ?_
          refine TL_pure rfl rfl rfl rfl (op_assign rfl) ?_
          refine TL_pure rfl rfl rfl rfl (op_assign rfl) ?_
          refine TL_nil ?_
          refine T_keepH [2, 3] [] rfl rfl rfl rfl (by rw [hF]; rfl) ?_
          refine T_ret ?_
          obtain rfl := someI hm
          refine ⟨[_, _], [], ⟨rfl, rfl, trivial⟩, ?_, rfl, rfl, rfl, rfl⟩
          rfl
        · replace hm := condF hq hm
          refine T_seq ?_
          refine T_region ?_
          refine TL_pure rfl rfl rfl rfl (op_eql rfl rfl) ?_
          refine TL_pure rfl rfl rfl rfl (op_assign rfl) ?_
          refine TL_nil ?_
          refine T_cond rfl (fun hq => ?_) (fun hq => ?_)
          · replace hm := condT hq hm
            refine T_seq ?_
            refine T_region ?_
            refine TL_pure rfl rfl rfl rfl (op_assign rfl) ?_
            refine TL_pure rfl rfl rfl rfl (op_assign rfl) ?_
            refine TL_nil ?_
            refine T_keepH [2, 3] [] rfl rfl rfl rfl (by rw [hF]; rfl) ?_
            refine T_ret ?_
            obtain rfl := someI hm
            refine ⟨[_, _], [], ⟨rfl, rfl, trivial⟩, ?_, rfl, rfl, rfl, rfl⟩
            rfl
          · replace hm := condF hq hm
            refine T_join (fun (j2 : Bool) => ⟨[(5, .int .i64 p0.Op), (15, .bool j2)], []⟩) (fun j2 => m_impl_Instr_moves_J2 p0 j2 = some out) (fun j2 hm => ?_) (fun hj2 => ?_)
            · unfold m_impl_Instr_moves_J2 at hm
              refine T_cond rfl (fun hq => ?_) (fun hq => ?_)
              · replace hm := condT hq hm
                refine T_seq ?_
                refine T_region ?_
                refine TL_pure rfl rfl rfl rfl (op_assign rfl) ?_
                refine TL_pure rfl rfl rfl rfl (op_assign rfl) ?_
                refine TL_nil ?_
                refine T_keepH [2, 3] [] rfl rfl rfl rfl (by rw [hF]; rfl) ?_
                refine T_ret ?_
                obtain rfl := someI hm
                refine ⟨[_, _], [], ⟨rfl, rfl, trivial⟩, ?_, rfl, rfl, rfl, rfl⟩
                rfl
              · replace hm := condF hq hm
                refine T_seq ?_
                refine T_region ?_
                refine TL_pure rfl rfl rfl rfl (op_eql rfl rfl) ?_
                refine TL_pure rfl rfl rfl rfl (op_assign rfl) ?_
                refine TL_nil ?_
                refine T_cond rfl (fun hq => ?_) (fun hq => ?_)
                · replace hm := condT hq hm
                  refine T_seq ?_
                  refine T_region ?_
                  refine TL_pure rfl rfl rfl rfl (op_assign rfl) ?_
                  refine TL_pure rfl rfl rfl rfl (op_assign rfl) ?_
                  refine TL_nil ?_
                  refine T_keepH [2, 3] [] rfl rfl rfl rfl (by rw [hF]; rfl) ?_
                  refine T_ret ?_
                  obtain rfl := someI hm
                  refine ⟨[_, _], [], ⟨rfl, rfl, trivial⟩, ?_, rfl, rfl, rfl, rfl⟩
                  rfl
                · replace hm := condF hq hm
                  refine T_skip ?_
                  refine T_seq ?_
                  refine T_region ?_
                  refine TL_pure rfl rfl rfl rfl (op_assign rfl) ?_
                  refine TL_pure rfl rfl rfl rfl (op_assign rfl) ?_
                  refine TL_nil ?_
                  refine T_keepH [2, 3] [] rfl rfl rfl rfl (by rw [hF]; rfl) ?_
                  refine T_ret ?_
                  obtain rfl := someI hm
                  refine ⟨[_, _], [], ⟨rfl, rfl, trivial⟩, ?_, rfl, rfl, rfl, rfl⟩
                  rfl
            · refine T_seq ?_
              refine T_region ?_
              refine TL_pure rfl rfl rfl rfl (op_eql rfl rfl) ?_
              refine TL_pure rfl rfl rfl rfl (op_assign rfl) ?_
              refine TL_nil ?_
              refine T_cond rfl (fun hq => ?_) (fun hq => ?_)
              · replace hm := condT hq hm
                refine T_skip ?_
                refine T_keepH [5, 15] [] rfl rfl rfl rfl (by rw [hF]; rfl) ?_
                exact hj2 (decide (p0.Op = (4 : Int))) hm
              · replace hm := condF hq hm
                refine T_region ?_
                refine TL_pure rfl rfl rfl rfl (op_eql rfl rfl) ?_
                refine TL_pure rfl rfl rfl rfl (op_assign rfl) ?_
                refine TL_nil ?_
                refine T_keepH [5, 15] [] rfl rfl rfl rfl (by rw [hF]; rfl) ?_
                exact hj2 (decide (p0.Op = (7 : Int))) hm
      · refine T_seq ?_
        refine T_region ?_
        refine TL_pure rfl rfl rfl rfl (op_eql rfl rfl) ?_
        refine TL_pure rfl rfl rfl rfl (op_assign rfl) ?_
        refine TL_nil ?_
        refine T_cond rfl (fun hq => ?_) (fun hq => ?_)
        · replace hm := condT hq hm
          refine T_skip ?_
          refine T_keepH [5, 9] [] rfl rfl rfl rfl (by rw [hF]; rfl) ?_
          exact hj1 (decide (p0.Op = (2 : Int))) hm
        · replace hm := condF hq hm
          refine T_seq ?_
          refine T_region ?_
          refine TL_pure rfl rfl rfl rfl (op_eql rfl rfl) ?_
          refine TL_pure rfl rfl rfl rfl (op_assign rfl) ?_
          refine TL_nil ?_
          refine T_cond rfl (fun hq => ?_) (fun hq => ?_)
          · replace hm := condT hq hm
            refine T_skip ?_
            refine T_keepH [5, 9] [] rfl rfl rfl rfl (by rw [hF]; rfl) ?_
            exact hj1 (decide (p0.Op = (6 : Int))) hm
          · replace hm := condF hq hm
            refine T_region ?_
            refine TL_pure rfl rfl rfl rfl (op_eql rfl rfl) ?_
            refine TL_pure rfl rfl rfl rfl (op_assign rfl) ?_
            refine TL_nil ?_
            refine T_keepH [5, 9] [] rfl rfl rfl rfl (by rw [hF]; rfl) ?_
            exact hj1 (decide (p0.Op = (10 : Int))) hm
  · refine T_seq ?_
    refine T_region ?_
    refine TL_pure rfl rfl rfl rfl (op_eql rfl rfl) ?_
    refine TL_pure rfl rfl rfl rfl (op_assign rfl) ?_
    refine TL_nil ?_
    refine T_cond rfl (fun hq => ?_) (fun hq => ?_)
    · replace hm := condT hq hm
      refine T_skip ?_
      refine T_keepH [5, 6] [] rfl rfl rfl rfl (by rw [hF]; rfl) ?_
      exact hj0 (decide (p0.Op = (0 : Int))) hm
    · replace hm := condF hq hm
      refine T_region ?_
      refine TL_pure rfl rfl rfl rfl (op_eql rfl rfl) ?_
      refine TL_pure rfl rfl rfl rfl (op_assign rfl) ?_
      refine TL_nil ?_
      refine T_keepH [5, 6] [] rfl rfl rfl rfl (by rw [hF]; rfl) ?_
      exact hj0 (decide (p0.Op = (1 : Int))) hm
theorem c_impl_isInt (p0 : Int) (out : Bool) (hm : m_impl_isInt p0 = some out) : ACall Try.prog 126 [.int .i64 p0] [] (.bool out) [] := by
  refine ACall.intro Try.func126 rfl Try.ntmps126 rfl (fun F hF => ?_)
  unfold m_impl_isInt at hm
  refine T_seq ?_
  refine T_region ?_
  refine TL_pure rfl rfl rfl rfl (op_assign rfl) ?_
  refine TL_nil ?_
  refine T_seq ?_
  refine T_region ?_
  refine TL_pure rfl rfl rfl rfl (op_move rfl) ?_
  obtain ⟨r4, hr4, hm⟩ := bindS hm
  refine TL_callF (c_impl_within p0 (-1000000000 : Int) (1000000000 : Int) r4 hr4) Try.call72 rfl rfl rfl rfl rfl ?_
  refine TL_pure rfl rfl rfl rfl (op_assign rfl) ?_
  refine TL_nil ?_
  refine T_keepH [2] [] rfl rfl rfl rfl (by rw [hF]; rfl) ?_
  refine T_ret ?_
  obtain rfl := someI hm
  refine ⟨[_], [], ⟨rfl, trivial⟩, ?_, rfl, rfl, rfl, rfl⟩
  rfl
theorem c_impl_isWide (p0 : Int) (out : Bool) (hm : m_impl_isWide p0 = some out) : ACall Try.prog 127 [.int .i64 p0] [] (.bool out) [] := by
  refine ACall.intro Try.func127 rfl Try.ntmps127 rfl (fun F hF => ?_)
  unfold m_impl_isWide at hm
  refine T_seq ?_
  refine T_region ?_
  refine TL_pure rfl rfl rfl rfl (op_assign rfl) ?_
  refine TL_nil ?_
  refine T_seq ?_
  refine T_region ?_
  refine TL_pure rfl rfl rfl rfl (op_move rfl) ?_
  obtain ⟨r4, hr4, hm⟩ := bindS hm
  refine TL_callF (c_impl_within p0 (-10000000000000000 : Int) (10000000000000000 : Int) r4 hr4) Try.call72 rfl rfl rfl rfl rfl ?_
  refine TL_pure rfl rfl rfl rfl (op_assign rfl) ?_
  refine TL_nil ?_
  refine T_keepH [2] [] rfl rfl rfl rfl (by rw [hF]; rfl) ?_
  refine T_ret ?_
  obtain rfl := someI hm
  refine ⟨[_], [], ⟨rfl, trivial⟩, ?_, rfl, rfl, rfl, rfl⟩
  rfl
theorem c_impl_absolute (p0 : Int) (out : Int) (hm : m_impl_absolute p0 = some out) : ACall Try.prog 169 [.int .i64 p0] [] (.int .i64 out) [] := by
  refine ACall.intro Try.func169 rfl Try.ntmps169 rfl (fun F hF => ?_)
  unfold m_impl_absolute at hm
  refine T_seq ?_
  refine T_region ?_
  refine TL_pure rfl rfl rfl rfl (op_assign rfl) ?_
  refine TL_nil ?_
  refine T_seq ?_
  refine T_region ?_
  refine TL_pure rfl rfl rfl rfl (op_move rfl) ?_
  refine TL_pure rfl rfl rfl rfl (op_move rfl) ?_
  refine TL_pure rfl rfl rfl rfl (op_negW rfl) ?_
  refine TL_pure rfl rfl rfl rfl (op_max rfl rfl) ?_
  refine TL_pure rfl rfl rfl rfl (op_assign rfl) ?_
  refine TL_nil ?_
  refine T_keepH [2] [] rfl rfl rfl rfl (by rw [hF]; rfl) ?_
  refine T_ret ?_
  obtain rfl := someI hm
  refine ⟨[_], [], ⟨rfl, trivial⟩, ?_, rfl, rfl, rfl, rfl⟩
  rfl
theorem c_impl_scaled (p0 : Int) (p1 : Int) (out : Int × Bool) (hm : m_impl_scaled p0 p1 = some out) : ACall Try.prog 128 [.int .i64 p0, .int .i64 p1] [] (.tup [.int .i64 out.1, .bool out.2]) [] := by
  refine ACall.intro Try.func128 rfl Try.ntmps128 rfl (fun F hF => ?_)
  unfold m_impl_scaled at hm
  refine T_seq ?_
  refine T_region ?_
  refine TL_pure rfl rfl rfl rfl (op_assign rfl) ?_
  refine TL_pure rfl rfl rfl rfl (op_assign rfl) ?_
  refine TL_nil ?_
  refine T_join (fun (j0 : Unit) => ⟨[(0, .int .i64 p0), (1, .int .i64 p1)], []⟩) (fun j0 => m_impl_scaled_J0 p0 p1 j0 = some out) (fun j0 hm => ?_) (fun hj0 => ?_)
  · unfold m_impl_scaled_J0 at hm
    refine T_seq ?_
    refine T_region ?_
    refine TL_pure rfl rfl rfl rfl (op_move rfl) ?_
    refine TL_pure rfl rfl rfl rfl (op_move rfl) ?_
    refine TL_pure rfl rfl rfl rfl (op_mulW rfl rfl) ?_
    refine TL_pure rfl rfl rfl rfl (op_move rfl) ?_
    refine TL_pure rfl rfl rfl rfl (op_move rfl) ?_
    refine TL_pure rfl rfl rfl rfl (op_mulW rfl rfl) ?_
    obtain ⟨r22, hr22, hm⟩ := bindS hm
    refine TL_callF (c_impl_isWide (w64 (p0 * p1)) r22 hr22) Try.call127 rfl rfl rfl rfl rfl ?_
    refine TL_pure rfl rfl rfl rfl (op_assign rfl) ?_
    refine TL_pure rfl rfl rfl rfl (op_assign rfl) ?_
    refine TL_nil ?_
    refine T_keepH [4, 5] [] rfl rfl rfl rfl (by rw [hF]; rfl) ?_
    refine T_ret ?_
    obtain rfl := someI hm
    refine ⟨[_, _], [], ⟨rfl, rfl, trivial⟩, ?_, rfl, rfl, rfl, rfl⟩
    rfl
  · refine T_seq ?_
    refine T_region ?_
    refine TL_pure rfl rfl rfl rfl (op_move rfl) ?_
    refine TL_pure rfl rfl rfl rfl (op_neq rfl rfl) ?_
    refine TL_pure rfl rfl rfl rfl (op_move rfl) ?_
    refine TL_split 8 rfl rfl rfl (fun hq => ?_) (fun hq => ?_)
    · replace hm := condT hq hm
      refine TL_want rfl rfl ?_
      refine TL_pure rfl rfl rfl rfl (op_move rfl) ?_
      refine TL_want rfl rfl ?_
      obtain ⟨r10, hr10, hm⟩ := bindS hm
      refine TL_callF (c_impl_absolute p1 r10 hr10) Try.call169 rfl rfl rfl rfl rfl ?_
      refine TL_want rfl rfl ?_
      refine TL_pure rfl rfl rfl rfl (op_move rfl) ?_
      refine TL_want rfl rfl ?_
      obtain ⟨r12, hr12, hm⟩ := bindS hm
      refine TL_callF (c_impl_absolute p0 r12 hr12) Try.call169 rfl rfl rfl rfl rfl ?_
      refine TL_want rfl rfl ?_
      obtain ⟨q13, hq13, hm⟩ := bindS hm
      refine TL_pure rfl rfl rfl rfl (op_quoT rfl rfl hq13) ?_
      refine TL_want rfl rfl ?_
      refine TL_pure rfl rfl rfl rfl (op_gtr rfl rfl) ?_
      refine TL_pure rfl rfl rfl rfl (op_pick_true rfl rfl) ?_
      refine TL_nil ?_
      refine T_cond rfl (fun hq => ?_) (fun hq => ?_)
      · replace hm := condT hq hm
        refine T_seq ?_
        refine T_region ?_
        refine TL_pure rfl rfl rfl rfl (op_assign rfl) ?_
        refine TL_pure rfl rfl rfl rfl (op_assign rfl) ?_
        refine TL_nil ?_
        refine T_keepH [4, 5] [] rfl rfl rfl rfl (by rw [hF]; rfl) ?_
        refine T_ret ?_
        obtain rfl := someI hm
        refine ⟨[_, _], [], ⟨rfl, rfl, trivial⟩, ?_, rfl, rfl, rfl, rfl⟩
        rfl
      · replace hm := condF hq hm
        refine T_skip ?_
        refine T_keepH [0, 1] [] rfl rfl rfl rfl (by rw [hF]; rfl) ?_
        exact hj0 () hm
    · replace hm := condF hq hm
      refine TL_pass rfl rfl rfl rfl rfl rfl rfl ?_
      refine TL_pass rfl rfl rfl rfl rfl rfl rfl ?_
      refine TL_pass rfl rfl rfl rfl rfl rfl rfl ?_
      refine TL_pass rfl rfl rfl rfl rfl rfl rfl ?_
      refine TL_pass rfl rfl rfl rfl rfl rfl rfl ?_
      refine TL_pass rfl rfl rfl rfl rfl rfl rfl ?_
      refine TL_pure rfl rfl rfl rfl (op_pick_false rfl rfl) ?_
      refine TL_nil ?_
      refine T_cond_false rfl ?_
      refine T_skip ?_
      refine T_keepH [0, 1] [] rfl rfl rfl rfl (by rw [hF]; rfl) ?_
      exact hj0 () hm
theorem c_impl_Config_step_in0 (p0 : Config) (p1 : List Instr) (w4_ : List Int) (w5_ : List Int) (w6_ : Int) (out : Int × Int × Config) (hm : m_impl_Config_step p0 p1 = some out) : ACall Try.prog 68 [.ptr 0 0 0, .sl 2 (List.map a_Instr p1)] [(0, .box [.ow 1, .ow 2, .ow 3, .int .i64 p0.At, .ow 4, .ow 5, .int .i64 w6_]), (1, .arr ⟨false, true⟩ 1 2 (List.map a_i64 p0.State.Vars)), (2, .arr ⟨false, true⟩ 1 2 (List.map a_i64 p0.State.Cells)), (3, .arr ⟨false, true⟩ 1 2 (List.map a_i64 p0.Stack)), (4, .arr ⟨false, true⟩ 1 2 (List.map a_i64 w4_)), (5, .arr ⟨false, true⟩ 1 2 (List.map a_i64 w5_))] (.tup [.int .i64 out.1, .int .i64 out.2.1]) [(0, .box [.ow 1, .ow 2, .ow 3, .int .i64 out.2.2.At, .ow 4, .ow 5, .int .i64 w6_]), (1, .arr ⟨false, true⟩ 1 2 (List.map a_i64 out.2.2.State.Vars)), (2, .arr ⟨false, true⟩ 1 2 (List.map a_i64 out.2.2.State.Cells)), (3, .arr ⟨false, true⟩ 1 2 (List.map a_i64 out.2.2.Stack)), (4, .arr ⟨false, true⟩ 1 2 (List.map a_i64 w4_)), (5, .arr ⟨false, true⟩ 1 2 (List.map a_i64 w5_))] := by
  refine ACall.intro Try.func68 rfl Try.ntmps68 rfl (fun F hF => ?_)
  unfold m_impl_Config_step at hm
  refine T_seq ?_
  refine T_region ?_
  refine TL_pure rfl rfl rfl rfl (op_assign rfl) ?_
  refine TL_pure rfl rfl rfl rfl (op_assign rfl) ?_
  refine TL_nil ?_
  refine T_seq ?_
  refine T_seq ?_
  refine T_region ?_
  refine TL_pure rfl rfl rfl rfl (op_move rfl) ?_
  refine TL_pure rfl rfl rfl rfl (op_nilCheck rfl rfl) ?_
  refine TL_pure rfl rfl rfl rfl (op_fieldAddr fa35_2 rfl rfl) ?_
  refine TL_pure rfl rfl rfl rfl (op_load_one ag2 rfl rfl) ?_
  refine TL_pure rfl rfl rfl rfl (op_move rfl) ?_
  refine TL_pure rfl rfl rfl rfl (op_lenT Try.underlying24 rfl (List.length_map _)) ?_
  refine TL_fact (fun _ _ _ hr => RelP.slLen (i := 20) rfl hr) (fun hlen21 => ?_)
  rw [List.length_map] at hlen21
  obtain ⟨r22, hr22, hm⟩ := bindS hm
  refine TL_callF (c_impl_isIndex p0.At (p1.length : Int) r22 hr22) Try.call92 rfl rfl rfl rfl rfl ?_
  refine TL_pure rfl rfl rfl rfl (op_not rfl) ?_
  refine TL_nil ?_
  refine T_cond rfl (fun hq => ?_) (fun hq => ?_)
  · replace hm := condT hq hm
    refine T_seq ?_
    refine T_region ?_
    refine TL_pure rfl rfl rfl rfl (op_assign rfl) ?_
    refine TL_pure rfl rfl rfl rfl (op_assign rfl) ?_
    refine TL_nil ?_
    refine T_keepH [4, 5] [0, 1, 2, 3, 4, 5] rfl rfl rfl rfl (by rw [hF]; rfl) ?_
    refine T_ret ?_
    obtain rfl := someI hm
    refine ⟨[_, _], [0, 1, 2, 3, 4, 5], ⟨rfl, rfl, trivial⟩, ?_, rfl, rfl, rfl, rfl⟩
    rfl
  · replace hm := condF hq hm
    refine T_skip ?_
    refine T_seq ?_
    refine T_region ?_
    refine TL_pure rfl rfl rfl rfl (op_move rfl) ?_
    refine TL_pure rfl rfl rfl rfl (op_move rfl) ?_
    refine TL_pure rfl rfl rfl rfl (op_nilCheck rfl rfl) ?_
    refine TL_pure rfl rfl rfl rfl (op_fieldAddr fa35_2 rfl rfl) ?_
    refine TL_pure rfl rfl rfl rfl (op_load_one ag2 rfl rfl) ?_
    obtain ⟨x29, hx29, hm⟩ := bindS hm
    refine TL_pure rfl rfl rfl rfl (op_indexT el24 rfl rfl hx29 rfl) ?_
    refine TL_pure rfl rfl rfl rfl (op_load_agg ag40 sz40 rfl rfl rfl) ?_
    refine TL_alloc 11 z40 rfl rfl rfl rfl rfl rfl rfl ?_
    refine TL_store_box sz40 rfl rfl rfl rfl rfl rfl rfl rfl rfl ?_
    refine TL_nil ?_
    refine T_seq ?_
    refine T_region ?_
    refine TL_pure rfl rfl rfl rfl (op_load_agg ag40 sz40 rfl rfl rfl) ?_
    obtain ⟨r33, hr33, hm⟩ := bindS hm
    refine TL_callF (c_impl_Instr_moves x29 r33 hr33) Try.call125 rfl rfl rfl rfl rfl ?_
    refine TL_pure rfl rfl rfl rfl (op_move rfl) ?_
    refine TL_pure rfl rfl rfl rfl (op_extract rfl rfl) ?_
    refine TL_pure rfl rfl rfl rfl (op_extract rfl rfl) ?_
    refine TL_pure rfl rfl rfl rfl (op_assign rfl) ?_
    refine TL_pure rfl rfl rfl rfl (op_assign rfl) ?_
    refine TL_nil ?_
    refine T_seq ?_
    refine T_region ?_
    refine TL_pure rfl rfl rfl rfl (op_move rfl) ?_
    refine TL_pure rfl rfl rfl rfl (op_nilCheck rfl rfl) ?_
    refine TL_pure rfl rfl rfl rfl (op_fieldAddr fa35_1 rfl rfl) ?_
    refine TL_pure rfl rfl rfl rfl (op_load_one ag26 rfl rfl) ?_
    refine TL_pure rfl rfl rfl rfl (op_lenO Try.underlying26 rfl rfl (List.length_map _)) ?_
    refine TL_fact (fun _ _ _ hr => RelP.owLen (id := 3) rfl hr) (fun hlen40 => ?_)
    rw [List.length_map] at hlen40
    refine TL_pure rfl rfl rfl rfl (op_move rfl) ?_
    refine TL_pure rfl rfl rfl rfl (op_subW rfl rfl) ?_
    refine TL_pure rfl rfl rfl rfl (op_assign rfl) ?_
    refine TL_nil ?_
    refine T_join (fun (j0 : Unit) => ⟨[(0, .ptr 0 0 0), (6, .ptr 11 0 0), (8, .int .i64 r33.2), (9, .int .i64 (w64 ((p0.Stack.length : Int) - r33.1)))], [(0, .box [.ow 1, .ow 2, .ow 3, .int .i64 p0.At, .ow 4, .ow 5, .int .i64 w6_]), (1, .arr ⟨false, true⟩ 1 2 (List.map a_i64 p0.State.Vars)), (2, .arr ⟨false, true⟩ 1 2 (List.map a_i64 p0.State.Cells)), (3, .arr ⟨false, true⟩ 1 2 (List.map a_i64 p0.Stack)), (4, .arr ⟨false, true⟩ 1 2 (List.map a_i64 w4_)), (5, .arr ⟨false, true⟩ 1 2 (List.map a_i64 w5_)), (11, .box [.int .i64 x29.Op, .int .i64 x29.Arg])]⟩) (fun j0 => m_impl_Config_step_J0 p0 x29 r33 j0 = some out) (fun j0 hm => ?_) (fun hj0 => ?_)
    · unfold m_impl_Config_step_J0 at hm
      refine T_seq ?_
      refine T_drawZ [] mix (by kernel_rfl) rfl ?_
      obtain ⟨y60, hy60, hm⟩ := bindS hm
      refine TZ_pure 0 (by kernel_rfl) rfl rfl rfl rfl rfl (op_move rfl) ?_
      refine TZ_pure 1 (by kernel_rfl) rfl rfl rfl rfl rfl (op_nilCheck rfl rfl) ?_
      refine TZ_pure 2 (by kernel_rfl) rfl rfl rfl rfl rfl (op_fieldAddr fa35_1 rfl rfl) ?_
      refine TZ_pure 3 (by kernel_rfl) rfl rfl rfl rfl rfl (op_load_one ag26 rfl rfl) ?_
      refine TZ_pure 4 (by kernel_rfl) rfl rfl rfl rfl rfl (op_move rfl) ?_
      refine TZ_pure 5 (by kernel_rfl) rfl rfl rfl rfl rfl (op_win el26 rfl rfl ⟨⟨_, rfl⟩, rfl⟩ hy60) ?_
      refine TZ_pure 6 (by kernel_rfl) rfl rfl rfl rfl rfl (op_move rfl) ?_
      refine TZ_pure 7 (by kernel_rfl) rfl rfl rfl rfl rfl (op_nilCheck rfl rfl) ?_
      refine TZ_pure 8 (by kernel_rfl) rfl rfl rfl rfl rfl (op_fieldAddr fa35_2 rfl rfl) ?_
      refine TZ_pure 9 (by kernel_rfl) rfl rfl rfl rfl rfl (op_load_one ag2 rfl rfl) ?_
      refine TZ_pure 10 (by kernel_rfl) rfl rfl rfl rfl rfl (op_addW rfl rfl) ?_
      refine TZ_pure 11 (by kernel_rfl) rfl rfl rfl rfl rfl (op_assign rfl) ?_
      refine TZ_pure 12 (by kernel_rfl) rfl rfl rfl rfl rfl (op_assign rfl) ?_
      refine TZ_pure 13 (by kernel_rfl) rfl rfl rfl rfl rfl (op_assign rfl) ?_
      refine TZ_done (by kernel_rfl) ?_
      refine T_seq ?_
      refine T_region ?_
      refine TL_pure rfl rfl rfl rfl (op_assign rfl) ?_
      refine TL_nil ?_
      refine T_seq ?_
      refine T_region ?_
      refine TL_pure rfl rfl rfl rfl (op_assign rfl) ?_
      refine TL_nil ?_
      refine T_join (fun (j2 : (List Int) × (List Int) × Int × Int × Int × Bool) => ⟨[(0, .ptr 0 0 0), (8, .int .i64 r33.2), (9, .int .i64 (w64 ((p0.Stack.length : Int) - r33.1))), (11, .int .i64 j2.2.2.1), (12, .int .i64 j2.2.2.2.1), (13, .int .i64 j2.2.2.2.2.1), (14, .bool j2.2.2.2.2.2)], [(0, .box [.ow 1, .ow 2, .ow 3, .int .i64 p0.At, .ow 4, .ow 5, .int .i64 w6_]), (1, .arr ⟨false, true⟩ 1 2 (List.map a_i64 j2.1)), (2, .arr ⟨false, true⟩ 1 2 (List.map a_i64 j2.2.1)), (3, .arr ⟨false, true⟩ 1 2 (List.map a_i64 p0.Stack)), (4, .arr ⟨false, true⟩ 1 2 (List.map a_i64 w4_)), (5, .arr ⟨false, true⟩ 1 2 (List.map a_i64 w5_))]⟩) (fun j2 => m_impl_Config_step_J2 p0 r33 j2 = some out) (fun j2 hm => ?_) (fun hj2 => ?_)
      · unfold m_impl_Config_step_J2 at hm
        refine T_seq ?_
        refine T_seq ?_
        refine T_region ?_
        refine TL_pure rfl rfl rfl rfl (op_move rfl) ?_
        refine TL_pure rfl rfl rfl rfl (op_not rfl) ?_
        refine TL_nil ?_
        refine T_cond rfl (fun hq => ?_) (fun hq => ?_)
        · replace hm := condT hq hm
          refine T_seq ?_
          refine T_region ?_
          refine TL_pure rfl rfl rfl rfl (op_assign rfl) ?_
          refine TL_pure rfl rfl rfl rfl (op_assign rfl) ?_
          refine TL_nil ?_
          refine T_keepH [4, 5] [0, 1, 2, 3, 4, 5] rfl rfl rfl rfl (by rw [hF]; rfl) ?_
          refine T_ret ?_
          obtain rfl := someI hm
          refine ⟨[_, _], [0, 1, 2, 3, 4, 5], ⟨rfl, rfl, trivial⟩, ?_, rfl, rfl, rfl, rfl⟩
          rfl
        · replace hm := condF hq hm
          refine T_skip ?_
          refine T_seq ?_
          refine T_region ?_
          refine TL_pure rfl rfl rfl rfl (op_move rfl) ?_
          refine TL_pure rfl rfl rfl rfl (op_move rfl) ?_
          refine TL_pure rfl rfl rfl rfl (op_nilCheck rfl rfl) ?_
          refine TL_pure rfl rfl rfl rfl (op_fieldAddr fa35_1 rfl rfl) ?_
          refine TL_pure rfl rfl rfl rfl (op_load_one ag26 rfl rfl) ?_
          refine TL_pure rfl rfl rfl rfl (op_move rfl) ?_
          obtain ⟨y190, hy190, hm⟩ := bindS hm
          refine TL_take (f := a_i64) (a := p0.Stack) (b := y190) el26 rfl rfl ⟨rfl, ⟨_, rfl⟩⟩ hy190 rfl rfl rfl rfl rfl ?_
          refine TL_pure rfl rfl rfl rfl (op_nilCheck rfl rfl) ?_
          refine TL_pure rfl rfl rfl rfl (op_fieldAddr fa35_1 rfl rfl) ?_
          refine TL_store_box sz26 rfl rfl rfl rfl rfl rfl rfl rfl rfl ?_
          refine TL_nil ?_
          refine T_join (fun (j3 : List Int) => ⟨[(0, .ptr 0 0 0), (11, .int .i64 j2.2.2.1), (12, .int .i64 j2.2.2.2.1)], [(0, .box [.ow 1, .ow 2, .ow 3, .int .i64 p0.At, .ow 4, .ow 5, .int .i64 w6_]), (1, .arr ⟨false, true⟩ 1 2 (List.map a_i64 j2.1)), (2, .arr ⟨false, true⟩ 1 2 (List.map a_i64 j2.2.1)), (3, .arr ⟨false, true⟩ 1 2 (List.map a_i64 j3)), (4, .arr ⟨false, true⟩ 1 2 (List.map a_i64 w4_)), (5, .arr ⟨false, true⟩ 1 2 (List.map a_i64 w5_))]⟩) (fun j3 => m_impl_Config_step_J3 j2 j3 = some out) (fun j3 hm => ?_) (fun hj3 => ?_)
          · unfold m_impl_Config_step_J3 at hm
            refine T_seq ?_
            refine T_region ?_
            refine TL_pure rfl rfl rfl rfl (op_move rfl) ?_
            refine TL_pure rfl rfl rfl rfl (op_move rfl) ?_
            refine TL_pure rfl rfl rfl rfl (op_nilCheck rfl rfl) ?_
            refine TL_pure rfl rfl rfl rfl (op_fieldAddr fa35_2 rfl rfl) ?_
            refine TL_store_box sz2 rfl rfl rfl rfl rfl rfl rfl rfl rfl ?_
            refine TL_nil ?_
            refine T_seq ?_
            refine T_region ?_
            refine TL_pure rfl rfl rfl rfl (op_move rfl) ?_
            refine TL_pure rfl rfl rfl rfl (op_assign rfl) ?_
            refine TL_pure rfl rfl rfl rfl (op_assign rfl) ?_
            refine TL_nil ?_
            refine T_keepH [4, 5] [0, 1, 2, 3, 4, 5] rfl rfl rfl rfl (by rw [hF]; rfl) ?_
            refine T_ret ?_
            obtain rfl := someI hm
            refine ⟨[_, _], [0, 1, 2, 3, 4, 5], ⟨rfl, rfl, trivial⟩, ?_, rfl, rfl, rfl, rfl⟩
            rfl
          · refine T_seq ?_
            refine T_region ?_
            refine TL_pure rfl rfl rfl rfl (op_move rfl) ?_
            refine TL_pure rfl rfl rfl rfl (op_gtr rfl rfl) ?_
            refine TL_nil ?_
            refine T_cond rfl (fun hq => ?_) (fun hq => ?_)
            · replace hm := condT hq hm
              refine T_region ?_
              refine TL_pure rfl rfl rfl rfl (op_move rfl) ?_
              refine TL_pure rfl rfl rfl rfl (op_move rfl) ?_
              refine TL_pure rfl rfl rfl rfl (op_nilCheck rfl rfl) ?_
              refine TL_pure rfl rfl rfl rfl (op_fieldAddr fa35_1 rfl rfl) ?_
              refine TL_pure rfl rfl rfl rfl (op_load_one ag26 rfl rfl) ?_
              refine TL_pure rfl rfl rfl rfl (op_move rfl) ?_
              refine TL_buildSlice 13 (es := List.map a_i64 [j2.2.2.2.2.1]) el26 z2 rfl rfl rfl rfl rfl rfl rfl rfl rfl ?_
              refine TL_deepen 13 (p' := false) (List.map a_i64 [j2.2.2.2.2.1]) (by rw [hF]; rfl) rfl (ElR.map (f := a_i64) (g := a_i64) (fun _ => ⟨⟨rfl, rfl⟩, trivial⟩) [j2.2.2.2.2.1]) rfl rfl rfl ?_
              obtain ⟨q202, hq202, hm⟩ := bindS hm
              refine TL_appendDT (f := a_i64) (a := y190) (b := [j2.2.2.2.2.1]) el26 z2 rfl rfl rfl rfl rfl rfl rfl rfl (by rw [hF]; rfl) (capI_spec hq202) rfl rfl rfl rfl rfl ?_
              refine TL_pure rfl rfl rfl rfl (op_nilCheck rfl rfl) ?_
              refine TL_pure rfl rfl rfl rfl (op_fieldAddr fa35_1 rfl rfl) ?_
              refine TL_store_box sz26 rfl rfl rfl rfl rfl rfl rfl rfl rfl ?_
              refine TL_nil ?_
              refine T_keepH [0, 11, 12] [0, 1, 2, 3, 4, 5] rfl rfl rfl rfl (by rw [hF]; rfl) ?_
              exact hj3 (y190 ++ [j2.2.2.2.2.1]) hm
            · replace hm := condF hq hm
              refine T_skip ?_
              refine T_keepH [0, 11, 12] [0, 1, 2, 3, 4, 5] rfl rfl rfl rfl (by rw [hF]; rfl) ?_
              exact hj3 y190 hm
      · refine T_seq ?_
        refine T_region ?_
        refine TL_pure rfl rfl rfl rfl (op_fieldAddr fa40_0 rfl rfl) ?_
        refine TL_pure rfl rfl rfl rfl (op_load_one ag2 rfl rfl) ?_
        refine TL_nil ?_
        refine T_block ?_
        refine T_seq ?_
        refine T_region ?_
        refine TL_pure rfl rfl rfl rfl (op_eql rfl rfl) ?_
        refine TL_pure rfl rfl rfl rfl (op_assign rfl) ?_
        refine TL_nil ?_
        refine T_cond rfl (fun hq => ?_) (fun hq => ?_)
        · replace hm := condT hq hm
          refine T_seq ?_
          refine T_region ?_
          refine TL_pure rfl rfl rfl rfl (op_assign rfl) ?_
          refine TL_pure rfl rfl rfl rfl (op_assign rfl) ?_
          refine TL_nil ?_
          refine T_keepH [4, 5] [0, 1, 2, 3, 4, 5] rfl rfl rfl rfl (by rw [hF]; rfl) ?_
          refine T_ret ?_
          obtain rfl := someI hm
          refine ⟨[_, _], [0, 1, 2, 3, 4, 5], ⟨rfl, rfl, trivial⟩, ?_, rfl, rfl, rfl, rfl⟩
          rfl
        · replace hm := condF hq hm
          refine T_seq ?_
          refine T_region ?_
          refine TL_pure rfl rfl rfl rfl (op_eql rfl rfl) ?_
          refine TL_pure rfl rfl rfl rfl (op_assign rfl) ?_
          refine TL_nil ?_
          refine T_cond rfl (fun hq => ?_) (fun hq => ?_)
          · replace hm := condT hq hm
            refine T_region ?_
            refine TL_pure rfl rfl rfl rfl (op_fieldAddr fa40_1 rfl rfl) ?_
            refine TL_pure rfl rfl rfl rfl (op_load_one ag2 rfl rfl) ?_
            refine TL_pure rfl rfl rfl rfl (op_assign rfl) ?_
            refine TL_nil ?_
            refine T_keepH [0, 8, 9, 11, 12, 13, 14] [0, 1, 2, 3, 4, 5] rfl rfl rfl rfl (by rw [hF]; rfl) ?_
            exact hj2 (p0.State.Vars, p0.State.Cells, (w64 (p0.At + (1 : Int))), (-1 : Int), x29.Arg, true) hm
          · replace hm := condF hq hm
            refine T_seq ?_
            refine T_region ?_
            refine TL_pure rfl rfl rfl rfl (op_eql rfl rfl) ?_
            refine TL_pure rfl rfl rfl rfl (op_assign rfl) ?_
            refine TL_nil ?_
            refine T_cond rfl (fun hq => ?_) (fun hq => ?_)
            · replace hm := condT hq hm
              refine T_drawZ [] mix (by kernel_rfl) rfl ?_
              obtain ⟨x83, hx83, hm⟩ := bindS hm
              refine TZ_pure 0 (by kernel_rfl) rfl rfl rfl rfl rfl (op_move rfl) ?_
              refine TZ_pure 1 (by kernel_rfl) rfl rfl rfl rfl rfl (op_nilCheck rfl rfl) ?_
              refine TZ_pure 2 (by kernel_rfl) rfl rfl rfl rfl rfl (op_fieldAddr fa35_0 rfl rfl) ?_
              refine TZ_pure 3 (by kernel_rfl) rfl rfl rfl rfl rfl (op_fieldAddr fa28_0 rfl rfl) ?_
              refine TZ_pure 4 (by kernel_rfl) rfl rfl rfl rfl rfl (op_load_one ag26 rfl rfl) ?_
              refine TZ_pure 5 (by kernel_rfl) rfl rfl rfl rfl rfl (op_fieldAddr fa40_1 rfl rfl) ?_
              refine TZ_pure 6 (by kernel_rfl) rfl rfl rfl rfl rfl (op_load_one ag2 rfl rfl) ?_
              refine TZ_pure 7 (by kernel_rfl) rfl rfl rfl rfl rfl (op_indexO el26 rfl rfl rfl hx83) ?_
              refine TZ_pure 8 (by kernel_rfl) rfl rfl rfl rfl rfl (op_loadD1 ag2 rfl rfl ((getI_spec hx83).2) rfl rfl rfl rfl) ?_
              refine TZ_pure 9 (by kernel_rfl) rfl rfl rfl rfl rfl (op_assign rfl) ?_
              refine TZ_done (by kernel_rfl) ?_
              refine T_keepH [0, 8, 9, 11, 12, 13, 14] [0, 1, 2, 3, 4, 5] rfl rfl rfl rfl (by rw [hF]; rfl) ?_
              exact hj2 (p0.State.Vars, p0.State.Cells, (w64 (p0.At + (1 : Int))), (-1 : Int), x83, true) hm
            · replace hm := condF hq hm
              refine T_seq ?_
              refine T_region ?_
              refine TL_pure rfl rfl rfl rfl (op_eql rfl rfl) ?_
              refine TL_pure rfl rfl rfl rfl (op_assign rfl) ?_
              refine TL_nil ?_
              refine T_cond rfl (fun hq => ?_) (fun hq => ?_)
              · replace hm := condT hq hm
                refine T_seq ?_
                refine T_seq ?_
                refine T_region ?_
                refine TL_pure rfl rfl rfl rfl (op_move rfl) ?_
                obtain ⟨e88, he88, hm⟩ := bindS hm
                refine TL_pure rfl rfl rfl rfl (op_index_win (m := 0) el26 rfl rfl rfl rfl (by simpa using (List.getElem?_eq_some_iff.1 he88).1)) ?_
                refine TL_pure rfl rfl rfl rfl (op_loadD1 ag2 rfl rfl (he88) rfl rfl rfl rfl) ?_
                obtain ⟨r90, hr90, hm⟩ := bindS hm
                refine TL_callF (c_impl_isInt e88 r90 hr90) Try.call126 rfl rfl rfl rfl rfl ?_
                refine TL_pure rfl rfl rfl rfl (op_not rfl) ?_
                refine TL_nil ?_
                refine T_cond rfl (fun hq => ?_) (fun hq => ?_)
                · replace hm := condT hq hm
                  refine T_seq ?_
                  refine T_region ?_
                  refine TL_pure rfl rfl rfl rfl (op_assign rfl) ?_
                  refine TL_pure rfl rfl rfl rfl (op_assign rfl) ?_
                  refine TL_nil ?_
                  refine T_keepH [4, 5] [0, 1, 2, 3, 4, 5] rfl rfl rfl rfl (by rw [hF]; rfl) ?_
                  refine T_ret ?_
                  obtain rfl := someI hm
                  refine ⟨[_, _], [0, 1, 2, 3, 4, 5], ⟨rfl, rfl, trivial⟩, ?_, rfl, rfl, rfl, rfl⟩
                  rfl
                · replace hm := condF hq hm
                  refine T_skip ?_
                  refine T_drawZ [11] mix (by kernel_rfl) rfl ?_
                  obtain ⟨x102, hx102, hm⟩ := bindS hm
                  refine TZ_pure 0 (by kernel_rfl) rfl rfl rfl rfl rfl (op_move rfl) ?_
                  refine TZ_pure 1 (by kernel_rfl) rfl rfl rfl rfl rfl (op_nilCheck rfl rfl) ?_
                  refine TZ_pure 2 (by kernel_rfl) rfl rfl rfl rfl rfl (op_fieldAddr fa35_0 rfl rfl) ?_
                  refine TZ_pure 3 (by kernel_rfl) rfl rfl rfl rfl rfl (op_fieldAddr fa28_0 rfl rfl) ?_
                  refine TZ_pure 4 (by kernel_rfl) rfl rfl rfl rfl rfl (op_load_one ag26 rfl rfl) ?_
                  refine TZ_pure 5 (by kernel_rfl) rfl rfl rfl rfl rfl (op_fieldAddr fa40_1 rfl rfl) ?_
                  refine TZ_pure 6 (by kernel_rfl) rfl rfl rfl rfl rfl (op_load_one ag2 rfl rfl) ?_
                  refine TZ_pure 7 (by kernel_rfl) rfl rfl rfl rfl rfl (op_move rfl) ?_
                  refine TZ_pure 8 (by kernel_rfl) rfl rfl rfl rfl rfl (op_index_win (m := 0) el26 rfl rfl rfl rfl (by simpa using (List.getElem?_eq_some_iff.1 he88).1)) ?_
                  refine TZ_pure 9 (by kernel_rfl) rfl rfl rfl rfl rfl (op_loadD1 ag2 rfl rfl (he88) rfl rfl rfl rfl) ?_
                  refine TZ_pure 10 (by kernel_rfl) rfl rfl rfl rfl rfl (op_indexO el26 rfl rfl rfl hx102) ?_
                  refine TZ_one 11 (by kernel_rfl) rfl ?_
                  refine TL_storeFT sz2 rfl rfl ((getI_spec hx102).2) (v' := e88) rfl rfl rfl rfl rfl rfl rfl rfl rfl ?_
                  refine TL_nil ?_
                  refine TZ_done (by kernel_rfl) ?_
                  refine T_keepH [0, 8, 9, 11, 12, 13, 14] [0, 1, 2, 3, 4, 5] rfl rfl rfl rfl (by rw [hF]; rfl) ?_
                  exact hj2 ((p0.State.Vars.set ((x29.Arg).toNat) e88), p0.State.Cells, (w64 (p0.At + (1 : Int))), (-1 : Int), (0 : Int), true) hm
              · replace hm := condF hq hm
                refine T_seq ?_
                refine T_region ?_
                refine TL_pure rfl rfl rfl rfl (op_eql rfl rfl) ?_
                refine TL_pure rfl rfl rfl rfl (op_assign rfl) ?_
                refine TL_nil ?_
                refine T_cond rfl (fun hq => ?_) (fun hq => ?_)
                · replace hm := condT hq hm
                  refine T_seq ?_
                  refine T_drawZ [] mix (by kernel_rfl) rfl ?_
                  obtain ⟨e106, he106, hm⟩ := bindS hm
                  obtain ⟨e109, he109, hm⟩ := bindS hm
                  refine TZ_pure 0 (by kernel_rfl) rfl rfl rfl rfl rfl (op_move rfl) ?_
                  refine TZ_pure 1 (by kernel_rfl) rfl rfl rfl rfl rfl (op_index_win (m := 0) el26 rfl rfl rfl rfl (by simpa using (List.getElem?_eq_some_iff.1 he106).1)) ?_
                  refine TZ_pure 2 (by kernel_rfl) rfl rfl rfl rfl rfl (op_loadD1 ag2 rfl rfl (he106) rfl rfl rfl rfl) ?_
                  refine TZ_pure 3 (by kernel_rfl) rfl rfl rfl rfl rfl (op_move rfl) ?_
                  refine TZ_pure 4 (by kernel_rfl) rfl rfl rfl rfl rfl (op_index_win (m := 1) el26 rfl rfl rfl rfl (by simpa using (List.getElem?_eq_some_iff.1 he109).1)) ?_
                  refine TZ_pure 5 (by kernel_rfl) rfl rfl rfl rfl rfl (op_loadD1 ag2 rfl rfl (he109) rfl rfl rfl rfl) ?_
                  refine TZ_pure 6 (by kernel_rfl) rfl rfl rfl rfl rfl (op_addW rfl rfl) ?_
                  refine TZ_pure 7 (by kernel_rfl) rfl rfl rfl rfl rfl (op_assign rfl) ?_
                  refine TZ_done (by kernel_rfl) ?_
                  refine T_region ?_
                  refine TL_pure rfl rfl rfl rfl (op_move rfl) ?_
                  obtain ⟨r113, hr113, hm⟩ := bindS hm
                  refine TL_callF (c_impl_isWide (w64 (e106 + e109)) r113 hr113) Try.call127 rfl rfl rfl rfl rfl ?_
                  refine TL_pure rfl rfl rfl rfl (op_assign rfl) ?_
                  refine TL_nil ?_
                  refine T_keepH [0, 8, 9, 11, 12, 13, 14] [0, 1, 2, 3, 4, 5] rfl rfl rfl rfl (by rw [hF]; rfl) ?_
                  exact hj2 (p0.State.Vars, p0.State.Cells, (w64 (p0.At + (1 : Int))), (-1 : Int), (w64 (e106 + e109)), r113) hm
                · replace hm := condF hq hm
                  refine T_seq ?_
                  refine T_region ?_
                  refine TL_pure rfl rfl rfl rfl (op_eql rfl rfl) ?_
                  refine TL_pure rfl rfl rfl rfl (op_assign rfl) ?_
                  refine TL_nil ?_
                  refine T_cond rfl (fun hq => ?_) (fun hq => ?_)
                  · replace hm := condT hq hm
                    refine T_drawZ [] mix (by kernel_rfl) rfl ?_
                    obtain ⟨e118, he118, hm⟩ := bindS hm
                    obtain ⟨r122, hr122, hm⟩ := bindS hm
                    refine TZ_pure 0 (by kernel_rfl) rfl rfl rfl rfl rfl (op_move rfl) ?_
                    refine TZ_pure 1 (by kernel_rfl) rfl rfl rfl rfl rfl (op_index_win (m := 0) el26 rfl rfl rfl rfl (by simpa using (List.getElem?_eq_some_iff.1 he118).1)) ?_
                    refine TZ_pure 2 (by kernel_rfl) rfl rfl rfl rfl rfl (op_loadD1 ag2 rfl rfl (he118) rfl rfl rfl rfl) ?_
                    refine TZ_pure 3 (by kernel_rfl) rfl rfl rfl rfl rfl (op_fieldAddr fa40_1 rfl rfl) ?_
                    refine TZ_pure 4 (by kernel_rfl) rfl rfl rfl rfl rfl (op_load_one ag2 rfl rfl) ?_
                    refine TZ_one 5 (by kernel_rfl) rfl ?_
                    refine TL_callF (c_impl_scaled e118 x29.Arg r122 hr122) Try.call128 rfl rfl rfl rfl rfl ?_
                    refine TL_nil ?_
                    refine TZ_pure 6 (by kernel_rfl) rfl rfl rfl rfl rfl (op_move rfl) ?_
                    refine TZ_pure 7 (by kernel_rfl) rfl rfl rfl rfl rfl (op_extract rfl rfl) ?_
                    refine TZ_pure 8 (by kernel_rfl) rfl rfl rfl rfl rfl (op_extract rfl rfl) ?_
                    refine TZ_pure 9 (by kernel_rfl) rfl rfl rfl rfl rfl (op_assign rfl) ?_
                    refine TZ_pure 10 (by kernel_rfl) rfl rfl rfl rfl rfl (op_assign rfl) ?_
                    refine TZ_done (by kernel_rfl) ?_
                    refine T_keepH [0, 8, 9, 11, 12, 13, 14] [0, 1, 2, 3, 4, 5] rfl rfl rfl rfl (by rw [hF]; rfl) ?_
                    exact hj2 (p0.State.Vars, p0.State.Cells, (w64 (p0.At + (1 : Int))), (-1 : Int), r122.1, r122.2) hm
                  · replace hm := condF hq hm
                    refine T_seq ?_
                    refine T_region ?_
                    refine TL_pure rfl rfl rfl rfl (op_eql rfl rfl) ?_
                    refine TL_pure rfl rfl rfl rfl (op_assign rfl) ?_
                    refine TL_nil ?_
                    refine T_cond rfl (fun hq => ?_) (fun hq => ?_)
                    · replace hm := condT hq hm
                      refine T_region ?_
                      refine TL_pure rfl rfl rfl rfl (op_fieldAddr fa40_1 rfl rfl) ?_
                      refine TL_pure rfl rfl rfl rfl (op_load_one ag2 rfl rfl) ?_
                      refine TL_pure rfl rfl rfl rfl (op_assign rfl) ?_
                      refine TL_nil ?_
                      refine T_keepH [0, 8, 9, 11, 12, 13, 14] [0, 1, 2, 3, 4, 5] rfl rfl rfl rfl (by rw [hF]; rfl) ?_
                      exact hj2 (p0.State.Vars, p0.State.Cells, x29.Arg, (-1 : Int), (0 : Int), true) hm
                    · replace hm := condF hq hm
                      refine T_seq ?_
                      refine T_region ?_
                      refine TL_pure rfl rfl rfl rfl (op_eql rfl rfl) ?_
                      refine TL_pure rfl rfl rfl rfl (op_assign rfl) ?_
                      refine TL_nil ?_
                      refine T_cond rfl (fun hq => ?_) (fun hq => ?_)
                      · replace hm := condT hq hm
                        refine T_seq ?_
                        refine T_region ?_
                        refine TL_pure rfl rfl rfl rfl (op_move rfl) ?_
                        obtain ⟨e132, he132, hm⟩ := bindS hm
                        refine TL_pure rfl rfl rfl rfl (op_index_win (m := 0) el26 rfl rfl rfl rfl (by simpa using (List.getElem?_eq_some_iff.1 he132).1)) ?_
                        refine TL_pure rfl rfl rfl rfl (op_loadD1 ag2 rfl rfl (he132) rfl rfl rfl rfl) ?_
                        refine TL_pure rfl rfl rfl rfl (op_lss rfl rfl) ?_
                        refine TL_nil ?_
                        refine T_cond rfl (fun hq => ?_) (fun hq => ?_)
                        · replace hm := condT hq hm
                          refine T_region ?_
                          refine TL_pure rfl rfl rfl rfl (op_fieldAddr fa40_1 rfl rfl) ?_
                          refine TL_pure rfl rfl rfl rfl (op_load_one ag2 rfl rfl) ?_
                          refine TL_pure rfl rfl rfl rfl (op_assign rfl) ?_
                          refine TL_nil ?_
                          refine T_keepH [0, 8, 9, 11, 12, 13, 14] [0, 1, 2, 3, 4, 5] rfl rfl rfl rfl (by rw [hF]; rfl) ?_
                          exact hj2 (p0.State.Vars, p0.State.Cells, x29.Arg, (-1 : Int), (0 : Int), true) hm
                        · replace hm := condF hq hm
                          refine T_skip ?_
                          refine T_keepH [0, 8, 9, 11, 12, 13, 14] [0, 1, 2, 3, 4, 5] rfl rfl rfl rfl (by rw [hF]; rfl) ?_
                          exact hj2 (p0.State.Vars, p0.State.Cells, (w64 (p0.At + (1 : Int))), (-1 : Int), (0 : Int), true) hm
                      · replace hm := condF hq hm
                        refine T_join (fun (j1 : Bool) => ⟨[(0, .ptr 0 0 0), (6, .ptr 11 0 0), (8, .int .i64 r33.2), (9, .int .i64 (w64 ((p0.Stack.length : Int) - r33.1))), (10, .win 3 (((w64 ((p0.Stack.length : Int) - r33.1))).toNat)), (11, .int .i64 (w64 (p0.At + (1 : Int)))), (12, .int .i64 (-1 : Int)), (13, .int .i64 (0 : Int)), (14, .bool true), (67, .int .i64 x29.Op), (137, .bool j1)], [(0, .box [.ow 1, .ow 2, .ow 3, .int .i64 p0.At, .ow 4, .ow 5, .int .i64 w6_]), (1, .arr ⟨false, true⟩ 1 2 (List.map a_i64 p0.State.Vars)), (2, .arr ⟨false, true⟩ 1 2 (List.map a_i64 p0.State.Cells)), (3, .arr ⟨false, true⟩ 1 2 (List.map a_i64 p0.Stack)), (4, .arr ⟨false, true⟩ 1 2 (List.map a_i64 w4_)), (5, .arr ⟨false, true⟩ 1 2 (List.map a_i64 w5_)), (11, .box [.int .i64 x29.Op, .int .i64 x29.Arg])]⟩) (fun j1 => m_impl_Config_step_J1 p0 x29 r33 j1 = some out) (fun j1 hm => ?_) (fun hj1 => ?_)
                        · unfold m_impl_Config_step_J1 at hm
                          refine T_cond rfl (fun hq => ?_) (fun hq => ?_)
                          · replace hm := condT hq hm
                            refine T_seq ?_
                            refine T_region ?_
                            refine TL_pure rfl rfl rfl rfl (op_move rfl) ?_
                            obtain ⟨e141, he141, hm⟩ := bindS hm
                            refine TL_pure rfl rfl rfl rfl (op_index_win (m := 0) el26 rfl rfl rfl rfl (by simpa using (List.getElem?_eq_some_iff.1 he141).1)) ?_
                            refine TL_pure rfl rfl rfl rfl (op_loadD1 ag2 rfl rfl (he141) rfl rfl rfl rfl) ?_
                            refine TL_pure rfl rfl rfl rfl (op_assign rfl) ?_
                            refine TL_nil ?_
                            refine T_seq ?_
                            refine T_seq ?_
                            refine T_region ?_
                            refine TL_pure rfl rfl rfl rfl (op_move rfl) ?_
                            obtain ⟨r144, hr144, hm⟩ := bindS hm
                            refine TL_callF (c_impl_within e141 (0 : Int) (7 : Int) r144 hr144) Try.call72 rfl rfl rfl rfl rfl ?_
                            refine TL_pure rfl rfl rfl rfl (op_not rfl) ?_
                            refine TL_nil ?_
                            refine T_cond rfl (fun hq => ?_) (fun hq => ?_)
                            · replace hm := condT hq hm
                              refine T_seq ?_
                              refine T_region ?_
                              refine TL_pure rfl rfl rfl rfl (op_assign rfl) ?_
                              refine TL_pure rfl rfl rfl rfl (op_assign rfl) ?_
                              refine TL_nil ?_
                              refine T_keepH [4, 5] [0, 1, 2, 3, 4, 5] rfl rfl rfl rfl (by rw [hF]; rfl) ?_
                              refine T_ret ?_
                              obtain rfl := someI hm
                              refine ⟨[_, _], [0, 1, 2, 3, 4, 5], ⟨rfl, rfl, trivial⟩, ?_, rfl, rfl, rfl, rfl⟩
                              rfl
                            · replace hm := condF hq hm
                              refine T_skip ?_
                              refine T_seq ?_
                              refine T_region ?_
                              refine TL_pure rfl rfl rfl rfl (op_fieldAddr fa40_0 rfl rfl) ?_
                              refine TL_pure rfl rfl rfl rfl (op_load_one ag2 rfl rfl) ?_
                              refine TL_pure rfl rfl rfl rfl (op_eql rfl rfl) ?_
                              refine TL_nil ?_
                              refine T_cond rfl (fun hq => ?_) (fun hq => ?_)
                              · replace hm := condT hq hm
                                refine T_region ?_
                                refine TL_pure rfl rfl rfl rfl (op_move rfl) ?_
                                refine TL_pure rfl rfl rfl rfl (op_nilCheck rfl rfl) ?_
                                refine TL_pure rfl rfl rfl rfl (op_fieldAddr fa35_0 rfl rfl) ?_
                                refine TL_pure rfl rfl rfl rfl (op_fieldAddr fa28_1 rfl rfl) ?_
                                refine TL_pure rfl rfl rfl rfl (op_load_one ag26 rfl rfl) ?_
                                refine TL_pure rfl rfl rfl rfl (op_move rfl) ?_
                                obtain ⟨x155, hx155, hm⟩ := bindS hm
                                refine TL_pure rfl rfl rfl rfl (op_indexO el26 rfl rfl rfl hx155) ?_
                                refine TL_pure rfl rfl rfl rfl (op_loadD1 ag2 rfl rfl ((getI_spec hx155).2) rfl rfl rfl rfl) ?_
                                refine TL_pure rfl rfl rfl rfl (op_assign rfl) ?_
                                refine TL_nil ?_
                                refine T_keepH [0, 8, 9, 11, 12, 13, 14] [0, 1, 2, 3, 4, 5] rfl rfl rfl rfl (by rw [hF]; rfl) ?_
                                exact hj2 (p0.State.Vars, p0.State.Cells, (w64 (p0.At + (1 : Int))), (-1 : Int), x155, true) hm
                              · replace hm := condF hq hm
                                refine T_seq ?_
                                refine T_region ?_
                                refine TL_pure rfl rfl rfl rfl (op_move rfl) ?_
                                obtain ⟨e158, he158, hm⟩ := bindS hm
                                refine TL_pure rfl rfl rfl rfl (op_index_win (m := 1) el26 rfl rfl rfl rfl (by simpa using (List.getElem?_eq_some_iff.1 he158).1)) ?_
                                refine TL_pure rfl rfl rfl rfl (op_loadD1 ag2 rfl rfl (he158) rfl rfl rfl rfl) ?_
                                obtain ⟨r160, hr160, hm⟩ := bindS hm
                                refine TL_callF (c_impl_isInt e158 r160 hr160) Try.call126 rfl rfl rfl rfl rfl ?_
                                refine TL_pure rfl rfl rfl rfl (op_not rfl) ?_
                                refine TL_nil ?_
                                refine T_cond rfl (fun hq => ?_) (fun hq => ?_)
                                · replace hm := condT hq hm
                                  refine T_seq ?_
                                  refine T_region ?_
                                  refine TL_pure rfl rfl rfl rfl (op_assign rfl) ?_
                                  refine TL_pure rfl rfl rfl rfl (op_assign rfl) ?_
                                  refine TL_nil ?_
                                  refine T_keepH [4, 5] [0, 1, 2, 3, 4, 5] rfl rfl rfl rfl (by rw [hF]; rfl) ?_
                                  refine T_ret ?_
                                  obtain rfl := someI hm
                                  refine ⟨[_, _], [0, 1, 2, 3, 4, 5], ⟨rfl, rfl, trivial⟩, ?_, rfl, rfl, rfl, rfl⟩
                                  rfl
                                · replace hm := condF hq hm
                                  refine T_drawZ [10] mix (by kernel_rfl) rfl ?_
                                  obtain ⟨x171, hx171, hm⟩ := bindS hm
                                  refine TZ_pure 0 (by kernel_rfl) rfl rfl rfl rfl rfl (op_move rfl) ?_
                                  refine TZ_pure 1 (by kernel_rfl) rfl rfl rfl rfl rfl (op_nilCheck rfl rfl) ?_
                                  refine TZ_pure 2 (by kernel_rfl) rfl rfl rfl rfl rfl (op_fieldAddr fa35_0 rfl rfl) ?_
                                  refine TZ_pure 3 (by kernel_rfl) rfl rfl rfl rfl rfl (op_fieldAddr fa28_1 rfl rfl) ?_
                                  refine TZ_pure 4 (by kernel_rfl) rfl rfl rfl rfl rfl (op_load_one ag26 rfl rfl) ?_
                                  refine TZ_pure 5 (by kernel_rfl) rfl rfl rfl rfl rfl (op_move rfl) ?_
                                  refine TZ_pure 6 (by kernel_rfl) rfl rfl rfl rfl rfl (op_move rfl) ?_
                                  refine TZ_pure 7 (by kernel_rfl) rfl rfl rfl rfl rfl (op_index_win (m := 1) el26 rfl rfl rfl rfl (by simpa using (List.getElem?_eq_some_iff.1 he158).1)) ?_
                                  refine TZ_pure 8 (by kernel_rfl) rfl rfl rfl rfl rfl (op_loadD1 ag2 rfl rfl (he158) rfl rfl rfl rfl) ?_
                                  refine TZ_pure 9 (by kernel_rfl) rfl rfl rfl rfl rfl (op_indexO el26 rfl rfl rfl hx171) ?_
                                  refine TZ_one 10 (by kernel_rfl) rfl ?_
                                  refine TL_storeFT sz2 rfl rfl ((getI_spec hx171).2) (v' := e158) rfl rfl rfl rfl rfl rfl rfl rfl rfl ?_
                                  refine TL_nil ?_
                                  refine TZ_done (by kernel_rfl) ?_
                                  refine T_keepH [0, 8, 9, 11, 12, 13, 14] [0, 1, 2, 3, 4, 5] rfl rfl rfl rfl (by rw [hF]; rfl) ?_
                                  exact hj2 (p0.State.Vars, (p0.State.Cells.set ((e141).toNat) e158), (w64 (p0.At + (1 : Int))), (-1 : Int), (0 : Int), true) hm
                          · replace hm := condF hq hm
                            refine T_seq ?_
                            refine T_region ?_
                            refine TL_pure rfl rfl rfl rfl (op_eql rfl rfl) ?_
                            refine TL_pure rfl rfl rfl rfl (op_assign rfl) ?_
                            refine TL_nil ?_
                            refine T_cond rfl (fun hq => ?_) (fun hq => ?_)
                            · replace hm := condT hq hm
                              refine T_region ?_
                              refine TL_pure rfl rfl rfl rfl (op_fieldAddr fa40_1 rfl rfl) ?_
                              refine TL_pure rfl rfl rfl rfl (op_load_one ag2 rfl rfl) ?_
                              refine TL_pure rfl rfl rfl rfl (op_assign rfl) ?_
                              refine TL_nil ?_
                              refine T_keepH [0, 8, 9, 11, 12, 13, 14] [0, 1, 2, 3, 4, 5] rfl rfl rfl rfl (by rw [hF]; rfl) ?_
                              exact hj2 (p0.State.Vars, p0.State.Cells, (w64 (p0.At + (1 : Int))), x29.Arg, (0 : Int), true) hm
                            · replace hm := condF hq hm
                              refine T_seq ?_
                              refine T_region ?_
                              refine TL_pure rfl rfl rfl rfl (op_eql rfl rfl) ?_
                              refine TL_pure rfl rfl rfl rfl (op_assign rfl) ?_
                              refine TL_nil ?_
                              refine T_cond rfl (fun hq => ?_) (fun hq => ?_)
                              · replace hm := condT hq hm
                                refine T_seq ?_
                                refine T_region ?_
                                refine TL_pure rfl rfl rfl rfl (op_move rfl) ?_
                                obtain ⟨e179, he179, hm⟩ := bindS hm
                                refine TL_pure rfl rfl rfl rfl (op_index_win (m := 0) el26 rfl rfl rfl rfl (by simpa using (List.getElem?_eq_some_iff.1 he179).1)) ?_
                                refine TL_pure rfl rfl rfl rfl (op_loadD1 ag2 rfl rfl (he179) rfl rfl rfl rfl) ?_
                                refine TL_pure rfl rfl rfl rfl (op_lss rfl rfl) ?_
                                refine TL_nil ?_
                                refine T_cond rfl (fun hq => ?_) (fun hq => ?_)
                                · replace hm := condT hq hm
                                  refine T_seq ?_
                                  refine T_region ?_
                                  refine TL_pure rfl rfl rfl rfl (op_assign rfl) ?_
                                  refine TL_pure rfl rfl rfl rfl (op_assign rfl) ?_
                                  refine TL_nil ?_
                                  refine T_keepH [4, 5] [0, 1, 2, 3, 4, 5] rfl rfl rfl rfl (by rw [hF]; rfl) ?_
                                  refine T_ret ?_
                                  obtain rfl := someI hm
                                  refine ⟨[_, _], [0, 1, 2, 3, 4, 5], ⟨rfl, rfl, trivial⟩, ?_, rfl, rfl, rfl, rfl⟩
                                  rfl
                                · replace hm := condF hq hm
                                  refine T_skip ?_
                                  refine T_keepH [0, 8, 9, 11, 12, 13, 14] [0, 1, 2, 3, 4, 5] rfl rfl rfl rfl (by rw [hF]; rfl) ?_
                                  exact hj2 (p0.State.Vars, p0.State.Cells, (w64 (p0.At + (1 : Int))), (-1 : Int), (0 : Int), true) hm
                              · replace hm := condF hq hm
                                refine T_skip ?_
                                refine T_keepH [0, 8, 9, 11, 12, 13, 14] [0, 1, 2, 3, 4, 5] rfl rfl rfl rfl (by rw [hF]; rfl) ?_
                                exact hj2 (p0.State.Vars, p0.State.Cells, (w64 (p0.At + (1 : Int))), (-1 : Int), (0 : Int), true) hm
                        · refine T_seq ?_
                          refine T_region ?_
                          refine TL_pure rfl rfl rfl rfl (op_eql rfl rfl) ?_
                          refine TL_pure rfl rfl rfl rfl (op_assign rfl) ?_
                          refine TL_nil ?_
                          refine T_cond rfl (fun hq => ?_) (fun hq => ?_)
                          · replace hm := condT hq hm
                            refine T_skip ?_
                            refine T_keepH [0, 6, 8, 9, 10, 11, 12, 13, 14, 67, 137] [0, 1, 2, 3, 4, 5, 11] rfl rfl rfl rfl (by rw [hF]; rfl) ?_
                            exact hj1 (decide (x29.Op = (7 : Int))) hm
                          · replace hm := condF hq hm
                            refine T_region ?_
                            refine TL_pure rfl rfl rfl rfl (op_eql rfl rfl) ?_
                            refine TL_pure rfl rfl rfl rfl (op_assign rfl) ?_
                            refine TL_nil ?_
                            refine T_keepH [0, 6, 8, 9, 10, 11, 12, 13, 14, 67, 137] [0, 1, 2, 3, 4, 5, 11] rfl rfl rfl rfl (by rw [hF]; rfl) ?_
                            exact hj1 (decide (x29.Op = (8 : Int))) hm
    · refine T_seq ?_
      refine T_region ?_
      refine TL_pure rfl rfl rfl rfl (op_move rfl) ?_
      refine TL_pure rfl rfl rfl rfl (op_lss rfl rfl) ?_
      refine TL_pure rfl rfl rfl rfl (op_move rfl) ?_
      refine TL_split 45 rfl rfl rfl (fun hq => ?_) (fun hq => ?_)
      · replace hm := condT hq hm
        refine TL_pass rfl rfl rfl rfl rfl rfl rfl ?_
        refine TL_pass rfl rfl rfl rfl rfl rfl rfl ?_
        refine TL_pass rfl rfl rfl rfl rfl rfl rfl ?_
        refine TL_pass2 rfl rfl rfl rfl rfl rfl ?_
        refine TL_pass2 rfl rfl rfl rfl rfl rfl ?_
        refine TL_pass2 rfl rfl rfl rfl rfl rfl ?_
        refine TL_pass2 rfl rfl rfl rfl rfl rfl ?_
        refine TL_pass rfl rfl rfl rfl rfl rfl rfl ?_
        refine TL_pure rfl rfl rfl rfl (op_pick_true rfl rfl) ?_
        refine TL_nil ?_
        refine T_cond_true rfl ?_
        refine T_seq ?_
        refine T_region ?_
        refine TL_pure rfl rfl rfl rfl (op_assign rfl) ?_
        refine TL_pure rfl rfl rfl rfl (op_assign rfl) ?_
        refine TL_nil ?_
        refine T_keepH [4, 5] [0, 1, 2, 3, 4, 5] rfl rfl rfl rfl (by rw [hF]; rfl) ?_
        refine T_ret ?_
        obtain rfl := someI hm
        refine ⟨[_, _], [0, 1, 2, 3, 4, 5], ⟨rfl, rfl, trivial⟩, ?_, rfl, rfl, rfl, rfl⟩
        rfl
      · replace hm := condF hq hm
        refine TL_want rfl rfl ?_
        refine TL_pure rfl rfl rfl rfl (op_move rfl) ?_
        refine TL_want rfl rfl ?_
        refine TL_pure rfl rfl rfl rfl (op_gtr rfl rfl) ?_
        refine TL_want rfl rfl ?_
        refine TL_pure rfl rfl rfl rfl (op_move rfl) ?_
        refine TL_split 48 rfl rfl rfl (fun hq => ?_) (fun hq => ?_)
        · replace hm := condT hq hm
          refine TL_want rfl rfl ?_
          refine TL_pure rfl rfl rfl rfl (op_move rfl) ?_
          refine TL_want rfl rfl ?_
          refine TL_pure rfl rfl rfl rfl (op_move rfl) ?_
          refine TL_want rfl rfl ?_
          refine TL_pure rfl rfl rfl rfl (op_addW rfl rfl) ?_
          refine TL_want rfl rfl ?_
          refine TL_pure rfl rfl rfl rfl (op_gtr rfl rfl) ?_
          refine TL_want rfl rfl ?_
          refine TL_pure rfl rfl rfl rfl (op_pick_true rfl rfl) ?_
          refine TL_pure rfl rfl rfl rfl (op_pick_false rfl rfl) ?_
          refine TL_nil ?_
          refine T_cond rfl (fun hq => ?_) (fun hq => ?_)
          · replace hm := condT hq hm
            refine T_seq ?_
            refine T_region ?_
            refine TL_pure rfl rfl rfl rfl (op_assign rfl) ?_
            refine TL_pure rfl rfl rfl rfl (op_assign rfl) ?_
            refine TL_nil ?_
            refine T_keepH [4, 5] [0, 1, 2, 3, 4, 5] rfl rfl rfl rfl (by rw [hF]; rfl) ?_
            refine T_ret ?_
            obtain rfl := someI hm
            refine ⟨[_, _], [0, 1, 2, 3, 4, 5], ⟨rfl, rfl, trivial⟩, ?_, rfl, rfl, rfl, rfl⟩
            rfl
          · replace hm := condF hq hm
            refine T_skip ?_
            refine T_keepH [0, 6, 8, 9] [0, 1, 2, 3, 4, 5, 11] rfl rfl rfl rfl (by rw [hF]; rfl) ?_
            exact hj0 () hm
        · replace hm := condF hq hm
          refine TL_pass rfl rfl rfl rfl rfl rfl rfl ?_
          refine TL_pass rfl rfl rfl rfl rfl rfl rfl ?_
          refine TL_pass rfl rfl rfl rfl rfl rfl rfl ?_
          refine TL_pass rfl rfl rfl rfl rfl rfl rfl ?_
          refine TL_want rfl rfl ?_
          refine TL_pure rfl rfl rfl rfl (op_pick_false rfl rfl) ?_
          refine TL_pure rfl rfl rfl rfl (op_pick_false rfl rfl) ?_
          refine TL_nil ?_
          refine T_cond_false rfl ?_
          refine T_skip ?_
          refine T_keepH [0, 6, 8, 9] [0, 1, 2, 3, 4, 5, 11] rfl rfl rfl rfl (by rw [hF]; rfl) ?_
          exact hj0 () hm
theorem c_impl_ran (p0 : List Instr) (p1 : State) (p2 : Int) (out : runs × Bool) (hm : m_impl_ran p0 p1 p2 = some out) : ACall Try.prog 66 [.sl 2 (List.map a_Instr p0), .agg [.sl 1 (List.map a_i64 p1.Vars), .sl 1 (List.map a_i64 p1.Cells)], .int .i64 p2] [] (bif out.2 then .tup [.ptr 1000 0 0, .bool true] else .tup [.nilp, .bool false]) (bif out.2 then [(1000, .box [.ow 1001, .ow 1002, .ow 1003, .int .i64 out.1.config.At, .ow 1004, .ow 1005, .int .i64 out.1.out]), (1001, .arr ⟨false, true⟩ 1 2 (List.map a_i64 out.1.config.State.Vars)), (1002, .arr ⟨false, true⟩ 1 2 (List.map a_i64 out.1.config.State.Cells)), (1003, .arr ⟨false, true⟩ 1 2 (List.map a_i64 out.1.config.Stack)), (1004, .arr ⟨false, true⟩ 1 2 (List.map a_i64 out.1.events)), (1005, .arr ⟨false, true⟩ 1 2 (List.map a_i64 out.1.counts))] else []) := by
  refine ACall.intro Try.func66 rfl Try.ntmps66 rfl (fun F hF => ?_)
  unfold m_impl_ran at hm
  refine T_seq ?_
  refine T_region ?_
  refine TL_box 11 rfl rfl rfl rfl rfl rfl rfl ?_
  refine TL_pure rfl rfl rfl rfl (op_assign rfl) ?_
  refine TL_pure rfl rfl rfl rfl (op_assign rfl) ?_
  refine TL_nil ?_
  refine T_seq ?_
  refine T_seq ?_
  refine T_region ?_
  refine TL_pure rfl rfl rfl rfl (op_move rfl) ?_
  obtain ⟨r13, hr13, hm⟩ := bindS hm
  refine TL_callF (c_impl_ValidCode p0 r13 hr13) Try.call69 rfl rfl rfl rfl rfl ?_
  refine TL_pure rfl rfl rfl rfl (op_not rfl) ?_
  refine TL_pure rfl rfl rfl rfl (op_move rfl) ?_
  refine TL_split 15 rfl rfl rfl (fun hq => ?_) (fun hq => ?_)
  · replace hm := condT hq hm
    refine TL_pass rfl rfl rfl rfl rfl rfl rfl ?_
    refine TL_pass rfl rfl rfl rfl rfl rfl rfl ?_
    refine TL_pass rfl rfl rfl rfl rfl rfl rfl ?_
    refine TL_pure rfl rfl rfl rfl (op_pick_true rfl rfl) ?_
    refine TL_pure rfl rfl rfl rfl (op_move rfl) ?_
    refine TL_pass rfl rfl rfl rfl rfl rfl rfl ?_
    refine TL_pass rfl rfl rfl rfl rfl rfl rfl ?_
    refine TL_pass rfl rfl rfl rfl rfl rfl rfl ?_
    refine TL_pure rfl rfl rfl rfl (op_pick_true rfl rfl) ?_
    refine TL_nil ?_
    refine T_cond_true rfl ?_
    refine T_seq ?_
    refine T_region ?_
    refine TL_pure rfl rfl rfl rfl (op_assign rfl) ?_
    refine TL_pure rfl rfl rfl rfl (op_assign rfl) ?_
    refine TL_nil ?_
    refine T_keepH [6, 7] [] rfl rfl rfl rfl (by rw [hF]; rfl) ?_
    refine T_ret ?_
    obtain rfl := someI hm
    refine ⟨[_, _], [], ⟨rfl, rfl, trivial⟩, ?_, rfl, rfl, rfl, rfl⟩
    rfl
  · replace hm := condF hq hm
    refine TL_want rfl rfl ?_
    refine TL_pure rfl rfl rfl rfl (op_load_agg ag28 sz28 rfl rfl rfl) ?_
    refine TL_want rfl rfl ?_
    obtain ⟨r17, hr17, hm⟩ := bindS hm
    refine TL_callF (c_impl_ValidState p1 r17 hr17) Try.call70 rfl rfl rfl rfl rfl ?_
    refine TL_want rfl rfl ?_
    refine TL_pure rfl rfl rfl rfl (op_not rfl) ?_
    refine TL_pure rfl rfl rfl rfl (op_pick_false rfl rfl) ?_
    refine TL_pure rfl rfl rfl rfl (op_move rfl) ?_
    refine TL_split 20 rfl rfl rfl (fun hq => ?_) (fun hq => ?_)
    · replace hm := condT hq hm
      refine TL_pass rfl rfl rfl rfl rfl rfl rfl ?_
      refine TL_pass rfl rfl rfl rfl rfl rfl rfl ?_
      refine TL_pass rfl rfl rfl rfl rfl rfl rfl ?_
      refine TL_pure rfl rfl rfl rfl (op_pick_true rfl rfl) ?_
      refine TL_nil ?_
      refine T_cond_true rfl ?_
      refine T_seq ?_
      refine T_region ?_
      refine TL_pure rfl rfl rfl rfl (op_assign rfl) ?_
      refine TL_pure rfl rfl rfl rfl (op_assign rfl) ?_
      refine TL_nil ?_
      refine T_keepH [6, 7] [] rfl rfl rfl rfl (by rw [hF]; rfl) ?_
      refine T_ret ?_
      obtain rfl := someI hm
      refine ⟨[_, _], [], ⟨rfl, rfl, trivial⟩, ?_, rfl, rfl, rfl, rfl⟩
      rfl
    · replace hm := condF hq hm
      refine TL_want rfl rfl ?_
      refine TL_pure rfl rfl rfl rfl (op_move rfl) ?_
      refine TL_want rfl rfl ?_
      obtain ⟨r22, hr22, hm⟩ := bindS hm
      refine TL_callF (c_impl_within p2 (0 : Int) (2000 : Int) r22 hr22) Try.call72 rfl rfl rfl rfl rfl ?_
      refine TL_want rfl rfl ?_
      refine TL_pure rfl rfl rfl rfl (op_not rfl) ?_
      refine TL_pure rfl rfl rfl rfl (op_pick_false rfl rfl) ?_
      refine TL_nil ?_
      refine T_cond rfl (fun hq => ?_) (fun hq => ?_)
      · replace hm := condT hq hm
        refine T_seq ?_
        refine T_region ?_
        refine TL_pure rfl rfl rfl rfl (op_assign rfl) ?_
        refine TL_pure rfl rfl rfl rfl (op_assign rfl) ?_
        refine TL_nil ?_
        refine T_keepH [6, 7] [] rfl rfl rfl rfl (by rw [hF]; rfl) ?_
        refine T_ret ?_
        obtain rfl := someI hm
        refine ⟨[_, _], [], ⟨rfl, rfl, trivial⟩, ?_, rfl, rfl, rfl, rfl⟩
        rfl
      · replace hm := condF hq hm
        refine T_skip ?_
        refine T_join (fun (j0 : (List Int) × (List Int) × (List Int)) => ⟨[(0, .sl 2 (List.map a_Instr p0)), (2, .int .i64 p2), (8, .ptr 652 0 0)], [(172, .arr ⟨false, true⟩ 1 2 (List.map a_i64 j0.1)), (173, .arr ⟨false, true⟩ 1 2 (List.map a_i64 j0.2.1)), (492, .arr ⟨false, false⟩ 1 2 (List.map a_i64 j0.2.2)), (652, .box [.ow 172, .ow 173, .snil, .int .i64 (0 : Int), .snil, .ow 492, .int .i64 (0 : Int)])]⟩) (fun j0 => m_impl_ran_J0 p0 p2 j0 = some out) (fun j0 hm => ?_) (fun hj0 => ?_)
        · unfold m_impl_ran_J0 at hm
          refine T_block ?_
          refine T_ownNilBox 652 2 737 ⟨false, true⟩ 2 rfl rfl rfl (sz := 1) rfl rfl rfl rfl ?_
          refine T_ownNilBox 652 4 738 ⟨false, false⟩ 2 rfl rfl rfl (sz := 1) rfl rfl rfl rfl ?_
          refine T_keepH [0, 2, 8] [172, 173, 492, 652, 737, 738] rfl rfl rfl rfl (by rw [hF]; rfl) ?_
          refine T_ren [(172, 172), (173, 173), (492, 492), (652, 652), (737, 70003), (738, 70004)] rfl rfl rfl (by rw [hF]; rfl) ?_
          refine T_loop ?_
          obtain ⟨u0, hl0, hm⟩ := bindS hm
          refine TR_iter2 (m_impl_ran_L0 p0) (fun (s0 : Int × (List Int) × (List Int) × (List Int) × Int × (List Int) × (List Int)) => ⟨[(0, .sl 2 (List.map a_Instr p0)), (2, .int .i64 s0.1), (8, .ptr 652 0 0)], [(172, .arr ⟨false, true⟩ 1 2 (List.map a_i64 s0.2.1)), (173, .arr ⟨false, true⟩ 1 2 (List.map a_i64 s0.2.2.1)), (492, .arr ⟨false, false⟩ 1 2 (List.map a_i64 s0.2.2.2.2.2.2)), (652, .box [.ow 172, .ow 173, .ow 70003, .int .i64 s0.2.2.2.2.1, .ow 70004, .ow 492, .int .i64 (0 : Int)]), (70003, .arr ⟨false, true⟩ 1 2 (List.map a_i64 s0.2.2.2.1)), (70004, .arr ⟨false, false⟩ 1 2 (List.map a_i64 s0.2.2.2.2.2.1))]⟩) (fun u0 => .ret) (fun u0 => ⟨[(6, .ptr 1000 0 0), (7, .bool true)], [(1000, .box [.ow 1001, .ow 1002, .ow 1003, .int .i64 u0.2.2.2.1, .ow 1004, .ow 1005, .int .i64 u0.2.2.2.2.2.2]), (1001, .arr ⟨false, true⟩ 1 2 (List.map a_i64 u0.1)), (1002, .arr ⟨false, true⟩ 1 2 (List.map a_i64 u0.2.1)), (1003, .arr ⟨false, true⟩ 1 2 (List.map a_i64 u0.2.2.1)), (1004, .arr ⟨false, true⟩ 1 2 (List.map a_i64 u0.2.2.2.2.1)), (1005, .arr ⟨false, true⟩ 1 2 (List.map a_i64 u0.2.2.2.2.2.1))]⟩) (fun u0 => m_impl_ran_A0 u0 = some out) hl0 hm (fun u0 hm => ?_) (fun hx0 s0 c0 hm hc0 => ?_)
          · unfold m_impl_ran_A0 at hm
            obtain rfl := someI hm
            refine ⟨[_, _], [1000, 1001, 1002, 1003, 1004, 1005], ⟨rfl, rfl, trivial⟩, ?_, rfl, rfl, rfl, rfl⟩
            rfl
          · unfold m_impl_ran_L0 at hm
            refine T_seq ?_
            refine T_block ?_
            refine T_seq ?_
            refine T_seq ?_
            refine T_region ?_
            refine TL_pure rfl rfl rfl rfl (op_move rfl) ?_
            refine TL_pure rfl rfl rfl rfl (op_eql rfl rfl) ?_
            refine TL_nil ?_
            refine T_cond rfl (fun hq => ?_) (fun hq => ?_)
            · replace hm := condT hq hm
              refine T_seq ?_
              refine T_region ?_
              refine TL_pure rfl rfl rfl rfl (op_move rfl) ?_
              refine TL_pure rfl rfl rfl rfl (op_nilCheck rfl rfl) ?_
              refine TL_pure rfl rfl rfl rfl (op_fieldAddr fa107_3 rfl rfl) ?_
              refine TL_store_box sz2 rfl rfl rfl rfl rfl rfl rfl rfl rfl ?_
              refine TL_nil ?_
              refine T_seq ?_
              refine T_region ?_
              refine TL_pure rfl rfl rfl rfl (op_move rfl) ?_
              refine TL_pure rfl rfl rfl rfl (op_assign rfl) ?_
              refine TL_pure rfl rfl rfl rfl (op_assign rfl) ?_
              refine TL_nil ?_
              refine T_keepH [6, 7] [172, 173, 492, 652, 70003, 70004] rfl rfl rfl rfl (by rw [hF]; rfl) ?_
              refine T_deepen 70004 (p' := false) (List.map a_i64 s0.2.2.2.2.2.1) (by rw [hF]; rfl) rfl (ElR.map (f := a_i64) (g := a_i64) (fun _ => ⟨⟨rfl, rfl⟩, trivial⟩) s0.2.2.2.2.2.1) rfl rfl rfl ?_
              refine T_deepen 492 (p' := false) (List.map a_i64 s0.2.2.2.2.2.2) (by rw [hF]; rfl) rfl (ElR.map (f := a_i64) (g := a_i64) (fun _ => ⟨⟨rfl, rfl⟩, trivial⟩) s0.2.2.2.2.2.2) rfl rfl rfl ?_
              refine T_ren [(172, 1001), (173, 1002), (492, 1005), (652, 1000), (70003, 1003), (70004, 1004)] rfl rfl rfl (by rw [hF]; rfl) ?_
              refine T_keepH [6, 7] [1000, 1001, 1002, 1003, 1004, 1005] rfl rfl rfl rfl (by rw [hF]; rfl) ?_
              refine T_ret ?_
              obtain rfl := someI hm
              have hn := CtlOK_out hc0
              exact hx0 (s0.2.1, s0.2.2.1, s0.2.2.2.1, s0.2.2.2.2.1, s0.2.2.2.2.2.1, s0.2.2.2.2.2.2, (1 : Int)) hn
            · replace hm := condF hq hm
              refine T_skip ?_
              refine T_seq ?_
              refine T_region ?_
              refine TL_pure rfl rfl rfl rfl (op_move rfl) ?_
              refine TL_pure rfl rfl rfl rfl (op_nilCheck rfl rfl) ?_
              refine TL_pure rfl rfl rfl rfl (op_fieldAddr fa107_0 rfl rfl) ?_
              refine TL_pure rfl rfl rfl rfl (op_fieldAddr fa35_2 rfl rfl) ?_
              refine TL_pure rfl rfl rfl rfl (op_load_one ag2 rfl rfl) ?_
              refine TL_pure rfl rfl rfl rfl (op_assign rfl) ?_
              refine TL_nil ?_
              refine T_seq ?_
              refine T_region ?_
              refine TL_pure rfl rfl rfl rfl (op_move rfl) ?_
              refine TL_pure rfl rfl rfl rfl (op_nilCheck rfl rfl) ?_
              refine TL_pure rfl rfl rfl rfl (op_fieldAddr fa107_0 rfl rfl) ?_
              refine TL_pure rfl rfl rfl rfl (op_move rfl) ?_
              refine TL_deepen 70004 (p' := false) (List.map a_i64 s0.2.2.2.2.2.1) (by rw [hF]; rfl) rfl (ElR.map (f := a_i64) (g := a_i64) (fun _ => ⟨⟨rfl, rfl⟩, trivial⟩) s0.2.2.2.2.2.1) rfl rfl rfl ?_
              refine TL_deepen 492 (p' := false) (List.map a_i64 s0.2.2.2.2.2.2) (by rw [hF]; rfl) rfl (ElR.map (f := a_i64) (g := a_i64) (fun _ => ⟨⟨rfl, rfl⟩, trivial⟩) s0.2.2.2.2.2.2) rfl rfl rfl ?_
              obtain ⟨r51, hr51, hm⟩ := bindS hm
              refine TL_call [(0, 652), (1, 172), (2, 173), (3, 70003), (4, 70004), (5, 492)] [] [172, 173, 70003, 70004, 492] (c_impl_Config_step_in0 (Config.mk (State.mk s0.2.1 s0.2.2.1) s0.2.2.2.1 s0.2.2.2.2.1) p0 s0.2.2.2.2.2.1 s0.2.2.2.2.2.2 (0 : Int) r51 hr51) Try.call68 rfl rfl rfl rfl rfl ⟨rfl, rfl, rfl, rfl, rfl, rfl, trivial⟩ rfl rfl rfl rfl rfl rfl rfl rfl rfl rfl rfl ?_
              refine TL_pure rfl rfl rfl rfl (op_move rfl) ?_
              refine TL_pure rfl rfl rfl rfl (op_extract rfl rfl) ?_
              refine TL_pure rfl rfl rfl rfl (op_extract rfl rfl) ?_
              refine TL_pure rfl rfl rfl rfl (op_assign rfl) ?_
              refine TL_pure rfl rfl rfl rfl (op_assign rfl) ?_
              refine TL_nil ?_
              refine T_seq ?_
              refine T_seq ?_
              refine T_region ?_
              refine TL_pure rfl rfl rfl rfl (op_move rfl) ?_
              refine TL_pure rfl rfl rfl rfl (op_eql rfl rfl) ?_
              refine TL_nil ?_
              refine T_cond rfl (fun hq => ?_) (fun hq => ?_)
              · replace hm := condT hq hm
                refine T_seq ?_
                refine T_region ?_
                refine TL_pure rfl rfl rfl rfl (op_move rfl) ?_
                refine TL_pure rfl rfl rfl rfl (op_assign rfl) ?_
                refine TL_pure rfl rfl rfl rfl (op_assign rfl) ?_
                refine TL_nil ?_
                refine T_keepH [6, 7] [172, 173, 492, 652, 70003, 70004] rfl rfl rfl rfl (by rw [hF]; rfl) ?_
                refine T_ren [(172, 1001), (173, 1002), (492, 1005), (652, 1000), (70003, 1003), (70004, 1004)] rfl rfl rfl (by rw [hF]; rfl) ?_
                refine T_keepH [6, 7] [1000, 1001, 1002, 1003, 1004, 1005] rfl rfl rfl rfl (by rw [hF]; rfl) ?_
                refine T_ret ?_
                obtain rfl := someI hm
                have hn := CtlOK_out hc0
                exact hx0 (r51.2.2.State.Vars, r51.2.2.State.Cells, r51.2.2.Stack, r51.2.2.At, s0.2.2.2.2.2.1, s0.2.2.2.2.2.2, (0 : Int)) hn
              · replace hm := condF hq hm
                refine T_skip ?_
                refine T_seq ?_
                refine T_seq ?_
                refine T_region ?_
                refine TL_pure rfl rfl rfl rfl (op_move rfl) ?_
                refine TL_pure rfl rfl rfl rfl (op_neq rfl rfl) ?_
                refine TL_nil ?_
                refine T_cond rfl (fun hq => ?_) (fun hq => ?_)
                · replace hm := condT hq hm
                  refine T_seq ?_
                  refine T_region ?_
                  refine TL_pure rfl rfl rfl rfl (op_move rfl) ?_
                  refine TL_pure rfl rfl rfl rfl (op_move rfl) ?_
                  refine TL_pure rfl rfl rfl rfl (op_nilCheck rfl rfl) ?_
                  refine TL_pure rfl rfl rfl rfl (op_fieldAddr fa107_3 rfl rfl) ?_
                  refine TL_store_box sz2 rfl rfl rfl rfl rfl rfl rfl rfl rfl ?_
                  refine TL_nil ?_
                  refine T_seq ?_
                  refine T_region ?_
                  refine TL_pure rfl rfl rfl rfl (op_move rfl) ?_
                  refine TL_pure rfl rfl rfl rfl (op_assign rfl) ?_
                  refine TL_pure rfl rfl rfl rfl (op_assign rfl) ?_
                  refine TL_nil ?_
                  refine T_keepH [6, 7] [172, 173, 492, 652, 70003, 70004] rfl rfl rfl rfl (by rw [hF]; rfl) ?_
                  refine T_ren [(172, 1001), (173, 1002), (492, 1005), (652, 1000), (70003, 1003), (70004, 1004)] rfl rfl rfl (by rw [hF]; rfl) ?_
                  refine T_keepH [6, 7] [1000, 1001, 1002, 1003, 1004, 1005] rfl rfl rfl rfl (by rw [hF]; rfl) ?_
                  refine T_ret ?_
                  obtain rfl := someI hm
                  have hn := CtlOK_out hc0
                  exact hx0 (r51.2.2.State.Vars, r51.2.2.State.Cells, r51.2.2.Stack, r51.2.2.At, s0.2.2.2.2.2.1, s0.2.2.2.2.2.2, r51.1) hn
                · replace hm := condF hq hm
                  refine T_skip ?_
                  refine T_seq ?_
                  refine T_region ?_
                  refine TL_pure rfl rfl rfl rfl (op_move rfl) ?_
                  refine TL_pure rfl rfl rfl rfl (op_nilCheck rfl rfl) ?_
                  refine TL_pure rfl rfl rfl rfl (op_fieldAddr fa107_2 rfl rfl) ?_
                  refine TL_pure rfl rfl rfl rfl (op_load_one ag26 rfl rfl) ?_
                  refine TL_pure rfl rfl rfl rfl (op_move rfl) ?_
                  obtain ⟨x69, hx69, hm⟩ := bindS hm
                  refine TL_pure rfl rfl rfl rfl (op_indexO el26 rfl rfl rfl hx69) ?_
                  refine TL_pure rfl rfl rfl rfl (op_loadD1 ag2 rfl rfl ((getI_spec hx69).2) rfl rfl rfl rfl) ?_
                  refine TL_pure rfl rfl rfl rfl (op_addW rfl rfl) ?_
                  refine TL_pure rfl rfl rfl rfl (op_indexO el26 rfl rfl rfl hx69) ?_
                  refine TL_storeFT sz2 rfl rfl ((getI_spec hx69).2) (v' := (w64 (x69 + (1 : Int)))) rfl rfl rfl rfl rfl rfl rfl rfl rfl ?_
                  refine TL_nil ?_
                  refine T_seq ?_
                  refine T_region ?_
                  refine TL_pure rfl rfl rfl rfl (op_move rfl) ?_
                  refine TL_pure rfl rfl rfl rfl (op_geq rfl rfl) ?_
                  refine TL_nil ?_
                  refine T_cond rfl (fun hq => ?_) (fun hq => ?_)
                  · replace hm := condT hq hm
                    refine T_region ?_
                    refine TL_pure rfl rfl rfl rfl (op_move rfl) ?_
                    refine TL_pure rfl rfl rfl rfl (op_move rfl) ?_
                    refine TL_pure rfl rfl rfl rfl (op_nilCheck rfl rfl) ?_
                    refine TL_pure rfl rfl rfl rfl (op_fieldAddr fa107_1 rfl rfl) ?_
                    refine TL_pure rfl rfl rfl rfl (op_load_one ag26 rfl rfl) ?_
                    refine TL_pure rfl rfl rfl rfl (op_move rfl) ?_
                    refine TL_buildSlice 736 (es := List.map a_i64 [r51.2.1]) el26 z2 rfl rfl rfl rfl rfl rfl rfl rfl rfl ?_
                    refine TL_undeep 70004 (p' := false) (by rw [hF]; rfl) rfl (ElR.map (f := a_i64) (g := a_i64) (fun _ => ⟨⟨rfl, rfl⟩, trivial⟩) s0.2.2.2.2.2.1) rfl ?_
                    obtain ⟨q82, hq82, hm⟩ := bindS hm
                    refine TL_appendT (f := a_i64) (a := s0.2.2.2.2.2.1) (b := [r51.2.1]) el26 z2 rfl rfl rfl rfl rfl rfl rfl (capI_spec hq82) rfl rfl rfl rfl rfl ?_
                    refine TL_pure rfl rfl rfl rfl (op_nilCheck rfl rfl) ?_
                    refine TL_pure rfl rfl rfl rfl (op_fieldAddr fa107_1 rfl rfl) ?_
                    refine TL_store_box sz26 rfl rfl rfl rfl rfl rfl rfl rfl rfl ?_
                    refine TL_nil ?_
                    refine T_region ?_
                    refine TL_pure rfl rfl rfl rfl (op_move rfl) ?_
                    refine TL_pure rfl rfl rfl rfl (op_subW rfl rfl) ?_
                    refine TL_pure rfl rfl rfl rfl (op_assign rfl) ?_
                    refine TL_nil ?_
                    refine TR_keepH [0, 2, 8] [172, 173, 492, 652, 70003, 70004] rfl rfl rfl rfl (by rw [hF]; rfl) ?_
                    refine TR_undeep 492 (p' := false) (by rw [hF]; rfl) rfl (ElR.map (f := a_i64) (g := a_i64) (fun _ => ⟨⟨rfl, rfl⟩, trivial⟩) (s0.2.2.2.2.2.2.set ((s0.2.2.2.2.1).toNat) (w64 (x69 + (1 : Int))))) rfl ?_
                    obtain rfl := someI hm
                    have hn := CtlOK_next hc0
                    exact hn _ rfl
                  · replace hm := condF hq hm
                    refine T_skip ?_
                    refine T_region ?_
                    refine TL_pure rfl rfl rfl rfl (op_move rfl) ?_
                    refine TL_pure rfl rfl rfl rfl (op_subW rfl rfl) ?_
                    refine TL_pure rfl rfl rfl rfl (op_assign rfl) ?_
                    refine TL_nil ?_
                    refine TR_keepH [0, 2, 8] [172, 173, 492, 652, 70003, 70004] rfl rfl rfl rfl (by rw [hF]; rfl) ?_
                    refine TR_undeep 492 (p' := false) (by rw [hF]; rfl) rfl (ElR.map (f := a_i64) (g := a_i64) (fun _ => ⟨⟨rfl, rfl⟩, trivial⟩) (s0.2.2.2.2.2.2.set ((s0.2.2.2.2.1).toNat) (w64 (x69 + (1 : Int))))) rfl ?_
                    refine TR_undeep 70004 (p' := false) (by rw [hF]; rfl) rfl (ElR.map (f := a_i64) (g := a_i64) (fun _ => ⟨⟨rfl, rfl⟩, trivial⟩) s0.2.2.2.2.2.1) rfl ?_
                    obtain rfl := someI hm
                    have hn := CtlOK_next hc0
                    exact hn _ rfl
        · refine T_drawZ [] mix (by kernel_rfl) rfl ?_
          obtain ⟨r26, hr26, hm⟩ := bindS hm
          obtain ⟨k30, hk30, hm⟩ := bindS hm
          refine TZ_pure 0 (by kernel_rfl) rfl rfl rfl rfl rfl (op_load_agg ag28 sz28 rfl rfl rfl) ?_
          refine TZ_pure 3 (by kernel_rfl) rfl rfl rfl rfl rfl (op_move rfl) ?_
          refine TZ_pure 4 (by kernel_rfl) rfl rfl rfl rfl rfl (op_lenT Try.underlying24 rfl (List.length_map _)) ?_
          refine TZ_fact (fun _ _ _ hr => RelP.slLen (i := 28) rfl hr) (fun hlen29 => ?_)
          rw [List.length_map] at hlen29
          refine TZ_cut 5 [true, true, false, true, true, false, false, false, false] ⟨[(0, .sl 2 (List.map a_Instr p0)), (1, .agg [.sl 1 (List.map a_i64 p1.Vars), .sl 1 (List.map a_i64 p1.Cells)]), (2, .int .i64 p2), (4, .ptr 11 0 0), (6, .nilp), (7, .bool false), (12, .sl 2 (List.map a_Instr p0)), (13, .bool r13), (14, .bool (!r13)), (15, .bool false), (16, .agg [.sl 1 (List.map a_i64 p1.Vars), .sl 1 (List.map a_i64 p1.Cells)]), (17, .bool r17), (18, .bool (!r17)), (19, .bool (!r17)), (20, .bool false), (21, .int .i64 p2), (22, .bool r22), (23, .bool (!r22)), (24, .bool (!r22)), (25, .agg [.sl 1 (List.map a_i64 p1.Vars), .sl 1 (List.map a_i64 p1.Cells)]), (26, .agg [.ow 899, .ow 900]), (28, .sl 2 (List.map a_Instr p0)), (29, .int .i64 (p0.length : Int))], [(11, .box [.sl 1 (List.map a_i64 p1.Vars), .sl 1 (List.map a_i64 p1.Cells)]), (899, .arr ⟨false, true⟩ 1 2 (List.map a_i64 r26.Vars)), (900, .arr ⟨false, true⟩ 1 2 (List.map a_i64 r26.Cells))]⟩ ?_ (fun hS738_0 => ?_)
          · refine TZ_pure 2 (by kernel_rfl) rfl rfl rfl rfl rfl (op_buildP pl35 z35 rfl rfl rfl rfl rfl) ?_
            refine TZ_one 5 (by kernel_rfl) rfl ?_
            refine TL_make 1219 (n := k30) el26 z2 rfl rfl rfl rfl rfl rfl (makeI_spec hk30).1 (makeI_spec hk30).1 (makeI_spec hk30).2 rfl rfl rfl rfl ?_
            refine TL_nils 1219 (List.map a_i64 (List.replicate k30 (0 : Int))) (by rw [hF]; rfl) rfl (ElR.rep (z := .int .i64 (0 : Int)) (g := a_i64) (x := (0 : Int)) ⟨⟨rfl, rfl⟩, trivial⟩ k30) rfl ?_
            refine TL_nil ?_
            refine TZ_pure 6 (by kernel_rfl) rfl rfl rfl rfl rfl (op_buildP pl107 z107 rfl rfl rfl rfl rfl) ?_
            refine TZ_one 7 (by kernel_rfl) rfl ?_
            refine TL_box 1379 rfl rfl rfl rfl rfl rfl rfl ?_
            refine TL_nil ?_
            refine TZ_pure 8 (by kernel_rfl) rfl rfl rfl rfl rfl (op_assign rfl) ?_
            refine TZ_done (by kernel_rfl) ?_
            refine T_keepH [0, 2, 8] [899, 900, 1219, 1379] rfl rfl rfl rfl (by rw [hF]; rfl) ?_
            refine T_ren [(899, 172), (900, 173), (1219, 492), (1379, 652)] rfl rfl rfl (by rw [hF]; rfl) ?_
            exact hj0 (r26.Vars, r26.Cells, (List.replicate k30 (0 : Int))) hm
          refine TZ_cut 5 [true, false, false, true, true, true, false, false, false] ⟨[(0, .sl 2 (List.map a_Instr p0)), (1, .agg [.sl 1 (List.map a_i64 p1.Vars), .sl 1 (List.map a_i64 p1.Cells)]), (2, .int .i64 p2), (4, .ptr 11 0 0), (6, .nilp), (7, .bool false), (12, .sl 2 (List.map a_Instr p0)), (13, .bool r13), (14, .bool (!r13)), (15, .bool false), (16, .agg [.sl 1 (List.map a_i64 p1.Vars), .sl 1 (List.map a_i64 p1.Cells)]), (17, .bool r17), (18, .bool (!r17)), (19, .bool (!r17)), (20, .bool false), (21, .int .i64 p2), (22, .bool r22), (23, .bool (!r22)), (24, .bool (!r22)), (25, .agg [.sl 1 (List.map a_i64 p1.Vars), .sl 1 (List.map a_i64 p1.Cells)]), (28, .sl 2 (List.map a_Instr p0)), (29, .int .i64 (p0.length : Int)), (30, .ow 1219)], [(11, .box [.sl 1 (List.map a_i64 p1.Vars), .sl 1 (List.map a_i64 p1.Cells)]), (1219, .arr ⟨false, false⟩ 1 2 (List.map a_i64 (List.replicate k30 (0 : Int))))]⟩ ?_ (fun hS738_1 => ?_)
          · refine TZ_one 1 (by kernel_rfl) rfl ?_
            refine TL_callO [(1000, 899), (1001, 900)] (c_impl_State_own p1 r26 hr26) Try.call123 rfl rfl rfl rfl rfl rfl rfl rfl rfl rfl rfl rfl rfl ?_
            refine TL_nil ?_
            refine TZ_pure 2 (by kernel_rfl) rfl rfl rfl rfl rfl (op_buildP pl35 z35 rfl rfl rfl rfl rfl) ?_
            refine TZ_pure 6 (by kernel_rfl) rfl rfl rfl rfl rfl (op_buildP pl107 z107 rfl rfl rfl rfl rfl) ?_
            refine TZ_one 7 (by kernel_rfl) rfl ?_
            refine TL_box 1379 rfl rfl rfl rfl rfl rfl rfl ?_
            refine TL_nil ?_
            refine TZ_pure 8 (by kernel_rfl) rfl rfl rfl rfl rfl (op_assign rfl) ?_
            refine TZ_done (by kernel_rfl) ?_
            refine T_keepH [0, 2, 8] [899, 900, 1219, 1379] rfl rfl rfl rfl (by rw [hF]; rfl) ?_
            refine T_ren [(899, 172), (900, 173), (1219, 492), (1379, 652)] rfl rfl rfl (by rw [hF]; rfl) ?_
            exact hj0 (r26.Vars, r26.Cells, (List.replicate k30 (0 : Int))) hm
          refine TZ_each [1, 5] (by kernel_rfl) rfl ?_
          refine ⟨?_, ?_⟩
          · refine ⟨_, rfl, ?_⟩
            refine TL_callO [(1000, 899), (1001, 900)] (c_impl_State_own p1 r26 hr26) Try.call123 rfl rfl rfl rfl rfl rfl rfl rfl rfl rfl rfl rfl rfl ?_
            refine TL_nil ?_
            refine TZ_keepH [0, 1, 2, 4, 6, 7, 12, 13, 14, 15, 16, 17, 18, 19, 20, 21, 22, 23, 24, 25, 26, 28, 29] [11, 899, 900] rfl rfl rfl rfl (by rw [hF]; rfl) ?_
            exact hS738_0
          · refine ⟨_, rfl, ?_⟩
            refine TL_make 1219 (n := k30) el26 z2 rfl rfl rfl rfl rfl rfl (makeI_spec hk30).1 (makeI_spec hk30).1 (makeI_spec hk30).2 rfl rfl rfl rfl ?_
            refine TL_nils 1219 (List.map a_i64 (List.replicate k30 (0 : Int))) (by rw [hF]; rfl) rfl (ElR.rep (z := .int .i64 (0 : Int)) (g := a_i64) (x := (0 : Int)) ⟨⟨rfl, rfl⟩, trivial⟩ k30) rfl ?_
            refine TL_nil ?_
            refine TZ_keepH [0, 1, 2, 4, 6, 7, 12, 13, 14, 15, 16, 17, 18, 19, 20, 21, 22, 23, 24, 25, 28, 29, 30] [11, 1219] rfl rfl rfl rfl (by rw [hF]; rfl) ?_
            exact hS738_1
end Go.Mod
