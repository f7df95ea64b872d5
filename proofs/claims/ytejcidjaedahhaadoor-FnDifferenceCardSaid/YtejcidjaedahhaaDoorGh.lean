import Derived.Test.YtejcidjaedahhaaDoorRows
import Derived.Test.YtejcidjaedahhaaDoorGd
import Derived.Test.YtejcidjaedahhaaDoorGe
import Derived.Test.YtejcidjaedahhaaDoorGg
namespace Go.Mod
open Go Go.AM Go.Proofs
set_option linter.unusedVariables false
set_option linter.unusedSimpArgs false
set_option maxRecDepth 100000
set_option maxHeartbeats 8000000
def a_u8 (x : Int) : AV := .int .u8 x
def aLa_u8 (x : List Int) : AV := .sl 1 (List.map a_u8 x)
def a_i64 (x : Int) : AV := .int .i64 x
def aLa_i64 (x : List Int) : AV := .sl 1 (List.map a_i64 x)
def aA2a_i64 (x : Int × Int) : AV := .agg [.int .i64 x.1, .int .i64 x.2]
def a_bool (x : Bool) : AV := .bool x
def aMaA2a_i64a_bool (x : (Int × Int) × Bool) : AV := .tup [.agg [.int .i64 x.1.1, .int .i64 x.1.2], .bool x.2]
def a_spot (x : spot) : AV := .agg [.int .i64 x.pair.1, .int .i64 x.pair.2, .sl 1 (List.map a_i64 x.word)]
def aMaA2a_i64a_i64 (x : (Int × Int) × Int) : AV := .tup [.agg [.int .i64 x.1.1, .int .i64 x.1.2], .int .i64 x.2]
def a_str (x : List UInt8) : AV := .str x
def aMa_stra_i64 (x : (List UInt8) × Int) : AV := .tup [.str x.1, .int .i64 x.2]
def aMa_i64a_i64 (x : Int × Int) : AV := .tup [.int .i64 x.1, .int .i64 x.2]
theorem ag2 : tyAgg Tryd.prog 2 = some false := by kernel_rfl
theorem ag22 : tyAgg Tryd.prog 22 = some false := by kernel_rfl
theorem ag24 : tyAgg Tryd.prog 24 = some false := by kernel_rfl
theorem ag26 : tyAgg Tryd.prog 26 = some true := by kernel_rfl
theorem ag29 : tyAgg Tryd.prog 29 = some false := by kernel_rfl
theorem ag3 : tyAgg Tryd.prog 3 = some false := by kernel_rfl
theorem ag5 : tyAgg Tryd.prog 5 = some false := by kernel_rfl
theorem ag61 : tyAgg Tryd.prog 61 = some false := by kernel_rfl
theorem ag63 : tyAgg Tryd.prog 63 = some true := by kernel_rfl
theorem ag79 : tyAgg Tryd.prog 79 = some false := by kernel_rfl
theorem ag97 : tyAgg Tryd.prog 97 = some false := by kernel_rfl
theorem el22 : tyElem Tryd.prog 22 = some (5, 1) := by kernel_rfl
theorem el24 : tyElem Tryd.prog 24 = some (29, 1) := by kernel_rfl
theorem el29 : tyElem Tryd.prog 29 = some (2, 1) := by kernel_rfl
theorem el61 : tyElem Tryd.prog 61 = some (29, 1) := by kernel_rfl
theorem el91 : tyElem Tryd.prog 91 = some (90, 3) := by kernel_rfl
theorem el93 : tyElem Tryd.prog 93 = some (63, 2) := by kernel_rfl
theorem el97 : tyElem Tryd.prog 97 = some (3, 1) := by kernel_rfl
theorem fa26_0 : tyField Tryd.prog 26 0 = some 0 := by kernel_rfl
theorem fa81_0 : tyField Tryd.prog 81 0 = some 0 := by kernel_rfl
theorem fa81_1 : tyField Tryd.prog 81 1 = some 1 := by kernel_rfl
theorem fa81_2 : tyField Tryd.prog 81 2 = some 2 := by kernel_rfl
theorem fa90_0 : tyField Tryd.prog 90 0 = some 0 := by kernel_rfl
theorem fa90_1 : tyField Tryd.prog 90 1 = some 2 := by kernel_rfl
theorem mix : Tryd.prog.follows .mixedOrders = true := by kernel_rfl
theorem pa63 : tyPlacesA Tryd.prog 63 = some [(0, 1), (1, 1)] := by kernel_rfl
theorem pl26 : tyPlaces Tryd.prog 26 = some [(0, 1)] := by kernel_rfl
theorem pl81 : tyPlaces Tryd.prog 81 = some [(0, 1), (1, 1), (2, 1)] := by kernel_rfl
theorem pl90 : tyPlaces Tryd.prog 90 = some [(0, 2), (2, 1)] := by kernel_rfl
theorem sz2 : tySize Tryd.prog 2 = some 1 := by kernel_rfl
theorem sz24 : tySize Tryd.prog 24 = some 1 := by kernel_rfl
theorem sz26 : tySize Tryd.prog 26 = some 1 := by kernel_rfl
theorem sz29 : tySize Tryd.prog 29 = some 1 := by kernel_rfl
theorem sz3 : tySize Tryd.prog 3 = some 1 := by kernel_rfl
theorem sz63 : tySize Tryd.prog 63 = some 2 := by kernel_rfl
theorem sz79 : tySize Tryd.prog 79 = some 1 := by kernel_rfl
theorem sz97 : tySize Tryd.prog 97 = some 1 := by kernel_rfl
theorem z2 : tyZero Tryd.prog 2 = some (.int .i64 0, 1, 8) := by kernel_rfl
theorem z26 : tyZero Tryd.prog 26 = some (.agg #[.slice none 0 0], 1, 24) := by kernel_rfl
theorem z29 : tyZero Tryd.prog 29 = some (.slice none 0 0, 1, 24) := by kernel_rfl
theorem z3 : tyZero Tryd.prog 3 = some (.int .i64 0, 1, 8) := by kernel_rfl
theorem z4 : tyZero Tryd.prog 4 = some (.bool false, 1, 1) := by kernel_rfl
theorem z63 : tyZero Tryd.prog 63 = some (.agg #[.int .i64 0, .int .i64 0], 2, 16) := by kernel_rfl
theorem z81 : tyZero Tryd.prog 81 = some (.agg #[.slice none 0 0, .int .i64 0, .int .u64 0], 3, 40) := by kernel_rfl
theorem z90 : tyZero Tryd.prog 90 = some (.agg #[.int .i64 0, .int .i64 0, .slice none 0 0], 3, 40) := by kernel_rfl
theorem z97 : tyZero Tryd.prog 97 = some (.slice none 0 0, 1, 24) := by kernel_rfl
theorem c_laws_b10Long (p0 : List Int) (p1 : List Int) (out : Bool) (hm : m_laws_b10Long p0 p1 = some out) : ACall Tryd.prog 8 [.sl 1 (List.map a_u8 p0), .sl 1 (List.map a_u8 p1)] [] (.bool out) [] := by
  refine ACall.intro Tryd.func8 rfl Tryd.ntmps8 rfl (fun F hF => ?_)
  unfold m_laws_b10Long at hm
  refine T_seq ?_
  refine T_region ?_
  refine TL_pure rfl rfl rfl rfl (op_assign rfl) ?_
  refine TL_nil ?_
  refine T_seq ?_
  refine T_region ?_
  refine TL_pure rfl rfl rfl rfl (op_move rfl) ?_
  refine TL_pure rfl rfl rfl rfl (op_lenT Tryd.underlying22 rfl (List.length_map _)) ?_
  refine TL_fact (fun _ _ _ hr => RelP.slLen (i := 5) rfl hr) (fun hlen6 => ?_)
  rw [List.length_map] at hlen6
  refine TL_pure rfl rfl rfl rfl (op_gtr rfl rfl) ?_
  refine TL_pure rfl rfl rfl rfl (op_move rfl) ?_
  refine TL_join 4 (fun _ : Unit => ⟨[(12, .bool ((decide ((1048576 : Int) < (p0.length : Int))) || (decide ((1048576 : Int) < (p1.length : Int)))))], []⟩) (fun _ => True) (fun _ _ => ?_) (fun hjj => ?_)
  · refine TL_pure rfl rfl rfl rfl (op_assign rfl) ?_
    refine TL_nil ?_
    refine T_keepH [4] [] rfl rfl rfl rfl (by rw [hF]; rfl) ?_
    refine T_ret ?_
    obtain rfl := someI hm
    refine ⟨[_], [], ⟨rfl, trivial⟩, ?_, rfl, rfl, rfl, rfl⟩
    rfl
  · refine TL_split 8 rfl rfl rfl (fun hq => ?_) (fun hq => ?_)
    · refine TL_pass rfl rfl rfl rfl rfl rfl rfl ?_
      refine TL_pass rfl rfl rfl rfl rfl rfl rfl ?_
      refine TL_pass rfl rfl rfl rfl rfl rfl rfl ?_
      refine TL_pure rfl rfl rfl rfl (op_pick_true rfl rfl) ?_
      refine TL_keepH [12] [] rfl rfl rfl rfl (by rw [hF]; rfl) ?_
      exact TL_cast _ (by first | (rw [hq, Bool.true_or]; done) | (rw [hq]; rfl)) (hjj () trivial)
    · refine TL_want rfl rfl ?_
      refine TL_pure rfl rfl rfl rfl (op_move rfl) ?_
      refine TL_want rfl rfl ?_
      refine TL_pure rfl rfl rfl rfl (op_lenT Tryd.underlying22 rfl (List.length_map _)) ?_
      refine TL_fact (fun _ _ _ hr => RelP.slLen (i := 9) rfl hr) (fun hlen10 => ?_)
      rw [List.length_map] at hlen10
      refine TL_want rfl rfl ?_
      refine TL_pure rfl rfl rfl rfl (op_gtr rfl rfl) ?_
      refine TL_pure rfl rfl rfl rfl (op_pick_false rfl rfl) ?_
      refine TL_keepH [12] [] rfl rfl rfl rfl (by rw [hF]; rfl) ?_
      exact TL_cast _ (by first | (rw [hq, Bool.false_or]; done) | (rw [hq]; rfl)) (hjj () trivial)
theorem c_spec_l00From (p0 : List Int) (out : l00Src) (hm : m_spec_l00From p0 = some out) : ACall Tryd.prog 27 [.sl 1 (List.map a_u8 p0)] [] (.ptr 1000 0 0) [(1000, .box [.sl 1 (List.map a_u8 out.code), .int .i64 out.at_, .int .u64 out.seed])] := by
  refine ACall.intro Tryd.func27 rfl Tryd.ntmps27 rfl (fun F hF => ?_)
  unfold m_spec_l00From at hm
  refine T_seq ?_
  refine T_region ?_
  refine TL_pure rfl rfl rfl rfl (op_assign rfl) ?_
  refine TL_nil ?_
  refine T_seq ?_
  refine T_region ?_
  refine TL_pure rfl rfl rfl rfl (op_move rfl) ?_
  refine TL_pure rfl rfl rfl rfl (op_buildP pl81 z81 rfl rfl rfl rfl rfl) ?_
  refine TL_box 11 rfl rfl rfl rfl rfl rfl rfl ?_
  refine TL_pure rfl rfl rfl rfl (op_assign rfl) ?_
  refine TL_nil ?_
  refine T_keepH [2] [11] rfl rfl rfl rfl (by rw [hF]; rfl) ?_
  refine T_ren [(11, 1000)] rfl rfl rfl (by rw [hF]; rfl) ?_
  refine T_ret ?_
  obtain rfl := someI hm
  refine ⟨[_], [1000], ⟨rfl, trivial⟩, ?_, rfl, rfl, rfl, rfl⟩
  rfl
theorem c_spec_l00Src_next (p0 : l00Src) (out : Int × l00Src) (hm : m_spec_l00Src_next p0 = some out) : ACall Tryd.prog 58 [.ptr 0 0 0] [(0, .box [.sl 1 (List.map a_u8 p0.code), .int .i64 p0.at_, .int .u64 p0.seed])] (.int .i64 out.1) [(0, .box [.sl 1 (List.map a_u8 out.2.code), .int .i64 out.2.at_, .int .u64 out.2.seed])] := by
  refine ACall.intro Tryd.func58 rfl Tryd.ntmps58 rfl (fun F hF => ?_)
  unfold m_spec_l00Src_next at hm
  refine T_seq ?_
  refine T_region ?_
  refine TL_pure rfl rfl rfl rfl (op_assign rfl) ?_
  refine TL_nil ?_
  refine T_seq ?_
  refine T_region ?_
  refine TL_pure rfl rfl rfl rfl (op_assign rfl) ?_
  refine TL_nil ?_
  refine T_join (fun (j0 : Int) => ⟨[(0, .ptr 0 0 0), (3, .int .i64 j0)], [(0, .box [.sl 1 (List.map a_u8 p0.code), .int .i64 p0.at_, .int .u64 p0.seed])]⟩) (fun j0 => m_spec_l00Src_next_J0 p0 j0 = some out) (fun j0 hm => ?_) (fun hj0 => ?_)
  · unfold m_spec_l00Src_next_J0 at hm
    refine T_seq ?_
    refine T_region ?_
    refine TL_pure rfl rfl rfl rfl (op_move rfl) ?_
    refine TL_pure rfl rfl rfl rfl (op_nilCheck rfl rfl) ?_
    refine TL_pure rfl rfl rfl rfl (op_fieldAddr fa81_1 rfl rfl) ?_
    refine TL_pure rfl rfl rfl rfl (op_load_one ag3 rfl rfl) ?_
    refine TL_pure rfl rfl rfl rfl (op_addW rfl rfl) ?_
    refine TL_pure rfl rfl rfl rfl (op_nilCheck rfl rfl) ?_
    refine TL_pure rfl rfl rfl rfl (op_fieldAddr fa81_1 rfl rfl) ?_
    refine TL_store_box sz3 rfl rfl rfl rfl rfl rfl rfl rfl rfl ?_
    refine TL_nil ?_
    refine T_seq ?_
    refine T_region ?_
    refine TL_pure rfl rfl rfl rfl (op_move rfl) ?_
    refine TL_pure rfl rfl rfl rfl (op_move rfl) ?_
    refine TL_pure rfl rfl rfl rfl (op_nilCheck rfl rfl) ?_
    refine TL_pure rfl rfl rfl rfl (op_fieldAddr fa81_2 rfl rfl) ?_
    refine TL_pure rfl rfl rfl rfl (op_load_one ag79 rfl rfl) ?_
    refine TL_pure rfl rfl rfl rfl (op_mulK wrap_u64 rfl rfl) ?_
    refine TL_pure rfl rfl rfl rfl (op_move rfl) ?_
    refine TL_pure rfl rfl rfl rfl (op_convK wrap_u64 ⟨_, Tryd.underlying3⟩ Tryd.underlying79 rfl) ?_
    refine TL_pure rfl rfl rfl rfl (op_addK wrap_u64 rfl rfl) ?_
    refine TL_pure rfl rfl rfl rfl (op_addK wrap_u64 rfl rfl) ?_
    refine TL_pure rfl rfl rfl rfl (op_nilCheck rfl rfl) ?_
    refine TL_pure rfl rfl rfl rfl (op_fieldAddr fa81_2 rfl rfl) ?_
    refine TL_store_box sz79 rfl rfl rfl rfl rfl rfl rfl rfl rfl ?_
    refine TL_nil ?_
    refine T_seq ?_
    refine T_seq ?_
    refine T_drawZ [] mix (by kernel_rfl) rfl ?_
    refine TZ_pure 0 (by kernel_rfl) rfl rfl rfl rfl rfl (op_move rfl) ?_
    refine TZ_pure 1 (by kernel_rfl) rfl rfl rfl rfl rfl (op_nilCheck rfl rfl) ?_
    refine TZ_pure 2 (by kernel_rfl) rfl rfl rfl rfl rfl (op_fieldAddr fa81_1 rfl rfl) ?_
    refine TZ_pure 3 (by kernel_rfl) rfl rfl rfl rfl rfl (op_load_one ag3 rfl rfl) ?_
    refine TZ_pure 4 (by kernel_rfl) rfl rfl rfl rfl rfl (op_move rfl) ?_
    refine TZ_pure 5 (by kernel_rfl) rfl rfl rfl rfl rfl (op_nilCheck rfl rfl) ?_
    refine TZ_pure 6 (by kernel_rfl) rfl rfl rfl rfl rfl (op_fieldAddr fa81_0 rfl rfl) ?_
    refine TZ_pure 7 (by kernel_rfl) rfl rfl rfl rfl rfl (op_load_one ag22 rfl rfl) ?_
    refine TZ_pure 8 (by kernel_rfl) rfl rfl rfl rfl rfl (op_lenT Tryd.underlying22 rfl (List.length_map _)) ?_
    refine TZ_fact (fun _ _ _ hr => RelP.slLen (i := 51) rfl hr) (fun hlen52 => ?_)
    rw [List.length_map] at hlen52
    refine TZ_pure 9 (by kernel_rfl) rfl rfl rfl rfl rfl (op_leq rfl rfl) ?_
    refine TZ_done (by kernel_rfl) ?_
    refine T_cond rfl (fun hq => ?_) (fun hq => ?_)
    · replace hm := condT hq hm
      refine T_seq ?_
      refine T_region ?_
      refine TL_pure rfl rfl rfl rfl (op_move rfl) ?_
      refine TL_pure rfl rfl rfl rfl (op_assign rfl) ?_
      refine TL_nil ?_
      refine T_keepH [2] [0] rfl rfl rfl rfl (by rw [hF]; rfl) ?_
      refine T_ret ?_
      obtain rfl := someI hm
      refine ⟨[_], [0], ⟨rfl, trivial⟩, ?_, rfl, rfl, rfl, rfl⟩
      rfl
    · replace hm := condF hq hm
      refine T_skip ?_
      refine T_seq ?_
      refine T_region ?_
      refine TL_pure rfl rfl rfl rfl (op_move rfl) ?_
      refine TL_pure rfl rfl rfl rfl (op_nilCheck rfl rfl) ?_
      refine TL_pure rfl rfl rfl rfl (op_fieldAddr fa81_2 rfl rfl) ?_
      refine TL_pure rfl rfl rfl rfl (op_load_one ag79 rfl rfl) ?_
      refine TL_pure rfl rfl rfl rfl (op_shrC (n := 40) rfl (by decide) rfl rfl) ?_
      refine TL_pure rfl rfl rfl rfl (op_andU rfl rfl) ?_
      refine TL_pure rfl rfl rfl rfl (op_convW ⟨_, Tryd.underlying79⟩ Tryd.underlying2 rfl) ?_
      refine TL_pure rfl rfl rfl rfl (op_assign rfl) ?_
      refine TL_nil ?_
      refine T_keepH [2] [0] rfl rfl rfl rfl (by rw [hF]; rfl) ?_
      refine T_ret ?_
      obtain rfl := someI hm
      refine ⟨[_], [0], ⟨rfl, trivial⟩, ?_, rfl, rfl, rfl, rfl⟩
      rfl
  · refine T_seq ?_
    refine T_drawZ [] mix (by kernel_rfl) rfl ?_
    refine TZ_pure 0 (by kernel_rfl) rfl rfl rfl rfl rfl (op_move rfl) ?_
    refine TZ_pure 1 (by kernel_rfl) rfl rfl rfl rfl rfl (op_nilCheck rfl rfl) ?_
    refine TZ_pure 2 (by kernel_rfl) rfl rfl rfl rfl rfl (op_fieldAddr fa81_1 rfl rfl) ?_
    refine TZ_pure 3 (by kernel_rfl) rfl rfl rfl rfl rfl (op_load_one ag3 rfl rfl) ?_
    refine TZ_pure 4 (by kernel_rfl) rfl rfl rfl rfl rfl (op_move rfl) ?_
    refine TZ_pure 5 (by kernel_rfl) rfl rfl rfl rfl rfl (op_nilCheck rfl rfl) ?_
    refine TZ_pure 6 (by kernel_rfl) rfl rfl rfl rfl rfl (op_fieldAddr fa81_0 rfl rfl) ?_
    refine TZ_pure 7 (by kernel_rfl) rfl rfl rfl rfl rfl (op_load_one ag22 rfl rfl) ?_
    refine TZ_pure 8 (by kernel_rfl) rfl rfl rfl rfl rfl (op_lenT Tryd.underlying22 rfl (List.length_map _)) ?_
    refine TZ_fact (fun _ _ _ hr => RelP.slLen (i := 11) rfl hr) (fun hlen12 => ?_)
    rw [List.length_map] at hlen12
    refine TZ_pure 9 (by kernel_rfl) rfl rfl rfl rfl rfl (op_lss rfl rfl) ?_
    refine TZ_done (by kernel_rfl) ?_
    refine T_cond rfl (fun hq => ?_) (fun hq => ?_)
    · replace hm := condT hq hm
      refine T_drawZ [] mix (by kernel_rfl) rfl ?_
      obtain ⟨x22, hx22, hm⟩ := bindS hm
      refine TZ_pure 0 (by kernel_rfl) rfl rfl rfl rfl rfl (op_move rfl) ?_
      refine TZ_pure 1 (by kernel_rfl) rfl rfl rfl rfl rfl (op_nilCheck rfl rfl) ?_
      refine TZ_pure 2 (by kernel_rfl) rfl rfl rfl rfl rfl (op_fieldAddr fa81_0 rfl rfl) ?_
      refine TZ_pure 3 (by kernel_rfl) rfl rfl rfl rfl rfl (op_load_one ag22 rfl rfl) ?_
      refine TZ_pure 4 (by kernel_rfl) rfl rfl rfl rfl rfl (op_move rfl) ?_
      refine TZ_pure 5 (by kernel_rfl) rfl rfl rfl rfl rfl (op_nilCheck rfl rfl) ?_
      refine TZ_pure 6 (by kernel_rfl) rfl rfl rfl rfl rfl (op_fieldAddr fa81_1 rfl rfl) ?_
      refine TZ_pure 7 (by kernel_rfl) rfl rfl rfl rfl rfl (op_load_one ag3 rfl rfl) ?_
      refine TZ_pure 8 (by kernel_rfl) rfl rfl rfl rfl rfl (op_indexT el22 rfl rfl hx22 rfl) ?_
      refine TZ_pure 9 (by kernel_rfl) rfl rfl rfl rfl rfl (op_load_one ag5 rfl rfl) ?_
      refine TZ_pure 10 (by kernel_rfl) rfl rfl rfl rfl rfl (op_convW ⟨_, Tryd.underlying5⟩ Tryd.underlying3 rfl) ?_
      refine TZ_pure 11 (by kernel_rfl) rfl rfl rfl rfl rfl (op_assign rfl) ?_
      refine TZ_done (by kernel_rfl) ?_
      refine T_keepH [0, 3] [0] rfl rfl rfl rfl (by rw [hF]; rfl) ?_
      exact hj0 (w64 x22) hm
    · replace hm := condF hq hm
      refine T_skip ?_
      refine T_keepH [0, 3] [0] rfl rfl rfl rfl (by rw [hF]; rfl) ?_
      exact hj0 (0 : Int) hm
theorem c_spec_l00Src_pick (p0 : l00Src) (p1 : Int) (out : Int × l00Src) (hm : m_spec_l00Src_pick p0 p1 = some out) : ACall Tryd.prog 30 [.ptr 0 0 0, .int .i64 p1] [(0, .box [.sl 1 (List.map a_u8 p0.code), .int .i64 p0.at_, .int .u64 p0.seed])] (.int .i64 out.1) [(0, .box [.sl 1 (List.map a_u8 out.2.code), .int .i64 out.2.at_, .int .u64 out.2.seed])] := by
  refine ACall.intro Tryd.func30 rfl Tryd.ntmps30 rfl (fun F hF => ?_)
  unfold m_spec_l00Src_pick at hm
  refine T_seq ?_
  refine T_region ?_
  refine TL_pure rfl rfl rfl rfl (op_assign rfl) ?_
  refine TL_nil ?_
  refine T_seq ?_
  refine T_seq ?_
  refine T_region ?_
  refine TL_pure rfl rfl rfl rfl (op_move rfl) ?_
  refine TL_pure rfl rfl rfl rfl (op_leq rfl rfl) ?_
  refine TL_nil ?_
  refine T_cond rfl (fun hq => ?_) (fun hq => ?_)
  · replace hm := condT hq hm
    refine T_seq ?_
    refine T_region ?_
    refine TL_pure rfl rfl rfl rfl (op_assign rfl) ?_
    refine TL_nil ?_
    refine T_keepH [4] [0] rfl rfl rfl rfl (by rw [hF]; rfl) ?_
    refine T_ret ?_
    obtain rfl := someI hm
    refine ⟨[_], [0], ⟨rfl, trivial⟩, ?_, rfl, rfl, rfl, rfl⟩
    rfl
  · replace hm := condF hq hm
    refine T_skip ?_
    refine T_seq ?_
    refine T_region ?_
    refine TL_pure rfl rfl rfl rfl (op_move rfl) ?_
    obtain ⟨r9, hr9, hm⟩ := bindS hm
    refine TL_call [(0, 0)] [] [] (ACall.F (F := F) (c_spec_l00Src_next p0 r9 hr9)) Tryd.call58 rfl rfl rfl rfl rfl ⟨rfl, trivial⟩ rfl rfl rfl rfl rfl rfl rfl rfl rfl rfl rfl ?_
    refine TL_pure rfl rfl rfl rfl (op_assign rfl) ?_
    refine TL_nil ?_
    refine T_seq ?_
    refine T_seq ?_
    refine T_region ?_
    refine TL_pure rfl rfl rfl rfl (op_move rfl) ?_
    refine TL_pure rfl rfl rfl rfl (op_gtr rfl rfl) ?_
    refine TL_nil ?_
    refine T_cond rfl (fun hq => ?_) (fun hq => ?_)
    · replace hm := condT hq hm
      refine T_region ?_
      refine TL_pure rfl rfl rfl rfl (op_move rfl) ?_
      refine TL_pure rfl rfl rfl rfl (op_mulW rfl rfl) ?_
      refine TL_pure rfl rfl rfl rfl (op_move rfl) ?_
      obtain ⟨r15, hr15, hm⟩ := bindS hm
      refine TL_call [(0, 0)] [] [] (ACall.F (F := F) (c_spec_l00Src_next r9.2 r15 hr15)) Tryd.call58 rfl rfl rfl rfl rfl ⟨rfl, trivial⟩ rfl rfl rfl rfl rfl rfl rfl rfl rfl rfl rfl ?_
      refine TL_pure rfl rfl rfl rfl (op_addW rfl rfl) ?_
      refine TL_pure rfl rfl rfl rfl (op_assign rfl) ?_
      refine TL_nil ?_
      refine T_seq ?_
      refine T_region ?_
      refine TL_pure rfl rfl rfl rfl (op_move rfl) ?_
      refine TL_pure rfl rfl rfl rfl (op_move rfl) ?_
      obtain ⟨q19, hq19, hm⟩ := bindS hm
      refine TL_pure rfl rfl rfl rfl (op_remT rfl rfl hq19) ?_
      refine TL_pure rfl rfl rfl rfl (op_assign rfl) ?_
      refine TL_nil ?_
      refine T_keepH [4] [0] rfl rfl rfl rfl (by rw [hF]; rfl) ?_
      refine T_ret ?_
      obtain rfl := someI hm
      refine ⟨[_], [0], ⟨rfl, trivial⟩, ?_, rfl, rfl, rfl, rfl⟩
      rfl
    · replace hm := condF hq hm
      refine T_skip ?_
      refine T_seq ?_
      refine T_region ?_
      refine TL_pure rfl rfl rfl rfl (op_move rfl) ?_
      refine TL_pure rfl rfl rfl rfl (op_move rfl) ?_
      obtain ⟨q19, hq19, hm⟩ := bindS hm
      refine TL_pure rfl rfl rfl rfl (op_remT rfl rfl hq19) ?_
      refine TL_pure rfl rfl rfl rfl (op_assign rfl) ?_
      refine TL_nil ?_
      refine T_keepH [4] [0] rfl rfl rfl rfl (by rw [hF]; rfl) ?_
      refine T_ret ?_
      obtain rfl := someI hm
      refine ⟨[_], [0], ⟨rfl, trivial⟩, ?_, rfl, rfl, rfl, rfl⟩
      rfl
theorem c_spec_l00Src_one (p0 : l00Src) (p1 : Int) (out : Bool × l00Src) (hm : m_spec_l00Src_one p0 p1 = some out) : ACall Tryd.prog 55 [.ptr 0 0 0, .int .i64 p1] [(0, .box [.sl 1 (List.map a_u8 p0.code), .int .i64 p0.at_, .int .u64 p0.seed])] (.bool out.1) [(0, .box [.sl 1 (List.map a_u8 out.2.code), .int .i64 out.2.at_, .int .u64 out.2.seed])] := by
  refine ACall.intro Tryd.func55 rfl Tryd.ntmps55 rfl (fun F hF => ?_)
  unfold m_spec_l00Src_one at hm
  refine T_seq ?_
  refine T_region ?_
  refine TL_pure rfl rfl rfl rfl (op_assign rfl) ?_
  refine TL_nil ?_
  refine T_seq ?_
  refine T_region ?_
  refine TL_pure rfl rfl rfl rfl (op_move rfl) ?_
  refine TL_pure rfl rfl rfl rfl (op_move rfl) ?_
  obtain ⟨r7, hr7, hm⟩ := bindS hm
  refine TL_call [(0, 0)] [] [] (ACall.F (F := F) (c_spec_l00Src_pick p0 p1 r7 hr7)) Tryd.call30 rfl rfl rfl rfl rfl ⟨rfl, trivial⟩ rfl rfl rfl rfl rfl rfl rfl rfl rfl rfl rfl ?_
  refine TL_pure rfl rfl rfl rfl (op_eql rfl rfl) ?_
  refine TL_pure rfl rfl rfl rfl (op_assign rfl) ?_
  refine TL_nil ?_
  refine T_keepH [4] [0] rfl rfl rfl rfl (by rw [hF]; rfl) ?_
  refine T_ret ?_
  obtain rfl := someI hm
  refine ⟨[_], [0], ⟨rfl, trivial⟩, ?_, rfl, rfl, rfl, rfl⟩
  rfl
theorem c_spec_l10DrawOk (p0 : l00Src) (out : Policy × l00Src) (hm : m_spec_l10DrawOk p0 = some out) : ACall Tryd.prog 79 [.ptr 0 0 0] [(0, .box [.sl 1 (List.map a_u8 p0.code), .int .i64 p0.at_, .int .u64 p0.seed])] (.agg [.ow 1000]) [(0, .box [.sl 1 (List.map a_u8 out.2.code), .int .i64 out.2.at_, .int .u64 out.2.seed]), (1000, .arr ⟨false, true⟩ 1 29 (List.map aLa_i64 out.1.Next))] := by
  refine ACall.intro Tryd.func79 rfl Tryd.ntmps79 rfl (fun F hF => ?_)
  unfold m_spec_l10DrawOk at hm
  refine T_seq ?_
  refine T_region ?_
  refine TL_alloc 11 z26 rfl rfl rfl rfl rfl rfl rfl ?_
  refine TL_nil ?_
  refine T_seq ?_
  refine T_region ?_
  refine TL_pure rfl rfl rfl rfl (op_move rfl) ?_
  obtain ⟨r11, hr11, hm⟩ := bindS hm
  refine TL_call [(0, 0)] [] [] (ACall.F (F := F) (c_spec_l00Src_pick p0 (4 : Int) r11 hr11)) Tryd.call30 rfl rfl rfl rfl rfl ⟨rfl, trivial⟩ rfl rfl rfl rfl rfl rfl rfl rfl rfl rfl rfl ?_
  refine TL_pure rfl rfl rfl rfl (op_addW rfl rfl) ?_
  refine TL_pure rfl rfl rfl rfl (op_assign rfl) ?_
  refine TL_nil ?_
  refine T_join (fun (j0 : (List Int) × Int × Int × Int) => ⟨[(0, .ptr 0 0 0), (2, .ptr 11 0 0), (3, .int .i64 j0.2.2.2)], [(0, .box [.sl 1 (List.map a_u8 j0.1), .int .i64 j0.2.1, .int .u64 j0.2.2.1]), (11, .box [.snil])]⟩) (fun j0 => m_spec_l10DrawOk_J0 j0 = some out) (fun j0 hm => ?_) (fun hj0 => ?_)
  · unfold m_spec_l10DrawOk_J0 at hm
    refine T_seq ?_
    refine T_region ?_
    refine TL_pure rfl rfl rfl rfl (op_buildP pl26 z26 rfl rfl rfl rfl rfl) ?_
    refine TL_alloc 12 z26 rfl rfl rfl rfl rfl rfl rfl ?_
    refine TL_store_box sz26 rfl rfl rfl rfl rfl rfl rfl rfl rfl ?_
    refine TL_nil ?_
    refine T_seq ?_
    refine T_region ?_
    refine TL_pure rfl rfl rfl rfl (op_move rfl) ?_
    obtain ⟨r17, hr17, hm⟩ := bindS hm
    refine TL_call [(0, 0)] [] [] (ACall.F (F := F) (c_spec_l00Src_pick (l00Src.mk j0.1 j0.2.1 j0.2.2.1) (5 : Int) r17 hr17)) Tryd.call30 rfl rfl rfl rfl rfl ⟨rfl, trivial⟩ rfl rfl rfl rfl rfl rfl rfl rfl rfl rfl rfl ?_
    refine TL_pure rfl rfl rfl rfl (op_addW rfl rfl) ?_
    refine TL_pure rfl rfl rfl rfl (op_assign rfl) ?_
    refine TL_nil ?_
    refine T_seq ?_
    refine T_seq ?_
    refine T_region ?_
    refine TL_pure rfl rfl rfl rfl (op_assign rfl) ?_
    refine TL_nil ?_
    refine T_block ?_
    refine T_ownNilBox 12 0 38 ⟨false, true⟩ 29 rfl rfl rfl (sz := 1) rfl rfl rfl rfl ?_
    refine T_keepH [0, 2, 3, 4, 5, 6] [0, 11, 12, 38] rfl rfl rfl rfl (by rw [hF]; rfl) ?_
    refine T_ren [(0, 0), (11, 11), (12, 12), (38, 70003)] rfl rfl rfl (by rw [hF]; rfl) ?_
    refine T_loop ?_
    obtain ⟨u0, hl0, hm⟩ := bindS hm
    refine TR_iter2 (m_spec_l10DrawOk_L0 j0 r17) (fun (s0 : (List Int) × Int × Int × (List (List Int)) × Int) => ⟨[(0, .ptr 0 0 0), (2, .ptr 11 0 0), (3, .int .i64 j0.2.2.2), (4, .ptr 12 0 0), (5, .int .i64 (w64 ((2 : Int) + r17.1))), (6, .int .i64 s0.2.2.2.2)], [(0, .box [.sl 1 (List.map a_u8 s0.1), .int .i64 s0.2.1, .int .u64 s0.2.2.1]), (11, .box [.snil]), (12, .box [.ow 70003]), (70003, .arr ⟨false, true⟩ 1 29 (List.map aLa_i64 s0.2.2.2.1))]⟩) (fun u0 => .exit 0) (fun u0 => ⟨[(2, .ptr 11 0 0), (4, .ptr 12 0 0)], [(0, .box [.sl 1 (List.map a_u8 u0.2.1), .int .i64 u0.2.2.1, .int .u64 u0.2.2.2]), (11, .box [.snil]), (12, .box [.ow 70003]), (70003, .arr ⟨false, true⟩ 1 29 (List.map aLa_i64 u0.1))]⟩) (fun u0 => m_spec_l10DrawOk_A0 u0 = some out) hl0 hm (fun u0 hm => ?_) (fun hx0 s0 c0 hm hc0 => ?_)
    · unfold m_spec_l10DrawOk_A0 at hm
      refine T_seq ?_
      refine T_region ?_
      refine TL_pure rfl rfl rfl rfl (op_load_agg ag26 sz26 rfl rfl rfl) ?_
      refine TL_store_box sz26 rfl rfl rfl rfl rfl rfl rfl rfl rfl ?_
      refine TL_nil ?_
      refine T_keepH [2] [0, 11, 70003] rfl rfl rfl rfl (by rw [hF]; rfl) ?_
      refine T_ren [(0, 0), (11, 11), (70003, 1000)] rfl rfl rfl (by rw [hF]; rfl) ?_
      refine T_ret ?_
      obtain rfl := someI hm
      refine ⟨[_], [0, 1000], ⟨⟨_, _, rfl, rfl, .inr ⟨ag26, _, _, sz26, rfl, rfl⟩⟩, trivial⟩, ?_, rfl, rfl, rfl, rfl⟩
      rfl
    · unfold m_spec_l10DrawOk_L0 at hm
      refine T_seq ?_
      refine T_seq ?_
      refine T_region ?_
      refine TL_pure rfl rfl rfl rfl (op_move rfl) ?_
      refine TL_pure rfl rfl rfl rfl (op_move rfl) ?_
      refine TL_pure rfl rfl rfl rfl (op_lss rfl rfl) ?_
      refine TL_nil ?_
      refine T_cond rfl (fun hq => ?_) (fun hq => ?_)
      · replace hm := condT hq hm
        refine T_skip ?_
        refine T_seq ?_
        refine T_block ?_
        refine T_seq ?_
        refine T_region ?_
        refine TL_buildSlice 30 (es := List.map a_i64 ([] : List Int)) el29 z2 rfl rfl rfl rfl rfl rfl rfl rfl rfl ?_
        refine TL_pure rfl rfl rfl rfl (op_assign rfl) ?_
        refine TL_nil ?_
        refine T_seq ?_
        refine T_seq ?_
        refine T_region ?_
        refine TL_pure rfl rfl rfl rfl (op_assign rfl) ?_
        refine TL_nil ?_
        refine T_block ?_
        refine T_keepH [0, 2, 3, 4, 5, 6, 7, 8] [0, 11, 12, 30, 70003] rfl rfl rfl rfl (by rw [hF]; rfl) ?_
        refine T_loop ?_
        obtain ⟨u1, hl1, hm⟩ := bindS hm
        refine TR_iter2 (m_spec_l10DrawOk_L1 j0 r17) (fun (s1 : (List Int) × Int × Int × (List Int) × Int) => ⟨[(0, .ptr 0 0 0), (2, .ptr 11 0 0), (3, .int .i64 j0.2.2.2), (4, .ptr 12 0 0), (5, .int .i64 (w64 ((2 : Int) + r17.1))), (6, .int .i64 s0.2.2.2.2), (7, .ow 30), (8, .int .i64 s1.2.2.2.2)], [(0, .box [.sl 1 (List.map a_u8 s1.1), .int .i64 s1.2.1, .int .u64 s1.2.2.1]), (11, .box [.snil]), (12, .box [.ow 70003]), (30, .arr ⟨false, false⟩ 1 2 (List.map a_i64 s1.2.2.2.1)), (70003, .arr ⟨false, true⟩ 1 29 (List.map aLa_i64 s0.2.2.2.1))]⟩) (fun u1 => .exit 2) (fun u1 => ⟨[(0, .ptr 0 0 0), (2, .ptr 11 0 0), (3, .int .i64 j0.2.2.2), (4, .ptr 12 0 0), (5, .int .i64 (w64 ((2 : Int) + r17.1))), (6, .int .i64 s0.2.2.2.2), (7, .ow 30)], [(0, .box [.sl 1 (List.map a_u8 u1.1), .int .i64 u1.2.1, .int .u64 u1.2.2.1]), (11, .box [.snil]), (12, .box [.ow 70003]), (30, .arr ⟨false, false⟩ 1 2 (List.map a_i64 u1.2.2.2)), (70003, .arr ⟨false, true⟩ 1 29 (List.map aLa_i64 s0.2.2.2.1))]⟩) (fun u1 => m_spec_l10DrawOk_A1 s0 u1 = some c0) hl1 hm (fun u1 hm => ?_) (fun hx1 s1 c1 hm hc1 => ?_)
        · unfold m_spec_l10DrawOk_A1 at hm
          refine T_region ?_
          refine TL_pure rfl rfl rfl rfl (op_fieldAddr fa26_0 rfl rfl) ?_
          refine TL_pure rfl rfl rfl rfl (op_load_one ag24 rfl rfl) ?_
          refine TL_pure rfl rfl rfl rfl (op_move rfl) ?_
          refine TL_deepen 30 (p' := false) (List.map a_i64 u1.2.2.2) (by rw [hF]; rfl) rfl (ElR.map (f := a_i64) (g := a_i64) (fun _ => ⟨⟨rfl, rfl⟩, trivial⟩) u1.2.2.2) rfl rfl rfl ?_
          refine TL_buildSliceD (ids := [30]) (es := List.map aLa_i64 [u1.2.2.2]) 37 el24 z29 rfl rfl rfl rfl rfl rfl (by rw [hF]; intro j hj; simp only [List.mem_cons, List.not_mem_nil, or_false] at hj; rcases hj with rfl <;> rfl) rfl rfl rfl rfl rfl rfl ?_
          obtain ⟨q43, hq43, hm⟩ := bindS hm
          refine TL_appendDT (f := aLa_i64) (a := s0.2.2.2.1) (b := [u1.2.2.2]) el24 z29 rfl rfl rfl rfl rfl rfl rfl rfl (by rw [hF]; rfl) (capI_spec hq43) rfl rfl rfl rfl rfl ?_
          refine TL_pure rfl rfl rfl rfl (op_fieldAddr fa26_0 rfl rfl) ?_
          refine TL_store_box sz24 rfl rfl rfl rfl rfl rfl rfl rfl rfl ?_
          refine TL_nil ?_
          refine T_region ?_
          refine TL_pure rfl rfl rfl rfl (op_move rfl) ?_
          refine TL_pure rfl rfl rfl rfl (op_addW rfl rfl) ?_
          refine TL_pure rfl rfl rfl rfl (op_assign rfl) ?_
          refine TL_nil ?_
          refine TR_keepH [0, 2, 3, 4, 5, 6] [0, 11, 12, 70003] rfl rfl rfl rfl (by rw [hF]; rfl) ?_
          obtain rfl := someI hm
          have hn := CtlOK_next hc0
          exact hn _ rfl
        · unfold m_spec_l10DrawOk_L1 at hm
          refine T_seq ?_
          refine T_seq ?_
          refine T_region ?_
          refine TL_pure rfl rfl rfl rfl (op_move rfl) ?_
          refine TL_pure rfl rfl rfl rfl (op_lss rfl rfl) ?_
          refine TL_nil ?_
          refine T_cond rfl (fun hq => ?_) (fun hq => ?_)
          · replace hm := condT hq hm
            refine T_skip ?_
            refine T_seq ?_
            refine T_block ?_
            refine T_seq ?_
            refine T_region ?_
            refine TL_pure rfl rfl rfl rfl (op_move rfl) ?_
            refine TL_pure rfl rfl rfl rfl (op_move rfl) ?_
            obtain ⟨r31, hr31, hm⟩ := bindS hm
            refine TL_call [(0, 0)] [] [] (ACall.F (F := F) (c_spec_l00Src_pick (l00Src.mk s1.1 s1.2.1 s1.2.2.1) j0.2.2.2 r31 hr31)) Tryd.call30 rfl rfl rfl rfl rfl ⟨rfl, trivial⟩ rfl rfl rfl rfl rfl rfl rfl rfl rfl rfl rfl ?_
            refine TL_pure rfl rfl rfl rfl (op_assign rfl) ?_
            refine TL_nil ?_
            refine T_seq ?_
            refine T_seq ?_
            refine T_region ?_
            refine TL_pure rfl rfl rfl rfl (op_move rfl) ?_
            refine TL_pure rfl rfl rfl rfl (op_move rfl) ?_
            obtain ⟨r34, hr34, hm⟩ := bindS hm
            refine TL_call [(0, 0)] [] [] (ACall.F (F := F) (c_spec_l00Src_one r31.2 (w64 ((2 : Int) + r17.1)) r34 hr34)) Tryd.call55 rfl rfl rfl rfl rfl ⟨rfl, trivial⟩ rfl rfl rfl rfl rfl rfl rfl rfl rfl rfl rfl ?_
            refine TL_nil ?_
            refine T_cond rfl (fun hq => ?_) (fun hq => ?_)
            · replace hm := condT hq hm
              refine T_region ?_
              refine TL_pure rfl rfl rfl rfl (op_assign rfl) ?_
              refine TL_nil ?_
              refine T_region ?_
              refine TL_pure rfl rfl rfl rfl (op_move rfl) ?_
              refine TL_pure rfl rfl rfl rfl (op_move rfl) ?_
              refine TL_buildSlice 35 (es := List.map a_i64 [(-1 : Int)]) el29 z2 rfl rfl rfl rfl rfl rfl rfl rfl rfl ?_
              obtain ⟨q38, hq38, hm⟩ := bindS hm
              refine TL_appendT (f := a_i64) (a := s1.2.2.2.1) (b := [(-1 : Int)]) el29 z2 rfl rfl rfl rfl rfl rfl rfl (capI_spec hq38) rfl rfl rfl rfl rfl ?_
              refine TL_pure rfl rfl rfl rfl (op_assign rfl) ?_
              refine TL_nil ?_
              refine T_region ?_
              refine TL_pure rfl rfl rfl rfl (op_move rfl) ?_
              refine TL_pure rfl rfl rfl rfl (op_addW rfl rfl) ?_
              refine TL_pure rfl rfl rfl rfl (op_assign rfl) ?_
              refine TL_nil ?_
              refine TR_keepH [0, 2, 3, 4, 5, 6, 7, 8] [0, 11, 12, 30, 70003] rfl rfl rfl rfl (by rw [hF]; rfl) ?_
              obtain rfl := someI hm
              have hn := CtlOK_next hc1
              exact hn _ rfl
            · replace hm := condF hq hm
              refine T_skip ?_
              refine T_region ?_
              refine TL_pure rfl rfl rfl rfl (op_move rfl) ?_
              refine TL_pure rfl rfl rfl rfl (op_move rfl) ?_
              refine TL_buildSlice 36 (es := List.map a_i64 [r31.1]) el29 z2 rfl rfl rfl rfl rfl rfl rfl rfl rfl ?_
              obtain ⟨q38, hq38, hm⟩ := bindS hm
              refine TL_appendT (f := a_i64) (a := s1.2.2.2.1) (b := [r31.1]) el29 z2 rfl rfl rfl rfl rfl rfl rfl (capI_spec hq38) rfl rfl rfl rfl rfl ?_
              refine TL_pure rfl rfl rfl rfl (op_assign rfl) ?_
              refine TL_nil ?_
              refine T_region ?_
              refine TL_pure rfl rfl rfl rfl (op_move rfl) ?_
              refine TL_pure rfl rfl rfl rfl (op_addW rfl rfl) ?_
              refine TL_pure rfl rfl rfl rfl (op_assign rfl) ?_
              refine TL_nil ?_
              refine TR_keepH [0, 2, 3, 4, 5, 6, 7, 8] [0, 11, 12, 30, 70003] rfl rfl rfl rfl (by rw [hF]; rfl) ?_
              obtain rfl := someI hm
              have hn := CtlOK_next hc1
              exact hn _ rfl
          · replace hm := condF hq hm
            refine T_keepH [0, 2, 3, 4, 5, 6, 7] [0, 11, 12, 30, 70003] rfl rfl rfl rfl (by rw [hF]; rfl) ?_
            refine T_exit ?_
            obtain rfl := someI hm
            have hn := CtlOK_out hc1
            exact hx1 (s1.1, s1.2.1, s1.2.2.1, s1.2.2.2.1) hn
      · replace hm := condF hq hm
        refine T_keepH [2, 4] [0, 11, 12, 70003] rfl rfl rfl rfl (by rw [hF]; rfl) ?_
        refine T_exit ?_
        obtain rfl := someI hm
        have hn := CtlOK_out hc0
        exact hx0 (s0.2.2.2.1, s0.1, s0.2.1, s0.2.2.1) hn
  · refine T_seq ?_
    refine T_region ?_
    refine TL_pure rfl rfl rfl rfl (op_move rfl) ?_
    obtain ⟨r14, hr14, hm⟩ := bindS hm
    refine TL_call [(0, 0)] [] [] (ACall.F (F := F) (c_spec_l00Src_one r11.2 (16 : Int) r14 hr14)) Tryd.call55 rfl rfl rfl rfl rfl ⟨rfl, trivial⟩ rfl rfl rfl rfl rfl rfl rfl rfl rfl rfl rfl ?_
    refine TL_nil ?_
    refine T_cond rfl (fun hq => ?_) (fun hq => ?_)
    · replace hm := condT hq hm
      refine T_region ?_
      refine TL_pure rfl rfl rfl rfl (op_assign rfl) ?_
      refine TL_nil ?_
      refine T_keepH [0, 2, 3] [0, 11] rfl rfl rfl rfl (by rw [hF]; rfl) ?_
      exact hj0 (r14.2.code, r14.2.at_, r14.2.seed, (12 : Int)) hm
    · replace hm := condF hq hm
      refine T_skip ?_
      refine T_keepH [0, 2, 3] [0, 11] rfl rfl rfl rfl (by rw [hF]; rfl) ?_
      exact hj0 (r14.2.code, r14.2.at_, r14.2.seed, (w64 ((1 : Int) + r11.1))) hm
theorem c_spec_l00Src_among (p0 : l00Src) (p1 : List Int) (out : Int × l00Src) (hm : m_spec_l00Src_among p0 p1 = some out) : ACall Tryd.prog 80 [.ptr 0 0 0, .sl 1 (List.map a_i64 p1)] [(0, .box [.sl 1 (List.map a_u8 p0.code), .int .i64 p0.at_, .int .u64 p0.seed])] (.int .i64 out.1) [(0, .box [.sl 1 (List.map a_u8 out.2.code), .int .i64 out.2.at_, .int .u64 out.2.seed])] := by
  refine ACall.intro Tryd.func80 rfl Tryd.ntmps80 rfl (fun F hF => ?_)
  unfold m_spec_l00Src_among at hm
  refine T_seq ?_
  refine T_region ?_
  refine TL_pure rfl rfl rfl rfl (op_assign rfl) ?_
  refine TL_nil ?_
  refine T_seq ?_
  refine T_region ?_
  refine TL_pure rfl rfl rfl rfl (op_move rfl) ?_
  refine TL_pure rfl rfl rfl rfl (op_move rfl) ?_
  refine TL_pure rfl rfl rfl rfl (op_move rfl) ?_
  refine TL_pure rfl rfl rfl rfl (op_lenT Tryd.underlying29 rfl (List.length_map _)) ?_
  refine TL_fact (fun _ _ _ hr => RelP.slLen (i := 7) rfl hr) (fun hlen8 => ?_)
  rw [List.length_map] at hlen8
  obtain ⟨r9, hr9, hm⟩ := bindS hm
  refine TL_call [(0, 0)] [] [] (ACall.F (F := F) (c_spec_l00Src_pick p0 (p1.length : Int) r9 hr9)) Tryd.call30 rfl rfl rfl rfl rfl ⟨rfl, trivial⟩ rfl rfl rfl rfl rfl rfl rfl rfl rfl rfl rfl ?_
  obtain ⟨x10, hx10, hm⟩ := bindS hm
  refine TL_pure rfl rfl rfl rfl (op_indexT el29 rfl rfl hx10 rfl) ?_
  refine TL_pure rfl rfl rfl rfl (op_load_one ag2 rfl rfl) ?_
  refine TL_pure rfl rfl rfl rfl (op_assign rfl) ?_
  refine TL_nil ?_
  refine T_keepH [4] [0] rfl rfl rfl rfl (by rw [hF]; rfl) ?_
  refine T_ret ?_
  obtain rfl := someI hm
  refine ⟨[_], [0], ⟨rfl, trivial⟩, ?_, rfl, rfl, rfl, rfl⟩
  rfl
theorem c_spec_l10Draw (p0 : l00Src) (out : Policy × l00Src) (hm : m_spec_l10Draw p0 = some out) : ACall Tryd.prog 54 [.ptr 0 0 0] [(0, .box [.sl 1 (List.map a_u8 p0.code), .int .i64 p0.at_, .int .u64 p0.seed])] (.agg [.sl 1 (List.map aLa_i64 out.1.Next)]) [(0, .box [.sl 1 (List.map a_u8 out.2.code), .int .i64 out.2.at_, .int .u64 out.2.seed])] := by
  refine ACall.intro Tryd.func54 rfl Tryd.ntmps54 rfl (fun F hF => ?_)
  unfold m_spec_l10Draw at hm
  refine T_seq ?_
  refine T_region ?_
  refine TL_alloc 11 z26 rfl rfl rfl rfl rfl rfl rfl ?_
  refine TL_nil ?_
  refine T_seq ?_
  refine T_region ?_
  refine TL_pure rfl rfl rfl rfl (op_move rfl) ?_
  obtain ⟨r5, hr5, hm⟩ := bindS hm
  refine TL_call [(0, 0)] [(1000, 12)] [] (ACall.F (F := F) (c_spec_l10DrawOk p0 r5 hr5)) Tryd.call79 rfl rfl rfl rfl rfl ⟨rfl, trivial⟩ rfl rfl rfl rfl rfl rfl rfl rfl rfl rfl rfl ?_
  refine TL_alloc 13 z26 rfl rfl rfl rfl rfl rfl rfl ?_
  refine TL_store_box sz26 rfl rfl rfl rfl rfl rfl rfl rfl rfl ?_
  refine TL_nil ?_
  refine T_seq ?_
  refine T_seq ?_
  refine T_region ?_
  refine TL_pure rfl rfl rfl rfl (op_move rfl) ?_
  obtain ⟨r7, hr7, hm⟩ := bindS hm
  refine TL_call [(0, 0)] [] [] (ACall.F (F := F) (c_spec_l00Src_one r5.2 (16 : Int) r7 hr7)) Tryd.call55 rfl rfl rfl rfl rfl ⟨rfl, trivial⟩ rfl rfl rfl rfl rfl rfl rfl rfl rfl rfl rfl ?_
  refine TL_pure rfl rfl rfl rfl (op_not rfl) ?_
  refine TL_nil ?_
  refine T_cond rfl (fun hq => ?_) (fun hq => ?_)
  · replace hm := condT hq hm
    refine T_seq ?_
    refine T_region ?_
    refine TL_pure rfl rfl rfl rfl (op_load_agg ag26 sz26 rfl rfl rfl) ?_
    refine TL_store_box sz26 rfl rfl rfl rfl rfl rfl rfl rfl rfl ?_
    refine TL_nil ?_
    refine T_keepH [2] [0, 11, 12] rfl rfl rfl rfl (by rw [hF]; rfl) ?_
    refine T_freeze 12 (by rw [hF]; rfl) rfl rfl rfl ?_
    refine T_ret ?_
    obtain rfl := someI hm
    refine ⟨[_], [0], ⟨⟨_, _, rfl, rfl, .inr ⟨ag26, _, _, sz26, rfl, rfl⟩⟩, trivial⟩, ?_, rfl, rfl, rfl, rfl⟩
    rfl
  · replace hm := condF hq hm
    refine T_skip ?_
    refine T_seq ?_
    refine T_seq ?_
    refine T_region ?_
    refine TL_pure rfl rfl rfl rfl (op_move rfl) ?_
    obtain ⟨r11, hr11, hm⟩ := bindS hm
    refine TL_call [(0, 0)] [] [] (ACall.F (F := F) (c_spec_l00Src_pick r7.2 (4 : Int) r11 hr11)) Tryd.call30 rfl rfl rfl rfl rfl ⟨rfl, trivial⟩ rfl rfl rfl rfl rfl rfl rfl rfl rfl rfl rfl ?_
    refine TL_nil ?_
    refine T_block ?_
    refine T_seq ?_
    refine T_region ?_
    refine TL_pure rfl rfl rfl rfl (op_eql rfl rfl) ?_
    refine TL_pure rfl rfl rfl rfl (op_assign rfl) ?_
    refine TL_nil ?_
    refine T_cond rfl (fun hq => ?_) (fun hq => ?_)
    · replace hm := condT hq hm
      refine T_region ?_
      refine TL_buildSlice 14 (es := List.map aLa_i64 ([] : List (List Int))) el24 z29 rfl rfl rfl rfl rfl rfl rfl rfl rfl ?_
      refine TL_pure rfl rfl rfl rfl (op_fieldAddr fa26_0 rfl rfl) ?_
      refine TL_store_box sz24 rfl rfl rfl rfl rfl rfl rfl rfl rfl ?_
      refine TL_nil ?_
      refine T_seq ?_
      refine T_region ?_
      refine TL_pure rfl rfl rfl rfl (op_load_agg ag26 sz26 rfl rfl rfl) ?_
      refine TL_store_box sz26 rfl rfl rfl rfl rfl rfl rfl rfl rfl ?_
      refine TL_nil ?_
      refine T_keepH [2] [0, 11, 14] rfl rfl rfl rfl (by rw [hF]; rfl) ?_
      refine T_freeze 14 (by rw [hF]; rfl) rfl rfl rfl ?_
      refine T_ret ?_
      obtain rfl := someI hm
      refine ⟨[_], [0], ⟨⟨_, _, rfl, rfl, .inr ⟨ag26, _, _, sz26, rfl, rfl⟩⟩, trivial⟩, ?_, rfl, rfl, rfl, rfl⟩
      rfl
    · replace hm := condF hq hm
      refine T_seq ?_
      refine T_region ?_
      refine TL_pure rfl rfl rfl rfl (op_eql rfl rfl) ?_
      refine TL_pure rfl rfl rfl rfl (op_assign rfl) ?_
      refine TL_nil ?_
      refine T_cond rfl (fun hq => ?_) (fun hq => ?_)
      · replace hm := condT hq hm
        refine T_drawZ [8] mix (by kernel_rfl) rfl ?_
        obtain ⟨x22, hx22, hm⟩ := bindS hm
        obtain ⟨y24, hy24, hm⟩ := bindS hm
        refine TZ_pure 0 (by kernel_rfl) rfl rfl rfl rfl rfl (op_fieldAddr fa26_0 rfl rfl) ?_
        refine TZ_pure 1 (by kernel_rfl) rfl rfl rfl rfl rfl (op_load_one ag24 rfl rfl) ?_
        refine TZ_pure 2 (by kernel_rfl) rfl rfl rfl rfl rfl (op_fieldAddr fa26_0 rfl rfl) ?_
        refine TZ_pure 3 (by kernel_rfl) rfl rfl rfl rfl rfl (op_load_one ag24 rfl rfl) ?_
        refine TZ_pure 4 (by kernel_rfl) rfl rfl rfl rfl rfl (op_indexO el24 rfl rfl rfl hx22) ?_
        refine TZ_shallow 12 (by rw [hF]; rfl) rfl rfl rfl rfl ?_
        refine TZ_pure 5 (by kernel_rfl) rfl rfl rfl rfl rfl (op_loadT1 ag29 rfl rfl ((getI_spec hx22).2) rfl rfl) ?_
        refine TZ_pure 6 (by kernel_rfl) rfl rfl rfl rfl rfl (op_sliceI el29 rfl ⟨⟨_, rfl⟩, rfl⟩ hy24) ?_
        refine TZ_pure 7 (by kernel_rfl) rfl rfl rfl rfl rfl (op_indexO el24 rfl rfl rfl hx22) ?_
        refine TZ_one 8 (by kernel_rfl) rfl ?_
        refine TL_storeT sz29 rfl rfl ((getI_spec hx22).2) (v' := y24) rfl rfl rfl rfl rfl rfl rfl rfl rfl rfl ?_
        refine TL_nil ?_
        refine TZ_done (by kernel_rfl) ?_
        refine T_seq ?_
        refine T_region ?_
        refine TL_pure rfl rfl rfl rfl (op_load_agg ag26 sz26 rfl rfl rfl) ?_
        refine TL_store_box sz26 rfl rfl rfl rfl rfl rfl rfl rfl rfl ?_
        refine TL_nil ?_
        refine T_keepH [2] [0, 11, 12] rfl rfl rfl rfl (by rw [hF]; rfl) ?_
        refine T_freeze 12 (by rw [hF]; rfl) rfl rfl rfl ?_
        refine T_ret ?_
        obtain rfl := someI hm
        refine ⟨[_], [0], ⟨⟨_, _, rfl, rfl, .inr ⟨ag26, _, _, sz26, rfl, rfl⟩⟩, trivial⟩, ?_, rfl, rfl, rfl, rfl⟩
        rfl
      · replace hm := condF hq hm
        refine T_seq ?_
        refine T_region ?_
        refine TL_pure rfl rfl rfl rfl (op_eql rfl rfl) ?_
        refine TL_pure rfl rfl rfl rfl (op_assign rfl) ?_
        refine TL_nil ?_
        refine T_cond rfl (fun hq => ?_) (fun hq => ?_)
        · replace hm := condT hq hm
          refine T_drawZ [8, 9, 11] mix (by kernel_rfl) rfl ?_
          obtain ⟨x30, hx30, hm⟩ := bindS hm
          obtain ⟨r37, hr37, hm⟩ := bindS hm
          obtain ⟨x38, hx38, hm⟩ := bindS hm
          refine TZ_pure 0 (by kernel_rfl) rfl rfl rfl rfl rfl (op_fieldAddr fa26_0 rfl rfl) ?_
          refine TZ_pure 4 (by kernel_rfl) rfl rfl rfl rfl rfl (op_move rfl) ?_
          refine TZ_pure 5 (by kernel_rfl) rfl rfl rfl rfl rfl (op_fieldAddr fa26_0 rfl rfl) ?_
          refine TZ_cut 6 [true, true, true, true, true, true, false, false, false, false, false, false] ⟨[(0, .ptr 0 0 0), (2, .ptr 11 0 0), (3, .ptr 13 0 0), (4, .ptr 0 0 0), (5, .agg [.ow 12]), (6, .ptr 0 0 0), (7, .bool r7.1), (8, .bool (!r7.1)), (10, .ptr 0 0 0), (11, .int .i64 r11.1), (12, .bool (decide (r11.1 = (0 : Int)))), (13, .bool (decide (r11.1 = (0 : Int)))), (16, .bool (decide (r11.1 = (1 : Int)))), (17, .bool (decide (r11.1 = (1 : Int)))), (26, .bool (decide (r11.1 = (2 : Int)))), (27, .bool (decide (r11.1 = (2 : Int)))), (28, .ptr 13 0 0), (29, .ow 12), (30, .ptr 12 (((0 : Int)).toNat) 0), (31, .sub 12 (((0 : Int)).toNat * 1 + 0)), (32, .ptr 0 0 0), (33, .ptr 13 0 0)], [(0, .box [.sl 1 (List.map a_u8 r11.2.code), .int .i64 r11.2.at_, .int .u64 r11.2.seed]), (11, .box [.snil]), (12, .arr ⟨false, true⟩ 1 29 (List.map aLa_i64 r5.1.Next)), (13, .box [.ow 12])]⟩ ?_ (fun hS14_0 => ?_)
          · refine TZ_one 6 (by kernel_rfl) rfl ?_
            refine TL_pure rfl rfl rfl rfl (op_load_one ag24 rfl rfl) ?_
            refine TL_nil ?_
            refine TZ_pure 7 (by kernel_rfl) rfl rfl rfl rfl rfl (op_lenO Tryd.underlying24 rfl rfl (List.length_map _)) ?_
            refine TZ_fact (fun _ _ _ hr => RelP.owLen (id := 12) rfl hr) (fun hlen35 => ?_)
            rw [List.length_map] at hlen35
            refine TZ_one 8 (by kernel_rfl) rfl ?_
            refine TL_buildSlice 735 (es := List.map a_i64 [(-2 : Int), (r5.1.Next.length : Int), (9223372036854775807 : Int)]) el29 z2 rfl rfl rfl rfl rfl rfl rfl rfl rfl ?_
            refine TL_nil ?_
            refine TZ_one 9 (by kernel_rfl) rfl ?_
            refine TL_freeze 735 (by rw [hF]; rfl) rfl rfl rfl ?_
            refine TL_call [(0, 0)] [] [] (ACall.F (F := F) (c_spec_l00Src_among r11.2 [(-2 : Int), (r5.1.Next.length : Int), (9223372036854775807 : Int)] r37 hr37)) Tryd.call80 rfl rfl rfl rfl rfl ⟨rfl, trivial⟩ rfl rfl rfl rfl rfl rfl rfl rfl rfl rfl rfl ?_
            refine TL_nil ?_
            refine TZ_storeSub (id := 12) 10 11 (i0 := ((0 : Int)).toNat) (j0 := 0) (q := ((0 : Int)).toNat) (e' := aLa_i64 (x30.set ((0 : Int)).toNat r37.1)) (es' := List.map aLa_i64 (r5.1.Next.set (((0 : Int)).toNat) (x30.set ((0 : Int)).toNat r37.1))) (es2 := List.map a_i64 (x30.set ((0 : Int)).toNat r37.1)) (by kernel_rfl) rfl (by kernel_rfl) rfl rfl rfl el29 sz2 rfl rfl rfl rfl rfl (get_map ((getI_spec hx30).2)) rfl rfl rfl (getI_spec hx38).1 (by simpa using getI_lt hx38) rfl rfl rfl rfl (List.map_set) (List.map_set) rfl ?_
            refine TZ_done (by kernel_rfl) ?_
            refine T_seq ?_
            refine T_region ?_
            refine TL_pure rfl rfl rfl rfl (op_load_agg ag26 sz26 rfl rfl rfl) ?_
            refine TL_store_box sz26 rfl rfl rfl rfl rfl rfl rfl rfl rfl ?_
            refine TL_nil ?_
            refine T_keepH [2] [0, 11, 12] rfl rfl rfl rfl (by rw [hF]; rfl) ?_
            refine T_freeze 12 (by rw [hF]; rfl) rfl rfl rfl ?_
            refine T_ret ?_
            obtain rfl := someI hm
            refine ⟨[_], [0], ⟨⟨_, _, rfl, rfl, .inr ⟨ag26, _, _, sz26, rfl, rfl⟩⟩, trivial⟩, ?_, rfl, rfl, rfl, rfl⟩
            rfl
          refine TZ_cut 4 [true, true, true, true, true, true, true, true, false, false, false, false] ⟨[(0, .ptr 0 0 0), (2, .ptr 11 0 0), (3, .ptr 13 0 0), (4, .ptr 0 0 0), (5, .agg [.ow 12]), (6, .ptr 0 0 0), (7, .bool r7.1), (8, .bool (!r7.1)), (10, .ptr 0 0 0), (11, .int .i64 r11.1), (12, .bool (decide (r11.1 = (0 : Int)))), (13, .bool (decide (r11.1 = (0 : Int)))), (16, .bool (decide (r11.1 = (1 : Int)))), (17, .bool (decide (r11.1 = (1 : Int)))), (26, .bool (decide (r11.1 = (2 : Int)))), (27, .bool (decide (r11.1 = (2 : Int)))), (28, .ptr 13 0 0), (29, .ow 12), (30, .ptr 12 (((0 : Int)).toNat) 0), (31, .sub 12 (((0 : Int)).toNat * 1 + 0)), (32, .ptr 0 0 0), (33, .ptr 13 0 0), (34, .ow 12), (35, .int .i64 (r5.1.Next.length : Int))], [(0, .box [.sl 1 (List.map a_u8 r11.2.code), .int .i64 r11.2.at_, .int .u64 r11.2.seed]), (11, .box [.snil]), (12, .arr ⟨false, true⟩ 1 29 (List.map aLa_i64 r5.1.Next)), (13, .box [.ow 12])]⟩ ?_ (fun hS14_1 => ?_)
          · refine TZ_one 8 (by kernel_rfl) rfl ?_
            refine TL_buildSlice 735 (es := List.map a_i64 [(-2 : Int), (r5.1.Next.length : Int), (9223372036854775807 : Int)]) el29 z2 rfl rfl rfl rfl rfl rfl rfl rfl rfl ?_
            refine TL_nil ?_
            refine TZ_one 9 (by kernel_rfl) rfl ?_
            refine TL_freeze 735 (by rw [hF]; rfl) rfl rfl rfl ?_
            refine TL_call [(0, 0)] [] [] (ACall.F (F := F) (c_spec_l00Src_among r11.2 [(-2 : Int), (r5.1.Next.length : Int), (9223372036854775807 : Int)] r37 hr37)) Tryd.call80 rfl rfl rfl rfl rfl ⟨rfl, trivial⟩ rfl rfl rfl rfl rfl rfl rfl rfl rfl rfl rfl ?_
            refine TL_nil ?_
            refine TZ_storeSub (id := 12) 10 11 (i0 := ((0 : Int)).toNat) (j0 := 0) (q := ((0 : Int)).toNat) (e' := aLa_i64 (x30.set ((0 : Int)).toNat r37.1)) (es' := List.map aLa_i64 (r5.1.Next.set (((0 : Int)).toNat) (x30.set ((0 : Int)).toNat r37.1))) (es2 := List.map a_i64 (x30.set ((0 : Int)).toNat r37.1)) (by kernel_rfl) rfl (by kernel_rfl) rfl rfl rfl el29 sz2 rfl rfl rfl rfl rfl (get_map ((getI_spec hx30).2)) rfl rfl rfl (getI_spec hx38).1 (by simpa using getI_lt hx38) rfl rfl rfl rfl (List.map_set) (List.map_set) rfl ?_
            refine TZ_fact (fun _ _ _ hr => RelP.owLen (id := 12) rfl hr) (fun hlen35 => ?_)
            rw [List.length_map] at hlen35
            refine TZ_done (by kernel_rfl) ?_
            refine T_seq ?_
            refine T_region ?_
            refine TL_pure rfl rfl rfl rfl (op_load_agg ag26 sz26 rfl rfl rfl) ?_
            refine TL_store_box sz26 rfl rfl rfl rfl rfl rfl rfl rfl rfl ?_
            refine TL_nil ?_
            refine T_keepH [2] [0, 11, 12] rfl rfl rfl rfl (by rw [hF]; rfl) ?_
            refine T_freeze 12 (by rw [hF]; rfl) rfl rfl rfl ?_
            refine T_ret ?_
            obtain rfl := someI hm
            refine ⟨[_], [0], ⟨⟨_, _, rfl, rfl, .inr ⟨ag26, _, _, sz26, rfl, rfl⟩⟩, trivial⟩, ?_, rfl, rfl, rfl, rfl⟩
            rfl
          refine TZ_cut 3 [true, true, true, true, true, true, true, true, true, false, false, false] ⟨[(0, .ptr 0 0 0), (2, .ptr 11 0 0), (3, .ptr 13 0 0), (4, .ptr 0 0 0), (5, .agg [.ow 12]), (6, .ptr 0 0 0), (7, .bool r7.1), (8, .bool (!r7.1)), (10, .ptr 0 0 0), (11, .int .i64 r11.1), (12, .bool (decide (r11.1 = (0 : Int)))), (13, .bool (decide (r11.1 = (0 : Int)))), (16, .bool (decide (r11.1 = (1 : Int)))), (17, .bool (decide (r11.1 = (1 : Int)))), (26, .bool (decide (r11.1 = (2 : Int)))), (27, .bool (decide (r11.1 = (2 : Int)))), (28, .ptr 13 0 0), (29, .ow 12), (30, .ptr 12 (((0 : Int)).toNat) 0), (31, .sub 12 (((0 : Int)).toNat * 1 + 0)), (32, .ptr 0 0 0), (33, .ptr 13 0 0), (34, .ow 12), (35, .int .i64 (r5.1.Next.length : Int)), (36, .ow 735)], [(0, .box [.sl 1 (List.map a_u8 r11.2.code), .int .i64 r11.2.at_, .int .u64 r11.2.seed]), (11, .box [.snil]), (12, .arr ⟨false, true⟩ 1 29 (List.map aLa_i64 r5.1.Next)), (13, .box [.ow 12]), (735, .arr ⟨false, false⟩ 1 2 (List.map a_i64 [(-2 : Int), (r5.1.Next.length : Int), (9223372036854775807 : Int)]))]⟩ ?_ (fun hS14_2 => ?_)
          · refine TZ_one 9 (by kernel_rfl) rfl ?_
            refine TL_freeze 735 (by rw [hF]; rfl) rfl rfl rfl ?_
            refine TL_call [(0, 0)] [] [] (ACall.F (F := F) (c_spec_l00Src_among r11.2 [(-2 : Int), (r5.1.Next.length : Int), (9223372036854775807 : Int)] r37 hr37)) Tryd.call80 rfl rfl rfl rfl rfl ⟨rfl, trivial⟩ rfl rfl rfl rfl rfl rfl rfl rfl rfl rfl rfl ?_
            refine TL_nil ?_
            refine TZ_storeSub (id := 12) 10 11 (i0 := ((0 : Int)).toNat) (j0 := 0) (q := ((0 : Int)).toNat) (e' := aLa_i64 (x30.set ((0 : Int)).toNat r37.1)) (es' := List.map aLa_i64 (r5.1.Next.set (((0 : Int)).toNat) (x30.set ((0 : Int)).toNat r37.1))) (es2 := List.map a_i64 (x30.set ((0 : Int)).toNat r37.1)) (by kernel_rfl) rfl (by kernel_rfl) rfl rfl rfl el29 sz2 rfl rfl rfl rfl rfl (get_map ((getI_spec hx30).2)) rfl rfl rfl (getI_spec hx38).1 (by simpa using getI_lt hx38) rfl rfl rfl rfl (List.map_set) (List.map_set) rfl ?_
            refine TZ_fact (fun _ _ _ hr => RelP.owLen (id := 12) rfl hr) (fun hlen35 => ?_)
            rw [List.length_map] at hlen35
            refine TZ_done (by kernel_rfl) ?_
            refine T_seq ?_
            refine T_region ?_
            refine TL_pure rfl rfl rfl rfl (op_load_agg ag26 sz26 rfl rfl rfl) ?_
            refine TL_store_box sz26 rfl rfl rfl rfl rfl rfl rfl rfl rfl ?_
            refine TL_nil ?_
            refine T_keepH [2] [0, 11, 12] rfl rfl rfl rfl (by rw [hF]; rfl) ?_
            refine T_freeze 12 (by rw [hF]; rfl) rfl rfl rfl ?_
            refine T_ret ?_
            obtain rfl := someI hm
            refine ⟨[_], [0], ⟨⟨_, _, rfl, rfl, .inr ⟨ag26, _, _, sz26, rfl, rfl⟩⟩, trivial⟩, ?_, rfl, rfl, rfl, rfl⟩
            rfl
          refine TZ_cut 3 [true, true, true, false, true, true, true, true, true, true, false, false] ⟨[(0, .ptr 0 0 0), (2, .ptr 11 0 0), (3, .ptr 13 0 0), (4, .ptr 0 0 0), (5, .agg [.ow 12]), (6, .ptr 0 0 0), (7, .bool r7.1), (8, .bool (!r7.1)), (10, .ptr 0 0 0), (11, .int .i64 r11.1), (12, .bool (decide (r11.1 = (0 : Int)))), (13, .bool (decide (r11.1 = (0 : Int)))), (16, .bool (decide (r11.1 = (1 : Int)))), (17, .bool (decide (r11.1 = (1 : Int)))), (26, .bool (decide (r11.1 = (2 : Int)))), (27, .bool (decide (r11.1 = (2 : Int)))), (28, .ptr 13 0 0), (29, .ow 12), (30, .ptr 12 (((0 : Int)).toNat) 0), (32, .ptr 0 0 0), (33, .ptr 13 0 0), (34, .ow 12), (35, .int .i64 (r5.1.Next.length : Int)), (36, .sl 1 (List.map a_i64 [(-2 : Int), (r5.1.Next.length : Int), (9223372036854775807 : Int)])), (37, .int .i64 r37.1)], [(0, .box [.sl 1 (List.map a_u8 r37.2.code), .int .i64 r37.2.at_, .int .u64 r37.2.seed]), (11, .box [.snil]), (12, .arr ⟨false, true⟩ 1 29 (List.map aLa_i64 r5.1.Next)), (13, .box [.ow 12])]⟩ ?_ (fun hS14_3 => ?_)
          · refine TZ_pure 3 (by kernel_rfl) rfl rfl rfl rfl rfl (op_loadD1 ag29 rfl rfl ((getI_spec hx30).2) rfl rfl rfl rfl) ?_
            refine TZ_storeSub (id := 12) 10 11 (i0 := ((0 : Int)).toNat) (j0 := 0) (q := ((0 : Int)).toNat) (e' := aLa_i64 (x30.set ((0 : Int)).toNat r37.1)) (es' := List.map aLa_i64 (r5.1.Next.set (((0 : Int)).toNat) (x30.set ((0 : Int)).toNat r37.1))) (es2 := List.map a_i64 (x30.set ((0 : Int)).toNat r37.1)) (by kernel_rfl) rfl (by kernel_rfl) rfl rfl rfl el29 sz2 rfl rfl rfl rfl rfl (get_map ((getI_spec hx30).2)) rfl rfl rfl (getI_spec hx38).1 (by simpa using getI_lt hx38) rfl rfl rfl rfl (List.map_set) (List.map_set) rfl ?_
            refine TZ_fact (fun _ _ _ hr => RelP.owLen (id := 12) rfl hr) (fun hlen35 => ?_)
            rw [List.length_map] at hlen35
            refine TZ_done (by kernel_rfl) ?_
            refine T_seq ?_
            refine T_region ?_
            refine TL_pure rfl rfl rfl rfl (op_load_agg ag26 sz26 rfl rfl rfl) ?_
            refine TL_store_box sz26 rfl rfl rfl rfl rfl rfl rfl rfl rfl ?_
            refine TL_nil ?_
            refine T_keepH [2] [0, 11, 12] rfl rfl rfl rfl (by rw [hF]; rfl) ?_
            refine T_freeze 12 (by rw [hF]; rfl) rfl rfl rfl ?_
            refine T_ret ?_
            obtain rfl := someI hm
            refine ⟨[_], [0], ⟨⟨_, _, rfl, rfl, .inr ⟨ag26, _, _, sz26, rfl, rfl⟩⟩, trivial⟩, ?_, rfl, rfl, rfl, rfl⟩
            rfl
          refine TZ_cut 4 [true, true, true, false, true, true, true, true, true, false, false, false] ⟨[(0, .ptr 0 0 0), (2, .ptr 11 0 0), (3, .ptr 13 0 0), (4, .ptr 0 0 0), (5, .agg [.ow 12]), (6, .ptr 0 0 0), (7, .bool r7.1), (8, .bool (!r7.1)), (10, .ptr 0 0 0), (11, .int .i64 r11.1), (12, .bool (decide (r11.1 = (0 : Int)))), (13, .bool (decide (r11.1 = (0 : Int)))), (16, .bool (decide (r11.1 = (1 : Int)))), (17, .bool (decide (r11.1 = (1 : Int)))), (26, .bool (decide (r11.1 = (2 : Int)))), (27, .bool (decide (r11.1 = (2 : Int)))), (28, .ptr 13 0 0), (29, .ow 12), (30, .ptr 12 (((0 : Int)).toNat) 0), (32, .ptr 0 0 0), (33, .ptr 13 0 0), (34, .ow 12), (35, .int .i64 (r5.1.Next.length : Int)), (36, .ow 735)], [(0, .box [.sl 1 (List.map a_u8 r11.2.code), .int .i64 r11.2.at_, .int .u64 r11.2.seed]), (11, .box [.snil]), (12, .arr ⟨false, true⟩ 1 29 (List.map aLa_i64 r5.1.Next)), (13, .box [.ow 12]), (735, .arr ⟨false, false⟩ 1 2 (List.map a_i64 [(-2 : Int), (r5.1.Next.length : Int), (9223372036854775807 : Int)]))]⟩ ?_ (fun hS14_4 => ?_)
          · refine TZ_each [3, 9] (by kernel_rfl) rfl ?_
            refine ⟨?_, ?_⟩
            · refine ⟨_, rfl, ?_⟩
              refine TL_pure rfl rfl rfl rfl (op_loadD1 ag29 rfl rfl ((getI_spec hx30).2) rfl rfl rfl rfl) ?_
              refine TL_nil ?_
              refine TZ_keepH [0, 2, 3, 4, 5, 6, 7, 8, 10, 11, 12, 13, 16, 17, 26, 27, 28, 29, 30, 31, 32, 33, 34, 35, 36] [0, 11, 12, 13, 735] rfl rfl rfl rfl (by rw [hF]; rfl) ?_
              exact hS14_2
            · refine ⟨_, rfl, ?_⟩
              refine TL_freeze 735 (by rw [hF]; rfl) rfl rfl rfl ?_
              refine TL_call [(0, 0)] [] [] (ACall.F (F := F) (c_spec_l00Src_among r11.2 [(-2 : Int), (r5.1.Next.length : Int), (9223372036854775807 : Int)] r37 hr37)) Tryd.call80 rfl rfl rfl rfl rfl ⟨rfl, trivial⟩ rfl rfl rfl rfl rfl rfl rfl rfl rfl rfl rfl ?_
              refine TL_nil ?_
              refine TZ_keepH [0, 2, 3, 4, 5, 6, 7, 8, 10, 11, 12, 13, 16, 17, 26, 27, 28, 29, 30, 32, 33, 34, 35, 36, 37] [0, 11, 12, 13] rfl rfl rfl rfl (by rw [hF]; rfl) ?_
              exact hS14_3
          refine TZ_cut 6 [true, true, true, false, true, true, true, false, false, false, false, false] ⟨[(0, .ptr 0 0 0), (2, .ptr 11 0 0), (3, .ptr 13 0 0), (4, .ptr 0 0 0), (5, .agg [.ow 12]), (6, .ptr 0 0 0), (7, .bool r7.1), (8, .bool (!r7.1)), (10, .ptr 0 0 0), (11, .int .i64 r11.1), (12, .bool (decide (r11.1 = (0 : Int)))), (13, .bool (decide (r11.1 = (0 : Int)))), (16, .bool (decide (r11.1 = (1 : Int)))), (17, .bool (decide (r11.1 = (1 : Int)))), (26, .bool (decide (r11.1 = (2 : Int)))), (27, .bool (decide (r11.1 = (2 : Int)))), (28, .ptr 13 0 0), (29, .ow 12), (30, .ptr 12 (((0 : Int)).toNat) 0), (32, .ptr 0 0 0), (33, .ptr 13 0 0), (34, .ow 12)], [(0, .box [.sl 1 (List.map a_u8 r11.2.code), .int .i64 r11.2.at_, .int .u64 r11.2.seed]), (11, .box [.snil]), (12, .arr ⟨false, true⟩ 1 29 (List.map aLa_i64 r5.1.Next)), (13, .box [.ow 12])]⟩ ?_ (fun hS14_5 => ?_)
          · refine TZ_pure 7 (by kernel_rfl) rfl rfl rfl rfl rfl (op_lenO Tryd.underlying24 rfl rfl (List.length_map _)) ?_
            refine TZ_fact (fun _ _ _ hr => RelP.owLen (id := 12) rfl hr) (fun hlen35 => ?_)
            rw [List.length_map] at hlen35
            refine TZ_each [3, 8] (by kernel_rfl) rfl ?_
            refine ⟨?_, ?_⟩
            · refine ⟨_, rfl, ?_⟩
              refine TL_pure rfl rfl rfl rfl (op_loadD1 ag29 rfl rfl ((getI_spec hx30).2) rfl rfl rfl rfl) ?_
              refine TL_nil ?_
              refine TZ_keepH [0, 2, 3, 4, 5, 6, 7, 8, 10, 11, 12, 13, 16, 17, 26, 27, 28, 29, 30, 31, 32, 33, 34, 35] [0, 11, 12, 13] rfl rfl rfl rfl (by rw [hF]; rfl) ?_
              exact hS14_1
            · refine ⟨_, rfl, ?_⟩
              refine TL_buildSlice 735 (es := List.map a_i64 [(-2 : Int), (r5.1.Next.length : Int), (9223372036854775807 : Int)]) el29 z2 rfl rfl rfl rfl rfl rfl rfl rfl rfl ?_
              refine TL_nil ?_
              refine TZ_keepH [0, 2, 3, 4, 5, 6, 7, 8, 10, 11, 12, 13, 16, 17, 26, 27, 28, 29, 30, 32, 33, 34, 35, 36] [0, 11, 12, 13, 735] rfl rfl rfl rfl (by rw [hF]; rfl) ?_
              exact hS14_4
          refine TZ_cut 8 [true, true, false, false, true, true, false, false, false, false, false, false] ⟨[(0, .ptr 0 0 0), (2, .ptr 11 0 0), (3, .ptr 13 0 0), (4, .ptr 0 0 0), (5, .agg [.ow 12]), (6, .ptr 0 0 0), (7, .bool r7.1), (8, .bool (!r7.1)), (10, .ptr 0 0 0), (11, .int .i64 r11.1), (12, .bool (decide (r11.1 = (0 : Int)))), (13, .bool (decide (r11.1 = (0 : Int)))), (16, .bool (decide (r11.1 = (1 : Int)))), (17, .bool (decide (r11.1 = (1 : Int)))), (26, .bool (decide (r11.1 = (2 : Int)))), (27, .bool (decide (r11.1 = (2 : Int)))), (28, .ptr 13 0 0), (29, .ow 12), (32, .ptr 0 0 0), (33, .ptr 13 0 0)], [(0, .box [.sl 1 (List.map a_u8 r11.2.code), .int .i64 r11.2.at_, .int .u64 r11.2.seed]), (11, .box [.snil]), (12, .arr ⟨false, true⟩ 1 29 (List.map aLa_i64 r5.1.Next)), (13, .box [.ow 12])]⟩ ?_ (fun hS14_6 => ?_)
          · refine TZ_pure 2 (by kernel_rfl) rfl rfl rfl rfl rfl (op_indexO el24 rfl rfl rfl hx30) ?_
            refine TZ_each [3, 6] (by kernel_rfl) rfl ?_
            refine ⟨?_, ?_⟩
            · refine ⟨_, rfl, ?_⟩
              refine TL_pure rfl rfl rfl rfl (op_loadD1 ag29 rfl rfl ((getI_spec hx30).2) rfl rfl rfl rfl) ?_
              refine TL_nil ?_
              refine TZ_keepH [0, 2, 3, 4, 5, 6, 7, 8, 10, 11, 12, 13, 16, 17, 26, 27, 28, 29, 30, 31, 32, 33] [0, 11, 12, 13] rfl rfl rfl rfl (by rw [hF]; rfl) ?_
              exact hS14_0
            · refine ⟨_, rfl, ?_⟩
              refine TL_pure rfl rfl rfl rfl (op_load_one ag24 rfl rfl) ?_
              refine TL_nil ?_
              refine TZ_keepH [0, 2, 3, 4, 5, 6, 7, 8, 10, 11, 12, 13, 16, 17, 26, 27, 28, 29, 30, 32, 33, 34] [0, 11, 12, 13] rfl rfl rfl rfl (by rw [hF]; rfl) ?_
              exact hS14_5
          refine TZ_cut 6 [true, true, false, false, true, true, true, true, false, false, false, false] ⟨[(0, .ptr 0 0 0), (2, .ptr 11 0 0), (3, .ptr 13 0 0), (4, .ptr 0 0 0), (5, .agg [.ow 12]), (6, .ptr 0 0 0), (7, .bool r7.1), (8, .bool (!r7.1)), (10, .ptr 0 0 0), (11, .int .i64 r11.1), (12, .bool (decide (r11.1 = (0 : Int)))), (13, .bool (decide (r11.1 = (0 : Int)))), (16, .bool (decide (r11.1 = (1 : Int)))), (17, .bool (decide (r11.1 = (1 : Int)))), (26, .bool (decide (r11.1 = (2 : Int)))), (27, .bool (decide (r11.1 = (2 : Int)))), (28, .ptr 13 0 0), (29, .ow 12), (32, .ptr 0 0 0), (33, .ptr 13 0 0), (34, .ow 12), (35, .int .i64 (r5.1.Next.length : Int))], [(0, .box [.sl 1 (List.map a_u8 r11.2.code), .int .i64 r11.2.at_, .int .u64 r11.2.seed]), (11, .box [.snil]), (12, .arr ⟨false, true⟩ 1 29 (List.map aLa_i64 r5.1.Next)), (13, .box [.ow 12])]⟩ ?_ (fun hS14_7 => ?_)
          · refine TZ_pure 2 (by kernel_rfl) rfl rfl rfl rfl rfl (op_indexO el24 rfl rfl rfl hx30) ?_
            refine TZ_each [3, 8] (by kernel_rfl) rfl ?_
            refine ⟨?_, ?_⟩
            · refine ⟨_, rfl, ?_⟩
              refine TL_pure rfl rfl rfl rfl (op_loadD1 ag29 rfl rfl ((getI_spec hx30).2) rfl rfl rfl rfl) ?_
              refine TL_nil ?_
              refine TZ_keepH [0, 2, 3, 4, 5, 6, 7, 8, 10, 11, 12, 13, 16, 17, 26, 27, 28, 29, 30, 31, 32, 33, 34, 35] [0, 11, 12, 13] rfl rfl rfl rfl (by rw [hF]; rfl) ?_
              exact hS14_1
            · refine ⟨_, rfl, ?_⟩
              refine TL_buildSlice 735 (es := List.map a_i64 [(-2 : Int), (r5.1.Next.length : Int), (9223372036854775807 : Int)]) el29 z2 rfl rfl rfl rfl rfl rfl rfl rfl rfl ?_
              refine TL_nil ?_
              refine TZ_keepH [0, 2, 3, 4, 5, 6, 7, 8, 10, 11, 12, 13, 16, 17, 26, 27, 28, 29, 30, 32, 33, 34, 35, 36] [0, 11, 12, 13, 735] rfl rfl rfl rfl (by rw [hF]; rfl) ?_
              exact hS14_4
          refine TZ_cut 5 [true, true, false, false, true, true, true, true, true, false, false, false] ⟨[(0, .ptr 0 0 0), (2, .ptr 11 0 0), (3, .ptr 13 0 0), (4, .ptr 0 0 0), (5, .agg [.ow 12]), (6, .ptr 0 0 0), (7, .bool r7.1), (8, .bool (!r7.1)), (10, .ptr 0 0 0), (11, .int .i64 r11.1), (12, .bool (decide (r11.1 = (0 : Int)))), (13, .bool (decide (r11.1 = (0 : Int)))), (16, .bool (decide (r11.1 = (1 : Int)))), (17, .bool (decide (r11.1 = (1 : Int)))), (26, .bool (decide (r11.1 = (2 : Int)))), (27, .bool (decide (r11.1 = (2 : Int)))), (28, .ptr 13 0 0), (29, .ow 12), (32, .ptr 0 0 0), (33, .ptr 13 0 0), (34, .ow 12), (35, .int .i64 (r5.1.Next.length : Int)), (36, .ow 735)], [(0, .box [.sl 1 (List.map a_u8 r11.2.code), .int .i64 r11.2.at_, .int .u64 r11.2.seed]), (11, .box [.snil]), (12, .arr ⟨false, true⟩ 1 29 (List.map aLa_i64 r5.1.Next)), (13, .box [.ow 12]), (735, .arr ⟨false, false⟩ 1 2 (List.map a_i64 [(-2 : Int), (r5.1.Next.length : Int), (9223372036854775807 : Int)]))]⟩ ?_ (fun hS14_8 => ?_)
          · refine TZ_pure 2 (by kernel_rfl) rfl rfl rfl rfl rfl (op_indexO el24 rfl rfl rfl hx30) ?_
            refine TZ_each [3, 9] (by kernel_rfl) rfl ?_
            refine ⟨?_, ?_⟩
            · refine ⟨_, rfl, ?_⟩
              refine TL_pure rfl rfl rfl rfl (op_loadD1 ag29 rfl rfl ((getI_spec hx30).2) rfl rfl rfl rfl) ?_
              refine TL_nil ?_
              refine TZ_keepH [0, 2, 3, 4, 5, 6, 7, 8, 10, 11, 12, 13, 16, 17, 26, 27, 28, 29, 30, 31, 32, 33, 34, 35, 36] [0, 11, 12, 13, 735] rfl rfl rfl rfl (by rw [hF]; rfl) ?_
              exact hS14_2
            · refine ⟨_, rfl, ?_⟩
              refine TL_freeze 735 (by rw [hF]; rfl) rfl rfl rfl ?_
              refine TL_call [(0, 0)] [] [] (ACall.F (F := F) (c_spec_l00Src_among r11.2 [(-2 : Int), (r5.1.Next.length : Int), (9223372036854775807 : Int)] r37 hr37)) Tryd.call80 rfl rfl rfl rfl rfl ⟨rfl, trivial⟩ rfl rfl rfl rfl rfl rfl rfl rfl rfl rfl rfl ?_
              refine TL_nil ?_
              refine TZ_keepH [0, 2, 3, 4, 5, 6, 7, 8, 10, 11, 12, 13, 16, 17, 26, 27, 28, 29, 30, 32, 33, 34, 35, 36, 37] [0, 11, 12, 13] rfl rfl rfl rfl (by rw [hF]; rfl) ?_
              exact hS14_3
          refine TZ_cut 5 [true, false, false, false, true, true, true, true, true, true, false, false] ⟨[(0, .ptr 0 0 0), (2, .ptr 11 0 0), (3, .ptr 13 0 0), (4, .ptr 0 0 0), (5, .agg [.ow 12]), (6, .ptr 0 0 0), (7, .bool r7.1), (8, .bool (!r7.1)), (10, .ptr 0 0 0), (11, .int .i64 r11.1), (12, .bool (decide (r11.1 = (0 : Int)))), (13, .bool (decide (r11.1 = (0 : Int)))), (16, .bool (decide (r11.1 = (1 : Int)))), (17, .bool (decide (r11.1 = (1 : Int)))), (26, .bool (decide (r11.1 = (2 : Int)))), (27, .bool (decide (r11.1 = (2 : Int)))), (28, .ptr 13 0 0), (32, .ptr 0 0 0), (33, .ptr 13 0 0), (34, .ow 12), (35, .int .i64 (r5.1.Next.length : Int)), (36, .sl 1 (List.map a_i64 [(-2 : Int), (r5.1.Next.length : Int), (9223372036854775807 : Int)])), (37, .int .i64 r37.1)], [(0, .box [.sl 1 (List.map a_u8 r37.2.code), .int .i64 r37.2.at_, .int .u64 r37.2.seed]), (11, .box [.snil]), (12, .arr ⟨false, true⟩ 1 29 (List.map aLa_i64 r5.1.Next)), (13, .box [.ow 12])]⟩ ?_ (fun hS14_9 => ?_)
          · refine TZ_pure 1 (by kernel_rfl) rfl rfl rfl rfl rfl (op_load_one ag24 rfl rfl) ?_
            refine TZ_pure 2 (by kernel_rfl) rfl rfl rfl rfl rfl (op_indexO el24 rfl rfl rfl hx30) ?_
            refine TZ_pure 3 (by kernel_rfl) rfl rfl rfl rfl rfl (op_loadD1 ag29 rfl rfl ((getI_spec hx30).2) rfl rfl rfl rfl) ?_
            refine TZ_storeSub (id := 12) 10 11 (i0 := ((0 : Int)).toNat) (j0 := 0) (q := ((0 : Int)).toNat) (e' := aLa_i64 (x30.set ((0 : Int)).toNat r37.1)) (es' := List.map aLa_i64 (r5.1.Next.set (((0 : Int)).toNat) (x30.set ((0 : Int)).toNat r37.1))) (es2 := List.map a_i64 (x30.set ((0 : Int)).toNat r37.1)) (by kernel_rfl) rfl (by kernel_rfl) rfl rfl rfl el29 sz2 rfl rfl rfl rfl rfl (get_map ((getI_spec hx30).2)) rfl rfl rfl (getI_spec hx38).1 (by simpa using getI_lt hx38) rfl rfl rfl rfl (List.map_set) (List.map_set) rfl ?_
            refine TZ_fact (fun _ _ _ hr => RelP.owLen (id := 12) rfl hr) (fun hlen35 => ?_)
            rw [List.length_map] at hlen35
            refine TZ_done (by kernel_rfl) ?_
            refine T_seq ?_
            refine T_region ?_
            refine TL_pure rfl rfl rfl rfl (op_load_agg ag26 sz26 rfl rfl rfl) ?_
            refine TL_store_box sz26 rfl rfl rfl rfl rfl rfl rfl rfl rfl ?_
            refine TL_nil ?_
            refine T_keepH [2] [0, 11, 12] rfl rfl rfl rfl (by rw [hF]; rfl) ?_
            refine T_freeze 12 (by rw [hF]; rfl) rfl rfl rfl ?_
            refine T_ret ?_
            obtain rfl := someI hm
            refine ⟨[_], [0], ⟨⟨_, _, rfl, rfl, .inr ⟨ag26, _, _, sz26, rfl, rfl⟩⟩, trivial⟩, ?_, rfl, rfl, rfl, rfl⟩
            rfl
          refine TZ_cut 6 [true, false, false, false, true, true, true, true, true, false, false, false] ⟨[(0, .ptr 0 0 0), (2, .ptr 11 0 0), (3, .ptr 13 0 0), (4, .ptr 0 0 0), (5, .agg [.ow 12]), (6, .ptr 0 0 0), (7, .bool r7.1), (8, .bool (!r7.1)), (10, .ptr 0 0 0), (11, .int .i64 r11.1), (12, .bool (decide (r11.1 = (0 : Int)))), (13, .bool (decide (r11.1 = (0 : Int)))), (16, .bool (decide (r11.1 = (1 : Int)))), (17, .bool (decide (r11.1 = (1 : Int)))), (26, .bool (decide (r11.1 = (2 : Int)))), (27, .bool (decide (r11.1 = (2 : Int)))), (28, .ptr 13 0 0), (32, .ptr 0 0 0), (33, .ptr 13 0 0), (34, .ow 12), (35, .int .i64 (r5.1.Next.length : Int)), (36, .ow 735)], [(0, .box [.sl 1 (List.map a_u8 r11.2.code), .int .i64 r11.2.at_, .int .u64 r11.2.seed]), (11, .box [.snil]), (12, .arr ⟨false, true⟩ 1 29 (List.map aLa_i64 r5.1.Next)), (13, .box [.ow 12]), (735, .arr ⟨false, false⟩ 1 2 (List.map a_i64 [(-2 : Int), (r5.1.Next.length : Int), (9223372036854775807 : Int)]))]⟩ ?_ (fun hS14_10 => ?_)
          · refine TZ_each [1, 9] (by kernel_rfl) rfl ?_
            refine ⟨?_, ?_⟩
            · refine ⟨_, rfl, ?_⟩
              refine TL_pure rfl rfl rfl rfl (op_load_one ag24 rfl rfl) ?_
              refine TL_nil ?_
              refine TZ_keepH [0, 2, 3, 4, 5, 6, 7, 8, 10, 11, 12, 13, 16, 17, 26, 27, 28, 29, 32, 33, 34, 35, 36] [0, 11, 12, 13, 735] rfl rfl rfl rfl (by rw [hF]; rfl) ?_
              exact hS14_8
            · refine ⟨_, rfl, ?_⟩
              refine TL_freeze 735 (by rw [hF]; rfl) rfl rfl rfl ?_
              refine TL_call [(0, 0)] [] [] (ACall.F (F := F) (c_spec_l00Src_among r11.2 [(-2 : Int), (r5.1.Next.length : Int), (9223372036854775807 : Int)] r37 hr37)) Tryd.call80 rfl rfl rfl rfl rfl ⟨rfl, trivial⟩ rfl rfl rfl rfl rfl rfl rfl rfl rfl rfl rfl ?_
              refine TL_nil ?_
              refine TZ_keepH [0, 2, 3, 4, 5, 6, 7, 8, 10, 11, 12, 13, 16, 17, 26, 27, 28, 32, 33, 34, 35, 36, 37] [0, 11, 12, 13] rfl rfl rfl rfl (by rw [hF]; rfl) ?_
              exact hS14_9
          refine TZ_cut 8 [true, false, false, false, true, true, true, false, false, false, false, false] ⟨[(0, .ptr 0 0 0), (2, .ptr 11 0 0), (3, .ptr 13 0 0), (4, .ptr 0 0 0), (5, .agg [.ow 12]), (6, .ptr 0 0 0), (7, .bool r7.1), (8, .bool (!r7.1)), (10, .ptr 0 0 0), (11, .int .i64 r11.1), (12, .bool (decide (r11.1 = (0 : Int)))), (13, .bool (decide (r11.1 = (0 : Int)))), (16, .bool (decide (r11.1 = (1 : Int)))), (17, .bool (decide (r11.1 = (1 : Int)))), (26, .bool (decide (r11.1 = (2 : Int)))), (27, .bool (decide (r11.1 = (2 : Int)))), (28, .ptr 13 0 0), (32, .ptr 0 0 0), (33, .ptr 13 0 0), (34, .ow 12)], [(0, .box [.sl 1 (List.map a_u8 r11.2.code), .int .i64 r11.2.at_, .int .u64 r11.2.seed]), (11, .box [.snil]), (12, .arr ⟨false, true⟩ 1 29 (List.map aLa_i64 r5.1.Next)), (13, .box [.ow 12])]⟩ ?_ (fun hS14_11 => ?_)
          · refine TZ_pure 7 (by kernel_rfl) rfl rfl rfl rfl rfl (op_lenO Tryd.underlying24 rfl rfl (List.length_map _)) ?_
            refine TZ_fact (fun _ _ _ hr => RelP.owLen (id := 12) rfl hr) (fun hlen35 => ?_)
            rw [List.length_map] at hlen35
            refine TZ_each [1, 8] (by kernel_rfl) rfl ?_
            refine ⟨?_, ?_⟩
            · refine ⟨_, rfl, ?_⟩
              refine TL_pure rfl rfl rfl rfl (op_load_one ag24 rfl rfl) ?_
              refine TL_nil ?_
              refine TZ_keepH [0, 2, 3, 4, 5, 6, 7, 8, 10, 11, 12, 13, 16, 17, 26, 27, 28, 29, 32, 33, 34, 35] [0, 11, 12, 13] rfl rfl rfl rfl (by rw [hF]; rfl) ?_
              exact hS14_7
            · refine ⟨_, rfl, ?_⟩
              refine TL_buildSlice 735 (es := List.map a_i64 [(-2 : Int), (r5.1.Next.length : Int), (9223372036854775807 : Int)]) el29 z2 rfl rfl rfl rfl rfl rfl rfl rfl rfl ?_
              refine TL_nil ?_
              refine TZ_keepH [0, 2, 3, 4, 5, 6, 7, 8, 10, 11, 12, 13, 16, 17, 26, 27, 28, 32, 33, 34, 35, 36] [0, 11, 12, 13, 735] rfl rfl rfl rfl (by rw [hF]; rfl) ?_
              exact hS14_10
          refine TZ_each [1, 6] (by kernel_rfl) rfl ?_
          refine ⟨?_, ?_⟩
          · refine ⟨_, rfl, ?_⟩
            refine TL_pure rfl rfl rfl rfl (op_load_one ag24 rfl rfl) ?_
            refine TL_nil ?_
            refine TZ_keepH [0, 2, 3, 4, 5, 6, 7, 8, 10, 11, 12, 13, 16, 17, 26, 27, 28, 29, 32, 33] [0, 11, 12, 13] rfl rfl rfl rfl (by rw [hF]; rfl) ?_
            exact hS14_6
          · refine ⟨_, rfl, ?_⟩
            refine TL_pure rfl rfl rfl rfl (op_load_one ag24 rfl rfl) ?_
            refine TL_nil ?_
            refine TZ_keepH [0, 2, 3, 4, 5, 6, 7, 8, 10, 11, 12, 13, 16, 17, 26, 27, 28, 32, 33, 34] [0, 11, 12, 13] rfl rfl rfl rfl (by rw [hF]; rfl) ?_
            exact hS14_11
        · replace hm := condF hq hm
          refine T_seq ?_
          refine T_region ?_
          refine TL_pure rfl rfl rfl rfl (op_eql rfl rfl) ?_
          refine TL_pure rfl rfl rfl rfl (op_assign rfl) ?_
          refine TL_nil ?_
          refine T_cond rfl (fun hq => ?_) (fun hq => ?_)
          · replace hm := condT hq hm
            refine T_block ?_
            refine T_keepH [2, 3] [0, 11, 12, 13] rfl rfl rfl rfl (by rw [hF]; rfl) ?_
            refine T_loop ?_
            obtain ⟨u0, hl0, hm⟩ := bindS hm
            refine TR_iter2 (m_spec_l10Draw_L0) (fun (s0 : List (List Int)) => ⟨[(2, .ptr 11 0 0), (3, .ptr 13 0 0)], [(0, .box [.sl 1 (List.map a_u8 r11.2.code), .int .i64 r11.2.at_, .int .u64 r11.2.seed]), (11, .box [.snil]), (12, .arr ⟨false, true⟩ 1 29 (List.map aLa_i64 s0)), (13, .box [.ow 12])]⟩) (fun u0 => .exit 1) (fun u0 => ⟨[(2, .ptr 11 0 0), (3, .ptr 13 0 0)], [(0, .box [.sl 1 (List.map a_u8 r11.2.code), .int .i64 r11.2.at_, .int .u64 r11.2.seed]), (11, .box [.snil]), (12, .arr ⟨false, true⟩ 1 29 (List.map aLa_i64 u0)), (13, .box [.ow 12])]⟩) (fun u0 => m_spec_l10Draw_A0 r11 u0 = some out) hl0 hm (fun u0 hm => ?_) (fun hx0 s0 c0 hm hc0 => ?_)
            · unfold m_spec_l10Draw_A0 at hm
              refine T_seq ?_
              refine T_region ?_
              refine TL_pure rfl rfl rfl rfl (op_load_agg ag26 sz26 rfl rfl rfl) ?_
              refine TL_store_box sz26 rfl rfl rfl rfl rfl rfl rfl rfl rfl ?_
              refine TL_nil ?_
              refine T_keepH [2] [0, 11, 12] rfl rfl rfl rfl (by rw [hF]; rfl) ?_
              refine T_freeze 12 (by rw [hF]; rfl) rfl rfl rfl ?_
              refine T_ret ?_
              obtain rfl := someI hm
              refine ⟨[_], [0], ⟨⟨_, _, rfl, rfl, .inr ⟨ag26, _, _, sz26, rfl, rfl⟩⟩, trivial⟩, ?_, rfl, rfl, rfl, rfl⟩
              rfl
            · unfold m_spec_l10Draw_L0 at hm
              refine T_seq ?_
              refine T_seq ?_
              refine T_region ?_
              refine TL_pure rfl rfl rfl rfl (op_fieldAddr fa26_0 rfl rfl) ?_
              refine TL_pure rfl rfl rfl rfl (op_load_one ag24 rfl rfl) ?_
              refine TL_pure rfl rfl rfl rfl (op_lenO Tryd.underlying24 rfl rfl (List.length_map _)) ?_
              refine TL_fact (fun _ _ _ hr => RelP.owLen (id := 12) rfl hr) (fun hlen43 => ?_)
              rw [List.length_map] at hlen43
              refine TL_pure rfl rfl rfl rfl (op_leq rfl rfl) ?_
              refine TL_nil ?_
              refine T_cond rfl (fun hq => ?_) (fun hq => ?_)
              · replace hm := condT hq hm
                refine T_skip ?_
                refine T_block ?_
                refine T_region ?_
                refine TL_pure rfl rfl rfl rfl (op_fieldAddr fa26_0 rfl rfl) ?_
                refine TL_pure rfl rfl rfl rfl (op_load_one ag24 rfl rfl) ?_
                refine TL_buildSlice 979 (es := List.map a_i64 [(0 : Int), (0 : Int), (0 : Int), (0 : Int)]) el29 z2 rfl rfl rfl rfl rfl rfl rfl rfl rfl ?_
                refine TL_deepen 979 (p' := false) (List.map a_i64 [(0 : Int), (0 : Int), (0 : Int), (0 : Int)]) (by rw [hF]; rfl) rfl (ElR.map (f := a_i64) (g := a_i64) (fun _ => ⟨⟨rfl, rfl⟩, trivial⟩) [(0 : Int), (0 : Int), (0 : Int), (0 : Int)]) rfl rfl rfl ?_
                refine TL_buildSliceD (ids := [979]) (es := List.map aLa_i64 ([[(0 : Int), (0 : Int), (0 : Int), (0 : Int)]])) 980 el24 z29 rfl rfl rfl rfl rfl rfl (by rw [hF]; intro j hj; simp only [List.mem_cons, List.not_mem_nil, or_false] at hj; rcases hj with rfl <;> rfl) rfl rfl rfl rfl rfl rfl ?_
                obtain ⟨q49, hq49, hm⟩ := bindS hm
                refine TL_appendDT (f := aLa_i64) (a := s0) (b := [[(0 : Int), (0 : Int), (0 : Int), (0 : Int)]]) el24 z29 rfl rfl rfl rfl rfl rfl rfl rfl (by rw [hF]; rfl) (capI_spec hq49) rfl rfl rfl rfl rfl ?_
                refine TL_pure rfl rfl rfl rfl (op_fieldAddr fa26_0 rfl rfl) ?_
                refine TL_store_box sz24 rfl rfl rfl rfl rfl rfl rfl rfl rfl ?_
                refine TL_nil ?_
                refine TR_keepH [2, 3] [0, 11, 12, 13] rfl rfl rfl rfl (by rw [hF]; rfl) ?_
                obtain rfl := someI hm
                have hn := CtlOK_next hc0
                exact hn _ rfl
              · replace hm := condF hq hm
                refine T_keepH [2, 3] [0, 11, 12, 13] rfl rfl rfl rfl (by rw [hF]; rfl) ?_
                refine T_exit ?_
                obtain rfl := someI hm
                have hn := CtlOK_out hc0
                exact hx0 s0 hn
          · replace hm := condF hq hm
            refine T_skip ?_
            refine T_seq ?_
            refine T_region ?_
            refine TL_pure rfl rfl rfl rfl (op_load_agg ag26 sz26 rfl rfl rfl) ?_
            refine TL_store_box sz26 rfl rfl rfl rfl rfl rfl rfl rfl rfl ?_
            refine TL_nil ?_
            refine T_keepH [2] [0, 11, 12] rfl rfl rfl rfl (by rw [hF]; rfl) ?_
            refine T_freeze 12 (by rw [hF]; rfl) rfl rfl rfl ?_
            refine T_ret ?_
            obtain rfl := someI hm
            refine ⟨[_], [0], ⟨⟨_, _, rfl, rfl, .inr ⟨ag26, _, _, sz26, rfl, rfl⟩⟩, trivial⟩, ?_, rfl, rfl, rfl, rfl⟩
            rfl
theorem c_spec_l00In (p0 : Int) (p1 : Int) (p2 : Int) (out : Bool) (hm : m_spec_l00In p0 p1 p2 = some out) : ACall Tryd.prog 57 [.int .i64 p0, .int .i64 p1, .int .i64 p2] [] (.bool out) [] := by
  refine ACall.intro Tryd.func57 rfl Tryd.ntmps57 rfl (fun F hF => ?_)
  unfold m_spec_l00In at hm
  refine T_seq ?_
  refine T_region ?_
  refine TL_pure rfl rfl rfl rfl (op_assign rfl) ?_
  refine TL_nil ?_
  refine T_seq ?_
  refine T_region ?_
  refine TL_pure rfl rfl rfl rfl (op_move rfl) ?_
  refine TL_pure rfl rfl rfl rfl (op_move rfl) ?_
  refine TL_pure rfl rfl rfl rfl (op_geq rfl rfl) ?_
  refine TL_pure rfl rfl rfl rfl (op_move rfl) ?_
  refine TL_join 4 (fun _ : Unit => ⟨[(14, .bool ((decide (p1 ≤ p0)) && (decide (p0 ≤ p2))))], []⟩) (fun _ => True) (fun _ _ => ?_) (fun hjj => ?_)
  · refine TL_pure rfl rfl rfl rfl (op_assign rfl) ?_
    refine TL_nil ?_
    refine T_keepH [6] [] rfl rfl rfl rfl (by rw [hF]; rfl) ?_
    refine T_ret ?_
    obtain rfl := someI hm
    refine ⟨[_], [], ⟨rfl, trivial⟩, ?_, rfl, rfl, rfl, rfl⟩
    rfl
  · refine TL_split 10 rfl rfl rfl (fun hq => ?_) (fun hq => ?_)
    · refine TL_want rfl rfl ?_
      refine TL_pure rfl rfl rfl rfl (op_move rfl) ?_
      refine TL_want rfl rfl ?_
      refine TL_pure rfl rfl rfl rfl (op_move rfl) ?_
      refine TL_want rfl rfl ?_
      refine TL_pure rfl rfl rfl rfl (op_leq rfl rfl) ?_
      refine TL_pure rfl rfl rfl rfl (op_pick_true rfl rfl) ?_
      refine TL_keepH [14] [] rfl rfl rfl rfl (by rw [hF]; rfl) ?_
      exact TL_cast _ (by first | (rw [hq, Bool.true_and]; done) | (rw [hq]; rfl)) (hjj () trivial)
    · refine TL_pass rfl rfl rfl rfl rfl rfl rfl ?_
      refine TL_pass rfl rfl rfl rfl rfl rfl rfl ?_
      refine TL_pass rfl rfl rfl rfl rfl rfl rfl ?_
      refine TL_pure rfl rfl rfl rfl (op_pick_false rfl rfl) ?_
      refine TL_keepH [14] [] rfl rfl rfl rfl (by rw [hF]; rfl) ?_
      exact TL_cast _ (by first | (rw [hq, Bool.false_and]; done) | (rw [hq]; rfl)) (hjj () trivial)
theorem c_spec_l10Is (p0 : Policy) (out : Bool) (hm : m_spec_l10Is p0 = some out) : ACall Tryd.prog 29 [.cp [.sl 1 (List.map aLa_i64 p0.Next)]] [] (.bool out) [] := by
  refine ACall.intro Tryd.func29 rfl Tryd.ntmps29 rfl (fun F hF => ?_)
  unfold m_spec_l10Is at hm
  refine T_seq ?_
  refine T_region ?_
  refine TL_pure rfl rfl rfl rfl (op_assign rfl) ?_
  refine TL_nil ?_
  refine T_seq ?_
  refine T_region ?_
  refine TL_pure rfl rfl rfl rfl (op_move rfl) ?_
  refine TL_pure rfl rfl rfl rfl (op_nilCheck rfl rfl) ?_
  refine TL_pure rfl rfl rfl rfl (op_fieldAddr fa26_0 rfl rfl) ?_
  refine TL_pure rfl rfl rfl rfl (op_load_one ag24 rfl rfl) ?_
  refine TL_pure rfl rfl rfl rfl (op_lenT Tryd.underlying24 rfl (List.length_map _)) ?_
  refine TL_fact (fun _ _ _ hr => RelP.slLen (i := 9) rfl hr) (fun hlen10 => ?_)
  rw [List.length_map] at hlen10
  refine TL_pure rfl rfl rfl rfl (op_assign rfl) ?_
  refine TL_nil ?_
  refine T_seq ?_
  refine T_seq ?_
  refine T_region ?_
  refine TL_pure rfl rfl rfl rfl (op_move rfl) ?_
  obtain ⟨r12, hr12, hm⟩ := bindS hm
  refine TL_callF (ACall.F (F := F) (c_spec_l00In (p0.Next.length : Int) (1 : Int) (12 : Int) r12 hr12)) Tryd.call57 rfl rfl rfl rfl rfl ?_
  refine TL_pure rfl rfl rfl rfl (op_not rfl) ?_
  refine TL_nil ?_
  refine T_cond rfl (fun hq => ?_) (fun hq => ?_)
  · replace hm := condT hq hm
    refine T_seq ?_
    refine T_region ?_
    refine TL_pure rfl rfl rfl rfl (op_assign rfl) ?_
    refine TL_nil ?_
    refine T_keepH [2] [] rfl rfl rfl rfl (by rw [hF]; rfl) ?_
    refine T_ret ?_
    obtain rfl := someI hm
    refine ⟨[_], [], ⟨rfl, trivial⟩, ?_, rfl, rfl, rfl, rfl⟩
    rfl
  · replace hm := condF hq hm
    refine T_skip ?_
    refine T_seq ?_
    refine T_seq ?_
    refine T_region ?_
    refine TL_pure rfl rfl rfl rfl (op_assign rfl) ?_
    refine TL_nil ?_
    refine T_block ?_
    refine T_keepH [0, 3, 4] [] rfl rfl rfl rfl (by rw [hF]; rfl) ?_
    refine T_loop ?_
    obtain ⟨u0, hl0, hm⟩ := bindS hm
    refine TR_iter2 (m_spec_l10Is_L0 p0) (fun (s0 : Int) => ⟨[(0, .cp [.sl 1 (List.map aLa_i64 p0.Next)]), (3, .int .i64 (p0.Next.length : Int)), (4, .int .i64 s0)], []⟩) (fun u0 => match u0 with | .inl u0 => .exit 0 | .inr u0 => .ret) (fun u0 => match u0 with | .inl u0 => ⟨[], []⟩ | .inr u0 => ⟨[(2, .bool u0)], []⟩) (fun u0 => m_spec_l10Is_A0 u0 = some out) hl0 hm (fun u0 hm => ?_) (fun hx0 s0 c0 hm hc0 => ?_)
    · rcases u0 with u0 | u0
      · unfold m_spec_l10Is_A0 at hm
        refine T_seq ?_
        refine T_region ?_
        refine TL_pure rfl rfl rfl rfl (op_assign rfl) ?_
        refine TL_nil ?_
        refine T_keepH [2] [] rfl rfl rfl rfl (by rw [hF]; rfl) ?_
        refine T_ret ?_
        obtain rfl := someI hm
        refine ⟨[_], [], ⟨rfl, trivial⟩, ?_, rfl, rfl, rfl, rfl⟩
        rfl
      · unfold m_spec_l10Is_A0 at hm
        obtain rfl := someI hm
        refine ⟨[_], [], ⟨rfl, trivial⟩, ?_, rfl, rfl, rfl, rfl⟩
        rfl
    · unfold m_spec_l10Is_L0 at hm
      refine T_seq ?_
      refine T_seq ?_
      refine T_region ?_
      refine TL_pure rfl rfl rfl rfl (op_move rfl) ?_
      refine TL_pure rfl rfl rfl rfl (op_move rfl) ?_
      refine TL_pure rfl rfl rfl rfl (op_lss rfl rfl) ?_
      refine TL_nil ?_
      refine T_cond rfl (fun hq => ?_) (fun hq => ?_)
      · replace hm := condT hq hm
        refine T_skip ?_
        refine T_seq ?_
        refine T_block ?_
        refine T_seq ?_
        refine T_seq ?_
        refine T_region ?_
        refine TL_pure rfl rfl rfl rfl (op_move rfl) ?_
        refine TL_pure rfl rfl rfl rfl (op_nilCheck rfl rfl) ?_
        refine TL_pure rfl rfl rfl rfl (op_fieldAddr fa26_0 rfl rfl) ?_
        refine TL_pure rfl rfl rfl rfl (op_load_one ag24 rfl rfl) ?_
        refine TL_pure rfl rfl rfl rfl (op_move rfl) ?_
        obtain ⟨x24, hx24, hm⟩ := bindS hm
        refine TL_pure rfl rfl rfl rfl (op_indexT el24 rfl rfl hx24 rfl) ?_
        refine TL_pure rfl rfl rfl rfl (op_load_one ag29 rfl rfl) ?_
        refine TL_pure rfl rfl rfl rfl (op_lenT Tryd.underlying29 rfl (List.length_map _)) ?_
        refine TL_fact (fun _ _ _ hr => RelP.slLen (i := 25) rfl hr) (fun hlen26 => ?_)
        rw [List.length_map] at hlen26
        refine TL_pure rfl rfl rfl rfl (op_neq rfl rfl) ?_
        refine TL_nil ?_
        refine T_cond rfl (fun hq => ?_) (fun hq => ?_)
        · replace hm := condT hq hm
          refine T_seq ?_
          refine T_region ?_
          refine TL_pure rfl rfl rfl rfl (op_assign rfl) ?_
          refine TL_nil ?_
          refine T_keepH [2] [] rfl rfl rfl rfl (by rw [hF]; rfl) ?_
          refine T_ret ?_
          obtain rfl := someI hm
          have hn := CtlOK_out hc0
          exact hx0 (.inr false) hn
        · replace hm := condF hq hm
          refine T_skip ?_
          refine T_seq ?_
          refine T_region ?_
          refine TL_pure rfl rfl rfl rfl (op_assign rfl) ?_
          refine TL_nil ?_
          refine T_block ?_
          refine T_keepH [0, 3, 4, 5] [] rfl rfl rfl rfl (by rw [hF]; rfl) ?_
          refine T_loop ?_
          obtain ⟨u1, hl1, hm⟩ := bindS hm
          refine TR_iter2 (m_spec_l10Is_L1 p0 x24) (fun (s1 : Int) => ⟨[(0, .cp [.sl 1 (List.map aLa_i64 p0.Next)]), (3, .int .i64 (p0.Next.length : Int)), (4, .int .i64 s0), (5, .int .i64 s1)], []⟩) (fun u1 => match u1 with | .inl u1 => .exit 2 | .inr u1 => .ret) (fun u1 => match u1 with | .inl u1 => ⟨[(0, .cp [.sl 1 (List.map aLa_i64 p0.Next)]), (3, .int .i64 (p0.Next.length : Int)), (4, .int .i64 s0)], []⟩ | .inr u1 => ⟨[(2, .bool u1)], []⟩) (fun u1 => m_spec_l10Is_A1 s0 u1 = some c0) hl1 hm (fun u1 hm => ?_) (fun hx1 s1 c1 hm hc1 => ?_)
          · rcases u1 with u1 | u1
            · unfold m_spec_l10Is_A1 at hm
              refine T_region ?_
              refine TL_pure rfl rfl rfl rfl (op_move rfl) ?_
              refine TL_pure rfl rfl rfl rfl (op_addW rfl rfl) ?_
              refine TL_pure rfl rfl rfl rfl (op_assign rfl) ?_
              refine TL_nil ?_
              refine TR_keepH [0, 3, 4] [] rfl rfl rfl rfl (by rw [hF]; rfl) ?_
              obtain rfl := someI hm
              have hn := CtlOK_next hc0
              exact hn _ rfl
            · unfold m_spec_l10Is_A1 at hm
              obtain rfl := someI hm
              have hn := CtlOK_out hc0
              exact hx0 (.inr u1) hn
          · unfold m_spec_l10Is_L1 at hm
            refine T_seq ?_
            refine T_seq ?_
            refine T_region ?_
            refine TL_pure rfl rfl rfl rfl (op_move rfl) ?_
            refine TL_pure rfl rfl rfl rfl (op_lss rfl rfl) ?_
            refine TL_nil ?_
            refine T_cond rfl (fun hq => ?_) (fun hq => ?_)
            · replace hm := condT hq hm
              refine T_skip ?_
              refine T_seq ?_
              refine T_block ?_
              refine T_seq ?_
              refine T_region ?_
              refine TL_pure rfl rfl rfl rfl (op_move rfl) ?_
              refine TL_pure rfl rfl rfl rfl (op_nilCheck rfl rfl) ?_
              refine TL_pure rfl rfl rfl rfl (op_fieldAddr fa26_0 rfl rfl) ?_
              refine TL_pure rfl rfl rfl rfl (op_load_one ag24 rfl rfl) ?_
              refine TL_pure rfl rfl rfl rfl (op_move rfl) ?_
              refine TL_pure rfl rfl rfl rfl (op_indexT el24 rfl rfl hx24 rfl) ?_
              refine TL_pure rfl rfl rfl rfl (op_load_one ag29 rfl rfl) ?_
              refine TL_pure rfl rfl rfl rfl (op_move rfl) ?_
              obtain ⟨x40, hx40, hm⟩ := bindS hm
              refine TL_pure rfl rfl rfl rfl (op_indexT el29 rfl rfl hx40 rfl) ?_
              refine TL_pure rfl rfl rfl rfl (op_load_one ag2 rfl rfl) ?_
              refine TL_pure rfl rfl rfl rfl (op_move rfl) ?_
              refine TL_pure rfl rfl rfl rfl (op_subW rfl rfl) ?_
              obtain ⟨r44, hr44, hm⟩ := bindS hm
              refine TL_callF (ACall.F (F := F) (c_spec_l00In x40 (-1 : Int) (w64 ((p0.Next.length : Int) - (1 : Int))) r44 hr44)) Tryd.call57 rfl rfl rfl rfl rfl ?_
              refine TL_pure rfl rfl rfl rfl (op_not rfl) ?_
              refine TL_nil ?_
              refine T_cond rfl (fun hq => ?_) (fun hq => ?_)
              · replace hm := condT hq hm
                refine T_seq ?_
                refine T_region ?_
                refine TL_pure rfl rfl rfl rfl (op_assign rfl) ?_
                refine TL_nil ?_
                refine T_keepH [2] [] rfl rfl rfl rfl (by rw [hF]; rfl) ?_
                refine T_ret ?_
                obtain rfl := someI hm
                have hn := CtlOK_out hc1
                exact hx1 (.inr false) hn
              · replace hm := condF hq hm
                refine T_skip ?_
                refine T_region ?_
                refine TL_pure rfl rfl rfl rfl (op_move rfl) ?_
                refine TL_pure rfl rfl rfl rfl (op_addW rfl rfl) ?_
                refine TL_pure rfl rfl rfl rfl (op_assign rfl) ?_
                refine TL_nil ?_
                refine TR_keepH [0, 3, 4, 5] [] rfl rfl rfl rfl (by rw [hF]; rfl) ?_
                obtain rfl := someI hm
                have hn := CtlOK_next hc1
                exact hn _ rfl
            · replace hm := condF hq hm
              refine T_keepH [0, 3, 4] [] rfl rfl rfl rfl (by rw [hF]; rfl) ?_
              refine T_exit ?_
              obtain rfl := someI hm
              have hn := CtlOK_out hc1
              exact hx1 (.inl ()) hn
      · replace hm := condF hq hm
        refine T_keepH [] [] rfl rfl rfl rfl (by rw [hF]; rfl) ?_
        refine T_exit ?_
        obtain rfl := someI hm
        have hn := CtlOK_out hc0
        exact hx0 (.inl ()) hn
theorem c_spec_l00Own (p0 : List Int) (out : List Int) (hm : m_spec_l00Own p0 = some out) : ACall Tryd.prog 56 [.sl 1 (List.map a_i64 p0)] [] (.ow 1000) [(1000, .arr ⟨false, true⟩ 1 2 (List.map a_i64 out))] := by
  refine ACall.intro Tryd.func56 rfl Tryd.ntmps56 rfl (fun F hF => ?_)
  unfold m_spec_l00Own at hm
  refine T_seq ?_
  refine T_region ?_
  refine TL_pure rfl rfl rfl rfl (op_assign rfl) ?_
  refine TL_nil ?_
  refine T_seq ?_
  refine T_region ?_
  refine TL_buildSlice 11 (es := List.map a_i64 ([] : List Int)) el29 z2 rfl rfl rfl rfl rfl rfl rfl rfl rfl ?_
  refine TL_pure rfl rfl rfl rfl (op_move rfl) ?_
  obtain ⟨q5, hq5, hm⟩ := bindS hm
  refine TL_appendT (f := a_i64) (a := ([] : List Int)) (b := p0) el29 z2 rfl rfl rfl rfl rfl rfl rfl (capI_spec hq5) rfl rfl rfl rfl rfl ?_
  refine TL_pure rfl rfl rfl rfl (op_assign rfl) ?_
  refine TL_nil ?_
  refine T_keepH [2] [11] rfl rfl rfl rfl (by rw [hF]; rfl) ?_
  refine T_deepen 11 (p' := false) (List.map a_i64 (([] : List Int) ++ p0)) (by rw [hF]; rfl) rfl (ElR.map (f := a_i64) (g := a_i64) (fun _ => ⟨⟨rfl, rfl⟩, trivial⟩) (([] : List Int) ++ p0)) rfl rfl rfl ?_
  refine T_ren [(11, 1000)] rfl rfl rfl (by rw [hF]; rfl) ?_
  refine T_ret ?_
  obtain rfl := someI hm
  refine ⟨[_], [1000], ⟨rfl, trivial⟩, ?_, rfl, rfl, rfl, rfl⟩
  rfl
theorem c_spec_l10Alike (p0 : Policy) (p1 : List Int) (p2 : Int) (p3 : Int) (out : Bool) (hm : m_spec_l10Alike p0 p1 p2 p3 = some out) : ACall Tryd.prog 82 [.cp [.sl 1 (List.map aLa_i64 p0.Next)], .sl 1 (List.map a_i64 p1), .int .i64 p2, .int .i64 p3] [] (.bool out) [] := by
  refine ACall.intro Tryd.func82 rfl Tryd.ntmps82 rfl (fun F hF => ?_)
  unfold m_spec_l10Alike at hm
  refine T_seq ?_
  refine T_region ?_
  refine TL_pure rfl rfl rfl rfl (op_assign rfl) ?_
  refine TL_nil ?_
  refine T_seq ?_
  refine T_seq ?_
  refine T_drawZ [] mix (by kernel_rfl) rfl ?_
  obtain ⟨x14, hx14, hm⟩ := bindS hm
  obtain ⟨x18, hx18, hm⟩ := bindS hm
  refine TZ_pure 0 (by kernel_rfl) rfl rfl rfl rfl rfl (op_move rfl) ?_
  refine TZ_pure 1 (by kernel_rfl) rfl rfl rfl rfl rfl (op_move rfl) ?_
  refine TZ_pure 2 (by kernel_rfl) rfl rfl rfl rfl rfl (op_indexT el29 rfl rfl hx14 rfl) ?_
  refine TZ_pure 3 (by kernel_rfl) rfl rfl rfl rfl rfl (op_load_one ag2 rfl rfl) ?_
  refine TZ_pure 4 (by kernel_rfl) rfl rfl rfl rfl rfl (op_move rfl) ?_
  refine TZ_pure 5 (by kernel_rfl) rfl rfl rfl rfl rfl (op_move rfl) ?_
  refine TZ_pure 6 (by kernel_rfl) rfl rfl rfl rfl rfl (op_indexT el29 rfl rfl hx18 rfl) ?_
  refine TZ_pure 7 (by kernel_rfl) rfl rfl rfl rfl rfl (op_load_one ag2 rfl rfl) ?_
  refine TZ_pure 8 (by kernel_rfl) rfl rfl rfl rfl rfl (op_neq rfl rfl) ?_
  refine TZ_done (by kernel_rfl) ?_
  refine T_cond rfl (fun hq => ?_) (fun hq => ?_)
  · replace hm := condT hq hm
    refine T_seq ?_
    refine T_region ?_
    refine TL_pure rfl rfl rfl rfl (op_assign rfl) ?_
    refine TL_nil ?_
    refine T_keepH [8] [] rfl rfl rfl rfl (by rw [hF]; rfl) ?_
    refine T_ret ?_
    obtain rfl := someI hm
    refine ⟨[_], [], ⟨rfl, trivial⟩, ?_, rfl, rfl, rfl, rfl⟩
    rfl
  · replace hm := condF hq hm
    refine T_skip ?_
    refine T_seq ?_
    refine T_seq ?_
    refine T_region ?_
    refine TL_pure rfl rfl rfl rfl (op_assign rfl) ?_
    refine TL_nil ?_
    refine T_block ?_
    refine T_keepH [0, 1, 2, 3, 9] [] rfl rfl rfl rfl (by rw [hF]; rfl) ?_
    refine T_loop ?_
    obtain ⟨u0, hl0, hm⟩ := bindS hm
    refine TR_iter2 (m_spec_l10Alike_L0 p0 p1 p2 p3) (fun (s0 : Int) => ⟨[(0, .cp [.sl 1 (List.map aLa_i64 p0.Next)]), (1, .sl 1 (List.map a_i64 p1)), (2, .int .i64 p2), (3, .int .i64 p3), (9, .int .i64 s0)], []⟩) (fun u0 => match u0 with | .inl u0 => .exit 0 | .inr u0 => .ret) (fun u0 => match u0 with | .inl u0 => ⟨[], []⟩ | .inr u0 => ⟨[(8, .bool u0)], []⟩) (fun u0 => m_spec_l10Alike_A0 u0 = some out) hl0 hm (fun u0 hm => ?_) (fun hx0 s0 c0 hm hc0 => ?_)
    · rcases u0 with u0 | u0
      · unfold m_spec_l10Alike_A0 at hm
        refine T_seq ?_
        refine T_region ?_
        refine TL_pure rfl rfl rfl rfl (op_assign rfl) ?_
        refine TL_nil ?_
        refine T_keepH [8] [] rfl rfl rfl rfl (by rw [hF]; rfl) ?_
        refine T_ret ?_
        obtain rfl := someI hm
        refine ⟨[_], [], ⟨rfl, trivial⟩, ?_, rfl, rfl, rfl, rfl⟩
        rfl
      · unfold m_spec_l10Alike_A0 at hm
        obtain rfl := someI hm
        refine ⟨[_], [], ⟨rfl, trivial⟩, ?_, rfl, rfl, rfl, rfl⟩
        rfl
    · unfold m_spec_l10Alike_L0 at hm
      refine T_seq ?_
      refine T_seq ?_
      refine T_region ?_
      refine TL_pure rfl rfl rfl rfl (op_move rfl) ?_
      refine TL_pure rfl rfl rfl rfl (op_lss rfl rfl) ?_
      refine TL_nil ?_
      refine T_cond rfl (fun hq => ?_) (fun hq => ?_)
      · replace hm := condT hq hm
        refine T_skip ?_
        refine T_seq ?_
        refine T_block ?_
        refine T_seq ?_
        refine T_region ?_
        refine TL_pure rfl rfl rfl rfl (op_move rfl) ?_
        refine TL_pure rfl rfl rfl rfl (op_nilCheck rfl rfl) ?_
        refine TL_pure rfl rfl rfl rfl (op_fieldAddr fa26_0 rfl rfl) ?_
        refine TL_pure rfl rfl rfl rfl (op_load_one ag24 rfl rfl) ?_
        refine TL_pure rfl rfl rfl rfl (op_move rfl) ?_
        obtain ⟨x30, hx30, hm⟩ := bindS hm
        refine TL_pure rfl rfl rfl rfl (op_indexT el24 rfl rfl hx30 rfl) ?_
        refine TL_pure rfl rfl rfl rfl (op_load_one ag29 rfl rfl) ?_
        refine TL_pure rfl rfl rfl rfl (op_move rfl) ?_
        obtain ⟨x33, hx33, hm⟩ := bindS hm
        refine TL_pure rfl rfl rfl rfl (op_indexT el29 rfl rfl hx33 rfl) ?_
        refine TL_pure rfl rfl rfl rfl (op_load_one ag2 rfl rfl) ?_
        refine TL_pure rfl rfl rfl rfl (op_assign rfl) ?_
        refine TL_nil ?_
        refine T_seq ?_
        refine T_region ?_
        refine TL_pure rfl rfl rfl rfl (op_move rfl) ?_
        refine TL_pure rfl rfl rfl rfl (op_nilCheck rfl rfl) ?_
        refine TL_pure rfl rfl rfl rfl (op_fieldAddr fa26_0 rfl rfl) ?_
        refine TL_pure rfl rfl rfl rfl (op_load_one ag24 rfl rfl) ?_
        refine TL_pure rfl rfl rfl rfl (op_move rfl) ?_
        obtain ⟨x40, hx40, hm⟩ := bindS hm
        refine TL_pure rfl rfl rfl rfl (op_indexT el24 rfl rfl hx40 rfl) ?_
        refine TL_pure rfl rfl rfl rfl (op_load_one ag29 rfl rfl) ?_
        refine TL_pure rfl rfl rfl rfl (op_move rfl) ?_
        obtain ⟨x43, hx43, hm⟩ := bindS hm
        refine TL_pure rfl rfl rfl rfl (op_indexT el29 rfl rfl hx43 rfl) ?_
        refine TL_pure rfl rfl rfl rfl (op_load_one ag2 rfl rfl) ?_
        refine TL_pure rfl rfl rfl rfl (op_assign rfl) ?_
        refine TL_nil ?_
        refine T_seq ?_
        refine T_drawZ [] mix (by kernel_rfl) rfl ?_
        refine TZ_pure 0 (by kernel_rfl) rfl rfl rfl rfl rfl (op_move rfl) ?_
        refine TZ_pure 1 (by kernel_rfl) rfl rfl rfl rfl rfl (op_lss rfl rfl) ?_
        refine TZ_pure 2 (by kernel_rfl) rfl rfl rfl rfl rfl (op_move rfl) ?_
        refine TZ_pure 3 (by kernel_rfl) rfl rfl rfl rfl rfl (op_lss rfl rfl) ?_
        refine TZ_pure 4 (by kernel_rfl) rfl rfl rfl rfl rfl (op_neqB Tryd.underlying4 rfl rfl) ?_
        refine TZ_pure 5 (by kernel_rfl) rfl rfl rfl rfl rfl (op_move rfl) ?_
        refine TZ_split 50 rfl rfl rfl (fun hq => ?_) (fun hq => ?_)
        · replace hm := condT hq hm
          refine TZ_pass 6 (by kernel_rfl) rfl rfl rfl rfl rfl rfl rfl rfl ?_
          refine TZ_pass 7 (by kernel_rfl) rfl rfl rfl rfl rfl rfl rfl rfl ?_
          refine TZ_pass 8 (by kernel_rfl) rfl rfl rfl rfl rfl rfl rfl rfl ?_
          refine TZ_pass2 9 (by kernel_rfl) rfl rfl rfl rfl rfl rfl rfl ?_
          refine TZ_pass2 10 (by kernel_rfl) rfl rfl rfl rfl rfl rfl rfl ?_
          refine TZ_pass2 11 (by kernel_rfl) rfl rfl rfl rfl rfl rfl rfl ?_
          refine TZ_pass2 12 (by kernel_rfl) rfl rfl rfl rfl rfl rfl rfl ?_
          refine TZ_pass2 13 (by kernel_rfl) rfl rfl rfl rfl rfl rfl rfl ?_
          refine TZ_pass2 14 (by kernel_rfl) rfl rfl rfl rfl rfl rfl rfl ?_
          refine TZ_pass2 15 (by kernel_rfl) rfl rfl rfl rfl rfl rfl rfl ?_
          refine TZ_pass2 16 (by kernel_rfl) rfl rfl rfl rfl rfl rfl rfl ?_
          refine TZ_pass2 17 (by kernel_rfl) rfl rfl rfl rfl rfl rfl rfl ?_
          refine TZ_pass 18 (by kernel_rfl) rfl rfl rfl rfl rfl rfl rfl rfl ?_
          refine TZ_pure 19 (by kernel_rfl) rfl rfl rfl rfl rfl (op_pick_true rfl rfl) ?_
          refine TZ_done (by kernel_rfl) ?_
          refine T_cond_true rfl ?_
          refine T_seq ?_
          refine T_region ?_
          refine TL_pure rfl rfl rfl rfl (op_assign rfl) ?_
          refine TL_nil ?_
          refine T_keepH [8] [] rfl rfl rfl rfl (by rw [hF]; rfl) ?_
          refine T_ret ?_
          obtain rfl := someI hm
          have hn := CtlOK_out hc0
          exact hx0 (.inr false) hn
        · replace hm := condF hq hm
          refine TZ_pureW 6 (by kernel_rfl) rfl rfl rfl rfl rfl rfl rfl (op_move rfl) ?_
          refine TZ_pureW 7 (by kernel_rfl) rfl rfl rfl rfl rfl rfl rfl (op_geq rfl rfl) ?_
          refine TZ_pureW 8 (by kernel_rfl) rfl rfl rfl rfl rfl rfl rfl (op_move rfl) ?_
          refine TZ_split 53 rfl rfl rfl (fun hq => ?_) (fun hq => ?_)
          · replace hm := condT hq hm
            obtain ⟨x56, hx56, hm⟩ := bindS hm
            obtain ⟨x60, hx60, hm⟩ := bindS hm
            refine TZ_pureW 9 (by kernel_rfl) rfl rfl rfl rfl rfl rfl rfl (op_move rfl) ?_
            refine TZ_pureW 10 (by kernel_rfl) rfl rfl rfl rfl rfl rfl rfl (op_move rfl) ?_
            refine TZ_pureW 11 (by kernel_rfl) rfl rfl rfl rfl rfl rfl rfl (op_indexT el29 rfl rfl hx56 rfl) ?_
            refine TZ_pureW 12 (by kernel_rfl) rfl rfl rfl rfl rfl rfl rfl (op_load_one ag2 rfl rfl) ?_
            refine TZ_pureW 13 (by kernel_rfl) rfl rfl rfl rfl rfl rfl rfl (op_move rfl) ?_
            refine TZ_pureW 14 (by kernel_rfl) rfl rfl rfl rfl rfl rfl rfl (op_move rfl) ?_
            refine TZ_pureW 15 (by kernel_rfl) rfl rfl rfl rfl rfl rfl rfl (op_indexT el29 rfl rfl hx60 rfl) ?_
            refine TZ_pureW 16 (by kernel_rfl) rfl rfl rfl rfl rfl rfl rfl (op_load_one ag2 rfl rfl) ?_
            refine TZ_pureW 17 (by kernel_rfl) rfl rfl rfl rfl rfl rfl rfl (op_neq rfl rfl) ?_
            refine TZ_pureW 18 (by kernel_rfl) rfl rfl rfl rfl rfl rfl rfl (op_pick_true rfl rfl) ?_
            refine TZ_pure 19 (by kernel_rfl) rfl rfl rfl rfl rfl (op_pick_false rfl rfl) ?_
            refine TZ_done (by kernel_rfl) ?_
            refine T_cond rfl (fun hq => ?_) (fun hq => ?_)
            · replace hm := condT hq hm
              refine T_seq ?_
              refine T_region ?_
              refine TL_pure rfl rfl rfl rfl (op_assign rfl) ?_
              refine TL_nil ?_
              refine T_keepH [8] [] rfl rfl rfl rfl (by rw [hF]; rfl) ?_
              refine T_ret ?_
              obtain rfl := someI hm
              have hn := CtlOK_out hc0
              exact hx0 (.inr false) hn
            · replace hm := condF hq hm
              refine T_skip ?_
              refine T_region ?_
              refine TL_pure rfl rfl rfl rfl (op_move rfl) ?_
              refine TL_pure rfl rfl rfl rfl (op_addW rfl rfl) ?_
              refine TL_pure rfl rfl rfl rfl (op_assign rfl) ?_
              refine TL_nil ?_
              refine TR_keepH [0, 1, 2, 3, 9] [] rfl rfl rfl rfl (by rw [hF]; rfl) ?_
              obtain rfl := someI hm
              have hn := CtlOK_next hc0
              exact hn _ rfl
          · replace hm := condF hq hm
            refine TZ_pass 9 (by kernel_rfl) rfl rfl rfl rfl rfl rfl rfl rfl ?_
            refine TZ_pass 10 (by kernel_rfl) rfl rfl rfl rfl rfl rfl rfl rfl ?_
            refine TZ_pass 11 (by kernel_rfl) rfl rfl rfl rfl rfl rfl rfl rfl ?_
            refine TZ_pass 12 (by kernel_rfl) rfl rfl rfl rfl rfl rfl rfl rfl ?_
            refine TZ_pass 13 (by kernel_rfl) rfl rfl rfl rfl rfl rfl rfl rfl ?_
            refine TZ_pass 14 (by kernel_rfl) rfl rfl rfl rfl rfl rfl rfl rfl ?_
            refine TZ_pass 15 (by kernel_rfl) rfl rfl rfl rfl rfl rfl rfl rfl ?_
            refine TZ_pass 16 (by kernel_rfl) rfl rfl rfl rfl rfl rfl rfl rfl ?_
            refine TZ_pass 17 (by kernel_rfl) rfl rfl rfl rfl rfl rfl rfl rfl ?_
            refine TZ_pureW 18 (by kernel_rfl) rfl rfl rfl rfl rfl rfl rfl (op_pick_false rfl rfl) ?_
            refine TZ_pure 19 (by kernel_rfl) rfl rfl rfl rfl rfl (op_pick_false rfl rfl) ?_
            refine TZ_done (by kernel_rfl) ?_
            refine T_cond_false rfl ?_
            refine T_skip ?_
            refine T_region ?_
            refine TL_pure rfl rfl rfl rfl (op_move rfl) ?_
            refine TL_pure rfl rfl rfl rfl (op_addW rfl rfl) ?_
            refine TL_pure rfl rfl rfl rfl (op_assign rfl) ?_
            refine TL_nil ?_
            refine TR_keepH [0, 1, 2, 3, 9] [] rfl rfl rfl rfl (by rw [hF]; rfl) ?_
            obtain rfl := someI hm
            have hn := CtlOK_next hc0
            exact hn _ rfl
      · replace hm := condF hq hm
        refine T_keepH [] [] rfl rfl rfl rfl (by rw [hF]; rfl) ?_
        refine T_exit ?_
        obtain rfl := someI hm
        have hn := CtlOK_out hc0
        exact hx0 (.inl ()) hn
theorem c_spec_l10Classes (p0 : Policy) (out : List Int) (hm : m_spec_l10Classes p0 = some out) : ACall Tryd.prog 65 [.cp [.sl 1 (List.map aLa_i64 p0.Next)]] [] (.ow 1000) [(1000, .arr ⟨false, true⟩ 1 2 (List.map a_i64 out))] := by
  refine ACall.intro Tryd.func65 rfl Tryd.ntmps65 rfl (fun F hF => ?_)
  unfold m_spec_l10Classes at hm
  refine T_seq ?_
  refine T_region ?_
  refine TL_pure rfl rfl rfl rfl (op_assign rfl) ?_
  refine TL_nil ?_
  refine T_seq ?_
  refine T_region ?_
  refine TL_pure rfl rfl rfl rfl (op_move rfl) ?_
  refine TL_pure rfl rfl rfl rfl (op_nilCheck rfl rfl) ?_
  refine TL_pure rfl rfl rfl rfl (op_fieldAddr fa26_0 rfl rfl) ?_
  refine TL_pure rfl rfl rfl rfl (op_load_one ag24 rfl rfl) ?_
  refine TL_pure rfl rfl rfl rfl (op_lenT Tryd.underlying24 rfl (List.length_map _)) ?_
  refine TL_fact (fun _ _ _ hr => RelP.slLen (i := 13) rfl hr) (fun hlen14 => ?_)
  rw [List.length_map] at hlen14
  refine TL_pure rfl rfl rfl rfl (op_assign rfl) ?_
  refine TL_nil ?_
  refine T_seq ?_
  refine T_region ?_
  refine TL_pure rfl rfl rfl rfl (op_move rfl) ?_
  obtain ⟨k16, hk16, hm⟩ := bindS hm
  refine TL_make 11 (n := k16) el29 z2 rfl rfl rfl rfl rfl rfl (makeI_spec hk16).1 (makeI_spec hk16).1 (makeI_spec hk16).2 rfl rfl rfl rfl ?_
  refine TL_nils 11 (List.map a_i64 (List.replicate k16 (0 : Int))) (by rw [hF]; rfl) rfl (ElR.rep (z := .int .i64 (0 : Int)) (g := a_i64) (x := (0 : Int)) ⟨⟨rfl, rfl⟩, trivial⟩ k16) rfl ?_
  refine TL_pure rfl rfl rfl rfl (op_assign rfl) ?_
  refine TL_nil ?_
  refine T_seq ?_
  refine T_seq ?_
  refine T_region ?_
  refine TL_pure rfl rfl rfl rfl (op_assign rfl) ?_
  refine TL_nil ?_
  refine T_block ?_
  refine T_keepH [0, 3, 4, 5] [11] rfl rfl rfl rfl (by rw [hF]; rfl) ?_
  refine T_loop ?_
  obtain ⟨u0, hl0, hm⟩ := bindS hm
  refine TR_iter2 (m_spec_l10Classes_L0 p0) (fun (s0 : (List Int) × Int) => ⟨[(0, .cp [.sl 1 (List.map aLa_i64 p0.Next)]), (3, .int .i64 (p0.Next.length : Int)), (4, .ow 11), (5, .int .i64 s0.2)], [(11, .arr ⟨false, false⟩ 1 2 (List.map a_i64 s0.1))]⟩) (fun u0 => .exit 0) (fun u0 => ⟨[(4, .ow 11)], [(11, .arr ⟨false, false⟩ 1 2 (List.map a_i64 u0))]⟩) (fun u0 => m_spec_l10Classes_A0 u0 = some out) hl0 hm (fun u0 hm => ?_) (fun hx0 s0 c0 hm hc0 => ?_)
  · unfold m_spec_l10Classes_A0 at hm
    refine T_seq ?_
    refine T_region ?_
    refine TL_pure rfl rfl rfl rfl (op_move rfl) ?_
    refine TL_pure rfl rfl rfl rfl (op_assign rfl) ?_
    refine TL_nil ?_
    refine T_keepH [2] [11] rfl rfl rfl rfl (by rw [hF]; rfl) ?_
    refine T_deepen 11 (p' := false) (List.map a_i64 u0) (by rw [hF]; rfl) rfl (ElR.map (f := a_i64) (g := a_i64) (fun _ => ⟨⟨rfl, rfl⟩, trivial⟩) u0) rfl rfl rfl ?_
    refine T_ren [(11, 1000)] rfl rfl rfl (by rw [hF]; rfl) ?_
    refine T_ret ?_
    obtain rfl := someI hm
    refine ⟨[_], [1000], ⟨rfl, trivial⟩, ?_, rfl, rfl, rfl, rfl⟩
    rfl
  · unfold m_spec_l10Classes_L0 at hm
    refine T_seq ?_
    refine T_seq ?_
    refine T_region ?_
    refine TL_pure rfl rfl rfl rfl (op_move rfl) ?_
    refine TL_pure rfl rfl rfl rfl (op_move rfl) ?_
    refine TL_pure rfl rfl rfl rfl (op_lss rfl rfl) ?_
    refine TL_nil ?_
    refine T_cond rfl (fun hq => ?_) (fun hq => ?_)
    · replace hm := condT hq hm
      refine T_skip ?_
      refine T_seq ?_
      refine T_block ?_
      refine T_seq ?_
      refine T_region ?_
      refine TL_buildSlice 26 (es := List.map a_i64 ([] : List Int)) el29 z2 rfl rfl rfl rfl rfl rfl rfl rfl rfl ?_
      refine TL_pure rfl rfl rfl rfl (op_assign rfl) ?_
      refine TL_nil ?_
      refine T_seq ?_
      refine T_seq ?_
      refine T_region ?_
      refine TL_pure rfl rfl rfl rfl (op_assign rfl) ?_
      refine TL_nil ?_
      refine T_block ?_
      refine T_keepH [0, 3, 4, 5, 6, 7] [11, 26] rfl rfl rfl rfl (by rw [hF]; rfl) ?_
      refine T_loop ?_
      obtain ⟨u1, hl1, hm⟩ := bindS hm
      refine TR_iter2 (m_spec_l10Classes_L1 p0 s0) (fun (s1 : (List Int) × Int) => ⟨[(0, .cp [.sl 1 (List.map aLa_i64 p0.Next)]), (3, .int .i64 (p0.Next.length : Int)), (4, .ow 11), (5, .int .i64 s0.2), (6, .ow 26), (7, .int .i64 s1.2)], [(11, .arr ⟨false, false⟩ 1 2 (List.map a_i64 s0.1)), (26, .arr ⟨false, false⟩ 1 2 (List.map a_i64 s1.1))]⟩) (fun u1 => .exit 2) (fun u1 => ⟨[(0, .cp [.sl 1 (List.map aLa_i64 p0.Next)]), (3, .int .i64 (p0.Next.length : Int)), (5, .int .i64 s0.2), (6, .ow 26)], [(26, .arr ⟨false, false⟩ 1 2 (List.map a_i64 u1))]⟩) (fun u1 => m_spec_l10Classes_A1 s0 u1 = some c0) hl1 hm (fun u1 hm => ?_) (fun hx1 s1 c1 hm hc1 => ?_)
      · unfold m_spec_l10Classes_A1 at hm
        refine T_region ?_
        refine TL_pure rfl rfl rfl rfl (op_move rfl) ?_
        refine TL_pure rfl rfl rfl rfl (op_assign rfl) ?_
        refine TL_nil ?_
        refine T_region ?_
        refine TL_pure rfl rfl rfl rfl (op_move rfl) ?_
        refine TL_pure rfl rfl rfl rfl (op_addW rfl rfl) ?_
        refine TL_pure rfl rfl rfl rfl (op_assign rfl) ?_
        refine TL_nil ?_
        refine TR_keepH [0, 3, 4, 5] [26] rfl rfl rfl rfl (by rw [hF]; rfl) ?_
        refine TR_ren [(26, 11)] rfl rfl rfl (by rw [hF]; rfl) ?_
        obtain rfl := someI hm
        have hn := CtlOK_next hc0
        exact hn _ rfl
      · unfold m_spec_l10Classes_L1 at hm
        refine T_seq ?_
        refine T_seq ?_
        refine T_region ?_
        refine TL_pure rfl rfl rfl rfl (op_move rfl) ?_
        refine TL_pure rfl rfl rfl rfl (op_move rfl) ?_
        refine TL_pure rfl rfl rfl rfl (op_lss rfl rfl) ?_
        refine TL_nil ?_
        refine T_cond rfl (fun hq => ?_) (fun hq => ?_)
        · replace hm := condT hq hm
          refine T_skip ?_
          refine T_seq ?_
          refine T_block ?_
          refine T_seq ?_
          refine T_region ?_
          refine TL_pure rfl rfl rfl rfl (op_assign rfl) ?_
          refine TL_nil ?_
          refine T_seq ?_
          refine T_seq ?_
          refine T_region ?_
          refine TL_pure rfl rfl rfl rfl (op_assign rfl) ?_
          refine TL_nil ?_
          refine T_block ?_
          refine T_keepH [0, 3, 4, 5, 6, 7, 8, 9] [11, 26] rfl rfl rfl rfl (by rw [hF]; rfl) ?_
          refine T_loop ?_
          obtain ⟨u2, hl2, hm⟩ := bindS hm
          refine TR_iter2 (m_spec_l10Classes_L2 p0 s0 s1) (fun (s2 : Int × Int) => ⟨[(0, .cp [.sl 1 (List.map aLa_i64 p0.Next)]), (3, .int .i64 (p0.Next.length : Int)), (4, .ow 11), (5, .int .i64 s0.2), (6, .ow 26), (7, .int .i64 s1.2), (8, .int .i64 s2.1), (9, .int .i64 s2.2)], [(11, .arr ⟨false, false⟩ 1 2 (List.map a_i64 s0.1)), (26, .arr ⟨false, false⟩ 1 2 (List.map a_i64 s1.1))]⟩) (fun u2 => .exit 4) (fun u2 => ⟨[(0, .cp [.sl 1 (List.map aLa_i64 p0.Next)]), (3, .int .i64 (p0.Next.length : Int)), (4, .ow 11), (5, .int .i64 s0.2), (6, .ow 26), (7, .int .i64 s1.2), (8, .int .i64 u2)], [(11, .arr ⟨false, false⟩ 1 2 (List.map a_i64 s0.1)), (26, .arr ⟨false, false⟩ 1 2 (List.map a_i64 s1.1))]⟩) (fun u2 => m_spec_l10Classes_A2 s1 u2 = some c1) hl2 hm (fun u2 hm => ?_) (fun hx2 s2 c2 hm hc2 => ?_)
          · unfold m_spec_l10Classes_A2 at hm
            refine T_seq ?_
            refine T_seq ?_
            refine T_region ?_
            refine TL_pure rfl rfl rfl rfl (op_move rfl) ?_
            refine TL_pure rfl rfl rfl rfl (op_lss rfl rfl) ?_
            refine TL_nil ?_
            refine T_cond rfl (fun hq => ?_) (fun hq => ?_)
            · replace hm := condT hq hm
              refine T_region ?_
              refine TL_pure rfl rfl rfl rfl (op_move rfl) ?_
              refine TL_pure rfl rfl rfl rfl (op_assign rfl) ?_
              refine TL_nil ?_
              refine T_region ?_
              refine TL_pure rfl rfl rfl rfl (op_move rfl) ?_
              refine TL_pure rfl rfl rfl rfl (op_move rfl) ?_
              refine TL_buildSlice 31 (es := List.map a_i64 [s1.2]) el29 z2 rfl rfl rfl rfl rfl rfl rfl rfl rfl ?_
              obtain ⟨q52, hq52, hm⟩ := bindS hm
              refine TL_appendT (f := a_i64) (a := s1.1) (b := [s1.2]) el29 z2 rfl rfl rfl rfl rfl rfl rfl (capI_spec hq52) rfl rfl rfl rfl rfl ?_
              refine TL_pure rfl rfl rfl rfl (op_assign rfl) ?_
              refine TL_nil ?_
              refine T_region ?_
              refine TL_pure rfl rfl rfl rfl (op_move rfl) ?_
              refine TL_pure rfl rfl rfl rfl (op_addW rfl rfl) ?_
              refine TL_pure rfl rfl rfl rfl (op_assign rfl) ?_
              refine TL_nil ?_
              refine TR_keepH [0, 3, 4, 5, 6, 7] [11, 26] rfl rfl rfl rfl (by rw [hF]; rfl) ?_
              obtain rfl := someI hm
              have hn := CtlOK_next hc1
              exact hn _ rfl
            · replace hm := condF hq hm
              refine T_skip ?_
              refine T_region ?_
              refine TL_pure rfl rfl rfl rfl (op_move rfl) ?_
              refine TL_pure rfl rfl rfl rfl (op_move rfl) ?_
              refine TL_buildSlice 32 (es := List.map a_i64 [u2]) el29 z2 rfl rfl rfl rfl rfl rfl rfl rfl rfl ?_
              obtain ⟨q52, hq52, hm⟩ := bindS hm
              refine TL_appendT (f := a_i64) (a := s1.1) (b := [u2]) el29 z2 rfl rfl rfl rfl rfl rfl rfl (capI_spec hq52) rfl rfl rfl rfl rfl ?_
              refine TL_pure rfl rfl rfl rfl (op_assign rfl) ?_
              refine TL_nil ?_
              refine T_region ?_
              refine TL_pure rfl rfl rfl rfl (op_move rfl) ?_
              refine TL_pure rfl rfl rfl rfl (op_addW rfl rfl) ?_
              refine TL_pure rfl rfl rfl rfl (op_assign rfl) ?_
              refine TL_nil ?_
              refine TR_keepH [0, 3, 4, 5, 6, 7] [11, 26] rfl rfl rfl rfl (by rw [hF]; rfl) ?_
              obtain rfl := someI hm
              have hn := CtlOK_next hc1
              exact hn _ rfl
          · unfold m_spec_l10Classes_L2 at hm
            refine T_seq ?_
            refine T_seq ?_
            refine T_region ?_
            refine TL_pure rfl rfl rfl rfl (op_move rfl) ?_
            refine TL_pure rfl rfl rfl rfl (op_move rfl) ?_
            refine TL_pure rfl rfl rfl rfl (op_lss rfl rfl) ?_
            refine TL_pure rfl rfl rfl rfl (op_move rfl) ?_
            refine TL_join 3 (fun _ : Unit => ⟨[(0, .cp [.sl 1 (List.map aLa_i64 p0.Next)]), (3, .int .i64 (p0.Next.length : Int)), (4, .ow 11), (5, .int .i64 s0.2), (6, .ow 26), (7, .int .i64 s1.2), (8, .int .i64 s2.1), (9, .int .i64 s2.2), (34, .bool ((decide (s2.2 < s1.2)) && (decide (s2.1 < (0 : Int)))))], [(11, .arr ⟨false, false⟩ 1 2 (List.map a_i64 s0.1)), (26, .arr ⟨false, false⟩ 1 2 (List.map a_i64 s1.1))]⟩) (fun _ => True) (fun _ _ => ?_) (fun hjj => ?_)
            · refine TL_nil ?_
              refine T_cond rfl (fun hq => ?_) (fun hq => ?_)
              · replace hm := condT hq hm
                refine T_skip ?_
                refine T_seq ?_
                refine T_block ?_
                refine T_seq ?_
                refine T_region ?_
                refine TL_pure rfl rfl rfl rfl (op_move rfl) ?_
                refine TL_pure rfl rfl rfl rfl (op_move rfl) ?_
                refine TL_pure rfl rfl rfl rfl (op_move rfl) ?_
                refine TL_pure rfl rfl rfl rfl (op_move rfl) ?_
                obtain ⟨r41, hr41, hm⟩ := bindS hm
                refine TL_callF (ACall.F (F := F) (c_spec_l10Alike p0 s0.1 s2.2 s1.2 r41 hr41)) Tryd.call82 rfl rfl rfl rfl rfl ?_
                refine TL_nil ?_
                refine T_cond rfl (fun hq => ?_) (fun hq => ?_)
                · replace hm := condT hq hm
                  refine T_region ?_
                  refine TL_pure rfl rfl rfl rfl (op_move rfl) ?_
                  refine TL_pure rfl rfl rfl rfl (op_move rfl) ?_
                  obtain ⟨x44, hx44, hm⟩ := bindS hm
                  refine TL_pure rfl rfl rfl rfl (op_indexO el29 rfl rfl rfl hx44) ?_
                  refine TL_pure rfl rfl rfl rfl (op_loadT1 ag2 rfl rfl ((getI_spec hx44).2) rfl rfl) ?_
                  refine TL_pure rfl rfl rfl rfl (op_assign rfl) ?_
                  refine TL_nil ?_
                  refine T_region ?_
                  refine TL_pure rfl rfl rfl rfl (op_move rfl) ?_
                  refine TL_pure rfl rfl rfl rfl (op_addW rfl rfl) ?_
                  refine TL_pure rfl rfl rfl rfl (op_assign rfl) ?_
                  refine TL_nil ?_
                  refine TR_keepH [0, 3, 4, 5, 6, 7, 8, 9] [11, 26] rfl rfl rfl rfl (by rw [hF]; rfl) ?_
                  obtain rfl := someI hm
                  have hn := CtlOK_next hc2
                  exact hn _ rfl
                · replace hm := condF hq hm
                  refine T_skip ?_
                  refine T_region ?_
                  refine TL_pure rfl rfl rfl rfl (op_move rfl) ?_
                  refine TL_pure rfl rfl rfl rfl (op_addW rfl rfl) ?_
                  refine TL_pure rfl rfl rfl rfl (op_assign rfl) ?_
                  refine TL_nil ?_
                  refine TR_keepH [0, 3, 4, 5, 6, 7, 8, 9] [11, 26] rfl rfl rfl rfl (by rw [hF]; rfl) ?_
                  obtain rfl := someI hm
                  have hn := CtlOK_next hc2
                  exact hn _ rfl
              · replace hm := condF hq hm
                refine T_keepH [0, 3, 4, 5, 6, 7, 8] [11, 26] rfl rfl rfl rfl (by rw [hF]; rfl) ?_
                refine T_exit ?_
                obtain rfl := someI hm
                have hn := CtlOK_out hc2
                exact hx2 s2.1 hn
            · refine TL_split 31 rfl rfl rfl (fun hq => ?_) (fun hq => ?_)
              · refine TL_want rfl rfl ?_
                refine TL_pure rfl rfl rfl rfl (op_move rfl) ?_
                refine TL_want rfl rfl ?_
                refine TL_pure rfl rfl rfl rfl (op_lss rfl rfl) ?_
                refine TL_pure rfl rfl rfl rfl (op_pick_true rfl rfl) ?_
                refine TL_keepH [0, 3, 4, 5, 6, 7, 8, 9, 34] [11, 26] rfl rfl rfl rfl (by rw [hF]; rfl) ?_
                exact TL_cast _ (by first | (rw [hq, Bool.true_and]; done) | (rw [hq]; rfl)) (hjj () trivial)
              · refine TL_pass rfl rfl rfl rfl rfl rfl rfl ?_
                refine TL_pass rfl rfl rfl rfl rfl rfl rfl ?_
                refine TL_pure rfl rfl rfl rfl (op_pick_false rfl rfl) ?_
                refine TL_keepH [0, 3, 4, 5, 6, 7, 8, 9, 34] [11, 26] rfl rfl rfl rfl (by rw [hF]; rfl) ?_
                exact TL_cast _ (by first | (rw [hq, Bool.false_and]; done) | (rw [hq]; rfl)) (hjj () trivial)
        · replace hm := condF hq hm
          refine T_keepH [0, 3, 5, 6] [26] rfl rfl rfl rfl (by rw [hF]; rfl) ?_
          refine T_exit ?_
          obtain rfl := someI hm
          have hn := CtlOK_out hc1
          exact hx1 s1.1 hn
    · replace hm := condF hq hm
      refine T_keepH [4] [11] rfl rfl rfl rfl (by rw [hF]; rfl) ?_
      refine T_exit ?_
      obtain rfl := someI hm
      have hn := CtlOK_out hc0
      exact hx0 s0.1 hn
theorem c_spec_l10Minimal (p0 : Policy) (out : Policy) (hm : m_spec_l10Minimal p0 = some out) : ACall Tryd.prog 41 [.cp [.sl 1 (List.map aLa_i64 p0.Next)]] [] (.agg [.ow 1000]) [(1000, .arr ⟨false, true⟩ 1 29 (List.map aLa_i64 out.Next))] := by
  refine ACall.intro Tryd.func41 rfl Tryd.ntmps41 rfl (fun F hF => ?_)
  unfold m_spec_l10Minimal at hm
  refine T_seq ?_
  refine T_region ?_
  refine TL_alloc 11 z26 rfl rfl rfl rfl rfl rfl rfl ?_
  refine TL_nil ?_
  refine T_seq ?_
  refine T_region ?_
  refine TL_pure rfl rfl rfl rfl (op_move rfl) ?_
  obtain ⟨r14, hr14, hm⟩ := bindS hm
  refine TL_callO [(1000, 12)] (ACall.F (F := F) (c_spec_l10Classes p0 r14 hr14)) Tryd.call65 rfl rfl rfl rfl rfl rfl rfl rfl rfl rfl rfl rfl rfl ?_
  refine TL_pure rfl rfl rfl rfl (op_assign rfl) ?_
  refine TL_nil ?_
  refine T_seq ?_
  refine T_region ?_
  refine TL_buildSlice 13 (es := List.map a_i64 [(0 : Int)]) el29 z2 rfl rfl rfl rfl rfl rfl rfl rfl rfl ?_
  refine TL_pure rfl rfl rfl rfl (op_assign rfl) ?_
  refine TL_nil ?_
  refine T_seq ?_
  refine T_region ?_
  refine TL_pure rfl rfl rfl rfl (op_move rfl) ?_
  obtain ⟨x17, hx17, hm⟩ := bindS hm
  refine TL_pure rfl rfl rfl rfl (op_indexO el29 rfl rfl rfl hx17) ?_
  refine TL_pure rfl rfl rfl rfl (op_loadD1 ag2 rfl rfl ((getI_spec hx17).2) rfl rfl rfl rfl) ?_
  refine TL_buildSlice 14 (es := List.map a_i64 [x17]) el29 z2 rfl rfl rfl rfl rfl rfl rfl rfl rfl ?_
  refine TL_pure rfl rfl rfl rfl (op_assign rfl) ?_
  refine TL_nil ?_
  refine T_seq ?_
  refine T_region ?_
  refine TL_pure rfl rfl rfl rfl (op_buildP pl26 z26 rfl rfl rfl rfl rfl) ?_
  refine TL_alloc 15 z26 rfl rfl rfl rfl rfl rfl rfl ?_
  refine TL_store_box sz26 rfl rfl rfl rfl rfl rfl rfl rfl rfl ?_
  refine TL_nil ?_
  refine T_seq ?_
  refine T_seq ?_
  refine T_region ?_
  refine TL_pure rfl rfl rfl rfl (op_assign rfl) ?_
  refine TL_nil ?_
  refine T_block ?_
  refine T_ownNilBox 15 0 68 ⟨false, true⟩ 29 rfl rfl rfl (sz := 1) rfl rfl rfl rfl ?_
  refine T_keepH [0, 2, 3, 4, 5, 6, 7] [11, 12, 13, 14, 15, 68] rfl rfl rfl rfl (by rw [hF]; rfl) ?_
  refine T_ren [(11, 11), (12, 12), (13, 13), (14, 14), (15, 15), (68, 70005)] rfl rfl rfl (by rw [hF]; rfl) ?_
  refine T_loop ?_
  obtain ⟨u0, hl0, hm⟩ := bindS hm
  refine TR_iter2 (m_spec_l10Minimal_L0 p0 r14) (fun (s0 : (List Int) × (List Int) × (List (List Int)) × Int) => ⟨[(0, .cp [.sl 1 (List.map aLa_i64 p0.Next)]), (2, .ptr 11 0 0), (3, .ow 12), (4, .ow 13), (5, .ow 14), (6, .ptr 15 0 0), (7, .int .i64 s0.2.2.2)], [(11, .box [.snil]), (12, .arr ⟨false, true⟩ 1 2 (List.map a_i64 r14)), (13, .arr ⟨false, false⟩ 1 2 (List.map a_i64 s0.1)), (14, .arr ⟨false, false⟩ 1 2 (List.map a_i64 s0.2.1)), (15, .box [.ow 70005]), (70005, .arr ⟨false, true⟩ 1 29 (List.map aLa_i64 s0.2.2.1))]⟩) (fun u0 => .exit 0) (fun u0 => ⟨[(2, .ptr 11 0 0), (6, .ptr 15 0 0)], [(11, .box [.snil]), (15, .box [.ow 70005]), (70005, .arr ⟨false, true⟩ 1 29 (List.map aLa_i64 u0))]⟩) (fun u0 => m_spec_l10Minimal_A0 u0 = some out) hl0 hm (fun u0 hm => ?_) (fun hx0 s0 c0 hm hc0 => ?_)
  · unfold m_spec_l10Minimal_A0 at hm
    refine T_seq ?_
    refine T_region ?_
    refine TL_pure rfl rfl rfl rfl (op_load_agg ag26 sz26 rfl rfl rfl) ?_
    refine TL_store_box sz26 rfl rfl rfl rfl rfl rfl rfl rfl rfl ?_
    refine TL_nil ?_
    refine T_keepH [2] [11, 70005] rfl rfl rfl rfl (by rw [hF]; rfl) ?_
    refine T_ren [(11, 11), (70005, 1000)] rfl rfl rfl (by rw [hF]; rfl) ?_
    refine T_ret ?_
    obtain rfl := someI hm
    refine ⟨[_], [1000], ⟨⟨_, _, rfl, rfl, .inr ⟨ag26, _, _, sz26, rfl, rfl⟩⟩, trivial⟩, ?_, rfl, rfl, rfl, rfl⟩
    rfl
  · unfold m_spec_l10Minimal_L0 at hm
    refine T_seq ?_
    refine T_seq ?_
    refine T_region ?_
    refine TL_pure rfl rfl rfl rfl (op_move rfl) ?_
    refine TL_pure rfl rfl rfl rfl (op_move rfl) ?_
    refine TL_pure rfl rfl rfl rfl (op_lenO Tryd.underlying29 rfl rfl (List.length_map _)) ?_
    refine TL_fact (fun _ _ _ hr => RelP.owLen (id := 13) rfl hr) (fun hlen23 => ?_)
    rw [List.length_map] at hlen23
    refine TL_pure rfl rfl rfl rfl (op_lss rfl rfl) ?_
    refine TL_nil ?_
    refine T_cond rfl (fun hq => ?_) (fun hq => ?_)
    · replace hm := condT hq hm
      refine T_skip ?_
      refine T_seq ?_
      refine T_block ?_
      refine T_seq ?_
      refine T_region ?_
      refine TL_buildSlice 51 (es := List.map a_i64 ([] : List Int)) el29 z2 rfl rfl rfl rfl rfl rfl rfl rfl rfl ?_
      refine TL_pure rfl rfl rfl rfl (op_assign rfl) ?_
      refine TL_nil ?_
      refine T_seq ?_
      refine T_seq ?_
      refine T_region ?_
      refine TL_pure rfl rfl rfl rfl (op_assign rfl) ?_
      refine TL_nil ?_
      refine T_block ?_
      refine T_keepH [0, 2, 3, 4, 5, 6, 7, 8, 9] [11, 12, 13, 14, 15, 51, 70005] rfl rfl rfl rfl (by rw [hF]; rfl) ?_
      refine T_loop ?_
      obtain ⟨u1, hl1, hm⟩ := bindS hm
      refine TR_iter2 (m_spec_l10Minimal_L1 p0 r14 s0) (fun (s1 : (List Int) × (List Int) × (List Int) × Int) => ⟨[(0, .cp [.sl 1 (List.map aLa_i64 p0.Next)]), (2, .ptr 11 0 0), (3, .ow 12), (4, .ow 13), (5, .ow 14), (6, .ptr 15 0 0), (7, .int .i64 s0.2.2.2), (8, .ow 51), (9, .int .i64 s1.2.2.2)], [(11, .box [.snil]), (12, .arr ⟨false, true⟩ 1 2 (List.map a_i64 r14)), (13, .arr ⟨false, false⟩ 1 2 (List.map a_i64 s1.1)), (14, .arr ⟨false, false⟩ 1 2 (List.map a_i64 s1.2.1)), (15, .box [.ow 70005]), (51, .arr ⟨false, false⟩ 1 2 (List.map a_i64 s1.2.2.1)), (70005, .arr ⟨false, true⟩ 1 29 (List.map aLa_i64 s0.2.2.1))]⟩) (fun u1 => .exit 2) (fun u1 => ⟨[(0, .cp [.sl 1 (List.map aLa_i64 p0.Next)]), (2, .ptr 11 0 0), (3, .ow 12), (4, .ow 13), (5, .ow 14), (6, .ptr 15 0 0), (7, .int .i64 s0.2.2.2), (8, .ow 51)], [(11, .box [.snil]), (12, .arr ⟨false, true⟩ 1 2 (List.map a_i64 r14)), (13, .arr ⟨false, false⟩ 1 2 (List.map a_i64 u1.1)), (14, .arr ⟨false, false⟩ 1 2 (List.map a_i64 u1.2.1)), (15, .box [.ow 70005]), (51, .arr ⟨false, false⟩ 1 2 (List.map a_i64 u1.2.2)), (70005, .arr ⟨false, true⟩ 1 29 (List.map aLa_i64 s0.2.2.1))]⟩) (fun u1 => m_spec_l10Minimal_A1 s0 u1 = some c0) hl1 hm (fun u1 hm => ?_) (fun hx1 s1 c1 hm hc1 => ?_)
      · unfold m_spec_l10Minimal_A1 at hm
        refine T_region ?_
        refine TL_pure rfl rfl rfl rfl (op_fieldAddr fa26_0 rfl rfl) ?_
        refine TL_pure rfl rfl rfl rfl (op_load_one ag24 rfl rfl) ?_
        refine TL_pure rfl rfl rfl rfl (op_move rfl) ?_
        refine TL_deepen 51 (p' := false) (List.map a_i64 u1.2.2) (by rw [hF]; rfl) rfl (ElR.map (f := a_i64) (g := a_i64) (fun _ => ⟨⟨rfl, rfl⟩, trivial⟩) u1.2.2) rfl rfl rfl ?_
        refine TL_buildSliceD (ids := [51]) (es := List.map aLa_i64 [u1.2.2]) 67 el24 z29 rfl rfl rfl rfl rfl rfl (by rw [hF]; intro j hj; simp only [List.mem_cons, List.not_mem_nil, or_false] at hj; rcases hj with rfl <;> rfl) rfl rfl rfl rfl rfl rfl ?_
        obtain ⟨q89, hq89, hm⟩ := bindS hm
        refine TL_appendDT (f := aLa_i64) (a := s0.2.2.1) (b := [u1.2.2]) el24 z29 rfl rfl rfl rfl rfl rfl rfl rfl (by rw [hF]; rfl) (capI_spec hq89) rfl rfl rfl rfl rfl ?_
        refine TL_pure rfl rfl rfl rfl (op_fieldAddr fa26_0 rfl rfl) ?_
        refine TL_store_box sz24 rfl rfl rfl rfl rfl rfl rfl rfl rfl ?_
        refine TL_nil ?_
        refine T_region ?_
        refine TL_pure rfl rfl rfl rfl (op_move rfl) ?_
        refine TL_pure rfl rfl rfl rfl (op_addW rfl rfl) ?_
        refine TL_pure rfl rfl rfl rfl (op_assign rfl) ?_
        refine TL_nil ?_
        refine TR_keepH [0, 2, 3, 4, 5, 6, 7] [11, 12, 13, 14, 15, 70005] rfl rfl rfl rfl (by rw [hF]; rfl) ?_
        obtain rfl := someI hm
        have hn := CtlOK_next hc0
        exact hn _ rfl
      · unfold m_spec_l10Minimal_L1 at hm
        refine T_seq ?_
        refine T_seq ?_
        refine T_region ?_
        refine TL_pure rfl rfl rfl rfl (op_move rfl) ?_
        refine TL_pure rfl rfl rfl rfl (op_lss rfl rfl) ?_
        refine TL_nil ?_
        refine T_cond rfl (fun hq => ?_) (fun hq => ?_)
        · replace hm := condT hq hm
          refine T_skip ?_
          refine T_seq ?_
          refine T_block ?_
          refine T_seq ?_
          refine T_drawZ [] mix (by kernel_rfl) rfl ?_
          obtain ⟨x38, hx38, hm⟩ := bindS hm
          obtain ⟨x40, hx40, hm⟩ := bindS hm
          obtain ⟨x43, hx43, hm⟩ := bindS hm
          refine TZ_pure 0 (by kernel_rfl) rfl rfl rfl rfl rfl (op_move rfl) ?_
          refine TZ_pure 1 (by kernel_rfl) rfl rfl rfl rfl rfl (op_nilCheck rfl rfl) ?_
          refine TZ_pure 2 (by kernel_rfl) rfl rfl rfl rfl rfl (op_fieldAddr fa26_0 rfl rfl) ?_
          refine TZ_pure 3 (by kernel_rfl) rfl rfl rfl rfl rfl (op_load_one ag24 rfl rfl) ?_
          refine TZ_pure 4 (by kernel_rfl) rfl rfl rfl rfl rfl (op_move rfl) ?_
          refine TZ_pure 5 (by kernel_rfl) rfl rfl rfl rfl rfl (op_move rfl) ?_
          refine TZ_pure 6 (by kernel_rfl) rfl rfl rfl rfl rfl (op_indexO el29 rfl rfl rfl hx38) ?_
          refine TZ_pure 7 (by kernel_rfl) rfl rfl rfl rfl rfl (op_loadT1 ag2 rfl rfl ((getI_spec hx38).2) rfl rfl) ?_
          refine TZ_pure 8 (by kernel_rfl) rfl rfl rfl rfl rfl (op_indexT el24 rfl rfl hx40 rfl) ?_
          refine TZ_pure 9 (by kernel_rfl) rfl rfl rfl rfl rfl (op_load_one ag29 rfl rfl) ?_
          refine TZ_pure 10 (by kernel_rfl) rfl rfl rfl rfl rfl (op_move rfl) ?_
          refine TZ_pure 11 (by kernel_rfl) rfl rfl rfl rfl rfl (op_indexT el29 rfl rfl hx43 rfl) ?_
          refine TZ_pure 12 (by kernel_rfl) rfl rfl rfl rfl rfl (op_load_one ag2 rfl rfl) ?_
          refine TZ_pure 13 (by kernel_rfl) rfl rfl rfl rfl rfl (op_assign rfl) ?_
          refine TZ_done (by kernel_rfl) ?_
          refine T_seq ?_
          refine T_seq ?_
          refine T_region ?_
          refine TL_pure rfl rfl rfl rfl (op_move rfl) ?_
          refine TL_pure rfl rfl rfl rfl (op_lss rfl rfl) ?_
          refine TL_nil ?_
          refine T_cond rfl (fun hq => ?_) (fun hq => ?_)
          · replace hm := condT hq hm
            refine T_seq ?_
            refine T_region ?_
            refine TL_pure rfl rfl rfl rfl (op_move rfl) ?_
            refine TL_buildSlice 62 (es := List.map a_i64 [(-1 : Int)]) el29 z2 rfl rfl rfl rfl rfl rfl rfl rfl rfl ?_
            obtain ⟨q49, hq49, hm⟩ := bindS hm
            refine TL_appendT (f := a_i64) (a := s1.2.2.1) (b := [(-1 : Int)]) el29 z2 rfl rfl rfl rfl rfl rfl rfl (capI_spec hq49) rfl rfl rfl rfl rfl ?_
            refine TL_pure rfl rfl rfl rfl (op_assign rfl) ?_
            refine TL_nil ?_
            refine T_exit ?_
            refine T_region ?_
            refine TL_pure rfl rfl rfl rfl (op_move rfl) ?_
            refine TL_pure rfl rfl rfl rfl (op_addW rfl rfl) ?_
            refine TL_pure rfl rfl rfl rfl (op_assign rfl) ?_
            refine TL_nil ?_
            refine TR_keepH [0, 2, 3, 4, 5, 6, 7, 8, 9] [11, 12, 13, 14, 15, 51, 70005] rfl rfl rfl rfl (by rw [hF]; rfl) ?_
            obtain rfl := someI hm
            have hn := CtlOK_next hc1
            exact hn _ rfl
          · replace hm := condF hq hm
            refine T_skip ?_
            refine T_seq ?_
            refine T_region ?_
            refine TL_pure rfl rfl rfl rfl (op_assign rfl) ?_
            refine TL_nil ?_
            refine T_seq ?_
            refine T_seq ?_
            refine T_region ?_
            refine TL_pure rfl rfl rfl rfl (op_assign rfl) ?_
            refine TL_nil ?_
            refine T_block ?_
            refine T_keepH [0, 2, 3, 4, 5, 6, 7, 8, 9, 10, 11, 12] [11, 12, 13, 14, 15, 51, 70005] rfl rfl rfl rfl (by rw [hF]; rfl) ?_
            refine T_loop ?_
            obtain ⟨u2, hl2, hm⟩ := bindS hm
            refine TR_iter2 (m_spec_l10Minimal_L2 r14 s1 x43) (fun (s2 : Int × Int) => ⟨[(0, .cp [.sl 1 (List.map aLa_i64 p0.Next)]), (2, .ptr 11 0 0), (3, .ow 12), (4, .ow 13), (5, .ow 14), (6, .ptr 15 0 0), (7, .int .i64 s0.2.2.2), (8, .ow 51), (9, .int .i64 s1.2.2.2), (10, .int .i64 x43), (11, .int .i64 s2.1), (12, .int .i64 s2.2)], [(11, .box [.snil]), (12, .arr ⟨false, true⟩ 1 2 (List.map a_i64 r14)), (13, .arr ⟨false, false⟩ 1 2 (List.map a_i64 s1.1)), (14, .arr ⟨false, false⟩ 1 2 (List.map a_i64 s1.2.1)), (15, .box [.ow 70005]), (51, .arr ⟨false, false⟩ 1 2 (List.map a_i64 s1.2.2.1)), (70005, .arr ⟨false, true⟩ 1 29 (List.map aLa_i64 s0.2.2.1))]⟩) (fun u2 => .exit 4) (fun u2 => ⟨[(0, .cp [.sl 1 (List.map aLa_i64 p0.Next)]), (2, .ptr 11 0 0), (3, .ow 12), (4, .ow 13), (5, .ow 14), (6, .ptr 15 0 0), (7, .int .i64 s0.2.2.2), (8, .ow 51), (9, .int .i64 s1.2.2.2), (10, .int .i64 x43), (11, .int .i64 u2)], [(11, .box [.snil]), (12, .arr ⟨false, true⟩ 1 2 (List.map a_i64 r14)), (13, .arr ⟨false, false⟩ 1 2 (List.map a_i64 s1.1)), (14, .arr ⟨false, false⟩ 1 2 (List.map a_i64 s1.2.1)), (15, .box [.ow 70005]), (51, .arr ⟨false, false⟩ 1 2 (List.map a_i64 s1.2.2.1)), (70005, .arr ⟨false, true⟩ 1 29 (List.map aLa_i64 s0.2.2.1))]⟩) (fun u2 => m_spec_l10Minimal_A2 r14 s1 x43 u2 = some c1) hl2 hm (fun u2 hm => ?_) (fun hx2 s2 c2 hm hc2 => ?_)
            · unfold m_spec_l10Minimal_A2 at hm
              refine T_seq ?_
              refine T_seq ?_
              refine T_region ?_
              refine TL_pure rfl rfl rfl rfl (op_move rfl) ?_
              refine TL_pure rfl rfl rfl rfl (op_lss rfl rfl) ?_
              refine TL_nil ?_
              refine T_cond rfl (fun hq => ?_) (fun hq => ?_)
              · replace hm := condT hq hm
                refine T_seq ?_
                refine T_region ?_
                refine TL_pure rfl rfl rfl rfl (op_move rfl) ?_
                refine TL_pure rfl rfl rfl rfl (op_lenO Tryd.underlying29 rfl rfl (List.length_map _)) ?_
                refine TL_fact (fun _ _ _ hr => RelP.owLen (id := 14) rfl hr) (fun hlen69 => ?_)
                rw [List.length_map] at hlen69
                refine TL_pure rfl rfl rfl rfl (op_assign rfl) ?_
                refine TL_nil ?_
                refine T_seq ?_
                refine T_region ?_
                refine TL_pure rfl rfl rfl rfl (op_move rfl) ?_
                refine TL_pure rfl rfl rfl rfl (op_move rfl) ?_
                refine TL_pure rfl rfl rfl rfl (op_move rfl) ?_
                obtain ⟨x73, hx73, hm⟩ := bindS hm
                refine TL_pure rfl rfl rfl rfl (op_indexO el29 rfl rfl rfl hx73) ?_
                refine TL_pure rfl rfl rfl rfl (op_loadD1 ag2 rfl rfl ((getI_spec hx73).2) rfl rfl rfl rfl) ?_
                refine TL_buildSlice 63 (es := List.map a_i64 [x73]) el29 z2 rfl rfl rfl rfl rfl rfl rfl rfl rfl ?_
                obtain ⟨q76, hq76, hm⟩ := bindS hm
                refine TL_appendT (f := a_i64) (a := s1.2.1) (b := [x73]) el29 z2 rfl rfl rfl rfl rfl rfl rfl (capI_spec hq76) rfl rfl rfl rfl rfl ?_
                refine TL_pure rfl rfl rfl rfl (op_assign rfl) ?_
                refine TL_nil ?_
                refine T_region ?_
                refine TL_pure rfl rfl rfl rfl (op_move rfl) ?_
                refine TL_pure rfl rfl rfl rfl (op_move rfl) ?_
                refine TL_buildSlice 64 (es := List.map a_i64 [x43]) el29 z2 rfl rfl rfl rfl rfl rfl rfl rfl rfl ?_
                obtain ⟨q80, hq80, hm⟩ := bindS hm
                refine TL_appendT (f := a_i64) (a := s1.1) (b := [x43]) el29 z2 rfl rfl rfl rfl rfl rfl rfl (capI_spec hq80) rfl rfl rfl rfl rfl ?_
                refine TL_pure rfl rfl rfl rfl (op_assign rfl) ?_
                refine TL_nil ?_
                refine T_region ?_
                refine TL_pure rfl rfl rfl rfl (op_move rfl) ?_
                refine TL_pure rfl rfl rfl rfl (op_move rfl) ?_
                refine TL_buildSlice 65 (es := List.map a_i64 [(s1.2.1.length : Int)]) el29 z2 rfl rfl rfl rfl rfl rfl rfl rfl rfl ?_
                obtain ⟨q84, hq84, hm⟩ := bindS hm
                refine TL_appendT (f := a_i64) (a := s1.2.2.1) (b := [(s1.2.1.length : Int)]) el29 z2 rfl rfl rfl rfl rfl rfl rfl (capI_spec hq84) rfl rfl rfl rfl rfl ?_
                refine TL_pure rfl rfl rfl rfl (op_assign rfl) ?_
                refine TL_nil ?_
                refine T_region ?_
                refine TL_pure rfl rfl rfl rfl (op_move rfl) ?_
                refine TL_pure rfl rfl rfl rfl (op_addW rfl rfl) ?_
                refine TL_pure rfl rfl rfl rfl (op_assign rfl) ?_
                refine TL_nil ?_
                refine TR_keepH [0, 2, 3, 4, 5, 6, 7, 8, 9] [11, 12, 13, 14, 15, 51, 70005] rfl rfl rfl rfl (by rw [hF]; rfl) ?_
                obtain rfl := someI hm
                have hn := CtlOK_next hc1
                exact hn _ rfl
              · replace hm := condF hq hm
                refine T_skip ?_
                refine T_region ?_
                refine TL_pure rfl rfl rfl rfl (op_move rfl) ?_
                refine TL_pure rfl rfl rfl rfl (op_move rfl) ?_
                refine TL_buildSlice 66 (es := List.map a_i64 [u2]) el29 z2 rfl rfl rfl rfl rfl rfl rfl rfl rfl ?_
                obtain ⟨q84, hq84, hm⟩ := bindS hm
                refine TL_appendT (f := a_i64) (a := s1.2.2.1) (b := [u2]) el29 z2 rfl rfl rfl rfl rfl rfl rfl (capI_spec hq84) rfl rfl rfl rfl rfl ?_
                refine TL_pure rfl rfl rfl rfl (op_assign rfl) ?_
                refine TL_nil ?_
                refine T_region ?_
                refine TL_pure rfl rfl rfl rfl (op_move rfl) ?_
                refine TL_pure rfl rfl rfl rfl (op_addW rfl rfl) ?_
                refine TL_pure rfl rfl rfl rfl (op_assign rfl) ?_
                refine TL_nil ?_
                refine TR_keepH [0, 2, 3, 4, 5, 6, 7, 8, 9] [11, 12, 13, 14, 15, 51, 70005] rfl rfl rfl rfl (by rw [hF]; rfl) ?_
                obtain rfl := someI hm
                have hn := CtlOK_next hc1
                exact hn _ rfl
            · unfold m_spec_l10Minimal_L2 at hm
              refine T_seq ?_
              refine T_seq ?_
              refine T_region ?_
              refine TL_pure rfl rfl rfl rfl (op_move rfl) ?_
              refine TL_pure rfl rfl rfl rfl (op_move rfl) ?_
              refine TL_pure rfl rfl rfl rfl (op_lenO Tryd.underlying29 rfl rfl (List.length_map _)) ?_
              refine TL_fact (fun _ _ _ hr => RelP.owLen (id := 14) rfl hr) (fun hlen52 => ?_)
              rw [List.length_map] at hlen52
              refine TL_pure rfl rfl rfl rfl (op_lss rfl rfl) ?_
              refine TL_nil ?_
              refine T_cond rfl (fun hq => ?_) (fun hq => ?_)
              · replace hm := condT hq hm
                refine T_skip ?_
                refine T_seq ?_
                refine T_block ?_
                refine T_seq ?_
                refine T_drawZ [] mix (by kernel_rfl) rfl ?_
                obtain ⟨x58, hx58, hm⟩ := bindS hm
                obtain ⟨x62, hx62, hm⟩ := bindS hm
                refine TZ_pure 0 (by kernel_rfl) rfl rfl rfl rfl rfl (op_move rfl) ?_
                refine TZ_pure 1 (by kernel_rfl) rfl rfl rfl rfl rfl (op_move rfl) ?_
                refine TZ_pure 2 (by kernel_rfl) rfl rfl rfl rfl rfl (op_indexO el29 rfl rfl rfl hx58) ?_
                refine TZ_pure 3 (by kernel_rfl) rfl rfl rfl rfl rfl (op_loadT1 ag2 rfl rfl ((getI_spec hx58).2) rfl rfl) ?_
                refine TZ_pure 4 (by kernel_rfl) rfl rfl rfl rfl rfl (op_move rfl) ?_
                refine TZ_pure 5 (by kernel_rfl) rfl rfl rfl rfl rfl (op_move rfl) ?_
                refine TZ_pure 6 (by kernel_rfl) rfl rfl rfl rfl rfl (op_indexO el29 rfl rfl rfl hx62) ?_
                refine TZ_pure 7 (by kernel_rfl) rfl rfl rfl rfl rfl (op_loadD1 ag2 rfl rfl ((getI_spec hx62).2) rfl rfl rfl rfl) ?_
                refine TZ_pure 8 (by kernel_rfl) rfl rfl rfl rfl rfl (op_eql rfl rfl) ?_
                refine TZ_done (by kernel_rfl) ?_
                refine T_cond rfl (fun hq => ?_) (fun hq => ?_)
                · replace hm := condT hq hm
                  refine T_region ?_
                  refine TL_pure rfl rfl rfl rfl (op_move rfl) ?_
                  refine TL_pure rfl rfl rfl rfl (op_assign rfl) ?_
                  refine TL_nil ?_
                  refine T_region ?_
                  refine TL_pure rfl rfl rfl rfl (op_move rfl) ?_
                  refine TL_pure rfl rfl rfl rfl (op_addW rfl rfl) ?_
                  refine TL_pure rfl rfl rfl rfl (op_assign rfl) ?_
                  refine TL_nil ?_
                  refine TR_keepH [0, 2, 3, 4, 5, 6, 7, 8, 9, 10, 11, 12] [11, 12, 13, 14, 15, 51, 70005] rfl rfl rfl rfl (by rw [hF]; rfl) ?_
                  obtain rfl := someI hm
                  have hn := CtlOK_next hc2
                  exact hn _ rfl
                · replace hm := condF hq hm
                  refine T_skip ?_
                  refine T_region ?_
                  refine TL_pure rfl rfl rfl rfl (op_move rfl) ?_
                  refine TL_pure rfl rfl rfl rfl (op_addW rfl rfl) ?_
                  refine TL_pure rfl rfl rfl rfl (op_assign rfl) ?_
                  refine TL_nil ?_
                  refine TR_keepH [0, 2, 3, 4, 5, 6, 7, 8, 9, 10, 11, 12] [11, 12, 13, 14, 15, 51, 70005] rfl rfl rfl rfl (by rw [hF]; rfl) ?_
                  obtain rfl := someI hm
                  have hn := CtlOK_next hc2
                  exact hn _ rfl
              · replace hm := condF hq hm
                refine T_keepH [0, 2, 3, 4, 5, 6, 7, 8, 9, 10, 11] [11, 12, 13, 14, 15, 51, 70005] rfl rfl rfl rfl (by rw [hF]; rfl) ?_
                refine T_exit ?_
                obtain rfl := someI hm
                have hn := CtlOK_out hc2
                exact hx2 s2.1 hn
        · replace hm := condF hq hm
          refine T_keepH [0, 2, 3, 4, 5, 6, 7, 8] [11, 12, 13, 14, 15, 51, 70005] rfl rfl rfl rfl (by rw [hF]; rfl) ?_
          refine T_exit ?_
          obtain rfl := someI hm
          have hn := CtlOK_out hc1
          exact hx1 (s1.1, s1.2.1, s1.2.2.1) hn
    · replace hm := condF hq hm
      refine T_keepH [2, 6] [11, 15, 70005] rfl rfl rfl rfl (by rw [hF]; rfl) ?_
      refine T_exit ?_
      obtain rfl := someI hm
      have hn := CtlOK_out hc0
      exact hx0 s0.2.2.1 hn
theorem c_spec_l10DrawTwo (p0 : l00Src) (out : Policy × Policy × l00Src) (hm : m_spec_l10DrawTwo p0 = some out) : ACall Tryd.prog 28 [.ptr 0 0 0] [(0, .box [.sl 1 (List.map a_u8 p0.code), .int .i64 p0.at_, .int .u64 p0.seed])] (.tup [.agg [.sl 1 (List.map aLa_i64 out.1.Next)], .agg [.sl 1 (List.map aLa_i64 out.2.1.Next)]]) [(0, .box [.sl 1 (List.map a_u8 out.2.2.code), .int .i64 out.2.2.at_, .int .u64 out.2.2.seed])] := by
  refine ACall.intro Tryd.func28 rfl Tryd.ntmps28 rfl (fun F hF => ?_)
  unfold m_spec_l10DrawTwo at hm
  refine T_seq ?_
  refine T_region ?_
  refine TL_alloc 11 z26 rfl rfl rfl rfl rfl rfl rfl ?_
  refine TL_alloc 12 z26 rfl rfl rfl rfl rfl rfl rfl ?_
  refine TL_nil ?_
  refine T_seq ?_
  refine T_region ?_
  refine TL_pure rfl rfl rfl rfl (op_move rfl) ?_
  obtain ⟨r10, hr10, hm⟩ := bindS hm
  refine TL_call [(0, 0)] [] [] (ACall.F (F := F) (c_spec_l10Draw p0 r10 hr10)) Tryd.call54 rfl rfl rfl rfl rfl ⟨rfl, trivial⟩ rfl rfl rfl rfl rfl rfl rfl rfl rfl rfl rfl ?_
  refine TL_alloc 13 z26 rfl rfl rfl rfl rfl rfl rfl ?_
  refine TL_store_box sz26 rfl rfl rfl rfl rfl rfl rfl rfl rfl ?_
  refine TL_nil ?_
  refine T_seq ?_
  refine T_join (fun (j0 : (List Int) × Int × Int × Bool) => ⟨[(0, .ptr 0 0 0), (2, .ptr 11 0 0), (3, .ptr 12 0 0), (4, .ptr 13 0 0), (16, .bool j0.2.2.2)], [(0, .box [.sl 1 (List.map a_u8 j0.1), .int .i64 j0.2.1, .int .u64 j0.2.2.1]), (11, .box [.snil]), (12, .box [.snil]), (13, .box [.sl 1 (List.map aLa_i64 r10.1.Next)])]⟩) (fun j0 => m_spec_l10DrawTwo_J0 r10 j0 = some out) (fun j0 hm => ?_) (fun hj0 => ?_)
  · unfold m_spec_l10DrawTwo_J0 at hm
    refine T_cond rfl (fun hq => ?_) (fun hq => ?_)
    · replace hm := condT hq hm
      refine T_seq ?_
      refine T_drawZ [2, 3, 4] mix (by kernel_rfl) rfl ?_
      obtain ⟨r19, hr19, hm⟩ := bindS hm
      refine TZ_pure 1 (by kernel_rfl) rfl rfl rfl rfl rfl (op_move rfl) ?_
      refine TZ_cut 3 [true, true, false, false, false] ⟨[(0, .ptr 0 0 0), (2, .ptr 11 0 0), (3, .ptr 12 0 0), (4, .ptr 13 0 0), (16, .bool j0.2.2.2), (17, .agg [.sl 1 (List.map aLa_i64 r10.1.Next)]), (18, .ptr 0 0 0)], [(0, .box [.sl 1 (List.map a_u8 j0.1), .int .i64 j0.2.1, .int .u64 j0.2.2.1]), (11, .box [.snil]), (12, .box [.snil]), (13, .box [.sl 1 (List.map aLa_i64 r10.1.Next)])]⟩ ?_ (fun hS413_0 => ?_)
      · refine TZ_one 2 (by kernel_rfl) rfl ?_
        refine TL_call [(0, 0)] [] [] (ACall.F (F := F) (c_spec_l10Draw (l00Src.mk j0.1 j0.2.1 j0.2.2.1) r19 hr19)) Tryd.call54 rfl rfl rfl rfl rfl ⟨rfl, trivial⟩ rfl rfl rfl rfl rfl rfl rfl rfl rfl rfl rfl ?_
        refine TL_nil ?_
        refine TZ_one 3 (by kernel_rfl) rfl ?_
        refine TL_store_box sz26 rfl rfl rfl rfl rfl rfl rfl rfl rfl ?_
        refine TL_nil ?_
        refine TZ_one 4 (by kernel_rfl) rfl ?_
        refine TL_store_box sz26 rfl rfl rfl rfl rfl rfl rfl rfl rfl ?_
        refine TL_nil ?_
        refine TZ_done (by kernel_rfl) ?_
        refine T_keepH [2, 3] [0, 11, 12] rfl rfl rfl rfl (by rw [hF]; rfl) ?_
        refine T_ret ?_
        obtain rfl := someI hm
        refine ⟨[_, _], [0], ⟨⟨_, _, rfl, rfl, .inr ⟨ag26, _, _, sz26, rfl, rfl⟩⟩, ⟨_, _, rfl, rfl, .inr ⟨ag26, _, _, sz26, rfl, rfl⟩⟩, trivial⟩, ?_, rfl, rfl, rfl, rfl⟩
        rfl
      refine TZ_cut 3 [false, true, true, false, false] ⟨[(0, .ptr 0 0 0), (2, .ptr 11 0 0), (3, .ptr 12 0 0), (4, .ptr 13 0 0), (16, .bool j0.2.2.2), (18, .ptr 0 0 0), (19, .agg [.sl 1 (List.map aLa_i64 r19.1.Next)])], [(0, .box [.sl 1 (List.map a_u8 r19.2.code), .int .i64 r19.2.at_, .int .u64 r19.2.seed]), (11, .box [.snil]), (12, .box [.snil]), (13, .box [.sl 1 (List.map aLa_i64 r10.1.Next)])]⟩ ?_ (fun hS413_1 => ?_)
      · refine TZ_pure 0 (by kernel_rfl) rfl rfl rfl rfl rfl (op_load_agg ag26 sz26 rfl rfl rfl) ?_
        refine TZ_one 3 (by kernel_rfl) rfl ?_
        refine TL_store_box sz26 rfl rfl rfl rfl rfl rfl rfl rfl rfl ?_
        refine TL_nil ?_
        refine TZ_one 4 (by kernel_rfl) rfl ?_
        refine TL_store_box sz26 rfl rfl rfl rfl rfl rfl rfl rfl rfl ?_
        refine TL_nil ?_
        refine TZ_done (by kernel_rfl) ?_
        refine T_keepH [2, 3] [0, 11, 12] rfl rfl rfl rfl (by rw [hF]; rfl) ?_
        refine T_ret ?_
        obtain rfl := someI hm
        refine ⟨[_, _], [0], ⟨⟨_, _, rfl, rfl, .inr ⟨ag26, _, _, sz26, rfl, rfl⟩⟩, ⟨_, _, rfl, rfl, .inr ⟨ag26, _, _, sz26, rfl, rfl⟩⟩, trivial⟩, ?_, rfl, rfl, rfl, rfl⟩
        rfl
      refine TZ_each [0, 2] (by kernel_rfl) rfl ?_
      refine ⟨?_, ?_⟩
      · refine ⟨_, rfl, ?_⟩
        refine TL_pure rfl rfl rfl rfl (op_load_agg ag26 sz26 rfl rfl rfl) ?_
        refine TL_nil ?_
        refine TZ_keepH [0, 2, 3, 4, 16, 17, 18] [0, 11, 12, 13] rfl rfl rfl rfl (by rw [hF]; rfl) ?_
        exact hS413_0
      · refine ⟨_, rfl, ?_⟩
        refine TL_call [(0, 0)] [] [] (ACall.F (F := F) (c_spec_l10Draw (l00Src.mk j0.1 j0.2.1 j0.2.2.1) r19 hr19)) Tryd.call54 rfl rfl rfl rfl rfl ⟨rfl, trivial⟩ rfl rfl rfl rfl rfl rfl rfl rfl rfl rfl rfl ?_
        refine TL_nil ?_
        refine TZ_keepH [0, 2, 3, 4, 16, 18, 19] [0, 11, 12, 13] rfl rfl rfl rfl (by rw [hF]; rfl) ?_
        exact hS413_1
    · replace hm := condF hq hm
      refine T_skip ?_
      refine T_seq ?_
      refine T_region ?_
      refine TL_pure rfl rfl rfl rfl (op_buildP pl26 z26 rfl rfl rfl rfl rfl) ?_
      refine TL_alloc 814 z26 rfl rfl rfl rfl rfl rfl rfl ?_
      refine TL_store_box sz26 rfl rfl rfl rfl rfl rfl rfl rfl rfl ?_
      refine TL_nil ?_
      refine T_seq ?_
      refine T_seq ?_
      refine T_region ?_
      refine TL_pure rfl rfl rfl rfl (op_assign rfl) ?_
      refine TL_nil ?_
      refine T_block ?_
      refine T_ownNilBox 814 0 6736 ⟨false, true⟩ 29 rfl rfl rfl (sz := 1) rfl rfl rfl rfl ?_
      refine T_keepH [0, 2, 3, 4, 5, 6] [0, 11, 12, 13, 814, 6736] rfl rfl rfl rfl (by rw [hF]; rfl) ?_
      refine T_ren [(0, 0), (11, 11), (12, 12), (13, 13), (814, 814), (6736, 70005)] rfl rfl rfl (by rw [hF]; rfl) ?_
      refine T_loop ?_
      obtain ⟨u0, hl0, hm⟩ := bindS hm
      refine TR_iter2 (m_spec_l10DrawTwo_L0 r10) (fun (s0 : (List (List Int)) × Int) => ⟨[(0, .ptr 0 0 0), (2, .ptr 11 0 0), (3, .ptr 12 0 0), (4, .ptr 13 0 0), (5, .ptr 814 0 0), (6, .int .i64 s0.2)], [(0, .box [.sl 1 (List.map a_u8 j0.1), .int .i64 j0.2.1, .int .u64 j0.2.2.1]), (11, .box [.snil]), (12, .box [.snil]), (13, .box [.sl 1 (List.map aLa_i64 r10.1.Next)]), (814, .box [.ow 70005]), (70005, .arr ⟨false, true⟩ 1 29 (List.map aLa_i64 s0.1))]⟩) (fun u0 => .exit 0) (fun u0 => ⟨[(0, .ptr 0 0 0), (2, .ptr 11 0 0), (3, .ptr 12 0 0), (4, .ptr 13 0 0), (5, .ptr 814 0 0)], [(0, .box [.sl 1 (List.map a_u8 j0.1), .int .i64 j0.2.1, .int .u64 j0.2.2.1]), (11, .box [.snil]), (12, .box [.snil]), (13, .box [.sl 1 (List.map aLa_i64 r10.1.Next)]), (814, .box [.ow 70005]), (70005, .arr ⟨false, true⟩ 1 29 (List.map aLa_i64 u0))]⟩) (fun u0 => m_spec_l10DrawTwo_A0 r10 j0 u0 = some out) hl0 hm (fun u0 hm => ?_) (fun hx0 s0 c0 hm hc0 => ?_)
      · unfold m_spec_l10DrawTwo_A0 at hm
        refine T_join (fun (j1 : (List Int) × Int × Int × (List (List Int))) => ⟨[(0, .ptr 0 0 0), (2, .ptr 11 0 0), (3, .ptr 12 0 0), (4, .ptr 13 0 0), (5, .ptr 814 0 0)], [(0, .box [.sl 1 (List.map a_u8 j1.1), .int .i64 j1.2.1, .int .u64 j1.2.2.1]), (11, .box [.snil]), (12, .box [.snil]), (13, .box [.sl 1 (List.map aLa_i64 r10.1.Next)]), (814, .box [.ow 70005]), (70005, .arr ⟨false, true⟩ 1 29 (List.map aLa_i64 j1.2.2.2))]⟩) (fun j1 => m_spec_l10DrawTwo_J1 r10 j1 = some out) (fun j1 hm => ?_) (fun hj1 => ?_)
        · unfold m_spec_l10DrawTwo_J1 at hm
          refine T_seq ?_
          refine T_seq ?_
          refine T_region ?_
          refine TL_pure rfl rfl rfl rfl (op_move rfl) ?_
          obtain ⟨r63, hr63, hm⟩ := bindS hm
          refine TL_call [(0, 0)] [] [] (ACall.F (F := F) (c_spec_l00Src_one (l00Src.mk j1.1 j1.2.1 j1.2.2.1) (3 : Int) r63 hr63)) Tryd.call55 rfl rfl rfl rfl rfl ⟨rfl, trivial⟩ rfl rfl rfl rfl rfl rfl rfl rfl rfl rfl rfl ?_
          refine TL_nil ?_
          refine T_cond rfl (fun hq => ?_) (fun hq => ?_)
          · replace hm := condT hq hm
            refine T_region ?_
            obtain ⟨r64, hr64, hm⟩ := bindS hm
            refine TL_callO [(1000, 4895)] (ACall.F (F := F) (c_spec_l10Minimal (Policy.mk j1.2.2.2) r64 hr64)) Tryd.call41 rfl rfl rfl rfl rfl rfl rfl rfl rfl rfl rfl rfl rfl ?_
            refine TL_store_box sz26 rfl rfl rfl rfl rfl rfl rfl rfl rfl ?_
            refine TL_nil ?_
            refine T_seq ?_
            refine T_drawZ [2, 3] mix (by kernel_rfl) rfl ?_
            refine TZ_pure 0 (by kernel_rfl) rfl rfl rfl rfl rfl (op_load_agg ag26 sz26 rfl rfl rfl) ?_
            refine TZ_cut 2 [true, true, false, false] ⟨[(0, .ptr 0 0 0), (2, .ptr 11 0 0), (3, .ptr 12 0 0), (4, .ptr 13 0 0), (5, .ptr 814 0 0), (62, .ptr 0 0 0), (63, .bool r63.1), (64, .agg [.ow 4895]), (65, .agg [.sl 1 (List.map aLa_i64 r10.1.Next)]), (66, .agg [.ow 4895])], [(0, .box [.sl 1 (List.map a_u8 r63.2.code), .int .i64 r63.2.at_, .int .u64 r63.2.seed]), (11, .box [.snil]), (12, .box [.snil]), (13, .box [.sl 1 (List.map aLa_i64 r10.1.Next)]), (814, .box [.ow 4895]), (4895, .arr ⟨false, true⟩ 1 29 (List.map aLa_i64 r64.Next)), (70005, .arr ⟨false, true⟩ 1 29 (List.map aLa_i64 j1.2.2.2))]⟩ ?_ (fun hS4895_0 => ?_)
            · refine TZ_one 2 (by kernel_rfl) rfl ?_
              refine TL_store_box sz26 rfl rfl rfl rfl rfl rfl rfl rfl rfl ?_
              refine TL_nil ?_
              refine TZ_one 3 (by kernel_rfl) rfl ?_
              refine TL_store_box sz26 rfl rfl rfl rfl rfl rfl rfl rfl rfl ?_
              refine TL_nil ?_
              refine TZ_done (by kernel_rfl) ?_
              refine T_keepH [2, 3] [0, 11, 12, 4895] rfl rfl rfl rfl (by rw [hF]; rfl) ?_
              refine T_freeze 4895 (by rw [hF]; rfl) rfl rfl rfl ?_
              refine T_ret ?_
              obtain rfl := someI hm
              refine ⟨[_, _], [0], ⟨⟨_, _, rfl, rfl, .inr ⟨ag26, _, _, sz26, rfl, rfl⟩⟩, ⟨_, _, rfl, rfl, .inr ⟨ag26, _, _, sz26, rfl, rfl⟩⟩, trivial⟩, ?_, rfl, rfl, rfl, rfl⟩
              rfl
            refine TZ_cut 2 [true, false, true, false] ⟨[(0, .ptr 0 0 0), (2, .ptr 11 0 0), (3, .ptr 12 0 0), (4, .ptr 13 0 0), (5, .ptr 814 0 0), (62, .ptr 0 0 0), (63, .bool r63.1), (64, .agg [.ow 4895]), (65, .agg [.sl 1 (List.map aLa_i64 r10.1.Next)])], [(0, .box [.sl 1 (List.map a_u8 r63.2.code), .int .i64 r63.2.at_, .int .u64 r63.2.seed]), (11, .box [.sl 1 (List.map aLa_i64 r10.1.Next)]), (12, .box [.snil]), (13, .box [.sl 1 (List.map aLa_i64 r10.1.Next)]), (814, .box [.ow 4895]), (4895, .arr ⟨false, true⟩ 1 29 (List.map aLa_i64 r64.Next)), (70005, .arr ⟨false, true⟩ 1 29 (List.map aLa_i64 j1.2.2.2))]⟩ ?_ (fun hS4895_1 => ?_)
            · refine TZ_pure 1 (by kernel_rfl) rfl rfl rfl rfl rfl (op_load_agg ag26 sz26 rfl rfl rfl) ?_
              refine TZ_one 3 (by kernel_rfl) rfl ?_
              refine TL_store_box sz26 rfl rfl rfl rfl rfl rfl rfl rfl rfl ?_
              refine TL_nil ?_
              refine TZ_done (by kernel_rfl) ?_
              refine T_keepH [2, 3] [0, 11, 12, 4895] rfl rfl rfl rfl (by rw [hF]; rfl) ?_
              refine T_freeze 4895 (by rw [hF]; rfl) rfl rfl rfl ?_
              refine T_ret ?_
              obtain rfl := someI hm
              refine ⟨[_, _], [0], ⟨⟨_, _, rfl, rfl, .inr ⟨ag26, _, _, sz26, rfl, rfl⟩⟩, ⟨_, _, rfl, rfl, .inr ⟨ag26, _, _, sz26, rfl, rfl⟩⟩, trivial⟩, ?_, rfl, rfl, rfl, rfl⟩
              rfl
            refine TZ_each [1, 2] (by kernel_rfl) rfl ?_
            refine ⟨?_, ?_⟩
            · refine ⟨_, rfl, ?_⟩
              refine TL_pure rfl rfl rfl rfl (op_load_agg ag26 sz26 rfl rfl rfl) ?_
              refine TL_nil ?_
              refine TZ_keepH [0, 2, 3, 4, 5, 62, 63, 64, 65, 66] [0, 11, 12, 13, 814, 4895, 70005] rfl rfl rfl rfl (by rw [hF]; rfl) ?_
              exact hS4895_0
            · refine ⟨_, rfl, ?_⟩
              refine TL_store_box sz26 rfl rfl rfl rfl rfl rfl rfl rfl rfl ?_
              refine TL_nil ?_
              refine TZ_keepH [0, 2, 3, 4, 5, 62, 63, 64, 65] [0, 11, 12, 13, 814, 4895, 70005] rfl rfl rfl rfl (by rw [hF]; rfl) ?_
              exact hS4895_1
          · replace hm := condF hq hm
            refine T_skip ?_
            refine T_seq ?_
            refine T_drawZ [2, 3] mix (by kernel_rfl) rfl ?_
            refine TZ_pure 0 (by kernel_rfl) rfl rfl rfl rfl rfl (op_load_agg ag26 sz26 rfl rfl rfl) ?_
            refine TZ_cut 2 [true, true, false, false] ⟨[(0, .ptr 0 0 0), (2, .ptr 11 0 0), (3, .ptr 12 0 0), (4, .ptr 13 0 0), (5, .ptr 814 0 0), (62, .ptr 0 0 0), (63, .bool r63.1), (65, .agg [.sl 1 (List.map aLa_i64 r10.1.Next)]), (66, .agg [.ow 70005])], [(0, .box [.sl 1 (List.map a_u8 r63.2.code), .int .i64 r63.2.at_, .int .u64 r63.2.seed]), (11, .box [.snil]), (12, .box [.snil]), (13, .box [.sl 1 (List.map aLa_i64 r10.1.Next)]), (814, .box [.ow 70005]), (70005, .arr ⟨false, true⟩ 1 29 (List.map aLa_i64 j1.2.2.2))]⟩ ?_ (fun hS5215_0 => ?_)
            · refine TZ_one 2 (by kernel_rfl) rfl ?_
              refine TL_store_box sz26 rfl rfl rfl rfl rfl rfl rfl rfl rfl ?_
              refine TL_nil ?_
              refine TZ_one 3 (by kernel_rfl) rfl ?_
              refine TL_store_box sz26 rfl rfl rfl rfl rfl rfl rfl rfl rfl ?_
              refine TL_nil ?_
              refine TZ_done (by kernel_rfl) ?_
              refine T_keepH [2, 3] [0, 11, 12, 70005] rfl rfl rfl rfl (by rw [hF]; rfl) ?_
              refine T_freeze 70005 (by rw [hF]; rfl) rfl rfl rfl ?_
              refine T_ret ?_
              obtain rfl := someI hm
              refine ⟨[_, _], [0], ⟨⟨_, _, rfl, rfl, .inr ⟨ag26, _, _, sz26, rfl, rfl⟩⟩, ⟨_, _, rfl, rfl, .inr ⟨ag26, _, _, sz26, rfl, rfl⟩⟩, trivial⟩, ?_, rfl, rfl, rfl, rfl⟩
              rfl
            refine TZ_cut 2 [true, false, true, false] ⟨[(0, .ptr 0 0 0), (2, .ptr 11 0 0), (3, .ptr 12 0 0), (4, .ptr 13 0 0), (5, .ptr 814 0 0), (62, .ptr 0 0 0), (63, .bool r63.1), (65, .agg [.sl 1 (List.map aLa_i64 r10.1.Next)])], [(0, .box [.sl 1 (List.map a_u8 r63.2.code), .int .i64 r63.2.at_, .int .u64 r63.2.seed]), (11, .box [.sl 1 (List.map aLa_i64 r10.1.Next)]), (12, .box [.snil]), (13, .box [.sl 1 (List.map aLa_i64 r10.1.Next)]), (814, .box [.ow 70005]), (70005, .arr ⟨false, true⟩ 1 29 (List.map aLa_i64 j1.2.2.2))]⟩ ?_ (fun hS5215_1 => ?_)
            · refine TZ_pure 1 (by kernel_rfl) rfl rfl rfl rfl rfl (op_load_agg ag26 sz26 rfl rfl rfl) ?_
              refine TZ_one 3 (by kernel_rfl) rfl ?_
              refine TL_store_box sz26 rfl rfl rfl rfl rfl rfl rfl rfl rfl ?_
              refine TL_nil ?_
              refine TZ_done (by kernel_rfl) ?_
              refine T_keepH [2, 3] [0, 11, 12, 70005] rfl rfl rfl rfl (by rw [hF]; rfl) ?_
              refine T_freeze 70005 (by rw [hF]; rfl) rfl rfl rfl ?_
              refine T_ret ?_
              obtain rfl := someI hm
              refine ⟨[_, _], [0], ⟨⟨_, _, rfl, rfl, .inr ⟨ag26, _, _, sz26, rfl, rfl⟩⟩, ⟨_, _, rfl, rfl, .inr ⟨ag26, _, _, sz26, rfl, rfl⟩⟩, trivial⟩, ?_, rfl, rfl, rfl, rfl⟩
              rfl
            refine TZ_each [1, 2] (by kernel_rfl) rfl ?_
            refine ⟨?_, ?_⟩
            · refine ⟨_, rfl, ?_⟩
              refine TL_pure rfl rfl rfl rfl (op_load_agg ag26 sz26 rfl rfl rfl) ?_
              refine TL_nil ?_
              refine TZ_keepH [0, 2, 3, 4, 5, 62, 63, 65, 66] [0, 11, 12, 13, 814, 70005] rfl rfl rfl rfl (by rw [hF]; rfl) ?_
              exact hS5215_0
            · refine ⟨_, rfl, ?_⟩
              refine TL_store_box sz26 rfl rfl rfl rfl rfl rfl rfl rfl rfl ?_
              refine TL_nil ?_
              refine TZ_keepH [0, 2, 3, 4, 5, 62, 63, 65] [0, 11, 12, 13, 814, 70005] rfl rfl rfl rfl (by rw [hF]; rfl) ?_
              exact hS5215_1
        · refine T_seq ?_
          refine T_region ?_
          refine TL_pure rfl rfl rfl rfl (op_move rfl) ?_
          obtain ⟨r40, hr40, hm⟩ := bindS hm
          refine TL_call [(0, 0)] [] [] (ACall.F (F := F) (c_spec_l00Src_one (l00Src.mk j0.1 j0.2.1 j0.2.2.1) (2 : Int) r40 hr40)) Tryd.call55 rfl rfl rfl rfl rfl ⟨rfl, trivial⟩ rfl rfl rfl rfl rfl rfl rfl rfl rfl rfl rfl ?_
          refine TL_nil ?_
          refine T_cond rfl (fun hq => ?_) (fun hq => ?_)
          · replace hm := condT hq hm
            refine T_seq ?_
            refine T_region ?_
            refine TL_pure rfl rfl rfl rfl (op_move rfl) ?_
            refine TL_pure rfl rfl rfl rfl (op_fieldAddr fa26_0 rfl rfl) ?_
            refine TL_pure rfl rfl rfl rfl (op_load_one ag24 rfl rfl) ?_
            refine TL_pure rfl rfl rfl rfl (op_lenO Tryd.underlying24 rfl rfl (List.length_map _)) ?_
            refine TL_fact (fun _ _ _ hr => RelP.owLen (id := 70005) rfl hr) (fun hlen44 => ?_)
            rw [List.length_map] at hlen44
            obtain ⟨r45, hr45, hm⟩ := bindS hm
            refine TL_call [(0, 0)] [] [] (ACall.F (F := F) (c_spec_l00Src_pick r40.2 (u0.length : Int) r45 hr45)) Tryd.call30 rfl rfl rfl rfl rfl ⟨rfl, trivial⟩ rfl rfl rfl rfl rfl rfl rfl rfl rfl rfl rfl ?_
            refine TL_pure rfl rfl rfl rfl (op_assign rfl) ?_
            refine TL_nil ?_
            refine T_seq ?_
            refine T_region ?_
            refine TL_pure rfl rfl rfl rfl (op_move rfl) ?_
            obtain ⟨r47, hr47, hm⟩ := bindS hm
            refine TL_call [(0, 0)] [] [] (ACall.F (F := F) (c_spec_l00Src_pick r45.2 (4 : Int) r47 hr47)) Tryd.call30 rfl rfl rfl rfl rfl ⟨rfl, trivial⟩ rfl rfl rfl rfl rfl rfl rfl rfl rfl rfl rfl ?_
            refine TL_pure rfl rfl rfl rfl (op_assign rfl) ?_
            refine TL_nil ?_
            refine T_drawZ [11, 14] mix (by kernel_rfl) rfl ?_
            obtain ⟨x51, hx51, hm⟩ := bindS hm
            obtain ⟨r59, hr59, hm⟩ := bindS hm
            obtain ⟨x61, hx61, hm⟩ := bindS hm
            refine TZ_pure 0 (by kernel_rfl) rfl rfl rfl rfl rfl (op_fieldAddr fa26_0 rfl rfl) ?_
            refine TZ_pure 2 (by kernel_rfl) rfl rfl rfl rfl rfl (op_move rfl) ?_
            refine TZ_pure 5 (by kernel_rfl) rfl rfl rfl rfl rfl (op_move rfl) ?_
            refine TZ_pure 6 (by kernel_rfl) rfl rfl rfl rfl rfl (op_move rfl) ?_
            refine TZ_pure 7 (by kernel_rfl) rfl rfl rfl rfl rfl (op_fieldAddr fa26_0 rfl rfl) ?_
            refine TZ_cut 7 [true, true, true, true, true, true, true, true, false, false, false, false, false, false, false] ⟨[(0, .ptr 0 0 0), (2, .ptr 11 0 0), (3, .ptr 12 0 0), (4, .ptr 13 0 0), (5, .ptr 814 0 0), (7, .int .i64 r45.1), (8, .int .i64 r47.1), (39, .ptr 0 0 0), (40, .bool r40.1), (41, .ptr 0 0 0), (42, .ptr 814 0 0), (43, .ow 70005), (44, .int .i64 (u0.length : Int)), (45, .int .i64 r45.1), (46, .ptr 0 0 0), (47, .int .i64 r47.1), (48, .ptr 814 0 0), (49, .ow 70005), (50, .int .i64 r45.1), (51, .ptr 70005 ((r45.1).toNat) 0), (52, .sub 70005 ((r45.1).toNat * 1 + 0)), (53, .int .i64 r47.1), (54, .ptr 0 0 0), (55, .ptr 814 0 0)], [(0, .box [.sl 1 (List.map a_u8 r47.2.code), .int .i64 r47.2.at_, .int .u64 r47.2.seed]), (11, .box [.snil]), (12, .box [.snil]), (13, .box [.sl 1 (List.map aLa_i64 r10.1.Next)]), (814, .box [.ow 70005]), (70005, .arr ⟨false, true⟩ 1 29 (List.map aLa_i64 u0))]⟩ ?_ (fun hS5535_0 => ?_)
            · refine TZ_one 8 (by kernel_rfl) rfl ?_
              refine TL_pure rfl rfl rfl rfl (op_load_one ag24 rfl rfl) ?_
              refine TL_nil ?_
              refine TZ_pure 9 (by kernel_rfl) rfl rfl rfl rfl rfl (op_lenO Tryd.underlying24 rfl rfl (List.length_map _)) ?_
              refine TZ_pure 10 (by kernel_rfl) rfl rfl rfl rfl rfl (op_addW rfl rfl) ?_
              refine TZ_one 11 (by kernel_rfl) rfl ?_
              refine TL_call [(0, 0)] [] [] (ACall.F (F := F) (c_spec_l00Src_pick r47.2 (w64 ((u0.length : Int) + (1 : Int))) r59 hr59)) Tryd.call30 rfl rfl rfl rfl rfl ⟨rfl, trivial⟩ rfl rfl rfl rfl rfl rfl rfl rfl rfl rfl rfl ?_
              refine TL_nil ?_
              refine TZ_pure 12 (by kernel_rfl) rfl rfl rfl rfl rfl (op_subW rfl rfl) ?_
              refine TZ_storeSub (id := 70005) 13 14 (i0 := (r45.1).toNat) (j0 := 0) (q := (r47.1).toNat) (e' := aLa_i64 (x51.set (r47.1).toNat (w64 (r59.1 - (1 : Int))))) (es' := List.map aLa_i64 (u0.set ((r45.1).toNat) (x51.set (r47.1).toNat (w64 (r59.1 - (1 : Int)))))) (es2 := List.map a_i64 (x51.set (r47.1).toNat (w64 (r59.1 - (1 : Int))))) (by kernel_rfl) rfl (by kernel_rfl) rfl rfl rfl el29 sz2 rfl rfl rfl rfl rfl (get_map ((getI_spec hx51).2)) rfl rfl rfl (getI_spec hx61).1 (by simpa using getI_lt hx61) rfl rfl rfl rfl (List.map_set) (List.map_set) rfl ?_
              refine TZ_done (by kernel_rfl) ?_
              refine T_keepH [0, 2, 3, 4, 5] [0, 11, 12, 13, 814, 70005] rfl rfl rfl rfl (by rw [hF]; rfl) ?_
              exact hj1 (r59.2.code, r59.2.at_, r59.2.seed, (u0.set ((r45.1).toNat) (x51.set (r47.1).toNat (w64 (r59.1 - (1 : Int)))))) hm
            refine TZ_cut 4 [true, true, true, true, true, true, true, true, true, true, true, false, false, false, false] ⟨[(0, .ptr 0 0 0), (2, .ptr 11 0 0), (3, .ptr 12 0 0), (4, .ptr 13 0 0), (5, .ptr 814 0 0), (7, .int .i64 r45.1), (8, .int .i64 r47.1), (39, .ptr 0 0 0), (40, .bool r40.1), (41, .ptr 0 0 0), (42, .ptr 814 0 0), (43, .ow 70005), (44, .int .i64 (u0.length : Int)), (45, .int .i64 r45.1), (46, .ptr 0 0 0), (47, .int .i64 r47.1), (48, .ptr 814 0 0), (49, .ow 70005), (50, .int .i64 r45.1), (51, .ptr 70005 ((r45.1).toNat) 0), (52, .sub 70005 ((r45.1).toNat * 1 + 0)), (53, .int .i64 r47.1), (54, .ptr 0 0 0), (55, .ptr 814 0 0), (56, .ow 70005), (57, .int .i64 (u0.length : Int)), (58, .int .i64 (w64 ((u0.length : Int) + (1 : Int))))], [(0, .box [.sl 1 (List.map a_u8 r47.2.code), .int .i64 r47.2.at_, .int .u64 r47.2.seed]), (11, .box [.snil]), (12, .box [.snil]), (13, .box [.sl 1 (List.map aLa_i64 r10.1.Next)]), (814, .box [.ow 70005]), (70005, .arr ⟨false, true⟩ 1 29 (List.map aLa_i64 u0))]⟩ ?_ (fun hS5535_1 => ?_)
            · refine TZ_one 11 (by kernel_rfl) rfl ?_
              refine TL_call [(0, 0)] [] [] (ACall.F (F := F) (c_spec_l00Src_pick r47.2 (w64 ((u0.length : Int) + (1 : Int))) r59 hr59)) Tryd.call30 rfl rfl rfl rfl rfl ⟨rfl, trivial⟩ rfl rfl rfl rfl rfl rfl rfl rfl rfl rfl rfl ?_
              refine TL_nil ?_
              refine TZ_pure 12 (by kernel_rfl) rfl rfl rfl rfl rfl (op_subW rfl rfl) ?_
              refine TZ_storeSub (id := 70005) 13 14 (i0 := (r45.1).toNat) (j0 := 0) (q := (r47.1).toNat) (e' := aLa_i64 (x51.set (r47.1).toNat (w64 (r59.1 - (1 : Int))))) (es' := List.map aLa_i64 (u0.set ((r45.1).toNat) (x51.set (r47.1).toNat (w64 (r59.1 - (1 : Int)))))) (es2 := List.map a_i64 (x51.set (r47.1).toNat (w64 (r59.1 - (1 : Int))))) (by kernel_rfl) rfl (by kernel_rfl) rfl rfl rfl el29 sz2 rfl rfl rfl rfl rfl (get_map ((getI_spec hx51).2)) rfl rfl rfl (getI_spec hx61).1 (by simpa using getI_lt hx61) rfl rfl rfl rfl (List.map_set) (List.map_set) rfl ?_
              refine TZ_done (by kernel_rfl) ?_
              refine T_keepH [0, 2, 3, 4, 5] [0, 11, 12, 13, 814, 70005] rfl rfl rfl rfl (by rw [hF]; rfl) ?_
              exact hj1 (r59.2.code, r59.2.at_, r59.2.seed, (u0.set ((r45.1).toNat) (x51.set (r47.1).toNat (w64 (r59.1 - (1 : Int)))))) hm
            refine TZ_cut 4 [true, true, true, true, false, true, true, true, true, true, true, true, false, false, false] ⟨[(0, .ptr 0 0 0), (2, .ptr 11 0 0), (3, .ptr 12 0 0), (4, .ptr 13 0 0), (5, .ptr 814 0 0), (7, .int .i64 r45.1), (8, .int .i64 r47.1), (39, .ptr 0 0 0), (40, .bool r40.1), (41, .ptr 0 0 0), (42, .ptr 814 0 0), (43, .ow 70005), (44, .int .i64 (u0.length : Int)), (45, .int .i64 r45.1), (46, .ptr 0 0 0), (47, .int .i64 r47.1), (48, .ptr 814 0 0), (49, .ow 70005), (50, .int .i64 r45.1), (51, .ptr 70005 ((r45.1).toNat) 0), (53, .int .i64 r47.1), (54, .ptr 0 0 0), (55, .ptr 814 0 0), (56, .ow 70005), (57, .int .i64 (u0.length : Int)), (58, .int .i64 (w64 ((u0.length : Int) + (1 : Int)))), (59, .int .i64 r59.1)], [(0, .box [.sl 1 (List.map a_u8 r59.2.code), .int .i64 r59.2.at_, .int .u64 r59.2.seed]), (11, .box [.snil]), (12, .box [.snil]), (13, .box [.sl 1 (List.map aLa_i64 r10.1.Next)]), (814, .box [.ow 70005]), (70005, .arr ⟨false, true⟩ 1 29 (List.map aLa_i64 u0))]⟩ ?_ (fun hS5535_2 => ?_)
            · refine TZ_pure 4 (by kernel_rfl) rfl rfl rfl rfl rfl (op_loadD1 ag29 rfl rfl ((getI_spec hx51).2) rfl rfl rfl rfl) ?_
              refine TZ_pure 12 (by kernel_rfl) rfl rfl rfl rfl rfl (op_subW rfl rfl) ?_
              refine TZ_storeSub (id := 70005) 13 14 (i0 := (r45.1).toNat) (j0 := 0) (q := (r47.1).toNat) (e' := aLa_i64 (x51.set (r47.1).toNat (w64 (r59.1 - (1 : Int))))) (es' := List.map aLa_i64 (u0.set ((r45.1).toNat) (x51.set (r47.1).toNat (w64 (r59.1 - (1 : Int)))))) (es2 := List.map a_i64 (x51.set (r47.1).toNat (w64 (r59.1 - (1 : Int))))) (by kernel_rfl) rfl (by kernel_rfl) rfl rfl rfl el29 sz2 rfl rfl rfl rfl rfl (get_map ((getI_spec hx51).2)) rfl rfl rfl (getI_spec hx61).1 (by simpa using getI_lt hx61) rfl rfl rfl rfl (List.map_set) (List.map_set) rfl ?_
              refine TZ_done (by kernel_rfl) ?_
              refine T_keepH [0, 2, 3, 4, 5] [0, 11, 12, 13, 814, 70005] rfl rfl rfl rfl (by rw [hF]; rfl) ?_
              exact hj1 (r59.2.code, r59.2.at_, r59.2.seed, (u0.set ((r45.1).toNat) (x51.set (r47.1).toNat (w64 (r59.1 - (1 : Int)))))) hm
            refine TZ_cut 7 [true, true, true, true, false, true, true, true, true, false, false, false, false, false, false] ⟨[(0, .ptr 0 0 0), (2, .ptr 11 0 0), (3, .ptr 12 0 0), (4, .ptr 13 0 0), (5, .ptr 814 0 0), (7, .int .i64 r45.1), (8, .int .i64 r47.1), (39, .ptr 0 0 0), (40, .bool r40.1), (41, .ptr 0 0 0), (42, .ptr 814 0 0), (43, .ow 70005), (44, .int .i64 (u0.length : Int)), (45, .int .i64 r45.1), (46, .ptr 0 0 0), (47, .int .i64 r47.1), (48, .ptr 814 0 0), (49, .ow 70005), (50, .int .i64 r45.1), (51, .ptr 70005 ((r45.1).toNat) 0), (53, .int .i64 r47.1), (54, .ptr 0 0 0), (55, .ptr 814 0 0), (56, .ow 70005)], [(0, .box [.sl 1 (List.map a_u8 r47.2.code), .int .i64 r47.2.at_, .int .u64 r47.2.seed]), (11, .box [.snil]), (12, .box [.snil]), (13, .box [.sl 1 (List.map aLa_i64 r10.1.Next)]), (814, .box [.ow 70005]), (70005, .arr ⟨false, true⟩ 1 29 (List.map aLa_i64 u0))]⟩ ?_ (fun hS5535_3 => ?_)
            · refine TZ_pure 9 (by kernel_rfl) rfl rfl rfl rfl rfl (op_lenO Tryd.underlying24 rfl rfl (List.length_map _)) ?_
              refine TZ_pure 10 (by kernel_rfl) rfl rfl rfl rfl rfl (op_addW rfl rfl) ?_
              refine TZ_each [4, 11] (by kernel_rfl) rfl ?_
              refine ⟨?_, ?_⟩
              · refine ⟨_, rfl, ?_⟩
                refine TL_pure rfl rfl rfl rfl (op_loadD1 ag29 rfl rfl ((getI_spec hx51).2) rfl rfl rfl rfl) ?_
                refine TL_nil ?_
                refine TZ_keepH [0, 2, 3, 4, 5, 7, 8, 39, 40, 41, 42, 43, 44, 45, 46, 47, 48, 49, 50, 51, 52, 53, 54, 55, 56, 57, 58] [0, 11, 12, 13, 814, 70005] rfl rfl rfl rfl (by rw [hF]; rfl) ?_
                exact hS5535_1
              · refine ⟨_, rfl, ?_⟩
                refine TL_call [(0, 0)] [] [] (ACall.F (F := F) (c_spec_l00Src_pick r47.2 (w64 ((u0.length : Int) + (1 : Int))) r59 hr59)) Tryd.call30 rfl rfl rfl rfl rfl ⟨rfl, trivial⟩ rfl rfl rfl rfl rfl rfl rfl rfl rfl rfl rfl ?_
                refine TL_nil ?_
                refine TZ_keepH [0, 2, 3, 4, 5, 7, 8, 39, 40, 41, 42, 43, 44, 45, 46, 47, 48, 49, 50, 51, 53, 54, 55, 56, 57, 58, 59] [0, 11, 12, 13, 814, 70005] rfl rfl rfl rfl (by rw [hF]; rfl) ?_
                exact hS5535_2
            refine TZ_cut 9 [true, true, true, false, false, true, true, true, false, false, false, false, false, false, false] ⟨[(0, .ptr 0 0 0), (2, .ptr 11 0 0), (3, .ptr 12 0 0), (4, .ptr 13 0 0), (5, .ptr 814 0 0), (7, .int .i64 r45.1), (8, .int .i64 r47.1), (39, .ptr 0 0 0), (40, .bool r40.1), (41, .ptr 0 0 0), (42, .ptr 814 0 0), (43, .ow 70005), (44, .int .i64 (u0.length : Int)), (45, .int .i64 r45.1), (46, .ptr 0 0 0), (47, .int .i64 r47.1), (48, .ptr 814 0 0), (49, .ow 70005), (50, .int .i64 r45.1), (53, .int .i64 r47.1), (54, .ptr 0 0 0), (55, .ptr 814 0 0)], [(0, .box [.sl 1 (List.map a_u8 r47.2.code), .int .i64 r47.2.at_, .int .u64 r47.2.seed]), (11, .box [.snil]), (12, .box [.snil]), (13, .box [.sl 1 (List.map aLa_i64 r10.1.Next)]), (814, .box [.ow 70005]), (70005, .arr ⟨false, true⟩ 1 29 (List.map aLa_i64 u0))]⟩ ?_ (fun hS5535_4 => ?_)
            · refine TZ_pure 3 (by kernel_rfl) rfl rfl rfl rfl rfl (op_indexO el24 rfl rfl rfl hx51) ?_
              refine TZ_each [4, 8] (by kernel_rfl) rfl ?_
              refine ⟨?_, ?_⟩
              · refine ⟨_, rfl, ?_⟩
                refine TL_pure rfl rfl rfl rfl (op_loadD1 ag29 rfl rfl ((getI_spec hx51).2) rfl rfl rfl rfl) ?_
                refine TL_nil ?_
                refine TZ_keepH [0, 2, 3, 4, 5, 7, 8, 39, 40, 41, 42, 43, 44, 45, 46, 47, 48, 49, 50, 51, 52, 53, 54, 55] [0, 11, 12, 13, 814, 70005] rfl rfl rfl rfl (by rw [hF]; rfl) ?_
                exact hS5535_0
              · refine ⟨_, rfl, ?_⟩
                refine TL_pure rfl rfl rfl rfl (op_load_one ag24 rfl rfl) ?_
                refine TL_nil ?_
                refine TZ_keepH [0, 2, 3, 4, 5, 7, 8, 39, 40, 41, 42, 43, 44, 45, 46, 47, 48, 49, 50, 51, 53, 54, 55, 56] [0, 11, 12, 13, 814, 70005] rfl rfl rfl rfl (by rw [hF]; rfl) ?_
                exact hS5535_3
            refine TZ_cut 6 [true, true, true, false, false, true, true, true, true, true, true, false, false, false, false] ⟨[(0, .ptr 0 0 0), (2, .ptr 11 0 0), (3, .ptr 12 0 0), (4, .ptr 13 0 0), (5, .ptr 814 0 0), (7, .int .i64 r45.1), (8, .int .i64 r47.1), (39, .ptr 0 0 0), (40, .bool r40.1), (41, .ptr 0 0 0), (42, .ptr 814 0 0), (43, .ow 70005), (44, .int .i64 (u0.length : Int)), (45, .int .i64 r45.1), (46, .ptr 0 0 0), (47, .int .i64 r47.1), (48, .ptr 814 0 0), (49, .ow 70005), (50, .int .i64 r45.1), (53, .int .i64 r47.1), (54, .ptr 0 0 0), (55, .ptr 814 0 0), (56, .ow 70005), (57, .int .i64 (u0.length : Int)), (58, .int .i64 (w64 ((u0.length : Int) + (1 : Int))))], [(0, .box [.sl 1 (List.map a_u8 r47.2.code), .int .i64 r47.2.at_, .int .u64 r47.2.seed]), (11, .box [.snil]), (12, .box [.snil]), (13, .box [.sl 1 (List.map aLa_i64 r10.1.Next)]), (814, .box [.ow 70005]), (70005, .arr ⟨false, true⟩ 1 29 (List.map aLa_i64 u0))]⟩ ?_ (fun hS5535_5 => ?_)
            · refine TZ_pure 3 (by kernel_rfl) rfl rfl rfl rfl rfl (op_indexO el24 rfl rfl rfl hx51) ?_
              refine TZ_each [4, 11] (by kernel_rfl) rfl ?_
              refine ⟨?_, ?_⟩
              · refine ⟨_, rfl, ?_⟩
                refine TL_pure rfl rfl rfl rfl (op_loadD1 ag29 rfl rfl ((getI_spec hx51).2) rfl rfl rfl rfl) ?_
                refine TL_nil ?_
                refine TZ_keepH [0, 2, 3, 4, 5, 7, 8, 39, 40, 41, 42, 43, 44, 45, 46, 47, 48, 49, 50, 51, 52, 53, 54, 55, 56, 57, 58] [0, 11, 12, 13, 814, 70005] rfl rfl rfl rfl (by rw [hF]; rfl) ?_
                exact hS5535_1
              · refine ⟨_, rfl, ?_⟩
                refine TL_call [(0, 0)] [] [] (ACall.F (F := F) (c_spec_l00Src_pick r47.2 (w64 ((u0.length : Int) + (1 : Int))) r59 hr59)) Tryd.call30 rfl rfl rfl rfl rfl ⟨rfl, trivial⟩ rfl rfl rfl rfl rfl rfl rfl rfl rfl rfl rfl ?_
                refine TL_nil ?_
                refine TZ_keepH [0, 2, 3, 4, 5, 7, 8, 39, 40, 41, 42, 43, 44, 45, 46, 47, 48, 49, 50, 51, 53, 54, 55, 56, 57, 58, 59] [0, 11, 12, 13, 814, 70005] rfl rfl rfl rfl (by rw [hF]; rfl) ?_
                exact hS5535_2
            refine TZ_cut 6 [true, false, true, false, false, true, true, true, true, true, true, true, false, false, false] ⟨[(0, .ptr 0 0 0), (2, .ptr 11 0 0), (3, .ptr 12 0 0), (4, .ptr 13 0 0), (5, .ptr 814 0 0), (7, .int .i64 r45.1), (8, .int .i64 r47.1), (39, .ptr 0 0 0), (40, .bool r40.1), (41, .ptr 0 0 0), (42, .ptr 814 0 0), (43, .ow 70005), (44, .int .i64 (u0.length : Int)), (45, .int .i64 r45.1), (46, .ptr 0 0 0), (47, .int .i64 r47.1), (48, .ptr 814 0 0), (50, .int .i64 r45.1), (53, .int .i64 r47.1), (54, .ptr 0 0 0), (55, .ptr 814 0 0), (56, .ow 70005), (57, .int .i64 (u0.length : Int)), (58, .int .i64 (w64 ((u0.length : Int) + (1 : Int)))), (59, .int .i64 r59.1)], [(0, .box [.sl 1 (List.map a_u8 r59.2.code), .int .i64 r59.2.at_, .int .u64 r59.2.seed]), (11, .box [.snil]), (12, .box [.snil]), (13, .box [.sl 1 (List.map aLa_i64 r10.1.Next)]), (814, .box [.ow 70005]), (70005, .arr ⟨false, true⟩ 1 29 (List.map aLa_i64 u0))]⟩ ?_ (fun hS5535_6 => ?_)
            · refine TZ_pure 1 (by kernel_rfl) rfl rfl rfl rfl rfl (op_load_one ag24 rfl rfl) ?_
              refine TZ_pure 3 (by kernel_rfl) rfl rfl rfl rfl rfl (op_indexO el24 rfl rfl rfl hx51) ?_
              refine TZ_pure 4 (by kernel_rfl) rfl rfl rfl rfl rfl (op_loadD1 ag29 rfl rfl ((getI_spec hx51).2) rfl rfl rfl rfl) ?_
              refine TZ_pure 12 (by kernel_rfl) rfl rfl rfl rfl rfl (op_subW rfl rfl) ?_
              refine TZ_storeSub (id := 70005) 13 14 (i0 := (r45.1).toNat) (j0 := 0) (q := (r47.1).toNat) (e' := aLa_i64 (x51.set (r47.1).toNat (w64 (r59.1 - (1 : Int))))) (es' := List.map aLa_i64 (u0.set ((r45.1).toNat) (x51.set (r47.1).toNat (w64 (r59.1 - (1 : Int)))))) (es2 := List.map a_i64 (x51.set (r47.1).toNat (w64 (r59.1 - (1 : Int))))) (by kernel_rfl) rfl (by kernel_rfl) rfl rfl rfl el29 sz2 rfl rfl rfl rfl rfl (get_map ((getI_spec hx51).2)) rfl rfl rfl (getI_spec hx61).1 (by simpa using getI_lt hx61) rfl rfl rfl rfl (List.map_set) (List.map_set) rfl ?_
              refine TZ_done (by kernel_rfl) ?_
              refine T_keepH [0, 2, 3, 4, 5] [0, 11, 12, 13, 814, 70005] rfl rfl rfl rfl (by rw [hF]; rfl) ?_
              exact hj1 (r59.2.code, r59.2.at_, r59.2.seed, (u0.set ((r45.1).toNat) (x51.set (r47.1).toNat (w64 (r59.1 - (1 : Int)))))) hm
            refine TZ_cut 9 [true, false, true, false, false, true, true, true, true, false, false, false, false, false, false] ⟨[(0, .ptr 0 0 0), (2, .ptr 11 0 0), (3, .ptr 12 0 0), (4, .ptr 13 0 0), (5, .ptr 814 0 0), (7, .int .i64 r45.1), (8, .int .i64 r47.1), (39, .ptr 0 0 0), (40, .bool r40.1), (41, .ptr 0 0 0), (42, .ptr 814 0 0), (43, .ow 70005), (44, .int .i64 (u0.length : Int)), (45, .int .i64 r45.1), (46, .ptr 0 0 0), (47, .int .i64 r47.1), (48, .ptr 814 0 0), (50, .int .i64 r45.1), (53, .int .i64 r47.1), (54, .ptr 0 0 0), (55, .ptr 814 0 0), (56, .ow 70005)], [(0, .box [.sl 1 (List.map a_u8 r47.2.code), .int .i64 r47.2.at_, .int .u64 r47.2.seed]), (11, .box [.snil]), (12, .box [.snil]), (13, .box [.sl 1 (List.map aLa_i64 r10.1.Next)]), (814, .box [.ow 70005]), (70005, .arr ⟨false, true⟩ 1 29 (List.map aLa_i64 u0))]⟩ ?_ (fun hS5535_7 => ?_)
            · refine TZ_pure 9 (by kernel_rfl) rfl rfl rfl rfl rfl (op_lenO Tryd.underlying24 rfl rfl (List.length_map _)) ?_
              refine TZ_pure 10 (by kernel_rfl) rfl rfl rfl rfl rfl (op_addW rfl rfl) ?_
              refine TZ_each [1, 11] (by kernel_rfl) rfl ?_
              refine ⟨?_, ?_⟩
              · refine ⟨_, rfl, ?_⟩
                refine TL_pure rfl rfl rfl rfl (op_load_one ag24 rfl rfl) ?_
                refine TL_nil ?_
                refine TZ_keepH [0, 2, 3, 4, 5, 7, 8, 39, 40, 41, 42, 43, 44, 45, 46, 47, 48, 49, 50, 53, 54, 55, 56, 57, 58] [0, 11, 12, 13, 814, 70005] rfl rfl rfl rfl (by rw [hF]; rfl) ?_
                exact hS5535_5
              · refine ⟨_, rfl, ?_⟩
                refine TL_call [(0, 0)] [] [] (ACall.F (F := F) (c_spec_l00Src_pick r47.2 (w64 ((u0.length : Int) + (1 : Int))) r59 hr59)) Tryd.call30 rfl rfl rfl rfl rfl ⟨rfl, trivial⟩ rfl rfl rfl rfl rfl rfl rfl rfl rfl rfl rfl ?_
                refine TL_nil ?_
                refine TZ_keepH [0, 2, 3, 4, 5, 7, 8, 39, 40, 41, 42, 43, 44, 45, 46, 47, 48, 50, 53, 54, 55, 56, 57, 58, 59] [0, 11, 12, 13, 814, 70005] rfl rfl rfl rfl (by rw [hF]; rfl) ?_
                exact hS5535_6
            refine TZ_each [1, 8] (by kernel_rfl) rfl ?_
            refine ⟨?_, ?_⟩
            · refine ⟨_, rfl, ?_⟩
              refine TL_pure rfl rfl rfl rfl (op_load_one ag24 rfl rfl) ?_
              refine TL_nil ?_
              refine TZ_keepH [0, 2, 3, 4, 5, 7, 8, 39, 40, 41, 42, 43, 44, 45, 46, 47, 48, 49, 50, 53, 54, 55] [0, 11, 12, 13, 814, 70005] rfl rfl rfl rfl (by rw [hF]; rfl) ?_
              exact hS5535_4
            · refine ⟨_, rfl, ?_⟩
              refine TL_pure rfl rfl rfl rfl (op_load_one ag24 rfl rfl) ?_
              refine TL_nil ?_
              refine TZ_keepH [0, 2, 3, 4, 5, 7, 8, 39, 40, 41, 42, 43, 44, 45, 46, 47, 48, 50, 53, 54, 55, 56] [0, 11, 12, 13, 814, 70005] rfl rfl rfl rfl (by rw [hF]; rfl) ?_
              exact hS5535_7
          · replace hm := condF hq hm
            refine T_skip ?_
            refine T_keepH [0, 2, 3, 4, 5] [0, 11, 12, 13, 814, 70005] rfl rfl rfl rfl (by rw [hF]; rfl) ?_
            exact hj1 (r40.2.code, r40.2.at_, r40.2.seed, u0) hm
      · unfold m_spec_l10DrawTwo_L0 at hm
        refine T_seq ?_
        refine T_seq ?_
        refine T_region ?_
        refine TL_pure rfl rfl rfl rfl (op_move rfl) ?_
        refine TL_pure rfl rfl rfl rfl (op_fieldAddr fa26_0 rfl rfl) ?_
        refine TL_pure rfl rfl rfl rfl (op_load_one ag24 rfl rfl) ?_
        refine TL_pure rfl rfl rfl rfl (op_lenT Tryd.underlying24 rfl (List.length_map _)) ?_
        refine TL_fact (fun _ _ _ hr => RelP.slLen (i := 23) rfl hr) (fun hlen24 => ?_)
        rw [List.length_map] at hlen24
        refine TL_pure rfl rfl rfl rfl (op_lss rfl rfl) ?_
        refine TL_nil ?_
        refine T_cond rfl (fun hq => ?_) (fun hq => ?_)
        · replace hm := condT hq hm
          refine T_skip ?_
          refine T_seq ?_
          refine T_block ?_
          refine T_drawZ [8, 9, 11] mix (by kernel_rfl) rfl ?_
          obtain ⟨x33, hx33, hm⟩ := bindS hm
          obtain ⟨r35, hr35, hm⟩ := bindS hm
          obtain ⟨q37, hq37, hm⟩ := bindS hm
          refine TZ_pure 0 (by kernel_rfl) rfl rfl rfl rfl rfl (op_fieldAddr fa26_0 rfl rfl) ?_
          refine TZ_pure 2 (by kernel_rfl) rfl rfl rfl rfl rfl (op_fieldAddr fa26_0 rfl rfl) ?_
          refine TZ_pure 4 (by kernel_rfl) rfl rfl rfl rfl rfl (op_move rfl) ?_
          refine TZ_cut 8 [true, true, true, false, true, false, false, false, false, false, false, false] ⟨[(0, .ptr 0 0 0), (2, .ptr 11 0 0), (3, .ptr 12 0 0), (4, .ptr 13 0 0), (5, .ptr 814 0 0), (6, .int .i64 s0.2), (21, .int .i64 s0.2), (22, .ptr 13 0 0), (23, .sl 1 (List.map aLa_i64 r10.1.Next)), (24, .int .i64 (r10.1.Next.length : Int)), (25, .bool (decide (s0.2 < (r10.1.Next.length : Int)))), (28, .ptr 814 0 0), (29, .ow 70005), (30, .ptr 13 0 0), (32, .int .i64 s0.2)], [(0, .box [.sl 1 (List.map a_u8 j0.1), .int .i64 j0.2.1, .int .u64 j0.2.2.1]), (11, .box [.snil]), (12, .box [.snil]), (13, .box [.sl 1 (List.map aLa_i64 r10.1.Next)]), (814, .box [.ow 70005]), (70005, .arr ⟨false, true⟩ 1 29 (List.map aLa_i64 s0.1))]⟩ ?_ (fun hS2734_0 => ?_)
          · refine TZ_one 3 (by kernel_rfl) rfl ?_
            refine TL_pure rfl rfl rfl rfl (op_load_one ag24 rfl rfl) ?_
            refine TL_nil ?_
            refine TZ_pure 5 (by kernel_rfl) rfl rfl rfl rfl rfl (op_indexT el24 rfl rfl hx33 rfl) ?_
            refine TZ_one 6 (by kernel_rfl) rfl ?_
            refine TL_pure rfl rfl rfl rfl (op_load_one ag29 rfl rfl) ?_
            refine TL_nil ?_
            refine TZ_one 7 (by kernel_rfl) rfl ?_
            refine TL_callO [(1000, 3375)] (ACall.F (F := F) (c_spec_l00Own x33 r35 hr35)) Tryd.call56 rfl rfl rfl rfl rfl rfl rfl rfl rfl rfl rfl rfl rfl ?_
            refine TL_nil ?_
            refine TZ_one 8 (by kernel_rfl) rfl ?_
            refine TL_buildSliceD (ids := [3375]) (es := List.map aLa_i64 [r35]) 3455 el24 z29 rfl rfl rfl rfl rfl rfl (by rw [hF]; intro j hj; simp only [List.mem_cons, List.not_mem_nil, or_false] at hj; rcases hj with rfl <;> rfl) rfl rfl rfl rfl rfl rfl ?_
            refine TL_nil ?_
            refine TZ_one 9 (by kernel_rfl) rfl ?_
            refine TL_appendDT (f := aLa_i64) (a := s0.1) (b := [r35]) el24 z29 rfl rfl rfl rfl rfl rfl rfl rfl (by rw [hF]; rfl) (capI_spec hq37) rfl rfl rfl rfl rfl ?_
            refine TL_nil ?_
            refine TZ_pure 10 (by kernel_rfl) rfl rfl rfl rfl rfl (op_fieldAddr fa26_0 rfl rfl) ?_
            refine TZ_one 11 (by kernel_rfl) rfl ?_
            refine TL_store_box sz24 rfl rfl rfl rfl rfl rfl rfl rfl rfl ?_
            refine TL_nil ?_
            refine TZ_done (by kernel_rfl) ?_
            refine T_region ?_
            refine TL_pure rfl rfl rfl rfl (op_move rfl) ?_
            refine TL_pure rfl rfl rfl rfl (op_addW rfl rfl) ?_
            refine TL_pure rfl rfl rfl rfl (op_assign rfl) ?_
            refine TL_nil ?_
            refine TR_keepH [0, 2, 3, 4, 5, 6] [0, 11, 12, 13, 814, 70005] rfl rfl rfl rfl (by rw [hF]; rfl) ?_
            obtain rfl := someI hm
            have hn := CtlOK_next hc0
            exact hn _ rfl
          refine TZ_cut 6 [true, true, true, true, true, true, false, false, false, false, false, false] ⟨[(0, .ptr 0 0 0), (2, .ptr 11 0 0), (3, .ptr 12 0 0), (4, .ptr 13 0 0), (5, .ptr 814 0 0), (6, .int .i64 s0.2), (21, .int .i64 s0.2), (22, .ptr 13 0 0), (23, .sl 1 (List.map aLa_i64 r10.1.Next)), (24, .int .i64 (r10.1.Next.length : Int)), (25, .bool (decide (s0.2 < (r10.1.Next.length : Int)))), (28, .ptr 814 0 0), (29, .ow 70005), (30, .ptr 13 0 0), (31, .sl 1 (List.map aLa_i64 r10.1.Next)), (32, .int .i64 s0.2), (33, .cp [.sl 1 (List.map a_i64 x33)])], [(0, .box [.sl 1 (List.map a_u8 j0.1), .int .i64 j0.2.1, .int .u64 j0.2.2.1]), (11, .box [.snil]), (12, .box [.snil]), (13, .box [.sl 1 (List.map aLa_i64 r10.1.Next)]), (814, .box [.ow 70005]), (70005, .arr ⟨false, true⟩ 1 29 (List.map aLa_i64 s0.1))]⟩ ?_ (fun hS2734_1 => ?_)
          · refine TZ_one 6 (by kernel_rfl) rfl ?_
            refine TL_pure rfl rfl rfl rfl (op_load_one ag29 rfl rfl) ?_
            refine TL_nil ?_
            refine TZ_one 7 (by kernel_rfl) rfl ?_
            refine TL_callO [(1000, 3375)] (ACall.F (F := F) (c_spec_l00Own x33 r35 hr35)) Tryd.call56 rfl rfl rfl rfl rfl rfl rfl rfl rfl rfl rfl rfl rfl ?_
            refine TL_nil ?_
            refine TZ_one 8 (by kernel_rfl) rfl ?_
            refine TL_buildSliceD (ids := [3375]) (es := List.map aLa_i64 [r35]) 3455 el24 z29 rfl rfl rfl rfl rfl rfl (by rw [hF]; intro j hj; simp only [List.mem_cons, List.not_mem_nil, or_false] at hj; rcases hj with rfl <;> rfl) rfl rfl rfl rfl rfl rfl ?_
            refine TL_nil ?_
            refine TZ_one 9 (by kernel_rfl) rfl ?_
            refine TL_appendDT (f := aLa_i64) (a := s0.1) (b := [r35]) el24 z29 rfl rfl rfl rfl rfl rfl rfl rfl (by rw [hF]; rfl) (capI_spec hq37) rfl rfl rfl rfl rfl ?_
            refine TL_nil ?_
            refine TZ_pure 10 (by kernel_rfl) rfl rfl rfl rfl rfl (op_fieldAddr fa26_0 rfl rfl) ?_
            refine TZ_one 11 (by kernel_rfl) rfl ?_
            refine TL_store_box sz24 rfl rfl rfl rfl rfl rfl rfl rfl rfl ?_
            refine TL_nil ?_
            refine TZ_done (by kernel_rfl) ?_
            refine T_region ?_
            refine TL_pure rfl rfl rfl rfl (op_move rfl) ?_
            refine TL_pure rfl rfl rfl rfl (op_addW rfl rfl) ?_
            refine TL_pure rfl rfl rfl rfl (op_assign rfl) ?_
            refine TL_nil ?_
            refine TR_keepH [0, 2, 3, 4, 5, 6] [0, 11, 12, 13, 814, 70005] rfl rfl rfl rfl (by rw [hF]; rfl) ?_
            obtain rfl := someI hm
            have hn := CtlOK_next hc0
            exact hn _ rfl
          refine TZ_cut 5 [true, true, true, true, true, true, true, false, false, false, false, false] ⟨[(0, .ptr 0 0 0), (2, .ptr 11 0 0), (3, .ptr 12 0 0), (4, .ptr 13 0 0), (5, .ptr 814 0 0), (6, .int .i64 s0.2), (21, .int .i64 s0.2), (22, .ptr 13 0 0), (23, .sl 1 (List.map aLa_i64 r10.1.Next)), (24, .int .i64 (r10.1.Next.length : Int)), (25, .bool (decide (s0.2 < (r10.1.Next.length : Int)))), (28, .ptr 814 0 0), (29, .ow 70005), (30, .ptr 13 0 0), (31, .sl 1 (List.map aLa_i64 r10.1.Next)), (32, .int .i64 s0.2), (33, .cp [.sl 1 (List.map a_i64 x33)]), (34, .sl 1 (List.map a_i64 x33))], [(0, .box [.sl 1 (List.map a_u8 j0.1), .int .i64 j0.2.1, .int .u64 j0.2.2.1]), (11, .box [.snil]), (12, .box [.snil]), (13, .box [.sl 1 (List.map aLa_i64 r10.1.Next)]), (814, .box [.ow 70005]), (70005, .arr ⟨false, true⟩ 1 29 (List.map aLa_i64 s0.1))]⟩ ?_ (fun hS2734_2 => ?_)
          · refine TZ_one 7 (by kernel_rfl) rfl ?_
            refine TL_callO [(1000, 3375)] (ACall.F (F := F) (c_spec_l00Own x33 r35 hr35)) Tryd.call56 rfl rfl rfl rfl rfl rfl rfl rfl rfl rfl rfl rfl rfl ?_
            refine TL_nil ?_
            refine TZ_one 8 (by kernel_rfl) rfl ?_
            refine TL_buildSliceD (ids := [3375]) (es := List.map aLa_i64 [r35]) 3455 el24 z29 rfl rfl rfl rfl rfl rfl (by rw [hF]; intro j hj; simp only [List.mem_cons, List.not_mem_nil, or_false] at hj; rcases hj with rfl <;> rfl) rfl rfl rfl rfl rfl rfl ?_
            refine TL_nil ?_
            refine TZ_one 9 (by kernel_rfl) rfl ?_
            refine TL_appendDT (f := aLa_i64) (a := s0.1) (b := [r35]) el24 z29 rfl rfl rfl rfl rfl rfl rfl rfl (by rw [hF]; rfl) (capI_spec hq37) rfl rfl rfl rfl rfl ?_
            refine TL_nil ?_
            refine TZ_pure 10 (by kernel_rfl) rfl rfl rfl rfl rfl (op_fieldAddr fa26_0 rfl rfl) ?_
            refine TZ_one 11 (by kernel_rfl) rfl ?_
            refine TL_store_box sz24 rfl rfl rfl rfl rfl rfl rfl rfl rfl ?_
            refine TL_nil ?_
            refine TZ_done (by kernel_rfl) ?_
            refine T_region ?_
            refine TL_pure rfl rfl rfl rfl (op_move rfl) ?_
            refine TL_pure rfl rfl rfl rfl (op_addW rfl rfl) ?_
            refine TL_pure rfl rfl rfl rfl (op_assign rfl) ?_
            refine TL_nil ?_
            refine TR_keepH [0, 2, 3, 4, 5, 6] [0, 11, 12, 13, 814, 70005] rfl rfl rfl rfl (by rw [hF]; rfl) ?_
            obtain rfl := someI hm
            have hn := CtlOK_next hc0
            exact hn _ rfl
          refine TZ_cut 4 [true, true, true, true, true, true, true, true, false, false, false, false] ⟨[(0, .ptr 0 0 0), (2, .ptr 11 0 0), (3, .ptr 12 0 0), (4, .ptr 13 0 0), (5, .ptr 814 0 0), (6, .int .i64 s0.2), (21, .int .i64 s0.2), (22, .ptr 13 0 0), (23, .sl 1 (List.map aLa_i64 r10.1.Next)), (24, .int .i64 (r10.1.Next.length : Int)), (25, .bool (decide (s0.2 < (r10.1.Next.length : Int)))), (28, .ptr 814 0 0), (29, .ow 70005), (30, .ptr 13 0 0), (31, .sl 1 (List.map aLa_i64 r10.1.Next)), (32, .int .i64 s0.2), (33, .cp [.sl 1 (List.map a_i64 x33)]), (34, .sl 1 (List.map a_i64 x33)), (35, .ow 3375)], [(0, .box [.sl 1 (List.map a_u8 j0.1), .int .i64 j0.2.1, .int .u64 j0.2.2.1]), (11, .box [.snil]), (12, .box [.snil]), (13, .box [.sl 1 (List.map aLa_i64 r10.1.Next)]), (814, .box [.ow 70005]), (3375, .arr ⟨false, true⟩ 1 2 (List.map a_i64 r35)), (70005, .arr ⟨false, true⟩ 1 29 (List.map aLa_i64 s0.1))]⟩ ?_ (fun hS2734_3 => ?_)
          · refine TZ_one 8 (by kernel_rfl) rfl ?_
            refine TL_buildSliceD (ids := [3375]) (es := List.map aLa_i64 [r35]) 3455 el24 z29 rfl rfl rfl rfl rfl rfl (by rw [hF]; intro j hj; simp only [List.mem_cons, List.not_mem_nil, or_false] at hj; rcases hj with rfl <;> rfl) rfl rfl rfl rfl rfl rfl ?_
            refine TL_nil ?_
            refine TZ_one 9 (by kernel_rfl) rfl ?_
            refine TL_appendDT (f := aLa_i64) (a := s0.1) (b := [r35]) el24 z29 rfl rfl rfl rfl rfl rfl rfl rfl (by rw [hF]; rfl) (capI_spec hq37) rfl rfl rfl rfl rfl ?_
            refine TL_nil ?_
            refine TZ_pure 10 (by kernel_rfl) rfl rfl rfl rfl rfl (op_fieldAddr fa26_0 rfl rfl) ?_
            refine TZ_one 11 (by kernel_rfl) rfl ?_
            refine TL_store_box sz24 rfl rfl rfl rfl rfl rfl rfl rfl rfl ?_
            refine TL_nil ?_
            refine TZ_done (by kernel_rfl) ?_
            refine T_region ?_
            refine TL_pure rfl rfl rfl rfl (op_move rfl) ?_
            refine TL_pure rfl rfl rfl rfl (op_addW rfl rfl) ?_
            refine TL_pure rfl rfl rfl rfl (op_assign rfl) ?_
            refine TL_nil ?_
            refine TR_keepH [0, 2, 3, 4, 5, 6] [0, 11, 12, 13, 814, 70005] rfl rfl rfl rfl (by rw [hF]; rfl) ?_
            obtain rfl := someI hm
            have hn := CtlOK_next hc0
            exact hn _ rfl
          refine TZ_cut 4 [true, false, true, true, true, true, true, true, true, false, false, false] ⟨[(0, .ptr 0 0 0), (2, .ptr 11 0 0), (3, .ptr 12 0 0), (4, .ptr 13 0 0), (5, .ptr 814 0 0), (6, .int .i64 s0.2), (21, .int .i64 s0.2), (22, .ptr 13 0 0), (23, .sl 1 (List.map aLa_i64 r10.1.Next)), (24, .int .i64 (r10.1.Next.length : Int)), (25, .bool (decide (s0.2 < (r10.1.Next.length : Int)))), (28, .ptr 814 0 0), (30, .ptr 13 0 0), (31, .sl 1 (List.map aLa_i64 r10.1.Next)), (32, .int .i64 s0.2), (33, .cp [.sl 1 (List.map a_i64 x33)]), (34, .sl 1 (List.map a_i64 x33)), (35, .junk), (36, .ow 3455)], [(0, .box [.sl 1 (List.map a_u8 j0.1), .int .i64 j0.2.1, .int .u64 j0.2.2.1]), (11, .box [.snil]), (12, .box [.snil]), (13, .box [.sl 1 (List.map aLa_i64 r10.1.Next)]), (814, .box [.ow 70005]), (3455, .arr ⟨false, true⟩ 1 29 (List.map aLa_i64 [r35])), (70005, .arr ⟨false, true⟩ 1 29 (List.map aLa_i64 s0.1))]⟩ ?_ (fun hS2734_4 => ?_)
          · refine TZ_pure 1 (by kernel_rfl) rfl rfl rfl rfl rfl (op_load_one ag24 rfl rfl) ?_
            refine TZ_one 9 (by kernel_rfl) rfl ?_
            refine TL_appendDT (f := aLa_i64) (a := s0.1) (b := [r35]) el24 z29 rfl rfl rfl rfl rfl rfl rfl rfl (by rw [hF]; rfl) (capI_spec hq37) rfl rfl rfl rfl rfl ?_
            refine TL_nil ?_
            refine TZ_pure 10 (by kernel_rfl) rfl rfl rfl rfl rfl (op_fieldAddr fa26_0 rfl rfl) ?_
            refine TZ_one 11 (by kernel_rfl) rfl ?_
            refine TL_store_box sz24 rfl rfl rfl rfl rfl rfl rfl rfl rfl ?_
            refine TL_nil ?_
            refine TZ_done (by kernel_rfl) ?_
            refine T_region ?_
            refine TL_pure rfl rfl rfl rfl (op_move rfl) ?_
            refine TL_pure rfl rfl rfl rfl (op_addW rfl rfl) ?_
            refine TL_pure rfl rfl rfl rfl (op_assign rfl) ?_
            refine TL_nil ?_
            refine TR_keepH [0, 2, 3, 4, 5, 6] [0, 11, 12, 13, 814, 70005] rfl rfl rfl rfl (by rw [hF]; rfl) ?_
            obtain rfl := someI hm
            have hn := CtlOK_next hc0
            exact hn _ rfl
          refine TZ_cut 5 [true, false, true, true, true, true, true, true, false, false, false, false] ⟨[(0, .ptr 0 0 0), (2, .ptr 11 0 0), (3, .ptr 12 0 0), (4, .ptr 13 0 0), (5, .ptr 814 0 0), (6, .int .i64 s0.2), (21, .int .i64 s0.2), (22, .ptr 13 0 0), (23, .sl 1 (List.map aLa_i64 r10.1.Next)), (24, .int .i64 (r10.1.Next.length : Int)), (25, .bool (decide (s0.2 < (r10.1.Next.length : Int)))), (28, .ptr 814 0 0), (30, .ptr 13 0 0), (31, .sl 1 (List.map aLa_i64 r10.1.Next)), (32, .int .i64 s0.2), (33, .cp [.sl 1 (List.map a_i64 x33)]), (34, .sl 1 (List.map a_i64 x33)), (35, .ow 3375)], [(0, .box [.sl 1 (List.map a_u8 j0.1), .int .i64 j0.2.1, .int .u64 j0.2.2.1]), (11, .box [.snil]), (12, .box [.snil]), (13, .box [.sl 1 (List.map aLa_i64 r10.1.Next)]), (814, .box [.ow 70005]), (3375, .arr ⟨false, true⟩ 1 2 (List.map a_i64 r35)), (70005, .arr ⟨false, true⟩ 1 29 (List.map aLa_i64 s0.1))]⟩ ?_ (fun hS2734_5 => ?_)
          · refine TZ_each [1, 8] (by kernel_rfl) rfl ?_
            refine ⟨?_, ?_⟩
            · refine ⟨_, rfl, ?_⟩
              refine TL_pure rfl rfl rfl rfl (op_load_one ag24 rfl rfl) ?_
              refine TL_nil ?_
              refine TZ_keepH [0, 2, 3, 4, 5, 6, 21, 22, 23, 24, 25, 28, 29, 30, 31, 32, 33, 34, 35] [0, 11, 12, 13, 814, 3375, 70005] rfl rfl rfl rfl (by rw [hF]; rfl) ?_
              exact hS2734_3
            · refine ⟨_, rfl, ?_⟩
              refine TL_buildSliceD (ids := [3375]) (es := List.map aLa_i64 [r35]) 3455 el24 z29 rfl rfl rfl rfl rfl rfl (by rw [hF]; intro j hj; simp only [List.mem_cons, List.not_mem_nil, or_false] at hj; rcases hj with rfl <;> rfl) rfl rfl rfl rfl rfl rfl ?_
              refine TL_nil ?_
              refine TZ_keepH [0, 2, 3, 4, 5, 6, 21, 22, 23, 24, 25, 28, 30, 31, 32, 33, 34, 35, 36] [0, 11, 12, 13, 814, 3455, 70005] rfl rfl rfl rfl (by rw [hF]; rfl) ?_
              exact hS2734_4
          refine TZ_cut 6 [true, false, true, true, true, true, true, false, false, false, false, false] ⟨[(0, .ptr 0 0 0), (2, .ptr 11 0 0), (3, .ptr 12 0 0), (4, .ptr 13 0 0), (5, .ptr 814 0 0), (6, .int .i64 s0.2), (21, .int .i64 s0.2), (22, .ptr 13 0 0), (23, .sl 1 (List.map aLa_i64 r10.1.Next)), (24, .int .i64 (r10.1.Next.length : Int)), (25, .bool (decide (s0.2 < (r10.1.Next.length : Int)))), (28, .ptr 814 0 0), (30, .ptr 13 0 0), (31, .sl 1 (List.map aLa_i64 r10.1.Next)), (32, .int .i64 s0.2), (33, .cp [.sl 1 (List.map a_i64 x33)]), (34, .sl 1 (List.map a_i64 x33))], [(0, .box [.sl 1 (List.map a_u8 j0.1), .int .i64 j0.2.1, .int .u64 j0.2.2.1]), (11, .box [.snil]), (12, .box [.snil]), (13, .box [.sl 1 (List.map aLa_i64 r10.1.Next)]), (814, .box [.ow 70005]), (70005, .arr ⟨false, true⟩ 1 29 (List.map aLa_i64 s0.1))]⟩ ?_ (fun hS2734_6 => ?_)
          · refine TZ_each [1, 7] (by kernel_rfl) rfl ?_
            refine ⟨?_, ?_⟩
            · refine ⟨_, rfl, ?_⟩
              refine TL_pure rfl rfl rfl rfl (op_load_one ag24 rfl rfl) ?_
              refine TL_nil ?_
              refine TZ_keepH [0, 2, 3, 4, 5, 6, 21, 22, 23, 24, 25, 28, 29, 30, 31, 32, 33, 34] [0, 11, 12, 13, 814, 70005] rfl rfl rfl rfl (by rw [hF]; rfl) ?_
              exact hS2734_2
            · refine ⟨_, rfl, ?_⟩
              refine TL_callO [(1000, 3375)] (ACall.F (F := F) (c_spec_l00Own x33 r35 hr35)) Tryd.call56 rfl rfl rfl rfl rfl rfl rfl rfl rfl rfl rfl rfl rfl ?_
              refine TL_nil ?_
              refine TZ_keepH [0, 2, 3, 4, 5, 6, 21, 22, 23, 24, 25, 28, 30, 31, 32, 33, 34, 35] [0, 11, 12, 13, 814, 3375, 70005] rfl rfl rfl rfl (by rw [hF]; rfl) ?_
              exact hS2734_5
          refine TZ_cut 8 [true, false, true, true, true, false, false, false, false, false, false, false] ⟨[(0, .ptr 0 0 0), (2, .ptr 11 0 0), (3, .ptr 12 0 0), (4, .ptr 13 0 0), (5, .ptr 814 0 0), (6, .int .i64 s0.2), (21, .int .i64 s0.2), (22, .ptr 13 0 0), (23, .sl 1 (List.map aLa_i64 r10.1.Next)), (24, .int .i64 (r10.1.Next.length : Int)), (25, .bool (decide (s0.2 < (r10.1.Next.length : Int)))), (28, .ptr 814 0 0), (30, .ptr 13 0 0), (31, .sl 1 (List.map aLa_i64 r10.1.Next)), (32, .int .i64 s0.2)], [(0, .box [.sl 1 (List.map a_u8 j0.1), .int .i64 j0.2.1, .int .u64 j0.2.2.1]), (11, .box [.snil]), (12, .box [.snil]), (13, .box [.sl 1 (List.map aLa_i64 r10.1.Next)]), (814, .box [.ow 70005]), (70005, .arr ⟨false, true⟩ 1 29 (List.map aLa_i64 s0.1))]⟩ ?_ (fun hS2734_7 => ?_)
          · refine TZ_pure 5 (by kernel_rfl) rfl rfl rfl rfl rfl (op_indexT el24 rfl rfl hx33 rfl) ?_
            refine TZ_each [1, 6] (by kernel_rfl) rfl ?_
            refine ⟨?_, ?_⟩
            · refine ⟨_, rfl, ?_⟩
              refine TL_pure rfl rfl rfl rfl (op_load_one ag24 rfl rfl) ?_
              refine TL_nil ?_
              refine TZ_keepH [0, 2, 3, 4, 5, 6, 21, 22, 23, 24, 25, 28, 29, 30, 31, 32, 33] [0, 11, 12, 13, 814, 70005] rfl rfl rfl rfl (by rw [hF]; rfl) ?_
              exact hS2734_1
            · refine ⟨_, rfl, ?_⟩
              refine TL_pure rfl rfl rfl rfl (op_load_one ag29 rfl rfl) ?_
              refine TL_nil ?_
              refine TZ_keepH [0, 2, 3, 4, 5, 6, 21, 22, 23, 24, 25, 28, 30, 31, 32, 33, 34] [0, 11, 12, 13, 814, 70005] rfl rfl rfl rfl (by rw [hF]; rfl) ?_
              exact hS2734_6
          refine TZ_each [1, 3] (by kernel_rfl) rfl ?_
          refine ⟨?_, ?_⟩
          · refine ⟨_, rfl, ?_⟩
            refine TL_pure rfl rfl rfl rfl (op_load_one ag24 rfl rfl) ?_
            refine TL_nil ?_
            refine TZ_keepH [0, 2, 3, 4, 5, 6, 21, 22, 23, 24, 25, 28, 29, 30, 32] [0, 11, 12, 13, 814, 70005] rfl rfl rfl rfl (by rw [hF]; rfl) ?_
            exact hS2734_0
          · refine ⟨_, rfl, ?_⟩
            refine TL_pure rfl rfl rfl rfl (op_load_one ag24 rfl rfl) ?_
            refine TL_nil ?_
            refine TZ_keepH [0, 2, 3, 4, 5, 6, 21, 22, 23, 24, 25, 28, 30, 31, 32] [0, 11, 12, 13, 814, 70005] rfl rfl rfl rfl (by rw [hF]; rfl) ?_
            exact hS2734_7
        · replace hm := condF hq hm
          refine T_keepH [0, 2, 3, 4, 5] [0, 11, 12, 13, 814, 70005] rfl rfl rfl rfl (by rw [hF]; rfl) ?_
          refine T_exit ?_
          obtain rfl := someI hm
          have hn := CtlOK_out hc0
          exact hx0 s0.1 hn
  · refine T_region ?_
    refine TL_pure rfl rfl rfl rfl (op_move rfl) ?_
    obtain ⟨r12, hr12, hm⟩ := bindS hm
    refine TL_call [(0, 0)] [] [] (ACall.F (F := F) (c_spec_l00Src_one r10.2 (2 : Int) r12 hr12)) Tryd.call55 rfl rfl rfl rfl rfl ⟨rfl, trivial⟩ rfl rfl rfl rfl rfl rfl rfl rfl rfl rfl rfl ?_
    refine TL_pure rfl rfl rfl rfl (op_move rfl) ?_
    refine TL_split 13 rfl rfl rfl (fun hq => ?_) (fun hq => ?_)
    · replace hm := condT hq hm
      refine TL_pass rfl rfl rfl rfl rfl rfl rfl ?_
      refine TL_pass rfl rfl rfl rfl rfl rfl rfl ?_
      refine TL_pure rfl rfl rfl rfl (op_pick_true rfl rfl) ?_
      refine TL_nil ?_
      refine T_keepH [0, 2, 3, 4, 16] [0, 11, 12, 13] rfl rfl rfl rfl (by rw [hF]; rfl) ?_
      exact hj0 (r12.2.code, r12.2.at_, r12.2.seed, true) hm
    · replace hm := condF hq hm
      refine TL_want rfl rfl ?_
      obtain ⟨r14, hr14, hm⟩ := bindS hm
      refine TL_callF (ACall.F (F := F) (c_spec_l10Is r10.1 r14 hr14)) Tryd.call29 rfl rfl rfl rfl rfl ?_
      refine TL_want rfl rfl ?_
      refine TL_pure rfl rfl rfl rfl (op_not rfl) ?_
      refine TL_pure rfl rfl rfl rfl (op_pick_false rfl rfl) ?_
      refine TL_nil ?_
      refine T_keepH [0, 2, 3, 4, 16] [0, 11, 12, 13] rfl rfl rfl rfl (by rw [hF]; rfl) ?_
      exact hj0 (r12.2.code, r12.2.at_, r12.2.seed, (!r14)) hm
theorem c_spec_B10Policies (p0 : List Int) (out : Policy × Policy) (hm : m_spec_B10Policies p0 = some out) : ACall Tryd.prog 9 [.sl 1 (List.map a_u8 p0)] [] (.tup [.agg [.sl 1 (List.map aLa_i64 out.1.Next)], .agg [.sl 1 (List.map aLa_i64 out.2.Next)]]) [] := by
  refine ACall.intro Tryd.func9 rfl Tryd.ntmps9 rfl (fun F hF => ?_)
  unfold m_spec_B10Policies at hm
  refine T_seq ?_
  refine T_region ?_
  refine TL_alloc 11 z26 rfl rfl rfl rfl rfl rfl rfl ?_
  refine TL_alloc 12 z26 rfl rfl rfl rfl rfl rfl rfl ?_
  refine TL_nil ?_
  refine T_seq ?_
  refine T_region ?_
  refine TL_pure rfl rfl rfl rfl (op_move rfl) ?_
  obtain ⟨r8, hr8, hm⟩ := bindS hm
  refine TLE_call [] [(1000, 13)] [] (ACall.F (F := F) (c_spec_l00From p0 r8 hr8)) (fun _ => rfl) Tryd.call27 rfl rfl rfl rfl rfl trivial rfl rfl rfl rfl rfl rfl rfl rfl rfl rfl rfl ?_
  refine TL_pure rfl rfl rfl rfl (op_assign rfl) ?_
  refine TL_nil ?_
  refine T_seq ?_
  refine T_region ?_
  refine TL_pure rfl rfl rfl rfl (op_move rfl) ?_
  obtain ⟨r11, hr11, hm⟩ := bindS hm
  refine TL_call [(0, 13)] [] [] (ACall.F (F := F) (c_spec_l10DrawTwo r8 r11 hr11)) Tryd.call28 rfl rfl rfl rfl rfl ⟨rfl, trivial⟩ rfl rfl rfl rfl rfl rfl rfl rfl rfl rfl rfl ?_
  refine TL_pure rfl rfl rfl rfl (op_move rfl) ?_
  refine TL_pure rfl rfl rfl rfl (op_extract rfl rfl) ?_
  refine TL_pure rfl rfl rfl rfl (op_extract rfl rfl) ?_
  refine TL_alloc 14 z26 rfl rfl rfl rfl rfl rfl rfl ?_
  refine TL_alloc 15 z26 rfl rfl rfl rfl rfl rfl rfl ?_
  refine TL_store_box sz26 rfl rfl rfl rfl rfl rfl rfl rfl rfl ?_
  refine TL_store_box sz26 rfl rfl rfl rfl rfl rfl rfl rfl rfl ?_
  refine TL_nil ?_
  refine T_join (fun (j0 : List (List Int)) => ⟨[(2, .ptr 11 0 0), (3, .ptr 12 0 0), (5, .ptr 14 0 0), (6, .ptr 15 0 0)], [(11, .box [.snil]), (12, .box [.snil]), (14, .box [.sl 1 (List.map aLa_i64 j0)]), (15, .box [.sl 1 (List.map aLa_i64 r11.2.1.Next)])]⟩) (fun j0 => m_spec_B10Policies_J0 r11 j0 = some out) (fun j0 hm => ?_) (fun hj0 => ?_)
  · unfold m_spec_B10Policies_J0 at hm
    refine T_seq ?_
    refine T_seq ?_
    refine T_region ?_
    obtain ⟨r19, hr19, hm⟩ := bindS hm
    refine TL_callF (ACall.F (F := F) (c_spec_l10Is r11.2.1 r19 hr19)) Tryd.call29 rfl rfl rfl rfl rfl ?_
    refine TL_pure rfl rfl rfl rfl (op_not rfl) ?_
    refine TL_nil ?_
    refine T_cond rfl (fun hq => ?_) (fun hq => ?_)
    · replace hm := condT hq hm
      refine T_region ?_
      refine TL_buildSlice 18 (es := List.map a_i64 [(0 : Int), (0 : Int), (0 : Int), (0 : Int)]) el29 z2 rfl rfl rfl rfl rfl rfl rfl rfl rfl ?_
      refine TL_deepen 18 (p' := false) (List.map a_i64 [(0 : Int), (0 : Int), (0 : Int), (0 : Int)]) (by rw [hF]; rfl) rfl (ElR.map (f := a_i64) (g := a_i64) (fun _ => ⟨⟨rfl, rfl⟩, trivial⟩) [(0 : Int), (0 : Int), (0 : Int), (0 : Int)]) rfl rfl rfl ?_
      refine TL_buildSliceD (ids := [18]) (es := List.map aLa_i64 ([[(0 : Int), (0 : Int), (0 : Int), (0 : Int)]])) 19 el24 z29 rfl rfl rfl rfl rfl rfl (by rw [hF]; intro j hj; simp only [List.mem_cons, List.not_mem_nil, or_false] at hj; rcases hj with rfl <;> rfl) rfl rfl rfl rfl rfl rfl ?_
      refine TL_pure rfl rfl rfl rfl (op_buildP pl26 z26 rfl rfl rfl rfl rfl) ?_
      refine TL_store_box sz26 rfl rfl rfl rfl rfl rfl rfl rfl rfl ?_
      refine TL_nil ?_
      refine T_seq ?_
      refine T_drawZ [2, 3] mix (by kernel_rfl) rfl ?_
      refine TZ_pure 0 (by kernel_rfl) rfl rfl rfl rfl rfl (op_load_agg ag26 sz26 rfl rfl rfl) ?_
      refine TZ_cut 2 [true, true, false, false] ⟨[(2, .ptr 11 0 0), (3, .ptr 12 0 0), (5, .ptr 14 0 0), (6, .ptr 15 0 0), (19, .bool r19), (20, .bool (!r19)), (21, .junk), (22, .ow 19), (23, .agg [.ow 19]), (24, .agg [.sl 1 (List.map aLa_i64 j0)]), (25, .agg [.ow 19])], [(11, .box [.snil]), (12, .box [.snil]), (14, .box [.sl 1 (List.map aLa_i64 j0)]), (15, .box [.ow 19]), (19, .arr ⟨false, true⟩ 1 29 (List.map aLa_i64 ([[(0 : Int), (0 : Int), (0 : Int), (0 : Int)]])))]⟩ ?_ (fun hS19_0 => ?_)
      · refine TZ_one 2 (by kernel_rfl) rfl ?_
        refine TL_store_box sz26 rfl rfl rfl rfl rfl rfl rfl rfl rfl ?_
        refine TL_nil ?_
        refine TZ_one 3 (by kernel_rfl) rfl ?_
        refine TL_store_box sz26 rfl rfl rfl rfl rfl rfl rfl rfl rfl ?_
        refine TL_nil ?_
        refine TZ_done (by kernel_rfl) ?_
        refine T_keepH [2, 3] [11, 12, 19] rfl rfl rfl rfl (by rw [hF]; rfl) ?_
        refine T_freeze 19 (by rw [hF]; rfl) rfl rfl rfl ?_
        refine T_ret ?_
        obtain rfl := someI hm
        refine ⟨[_, _], [], ⟨⟨_, _, rfl, rfl, .inr ⟨ag26, _, _, sz26, rfl, rfl⟩⟩, ⟨_, _, rfl, rfl, .inr ⟨ag26, _, _, sz26, rfl, rfl⟩⟩, trivial⟩, ?_, rfl, rfl, rfl, rfl⟩
        rfl
      refine TZ_cut 2 [true, false, true, false] ⟨[(2, .ptr 11 0 0), (3, .ptr 12 0 0), (5, .ptr 14 0 0), (6, .ptr 15 0 0), (19, .bool r19), (20, .bool (!r19)), (21, .junk), (22, .ow 19), (23, .agg [.ow 19]), (24, .agg [.sl 1 (List.map aLa_i64 j0)])], [(11, .box [.sl 1 (List.map aLa_i64 j0)]), (12, .box [.snil]), (14, .box [.sl 1 (List.map aLa_i64 j0)]), (15, .box [.ow 19]), (19, .arr ⟨false, true⟩ 1 29 (List.map aLa_i64 ([[(0 : Int), (0 : Int), (0 : Int), (0 : Int)]])))]⟩ ?_ (fun hS19_1 => ?_)
      · refine TZ_pure 1 (by kernel_rfl) rfl rfl rfl rfl rfl (op_load_agg ag26 sz26 rfl rfl rfl) ?_
        refine TZ_one 3 (by kernel_rfl) rfl ?_
        refine TL_store_box sz26 rfl rfl rfl rfl rfl rfl rfl rfl rfl ?_
        refine TL_nil ?_
        refine TZ_done (by kernel_rfl) ?_
        refine T_keepH [2, 3] [11, 12, 19] rfl rfl rfl rfl (by rw [hF]; rfl) ?_
        refine T_freeze 19 (by rw [hF]; rfl) rfl rfl rfl ?_
        refine T_ret ?_
        obtain rfl := someI hm
        refine ⟨[_, _], [], ⟨⟨_, _, rfl, rfl, .inr ⟨ag26, _, _, sz26, rfl, rfl⟩⟩, ⟨_, _, rfl, rfl, .inr ⟨ag26, _, _, sz26, rfl, rfl⟩⟩, trivial⟩, ?_, rfl, rfl, rfl, rfl⟩
        rfl
      refine TZ_each [1, 2] (by kernel_rfl) rfl ?_
      refine ⟨?_, ?_⟩
      · refine ⟨_, rfl, ?_⟩
        refine TL_pure rfl rfl rfl rfl (op_load_agg ag26 sz26 rfl rfl rfl) ?_
        refine TL_nil ?_
        refine TZ_keepH [2, 3, 5, 6, 19, 20, 21, 22, 23, 24, 25] [11, 12, 14, 15, 19] rfl rfl rfl rfl (by rw [hF]; rfl) ?_
        exact hS19_0
      · refine ⟨_, rfl, ?_⟩
        refine TL_store_box sz26 rfl rfl rfl rfl rfl rfl rfl rfl rfl ?_
        refine TL_nil ?_
        refine TZ_keepH [2, 3, 5, 6, 19, 20, 21, 22, 23, 24] [11, 12, 14, 15, 19] rfl rfl rfl rfl (by rw [hF]; rfl) ?_
        exact hS19_1
    · replace hm := condF hq hm
      refine T_skip ?_
      refine T_seq ?_
      refine T_drawZ [2, 3] mix (by kernel_rfl) rfl ?_
      refine TZ_pure 0 (by kernel_rfl) rfl rfl rfl rfl rfl (op_load_agg ag26 sz26 rfl rfl rfl) ?_
      refine TZ_cut 2 [true, true, false, false] ⟨[(2, .ptr 11 0 0), (3, .ptr 12 0 0), (5, .ptr 14 0 0), (6, .ptr 15 0 0), (19, .bool r19), (20, .bool (!r19)), (24, .agg [.sl 1 (List.map aLa_i64 j0)]), (25, .agg [.sl 1 (List.map aLa_i64 r11.2.1.Next)])], [(11, .box [.snil]), (12, .box [.snil]), (14, .box [.sl 1 (List.map aLa_i64 j0)]), (15, .box [.sl 1 (List.map aLa_i64 r11.2.1.Next)])]⟩ ?_ (fun hS339_0 => ?_)
      · refine TZ_one 2 (by kernel_rfl) rfl ?_
        refine TL_store_box sz26 rfl rfl rfl rfl rfl rfl rfl rfl rfl ?_
        refine TL_nil ?_
        refine TZ_one 3 (by kernel_rfl) rfl ?_
        refine TL_store_box sz26 rfl rfl rfl rfl rfl rfl rfl rfl rfl ?_
        refine TL_nil ?_
        refine TZ_done (by kernel_rfl) ?_
        refine T_keepH [2, 3] [11, 12] rfl rfl rfl rfl (by rw [hF]; rfl) ?_
        refine T_ret ?_
        obtain rfl := someI hm
        refine ⟨[_, _], [], ⟨⟨_, _, rfl, rfl, .inr ⟨ag26, _, _, sz26, rfl, rfl⟩⟩, ⟨_, _, rfl, rfl, .inr ⟨ag26, _, _, sz26, rfl, rfl⟩⟩, trivial⟩, ?_, rfl, rfl, rfl, rfl⟩
        rfl
      refine TZ_cut 2 [true, false, true, false] ⟨[(2, .ptr 11 0 0), (3, .ptr 12 0 0), (5, .ptr 14 0 0), (6, .ptr 15 0 0), (19, .bool r19), (20, .bool (!r19)), (24, .agg [.sl 1 (List.map aLa_i64 j0)])], [(11, .box [.sl 1 (List.map aLa_i64 j0)]), (12, .box [.snil]), (14, .box [.sl 1 (List.map aLa_i64 j0)]), (15, .box [.sl 1 (List.map aLa_i64 r11.2.1.Next)])]⟩ ?_ (fun hS339_1 => ?_)
      · refine TZ_pure 1 (by kernel_rfl) rfl rfl rfl rfl rfl (op_load_agg ag26 sz26 rfl rfl rfl) ?_
        refine TZ_one 3 (by kernel_rfl) rfl ?_
        refine TL_store_box sz26 rfl rfl rfl rfl rfl rfl rfl rfl rfl ?_
        refine TL_nil ?_
        refine TZ_done (by kernel_rfl) ?_
        refine T_keepH [2, 3] [11, 12] rfl rfl rfl rfl (by rw [hF]; rfl) ?_
        refine T_ret ?_
        obtain rfl := someI hm
        refine ⟨[_, _], [], ⟨⟨_, _, rfl, rfl, .inr ⟨ag26, _, _, sz26, rfl, rfl⟩⟩, ⟨_, _, rfl, rfl, .inr ⟨ag26, _, _, sz26, rfl, rfl⟩⟩, trivial⟩, ?_, rfl, rfl, rfl, rfl⟩
        rfl
      refine TZ_each [1, 2] (by kernel_rfl) rfl ?_
      refine ⟨?_, ?_⟩
      · refine ⟨_, rfl, ?_⟩
        refine TL_pure rfl rfl rfl rfl (op_load_agg ag26 sz26 rfl rfl rfl) ?_
        refine TL_nil ?_
        refine TZ_keepH [2, 3, 5, 6, 19, 20, 24, 25] [11, 12, 14, 15] rfl rfl rfl rfl (by rw [hF]; rfl) ?_
        exact hS339_0
      · refine ⟨_, rfl, ?_⟩
        refine TL_store_box sz26 rfl rfl rfl rfl rfl rfl rfl rfl rfl ?_
        refine TL_nil ?_
        refine TZ_keepH [2, 3, 5, 6, 19, 20, 24] [11, 12, 14, 15] rfl rfl rfl rfl (by rw [hF]; rfl) ?_
        exact hS339_1
  · refine T_seq ?_
    refine T_region ?_
    obtain ⟨r14, hr14, hm⟩ := bindS hm
    refine TL_callF (ACall.F (F := F) (c_spec_l10Is r11.1 r14 hr14)) Tryd.call29 rfl rfl rfl rfl rfl ?_
    refine TL_pure rfl rfl rfl rfl (op_not rfl) ?_
    refine TL_nil ?_
    refine T_cond rfl (fun hq => ?_) (fun hq => ?_)
    · replace hm := condT hq hm
      refine T_region ?_
      refine TL_buildSlice 660 (es := List.map a_i64 [(0 : Int), (0 : Int), (-1 : Int), (0 : Int)]) el29 z2 rfl rfl rfl rfl rfl rfl rfl rfl rfl ?_
      refine TL_deepen 660 (p' := false) (List.map a_i64 [(0 : Int), (0 : Int), (-1 : Int), (0 : Int)]) (by rw [hF]; rfl) rfl (ElR.map (f := a_i64) (g := a_i64) (fun _ => ⟨⟨rfl, rfl⟩, trivial⟩) [(0 : Int), (0 : Int), (-1 : Int), (0 : Int)]) rfl rfl rfl ?_
      refine TL_buildSliceD (ids := [660]) (es := List.map aLa_i64 ([[(0 : Int), (0 : Int), (-1 : Int), (0 : Int)]])) 661 el24 z29 rfl rfl rfl rfl rfl rfl (by rw [hF]; intro j hj; simp only [List.mem_cons, List.not_mem_nil, or_false] at hj; rcases hj with rfl <;> rfl) rfl rfl rfl rfl rfl rfl ?_
      refine TL_pure rfl rfl rfl rfl (op_buildP pl26 z26 rfl rfl rfl rfl rfl) ?_
      refine TL_store_box sz26 rfl rfl rfl rfl rfl rfl rfl rfl rfl ?_
      refine TL_nil ?_
      refine T_keepH [2, 3, 5, 6] [11, 12, 14, 15, 661] rfl rfl rfl rfl (by rw [hF]; rfl) ?_
      refine T_freeze 661 (by rw [hF]; rfl) rfl rfl rfl ?_
      exact hj0 [[(0 : Int), (0 : Int), (-1 : Int), (0 : Int)]] hm
    · replace hm := condF hq hm
      refine T_skip ?_
      refine T_keepH [2, 3, 5, 6] [11, 12, 14, 15] rfl rfl rfl rfl (by rw [hF]; rfl) ?_
      exact hj0 r11.1.Next hm
theorem c_spec_B10Word (p0 : List Int) (out : List Int) (hm : m_spec_B10Word p0 = some out) : ACall Tryd.prog 10 [.sl 1 (List.map a_u8 p0)] [] (.ow 1000) [(1000, .arr ⟨false, true⟩ 1 2 (List.map a_i64 out))] := by
  refine ACall.intro Tryd.func10 rfl Tryd.ntmps10 rfl (fun F hF => ?_)
  unfold m_spec_B10Word at hm
  refine T_seq ?_
  refine T_region ?_
  refine TL_pure rfl rfl rfl rfl (op_assign rfl) ?_
  refine TL_nil ?_
  refine T_seq ?_
  refine T_region ?_
  refine TL_pure rfl rfl rfl rfl (op_move rfl) ?_
  obtain ⟨r7, hr7, hm⟩ := bindS hm
  refine TLE_call [] [(1000, 11)] [] (ACall.F (F := F) (c_spec_l00From p0 r7 hr7)) (fun _ => rfl) Tryd.call27 rfl rfl rfl rfl rfl trivial rfl rfl rfl rfl rfl rfl rfl rfl rfl rfl rfl ?_
  refine TL_pure rfl rfl rfl rfl (op_assign rfl) ?_
  refine TL_nil ?_
  refine T_seq ?_
  refine T_region ?_
  refine TL_buildSlice 12 (es := List.map a_i64 ([] : List Int)) el29 z2 rfl rfl rfl rfl rfl rfl rfl rfl rfl ?_
  refine TL_pure rfl rfl rfl rfl (op_assign rfl) ?_
  refine TL_nil ?_
  refine T_seq ?_
  refine T_seq ?_
  refine T_region ?_
  refine TL_pure rfl rfl rfl rfl (op_move rfl) ?_
  obtain ⟨r10, hr10, hm⟩ := bindS hm
  refine TL_call [(0, 11)] [] [] (ACall.F (F := F) (c_spec_l00Src_pick r7 (9 : Int) r10 hr10)) Tryd.call30 rfl rfl rfl rfl rfl ⟨rfl, trivial⟩ rfl rfl rfl rfl rfl rfl rfl rfl rfl rfl rfl ?_
  refine TL_pure rfl rfl rfl rfl (op_assign rfl) ?_
  refine TL_nil ?_
  refine T_block ?_
  refine T_keepH [3, 4, 5] [11, 12] rfl rfl rfl rfl (by rw [hF]; rfl) ?_
  refine T_loop ?_
  obtain ⟨u0, hl0, hm⟩ := bindS hm
  refine TR_iter2 (m_spec_B10Word_L0) (fun (s0 : (List Int) × Int × Int × (List Int) × Int) => ⟨[(3, .ptr 11 0 0), (4, .ow 12), (5, .int .i64 s0.2.2.2.2)], [(11, .box [.sl 1 (List.map a_u8 s0.1), .int .i64 s0.2.1, .int .u64 s0.2.2.1]), (12, .arr ⟨false, false⟩ 1 2 (List.map a_i64 s0.2.2.2.1))]⟩) (fun u0 => .exit 0) (fun u0 => ⟨[(4, .ow 12)], [(12, .arr ⟨false, false⟩ 1 2 (List.map a_i64 u0))]⟩) (fun u0 => m_spec_B10Word_A0 u0 = some out) hl0 hm (fun u0 hm => ?_) (fun hx0 s0 c0 hm hc0 => ?_)
  · unfold m_spec_B10Word_A0 at hm
    refine T_seq ?_
    refine T_region ?_
    refine TL_pure rfl rfl rfl rfl (op_move rfl) ?_
    refine TL_pure rfl rfl rfl rfl (op_assign rfl) ?_
    refine TL_nil ?_
    refine T_keepH [2] [12] rfl rfl rfl rfl (by rw [hF]; rfl) ?_
    refine T_deepen 12 (p' := false) (List.map a_i64 u0) (by rw [hF]; rfl) rfl (ElR.map (f := a_i64) (g := a_i64) (fun _ => ⟨⟨rfl, rfl⟩, trivial⟩) u0) rfl rfl rfl ?_
    refine T_ren [(12, 1000)] rfl rfl rfl (by rw [hF]; rfl) ?_
    refine T_ret ?_
    obtain rfl := someI hm
    refine ⟨[_], [1000], ⟨rfl, trivial⟩, ?_, rfl, rfl, rfl, rfl⟩
    rfl
  · unfold m_spec_B10Word_L0 at hm
    refine T_seq ?_
    refine T_seq ?_
    refine T_region ?_
    refine TL_pure rfl rfl rfl rfl (op_move rfl) ?_
    refine TL_pure rfl rfl rfl rfl (op_gtr rfl rfl) ?_
    refine TL_nil ?_
    refine T_cond rfl (fun hq => ?_) (fun hq => ?_)
    · replace hm := condT hq hm
      refine T_skip ?_
      refine T_seq ?_
      refine T_block ?_
      refine T_region ?_
      refine TL_pure rfl rfl rfl rfl (op_move rfl) ?_
      refine TL_pure rfl rfl rfl rfl (op_move rfl) ?_
      obtain ⟨r17, hr17, hm⟩ := bindS hm
      refine TL_call [(0, 11)] [] [] (ACall.F (F := F) (c_spec_l00Src_pick (l00Src.mk s0.1 s0.2.1 s0.2.2.1) (4 : Int) r17 hr17)) Tryd.call30 rfl rfl rfl rfl rfl ⟨rfl, trivial⟩ rfl rfl rfl rfl rfl rfl rfl rfl rfl rfl rfl ?_
      refine TL_buildSlice 15 (es := List.map a_i64 [r17.1]) el29 z2 rfl rfl rfl rfl rfl rfl rfl rfl rfl ?_
      obtain ⟨q19, hq19, hm⟩ := bindS hm
      refine TL_appendT (f := a_i64) (a := s0.2.2.2.1) (b := [r17.1]) el29 z2 rfl rfl rfl rfl rfl rfl rfl (capI_spec hq19) rfl rfl rfl rfl rfl ?_
      refine TL_pure rfl rfl rfl rfl (op_assign rfl) ?_
      refine TL_nil ?_
      refine T_region ?_
      refine TL_pure rfl rfl rfl rfl (op_move rfl) ?_
      refine TL_pure rfl rfl rfl rfl (op_subW rfl rfl) ?_
      refine TL_pure rfl rfl rfl rfl (op_assign rfl) ?_
      refine TL_nil ?_
      refine TR_keepH [3, 4, 5] [11, 12] rfl rfl rfl rfl (by rw [hF]; rfl) ?_
      obtain rfl := someI hm
      have hn := CtlOK_next hc0
      exact hn _ rfl
    · replace hm := condF hq hm
      refine T_keepH [4] [12] rfl rfl rfl rfl (by rw [hF]; rfl) ?_
      refine T_exit ?_
      obtain rfl := someI hm
      have hn := CtlOK_out hc0
      exact hx0 s0.2.2.2.1 hn
theorem c_impl_size (p0 : Int) (out : Int) (hm : m_impl_size p0 = some out) : ACall Tryd.prog 59 [.int .i64 p0] [] (.int .i64 out) [] := by
  refine ACall.intro Tryd.func59 rfl Tryd.ntmps59 rfl (fun F hF => ?_)
  unfold m_impl_size at hm
  refine T_seq ?_
  refine T_region ?_
  refine TL_pure rfl rfl rfl rfl (op_assign rfl) ?_
  refine TL_nil ?_
  refine T_seq ?_
  refine T_region ?_
  refine TL_pure rfl rfl rfl rfl (op_move rfl) ?_
  refine TL_pure rfl rfl rfl rfl (op_assign rfl) ?_
  refine TL_nil ?_
  refine T_keepH [2] [] rfl rfl rfl rfl (by rw [hF]; rfl) ?_
  refine T_ret ?_
  obtain rfl := someI hm
  refine ⟨[_], [], ⟨rfl, trivial⟩, ?_, rfl, rfl, rfl, rfl⟩
  rfl
theorem c_impl_within (p0 : Int) (p1 : Int) (p2 : Int) (out : Bool) (hm : m_impl_within p0 p1 p2 = some out) : ACall Tryd.prog 60 [.int .i64 p0, .int .i64 p1, .int .i64 p2] [] (.bool out) [] := by
  refine ACall.intro Tryd.func60 rfl Tryd.ntmps60 rfl (fun F hF => ?_)
  unfold m_impl_within at hm
  refine T_seq ?_
  refine T_region ?_
  refine TL_pure rfl rfl rfl rfl (op_assign rfl) ?_
  refine TL_nil ?_
  refine T_seq ?_
  refine T_region ?_
  refine TL_pure rfl rfl rfl rfl (op_move rfl) ?_
  refine TL_pure rfl rfl rfl rfl (op_move rfl) ?_
  refine TL_pure rfl rfl rfl rfl (op_leq rfl rfl) ?_
  refine TL_pure rfl rfl rfl rfl (op_move rfl) ?_
  refine TL_join 4 (fun _ : Unit => ⟨[(14, .bool ((decide (p1 ≤ p0)) && (decide (p0 ≤ p2))))], []⟩) (fun _ => True) (fun _ _ => ?_) (fun hjj => ?_)
  · refine TL_pure rfl rfl rfl rfl (op_assign rfl) ?_
    refine TL_nil ?_
    refine T_keepH [6] [] rfl rfl rfl rfl (by rw [hF]; rfl) ?_
    refine T_ret ?_
    obtain rfl := someI hm
    refine ⟨[_], [], ⟨rfl, trivial⟩, ?_, rfl, rfl, rfl, rfl⟩
    rfl
  · refine TL_split 10 rfl rfl rfl (fun hq => ?_) (fun hq => ?_)
    · refine TL_want rfl rfl ?_
      refine TL_pure rfl rfl rfl rfl (op_move rfl) ?_
      refine TL_want rfl rfl ?_
      refine TL_pure rfl rfl rfl rfl (op_move rfl) ?_
      refine TL_want rfl rfl ?_
      refine TL_pure rfl rfl rfl rfl (op_leq rfl rfl) ?_
      refine TL_pure rfl rfl rfl rfl (op_pick_true rfl rfl) ?_
      refine TL_keepH [14] [] rfl rfl rfl rfl (by rw [hF]; rfl) ?_
      exact TL_cast _ (by first | (rw [hq, Bool.true_and]; done) | (rw [hq]; rfl)) (hjj () trivial)
    · refine TL_pass rfl rfl rfl rfl rfl rfl rfl ?_
      refine TL_pass rfl rfl rfl rfl rfl rfl rfl ?_
      refine TL_pass rfl rfl rfl rfl rfl rfl rfl ?_
      refine TL_pure rfl rfl rfl rfl (op_pick_false rfl rfl) ?_
      refine TL_keepH [14] [] rfl rfl rfl rfl (by rw [hF]; rfl) ?_
      exact TL_cast _ (by first | (rw [hq, Bool.false_and]; done) | (rw [hq]; rfl)) (hjj () trivial)
theorem c_impl_allWithin (p0 : List Int) (p1 : Int) (p2 : Int) (out : Bool) (hm : m_impl_allWithin p0 p1 p2 = some out) : ACall Tryd.prog 34 [.sl 1 (List.map a_i64 p0), .int .i64 p1, .int .i64 p2] [] (.bool out) [] := by
  refine ACall.intro Tryd.func34 rfl Tryd.ntmps34 rfl (fun F hF => ?_)
  unfold m_impl_allWithin at hm
  refine T_seq ?_
  refine T_region ?_
  refine TL_pure rfl rfl rfl rfl (op_assign rfl) ?_
  refine TL_nil ?_
  refine T_seq ?_
  refine T_seq ?_
  refine T_region ?_
  refine TL_pure rfl rfl rfl rfl (op_move rfl) ?_
  refine TL_pure rfl rfl rfl rfl (op_lenT Tryd.underlying29 rfl (List.length_map _)) ?_
  refine TL_fact (fun _ _ _ hr => RelP.slLen (i := 9) rfl hr) (fun hlen10 => ?_)
  rw [List.length_map] at hlen10
  refine TL_pure rfl rfl rfl rfl (op_move rfl) ?_
  refine TL_nil ?_
  refine T_block ?_
  refine T_keepH [1, 2, 9, 10, 11] [] rfl rfl rfl rfl (by rw [hF]; rfl) ?_
  refine T_loop ?_
  obtain ⟨u0, hl0, hm⟩ := bindS hm
  refine TR_forL2 p0 (m_impl_allWithin_L0 p1 p2) (fun (s0 : Unit) => (.inl ())) (fun n0 (s0 : Unit) => ⟨[(1, .int .i64 p1), (2, .int .i64 p2), (9, .sl 1 (List.map a_i64 p0)), (10, .int .i64 (p0.length : Int)), (11, .int .i64 (n0 : Int))], []⟩) (fun u0 => match u0 with | .inl u0 => .exit 0 | .inr u0 => .ret) (fun u0 => match u0 with | .inl u0 => ⟨[], []⟩ | .inr u0 => ⟨[(6, .bool u0)], []⟩) (fun u0 => m_impl_allWithin_A0 u0 = some out) hl0 hm (fun u0 hm => ?_) (fun hx0 s0 hm => ?_) (fun hx0 n0 x0 s0 c0 hxn0 hlt0 hm hc0 => ?_)
  · rcases u0 with u0 | u0
    · unfold m_impl_allWithin_A0 at hm
      refine T_seq ?_
      refine T_region ?_
      refine TL_pure rfl rfl rfl rfl (op_assign rfl) ?_
      refine TL_nil ?_
      refine T_keepH [6] [] rfl rfl rfl rfl (by rw [hF]; rfl) ?_
      refine T_ret ?_
      obtain rfl := someI hm
      refine ⟨[_], [], ⟨rfl, trivial⟩, ?_, rfl, rfl, rfl, rfl⟩
      rfl
    · unfold m_impl_allWithin_A0 at hm
      obtain rfl := someI hm
      refine ⟨[_], [], ⟨rfl, trivial⟩, ?_, rfl, rfl, rfl, rfl⟩
      rfl
  · refine T_seq ?_
    refine T_region ?_
    refine TL_pure rfl rfl rfl rfl (op_lss rfl rfl) ?_
    refine TL_nil ?_
    refine T_seq ?_
    refine T_if_false rfl (decide_eq_false (by simp)) ?_
    refine T_keepH [] [] rfl rfl rfl rfl (by rw [hF]; rfl) ?_
    refine T_exit ?_
    exact hx0 (.inl ()) hm
  · unfold m_impl_allWithin_L0 at hm
    refine T_seq ?_
    refine T_region ?_
    refine TL_pure rfl rfl rfl rfl (op_lss rfl rfl) ?_
    refine TL_nil ?_
    refine T_seq ?_
    refine T_if_true rfl (decide_eq_true (Int.ofNat_lt.2 hlt0)) ?_
    refine T_skip ?_
    refine T_seq ?_
    refine T_block ?_
    refine T_seq ?_
    refine T_region ?_
    refine TL_pure rfl rfl rfl rfl (op_index_sl el29 rfl rfl rfl (get_map hxn0) rfl) ?_
    refine TL_pure rfl rfl rfl rfl (op_load_one ag2 rfl rfl) ?_
    refine TL_pure rfl rfl rfl rfl (op_assign rfl) ?_
    refine TL_nil ?_
    refine T_seq ?_
    refine T_region ?_
    refine TL_pure rfl rfl rfl rfl (op_move rfl) ?_
    refine TL_pure rfl rfl rfl rfl (op_move rfl) ?_
    refine TL_pure rfl rfl rfl rfl (op_move rfl) ?_
    obtain ⟨r18, hr18, hm⟩ := bindS hm
    refine TL_callF (ACall.F (F := F) (c_impl_within x0 p1 p2 r18 hr18)) Tryd.call60 rfl rfl rfl rfl rfl ?_
    refine TL_pure rfl rfl rfl rfl (op_not rfl) ?_
    refine TL_nil ?_
    refine T_cond rfl (fun hq => ?_) (fun hq => ?_)
    · replace hm := condT hq hm
      refine T_seq ?_
      refine T_region ?_
      refine TL_pure rfl rfl rfl rfl (op_assign rfl) ?_
      refine TL_nil ?_
      refine T_keepH [6] [] rfl rfl rfl rfl (by rw [hF]; rfl) ?_
      refine T_ret ?_
      obtain rfl := someI hm
      have hn := CtlOK_out hc0
      exact hx0 (.inr false) hn
    · replace hm := condF hq hm
      refine T_skip ?_
      refine T_region ?_
      refine TL_pure rfl rfl rfl rfl (op_addN rfl rfl (Nat.lt_of_lt_of_le hlt0 hlen10)) ?_
      refine TL_pure rfl rfl rfl rfl (op_move rfl) ?_
      refine TL_nil ?_
      refine TR_keepH [1, 2, 9, 10, 11] [] rfl rfl rfl rfl (by rw [hF]; rfl) ?_
      obtain rfl := someI hm
      have hn := CtlOK_next hc0
      exact hn _ rfl
end Go.Mod
