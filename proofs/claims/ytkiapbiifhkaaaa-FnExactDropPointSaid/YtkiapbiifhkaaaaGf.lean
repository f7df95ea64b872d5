import Derived.Test.YtkiapbiifhkaaaaGe
namespace Go.Mod
open Go Go.AM Go.Proofs
set_option linter.unusedVariables false
set_option linter.unusedSimpArgs false
set_option maxRecDepth 100000
set_option maxHeartbeats 8000000
theorem c_spec_l08Own (p0 : Annotated) (out : Annotated) (hm : m_spec_l08Own p0 = some out) : ACall Try.prog 103 [.cp [.sl 2 (List.map a_Term p0.Pre), .sl 2 (List.map a_Term p0.Post), .sl 2 (List.map a_Instr p0.Code), .sl 2 (List.map a_Point p0.Points)]] [] (.agg [.ow 1000, .ow 1001, .ow 1002, .ow 1003]) [(1000, .arr ⟨false, true⟩ 2 184 (List.map a_Term out.Pre)), (1001, .arr ⟨false, true⟩ 2 184 (List.map a_Term out.Post)), (1002, .arr ⟨false, true⟩ 2 40 (List.map a_Instr out.Code)), (1003, .arr ⟨false, true⟩ 2 81 (List.map a_Point out.Points))] := by
  refine ACall.intro Try.func103 rfl Try.ntmps103 rfl (fun F hF => ?_)
  unfold m_spec_l08Own at hm
  refine T_seq ?_
  refine T_region ?_
  refine TL_alloc 11 z69 rfl rfl rfl rfl rfl rfl rfl ?_
  refine TL_nil ?_
  refine T_join (fun (j0 : (List Term) × (List Term)) => ⟨[(0, .cp [.sl 2 (List.map a_Term p0.Pre), .sl 2 (List.map a_Term p0.Post), .sl 2 (List.map a_Instr p0.Code), .sl 2 (List.map a_Point p0.Points)]), (2, .ptr 11 0 0), (3, .ptr 1452 0 0)], [(11, .box [.snil, .snil, .snil, .snil]), (412, .arr ⟨false, true⟩ 2 184 (List.map a_Term j0.1)), (812, .arr ⟨false, true⟩ 2 184 (List.map a_Term j0.2)), (892, .arr ⟨false, false⟩ 2 40 (List.map a_Instr (([] : List Instr) ++ p0.Code))), (1452, .box [.ow 412, .ow 812, .ow 892, .snil])]⟩) (fun j0 => m_spec_l08Own_J0 p0 j0 = some out) (fun j0 hm => ?_) (fun hj0 => ?_)
  · unfold m_spec_l08Own_J0 at hm
    refine T_seq ?_
    refine T_seq ?_
    refine T_region ?_
    refine TL_pure rfl rfl rfl rfl (op_assign rfl) ?_
    refine TL_nil ?_
    refine T_block ?_
    refine T_ownNilBox 1452 3 7292 ⟨false, true⟩ 81 rfl rfl rfl (sz := 2) rfl rfl rfl rfl ?_
    refine T_keepH [0, 2, 3, 4] [11, 412, 812, 892, 1452, 7292] rfl rfl rfl rfl (by rw [hF]; rfl) ?_
    refine T_ren [(11, 11), (412, 412), (812, 812), (892, 892), (1452, 1452), (7292, 70005)] rfl rfl rfl (by rw [hF]; rfl) ?_
    refine T_loop ?_
    obtain ⟨u0, hl0, hm⟩ := bindS hm
    refine TR_iter2 (m_spec_l08Own_L0 p0) (fun (s0 : (List Point) × Int) => ⟨[(0, .cp [.sl 2 (List.map a_Term p0.Pre), .sl 2 (List.map a_Term p0.Post), .sl 2 (List.map a_Instr p0.Code), .sl 2 (List.map a_Point p0.Points)]), (2, .ptr 11 0 0), (3, .ptr 1452 0 0), (4, .int .i64 s0.2)], [(11, .box [.snil, .snil, .snil, .snil]), (412, .arr ⟨false, true⟩ 2 184 (List.map a_Term j0.1)), (812, .arr ⟨false, true⟩ 2 184 (List.map a_Term j0.2)), (892, .arr ⟨false, false⟩ 2 40 (List.map a_Instr (([] : List Instr) ++ p0.Code))), (1452, .box [.ow 412, .ow 812, .ow 892, .ow 70005]), (70005, .arr ⟨false, true⟩ 2 81 (List.map a_Point s0.1))]⟩) (fun u0 => .exit 0) (fun u0 => ⟨[(2, .ptr 11 0 0), (3, .ptr 1452 0 0)], [(11, .box [.snil, .snil, .snil, .snil]), (412, .arr ⟨false, true⟩ 2 184 (List.map a_Term j0.1)), (812, .arr ⟨false, true⟩ 2 184 (List.map a_Term j0.2)), (892, .arr ⟨false, false⟩ 2 40 (List.map a_Instr (([] : List Instr) ++ p0.Code))), (1452, .box [.ow 412, .ow 812, .ow 892, .ow 70005]), (70005, .arr ⟨false, true⟩ 2 81 (List.map a_Point u0))]⟩) (fun u0 => m_spec_l08Own_A0 p0 j0 u0 = some out) hl0 hm (fun u0 hm => ?_) (fun hx0 s0 c0 hm hc0 => ?_)
    · unfold m_spec_l08Own_A0 at hm
      refine T_seq ?_
      refine T_region ?_
      refine TL_pure rfl rfl rfl rfl (op_load_agg ag69 sz69 rfl rfl rfl) ?_
      refine TL_store_box sz69 rfl rfl rfl rfl rfl rfl rfl rfl rfl ?_
      refine TL_nil ?_
      refine T_keepH [2] [11, 412, 812, 892, 70005] rfl rfl rfl rfl (by rw [hF]; rfl) ?_
      refine T_deepen 892 (p' := false) (List.map a_Instr (([] : List Instr) ++ p0.Code)) (by rw [hF]; rfl) rfl (ElR.map (f := a_Instr) (g := a_Instr) (fun _ => ⟨⟨rfl, rfl⟩, ⟨⟨rfl, rfl⟩, trivial⟩⟩) (([] : List Instr) ++ p0.Code)) rfl rfl rfl ?_
      refine T_ren [(11, 11), (412, 1000), (812, 1001), (892, 1002), (70005, 1003)] rfl rfl rfl (by rw [hF]; rfl) ?_
      refine T_ret ?_
      obtain rfl := someI hm
      refine ⟨[_], [1000, 1001, 1002, 1003], ⟨⟨_, _, rfl, rfl, .inr ⟨ag69, _, _, sz69, rfl, rfl⟩⟩, trivial⟩, ?_, rfl, rfl, rfl, rfl⟩
      rfl
    · unfold m_spec_l08Own_L0 at hm
      refine T_seq ?_
      refine T_seq ?_
      refine T_region ?_
      refine TL_pure rfl rfl rfl rfl (op_move rfl) ?_
      refine TL_pure rfl rfl rfl rfl (op_move rfl) ?_
      refine TL_pure rfl rfl rfl rfl (op_nilCheck rfl rfl) ?_
      refine TL_pure rfl rfl rfl rfl (op_fieldAddr fa69_3 rfl rfl) ?_
      refine TL_pure rfl rfl rfl rfl (op_load_one ag67 rfl rfl) ?_
      refine TL_pure rfl rfl rfl rfl (op_lenT Try.underlying67 rfl (List.length_map _)) ?_
      refine TL_fact (fun _ _ _ hr => RelP.slLen (i := 26) rfl hr) (fun hlen27 => ?_)
      rw [List.length_map] at hlen27
      refine TL_pure rfl rfl rfl rfl (op_lss rfl rfl) ?_
      refine TL_nil ?_
      refine T_cond rfl (fun hq => ?_) (fun hq => ?_)
      · replace hm := condT hq hm
        refine T_skip ?_
        refine T_seq ?_
        refine T_block ?_
        refine T_drawZ [20, 21, 23] mix (by kernel_rfl) rfl ?_
        obtain ⟨x38, hx38, hm⟩ := bindS hm
        obtain ⟨r49, hr49, hm⟩ := bindS hm
        obtain ⟨q52, hq52, hm⟩ := bindS hm
        refine TZ_pure 0 (by kernel_rfl) rfl rfl rfl rfl rfl (op_fieldAddr fa69_3 rfl rfl) ?_
        refine TZ_pure 2 (by kernel_rfl) rfl rfl rfl rfl rfl (op_move rfl) ?_
        refine TZ_pure 3 (by kernel_rfl) rfl rfl rfl rfl rfl (op_nilCheck rfl rfl) ?_
        refine TZ_pure 4 (by kernel_rfl) rfl rfl rfl rfl rfl (op_fieldAddr fa69_3 rfl rfl) ?_
        refine TZ_pure 6 (by kernel_rfl) rfl rfl rfl rfl rfl (op_move rfl) ?_
        refine TZ_pure 10 (by kernel_rfl) rfl rfl rfl rfl rfl (op_move rfl) ?_
        refine TZ_pure 11 (by kernel_rfl) rfl rfl rfl rfl rfl (op_nilCheck rfl rfl) ?_
        refine TZ_pure 12 (by kernel_rfl) rfl rfl rfl rfl rfl (op_fieldAddr fa69_3 rfl rfl) ?_
        refine TZ_pure 14 (by kernel_rfl) rfl rfl rfl rfl rfl (op_move rfl) ?_
        refine TZ_cut 10 [true, true, true, true, true, true, true, true, true, true, true, true, true, false, true, false, false, false, false, false, false, false, false, false] ⟨[(0, .cp [.sl 2 (List.map a_Term p0.Pre), .sl 2 (List.map a_Term p0.Post), .sl 2 (List.map a_Instr p0.Code), .sl 2 (List.map a_Point p0.Points)]), (2, .ptr 11 0 0), (3, .ptr 1452 0 0), (4, .int .i64 s0.2), (22, .int .i64 s0.2), (23, .cp [.sl 2 (List.map a_Term p0.Pre), .sl 2 (List.map a_Term p0.Post), .sl 2 (List.map a_Instr p0.Code), .sl 2 (List.map a_Point p0.Points)]), (24, .cp [.sl 2 (List.map a_Term p0.Pre), .sl 2 (List.map a_Term p0.Post), .sl 2 (List.map a_Instr p0.Code), .sl 2 (List.map a_Point p0.Points)]), (25, .cp [.sl 2 (List.map a_Point p0.Points)]), (26, .sl 2 (List.map a_Point p0.Points)), (27, .int .i64 (p0.Points.length : Int)), (28, .bool (decide (s0.2 < (p0.Points.length : Int)))), (31, .ptr 1452 0 3), (32, .ow 70005), (33, .cp [.sl 2 (List.map a_Term p0.Pre), .sl 2 (List.map a_Term p0.Post), .sl 2 (List.map a_Instr p0.Code), .sl 2 (List.map a_Point p0.Points)]), (34, .cp [.sl 2 (List.map a_Term p0.Pre), .sl 2 (List.map a_Term p0.Post), .sl 2 (List.map a_Instr p0.Code), .sl 2 (List.map a_Point p0.Points)]), (35, .cp [.sl 2 (List.map a_Point p0.Points)]), (36, .sl 2 (List.map a_Point p0.Points)), (37, .int .i64 s0.2), (38, .cp [.int .i64 x38.At, .sl 2 (List.map a_Term x38.Facts)]), (39, .cp [.int .i64 x38.At]), (40, .int .i64 x38.At), (41, .cp [.sl 2 (List.map a_Term p0.Pre), .sl 2 (List.map a_Term p0.Post), .sl 2 (List.map a_Instr p0.Code), .sl 2 (List.map a_Point p0.Points)]), (42, .cp [.sl 2 (List.map a_Term p0.Pre), .sl 2 (List.map a_Term p0.Post), .sl 2 (List.map a_Instr p0.Code), .sl 2 (List.map a_Point p0.Points)]), (43, .cp [.sl 2 (List.map a_Point p0.Points)]), (45, .int .i64 s0.2)], [(11, .box [.snil, .snil, .snil, .snil]), (412, .arr ⟨false, true⟩ 2 184 (List.map a_Term j0.1)), (812, .arr ⟨false, true⟩ 2 184 (List.map a_Term j0.2)), (892, .arr ⟨false, false⟩ 2 40 (List.map a_Instr (([] : List Instr) ++ p0.Code))), (1452, .box [.ow 412, .ow 812, .ow 892, .ow 70005]), (70005, .arr ⟨false, true⟩ 2 81 (List.map a_Point s0.1))]⟩ ?_ (fun hS5371_0 => ?_)
        · refine TZ_one 13 (by kernel_rfl) rfl ?_
          refine TL_pure rfl rfl rfl rfl (op_load_one ag67 rfl rfl) ?_
          refine TL_nil ?_
          refine TZ_pure 15 (by kernel_rfl) rfl rfl rfl rfl rfl (op_indexT el67 rfl rfl hx38 rfl) ?_
          refine TZ_pure 16 (by kernel_rfl) rfl rfl rfl rfl rfl (op_fieldAddr fa81_1 rfl rfl) ?_
          refine TZ_one 17 (by kernel_rfl) rfl ?_
          refine TL_pure rfl rfl rfl rfl (op_load_one ag66 rfl rfl) ?_
          refine TL_nil ?_
          refine TZ_one 18 (by kernel_rfl) rfl ?_
          refine TL_callO [(1000, 6892)] (ACall.F (F := F) (c_spec_l02OwnAll x38.Facts r49 hr49)) Try.call104 rfl rfl rfl rfl rfl rfl rfl rfl rfl rfl rfl rfl rfl ?_
          refine TL_nil ?_
          refine TZ_pure 19 (by kernel_rfl) rfl rfl rfl rfl rfl (op_buildP pl81 z81 rfl rfl rfl rfl rfl) ?_
          refine TZ_one 20 (by kernel_rfl) rfl ?_
          refine TL_buildSliceD (ids := [6892]) (es := List.map a_Point [(Point.mk x38.At r49)]) 7052 el67 z81 rfl rfl rfl rfl rfl rfl (by rw [hF]; intro j hj; simp only [List.mem_cons, List.not_mem_nil, or_false] at hj; rcases hj with rfl <;> rfl) rfl rfl rfl rfl rfl rfl ?_
          refine TL_nil ?_
          refine TZ_one 21 (by kernel_rfl) rfl ?_
          refine TL_appendDT (f := a_Point) (a := s0.1) (b := [(Point.mk x38.At r49)]) el67 z81 rfl rfl rfl rfl rfl rfl rfl rfl (by rw [hF]; rfl) (capI_spec hq52) rfl rfl rfl rfl rfl ?_
          refine TL_nil ?_
          refine TZ_pure 22 (by kernel_rfl) rfl rfl rfl rfl rfl (op_fieldAddr fa69_3 rfl rfl) ?_
          refine TZ_one 23 (by kernel_rfl) rfl ?_
          refine TL_store_box sz67 rfl rfl rfl rfl rfl rfl rfl rfl rfl ?_
          refine TL_nil ?_
          refine TZ_done (by kernel_rfl) ?_
          refine T_region ?_
          refine TL_pure rfl rfl rfl rfl (op_move rfl) ?_
          refine TL_pure rfl rfl rfl rfl (op_addW rfl rfl) ?_
          refine TL_pure rfl rfl rfl rfl (op_assign rfl) ?_
          refine TL_nil ?_
          refine TR_keepH [0, 2, 3, 4] [11, 412, 812, 892, 1452, 70005] rfl rfl rfl rfl (by rw [hF]; rfl) ?_
          obtain rfl := someI hm
          have hn := CtlOK_next hc0
          exact hn _ rfl
        refine TZ_cut 7 [true, true, true, true, true, true, true, true, true, true, true, true, true, true, true, true, true, false, false, false, false, false, false, false] ⟨[(0, .cp [.sl 2 (List.map a_Term p0.Pre), .sl 2 (List.map a_Term p0.Post), .sl 2 (List.map a_Instr p0.Code), .sl 2 (List.map a_Point p0.Points)]), (2, .ptr 11 0 0), (3, .ptr 1452 0 0), (4, .int .i64 s0.2), (22, .int .i64 s0.2), (23, .cp [.sl 2 (List.map a_Term p0.Pre), .sl 2 (List.map a_Term p0.Post), .sl 2 (List.map a_Instr p0.Code), .sl 2 (List.map a_Point p0.Points)]), (24, .cp [.sl 2 (List.map a_Term p0.Pre), .sl 2 (List.map a_Term p0.Post), .sl 2 (List.map a_Instr p0.Code), .sl 2 (List.map a_Point p0.Points)]), (25, .cp [.sl 2 (List.map a_Point p0.Points)]), (26, .sl 2 (List.map a_Point p0.Points)), (27, .int .i64 (p0.Points.length : Int)), (28, .bool (decide (s0.2 < (p0.Points.length : Int)))), (31, .ptr 1452 0 3), (32, .ow 70005), (33, .cp [.sl 2 (List.map a_Term p0.Pre), .sl 2 (List.map a_Term p0.Post), .sl 2 (List.map a_Instr p0.Code), .sl 2 (List.map a_Point p0.Points)]), (34, .cp [.sl 2 (List.map a_Term p0.Pre), .sl 2 (List.map a_Term p0.Post), .sl 2 (List.map a_Instr p0.Code), .sl 2 (List.map a_Point p0.Points)]), (35, .cp [.sl 2 (List.map a_Point p0.Points)]), (36, .sl 2 (List.map a_Point p0.Points)), (37, .int .i64 s0.2), (38, .cp [.int .i64 x38.At, .sl 2 (List.map a_Term x38.Facts)]), (39, .cp [.int .i64 x38.At]), (40, .int .i64 x38.At), (41, .cp [.sl 2 (List.map a_Term p0.Pre), .sl 2 (List.map a_Term p0.Post), .sl 2 (List.map a_Instr p0.Code), .sl 2 (List.map a_Point p0.Points)]), (42, .cp [.sl 2 (List.map a_Term p0.Pre), .sl 2 (List.map a_Term p0.Post), .sl 2 (List.map a_Instr p0.Code), .sl 2 (List.map a_Point p0.Points)]), (43, .cp [.sl 2 (List.map a_Point p0.Points)]), (44, .sl 2 (List.map a_Point p0.Points)), (45, .int .i64 s0.2), (46, .cp [.int .i64 x38.At, .sl 2 (List.map a_Term x38.Facts)]), (47, .cp [.sl 2 (List.map a_Term x38.Facts)])], [(11, .box [.snil, .snil, .snil, .snil]), (412, .arr ⟨false, true⟩ 2 184 (List.map a_Term j0.1)), (812, .arr ⟨false, true⟩ 2 184 (List.map a_Term j0.2)), (892, .arr ⟨false, false⟩ 2 40 (List.map a_Instr (([] : List Instr) ++ p0.Code))), (1452, .box [.ow 412, .ow 812, .ow 892, .ow 70005]), (70005, .arr ⟨false, true⟩ 2 81 (List.map a_Point s0.1))]⟩ ?_ (fun hS5371_1 => ?_)
        · refine TZ_one 17 (by kernel_rfl) rfl ?_
          refine TL_pure rfl rfl rfl rfl (op_load_one ag66 rfl rfl) ?_
          refine TL_nil ?_
          refine TZ_one 18 (by kernel_rfl) rfl ?_
          refine TL_callO [(1000, 6892)] (ACall.F (F := F) (c_spec_l02OwnAll x38.Facts r49 hr49)) Try.call104 rfl rfl rfl rfl rfl rfl rfl rfl rfl rfl rfl rfl rfl ?_
          refine TL_nil ?_
          refine TZ_pure 19 (by kernel_rfl) rfl rfl rfl rfl rfl (op_buildP pl81 z81 rfl rfl rfl rfl rfl) ?_
          refine TZ_one 20 (by kernel_rfl) rfl ?_
          refine TL_buildSliceD (ids := [6892]) (es := List.map a_Point [(Point.mk x38.At r49)]) 7052 el67 z81 rfl rfl rfl rfl rfl rfl (by rw [hF]; intro j hj; simp only [List.mem_cons, List.not_mem_nil, or_false] at hj; rcases hj with rfl <;> rfl) rfl rfl rfl rfl rfl rfl ?_
          refine TL_nil ?_
          refine TZ_one 21 (by kernel_rfl) rfl ?_
          refine TL_appendDT (f := a_Point) (a := s0.1) (b := [(Point.mk x38.At r49)]) el67 z81 rfl rfl rfl rfl rfl rfl rfl rfl (by rw [hF]; rfl) (capI_spec hq52) rfl rfl rfl rfl rfl ?_
          refine TL_nil ?_
          refine TZ_pure 22 (by kernel_rfl) rfl rfl rfl rfl rfl (op_fieldAddr fa69_3 rfl rfl) ?_
          refine TZ_one 23 (by kernel_rfl) rfl ?_
          refine TL_store_box sz67 rfl rfl rfl rfl rfl rfl rfl rfl rfl ?_
          refine TL_nil ?_
          refine TZ_done (by kernel_rfl) ?_
          refine T_region ?_
          refine TL_pure rfl rfl rfl rfl (op_move rfl) ?_
          refine TL_pure rfl rfl rfl rfl (op_addW rfl rfl) ?_
          refine TL_pure rfl rfl rfl rfl (op_assign rfl) ?_
          refine TL_nil ?_
          refine TR_keepH [0, 2, 3, 4] [11, 412, 812, 892, 1452, 70005] rfl rfl rfl rfl (by rw [hF]; rfl) ?_
          obtain rfl := someI hm
          have hn := CtlOK_next hc0
          exact hn _ rfl
        refine TZ_cut 6 [true, true, true, true, true, true, true, true, true, true, true, true, true, true, true, true, true, true, false, false, false, false, false, false] ⟨[(0, .cp [.sl 2 (List.map a_Term p0.Pre), .sl 2 (List.map a_Term p0.Post), .sl 2 (List.map a_Instr p0.Code), .sl 2 (List.map a_Point p0.Points)]), (2, .ptr 11 0 0), (3, .ptr 1452 0 0), (4, .int .i64 s0.2), (22, .int .i64 s0.2), (23, .cp [.sl 2 (List.map a_Term p0.Pre), .sl 2 (List.map a_Term p0.Post), .sl 2 (List.map a_Instr p0.Code), .sl 2 (List.map a_Point p0.Points)]), (24, .cp [.sl 2 (List.map a_Term p0.Pre), .sl 2 (List.map a_Term p0.Post), .sl 2 (List.map a_Instr p0.Code), .sl 2 (List.map a_Point p0.Points)]), (25, .cp [.sl 2 (List.map a_Point p0.Points)]), (26, .sl 2 (List.map a_Point p0.Points)), (27, .int .i64 (p0.Points.length : Int)), (28, .bool (decide (s0.2 < (p0.Points.length : Int)))), (31, .ptr 1452 0 3), (32, .ow 70005), (33, .cp [.sl 2 (List.map a_Term p0.Pre), .sl 2 (List.map a_Term p0.Post), .sl 2 (List.map a_Instr p0.Code), .sl 2 (List.map a_Point p0.Points)]), (34, .cp [.sl 2 (List.map a_Term p0.Pre), .sl 2 (List.map a_Term p0.Post), .sl 2 (List.map a_Instr p0.Code), .sl 2 (List.map a_Point p0.Points)]), (35, .cp [.sl 2 (List.map a_Point p0.Points)]), (36, .sl 2 (List.map a_Point p0.Points)), (37, .int .i64 s0.2), (38, .cp [.int .i64 x38.At, .sl 2 (List.map a_Term x38.Facts)]), (39, .cp [.int .i64 x38.At]), (40, .int .i64 x38.At), (41, .cp [.sl 2 (List.map a_Term p0.Pre), .sl 2 (List.map a_Term p0.Post), .sl 2 (List.map a_Instr p0.Code), .sl 2 (List.map a_Point p0.Points)]), (42, .cp [.sl 2 (List.map a_Term p0.Pre), .sl 2 (List.map a_Term p0.Post), .sl 2 (List.map a_Instr p0.Code), .sl 2 (List.map a_Point p0.Points)]), (43, .cp [.sl 2 (List.map a_Point p0.Points)]), (44, .sl 2 (List.map a_Point p0.Points)), (45, .int .i64 s0.2), (46, .cp [.int .i64 x38.At, .sl 2 (List.map a_Term x38.Facts)]), (47, .cp [.sl 2 (List.map a_Term x38.Facts)]), (48, .sl 2 (List.map a_Term x38.Facts))], [(11, .box [.snil, .snil, .snil, .snil]), (412, .arr ⟨false, true⟩ 2 184 (List.map a_Term j0.1)), (812, .arr ⟨false, true⟩ 2 184 (List.map a_Term j0.2)), (892, .arr ⟨false, false⟩ 2 40 (List.map a_Instr (([] : List Instr) ++ p0.Code))), (1452, .box [.ow 412, .ow 812, .ow 892, .ow 70005]), (70005, .arr ⟨false, true⟩ 2 81 (List.map a_Point s0.1))]⟩ ?_ (fun hS5371_2 => ?_)
        · refine TZ_one 18 (by kernel_rfl) rfl ?_
          refine TL_callO [(1000, 6892)] (ACall.F (F := F) (c_spec_l02OwnAll x38.Facts r49 hr49)) Try.call104 rfl rfl rfl rfl rfl rfl rfl rfl rfl rfl rfl rfl rfl ?_
          refine TL_nil ?_
          refine TZ_pure 19 (by kernel_rfl) rfl rfl rfl rfl rfl (op_buildP pl81 z81 rfl rfl rfl rfl rfl) ?_
          refine TZ_one 20 (by kernel_rfl) rfl ?_
          refine TL_buildSliceD (ids := [6892]) (es := List.map a_Point [(Point.mk x38.At r49)]) 7052 el67 z81 rfl rfl rfl rfl rfl rfl (by rw [hF]; intro j hj; simp only [List.mem_cons, List.not_mem_nil, or_false] at hj; rcases hj with rfl <;> rfl) rfl rfl rfl rfl rfl rfl ?_
          refine TL_nil ?_
          refine TZ_one 21 (by kernel_rfl) rfl ?_
          refine TL_appendDT (f := a_Point) (a := s0.1) (b := [(Point.mk x38.At r49)]) el67 z81 rfl rfl rfl rfl rfl rfl rfl rfl (by rw [hF]; rfl) (capI_spec hq52) rfl rfl rfl rfl rfl ?_
          refine TL_nil ?_
          refine TZ_pure 22 (by kernel_rfl) rfl rfl rfl rfl rfl (op_fieldAddr fa69_3 rfl rfl) ?_
          refine TZ_one 23 (by kernel_rfl) rfl ?_
          refine TL_store_box sz67 rfl rfl rfl rfl rfl rfl rfl rfl rfl ?_
          refine TL_nil ?_
          refine TZ_done (by kernel_rfl) ?_
          refine T_region ?_
          refine TL_pure rfl rfl rfl rfl (op_move rfl) ?_
          refine TL_pure rfl rfl rfl rfl (op_addW rfl rfl) ?_
          refine TL_pure rfl rfl rfl rfl (op_assign rfl) ?_
          refine TL_nil ?_
          refine TR_keepH [0, 2, 3, 4] [11, 412, 812, 892, 1452, 70005] rfl rfl rfl rfl (by rw [hF]; rfl) ?_
          obtain rfl := someI hm
          have hn := CtlOK_next hc0
          exact hn _ rfl
        refine TZ_cut 6 [true, true, true, true, true, true, true, true, true, false, true, true, true, true, true, true, true, true, true, false, false, false, false, false] ⟨[(0, .cp [.sl 2 (List.map a_Term p0.Pre), .sl 2 (List.map a_Term p0.Post), .sl 2 (List.map a_Instr p0.Code), .sl 2 (List.map a_Point p0.Points)]), (2, .ptr 11 0 0), (3, .ptr 1452 0 0), (4, .int .i64 s0.2), (22, .int .i64 s0.2), (23, .cp [.sl 2 (List.map a_Term p0.Pre), .sl 2 (List.map a_Term p0.Post), .sl 2 (List.map a_Instr p0.Code), .sl 2 (List.map a_Point p0.Points)]), (24, .cp [.sl 2 (List.map a_Term p0.Pre), .sl 2 (List.map a_Term p0.Post), .sl 2 (List.map a_Instr p0.Code), .sl 2 (List.map a_Point p0.Points)]), (25, .cp [.sl 2 (List.map a_Point p0.Points)]), (26, .sl 2 (List.map a_Point p0.Points)), (27, .int .i64 (p0.Points.length : Int)), (28, .bool (decide (s0.2 < (p0.Points.length : Int)))), (31, .ptr 1452 0 3), (32, .ow 70005), (33, .cp [.sl 2 (List.map a_Term p0.Pre), .sl 2 (List.map a_Term p0.Post), .sl 2 (List.map a_Instr p0.Code), .sl 2 (List.map a_Point p0.Points)]), (34, .cp [.sl 2 (List.map a_Term p0.Pre), .sl 2 (List.map a_Term p0.Post), .sl 2 (List.map a_Instr p0.Code), .sl 2 (List.map a_Point p0.Points)]), (35, .cp [.sl 2 (List.map a_Point p0.Points)]), (36, .sl 2 (List.map a_Point p0.Points)), (37, .int .i64 s0.2), (38, .cp [.int .i64 x38.At, .sl 2 (List.map a_Term x38.Facts)]), (39, .cp [.int .i64 x38.At]), (41, .cp [.sl 2 (List.map a_Term p0.Pre), .sl 2 (List.map a_Term p0.Post), .sl 2 (List.map a_Instr p0.Code), .sl 2 (List.map a_Point p0.Points)]), (42, .cp [.sl 2 (List.map a_Term p0.Pre), .sl 2 (List.map a_Term p0.Post), .sl 2 (List.map a_Instr p0.Code), .sl 2 (List.map a_Point p0.Points)]), (43, .cp [.sl 2 (List.map a_Point p0.Points)]), (44, .sl 2 (List.map a_Point p0.Points)), (45, .int .i64 s0.2), (46, .cp [.int .i64 x38.At, .sl 2 (List.map a_Term x38.Facts)]), (47, .cp [.sl 2 (List.map a_Term x38.Facts)]), (48, .sl 2 (List.map a_Term x38.Facts)), (49, .ow 6892)], [(11, .box [.snil, .snil, .snil, .snil]), (412, .arr ⟨false, true⟩ 2 184 (List.map a_Term j0.1)), (812, .arr ⟨false, true⟩ 2 184 (List.map a_Term j0.2)), (892, .arr ⟨false, false⟩ 2 40 (List.map a_Instr (([] : List Instr) ++ p0.Code))), (1452, .box [.ow 412, .ow 812, .ow 892, .ow 70005]), (6892, .arr ⟨false, true⟩ 2 184 (List.map a_Term r49)), (70005, .arr ⟨false, true⟩ 2 81 (List.map a_Point s0.1))]⟩ ?_ (fun hS5371_3 => ?_)
        · refine TZ_one 9 (by kernel_rfl) rfl ?_
          refine TL_pure rfl rfl rfl rfl (op_load_one ag2 rfl rfl) ?_
          refine TL_nil ?_
          refine TZ_pure 19 (by kernel_rfl) rfl rfl rfl rfl rfl (op_buildP pl81 z81 rfl rfl rfl rfl rfl) ?_
          refine TZ_one 20 (by kernel_rfl) rfl ?_
          refine TL_buildSliceD (ids := [6892]) (es := List.map a_Point [(Point.mk x38.At r49)]) 7052 el67 z81 rfl rfl rfl rfl rfl rfl (by rw [hF]; intro j hj; simp only [List.mem_cons, List.not_mem_nil, or_false] at hj; rcases hj with rfl <;> rfl) rfl rfl rfl rfl rfl rfl ?_
          refine TL_nil ?_
          refine TZ_one 21 (by kernel_rfl) rfl ?_
          refine TL_appendDT (f := a_Point) (a := s0.1) (b := [(Point.mk x38.At r49)]) el67 z81 rfl rfl rfl rfl rfl rfl rfl rfl (by rw [hF]; rfl) (capI_spec hq52) rfl rfl rfl rfl rfl ?_
          refine TL_nil ?_
          refine TZ_pure 22 (by kernel_rfl) rfl rfl rfl rfl rfl (op_fieldAddr fa69_3 rfl rfl) ?_
          refine TZ_one 23 (by kernel_rfl) rfl ?_
          refine TL_store_box sz67 rfl rfl rfl rfl rfl rfl rfl rfl rfl ?_
          refine TL_nil ?_
          refine TZ_done (by kernel_rfl) ?_
          refine T_region ?_
          refine TL_pure rfl rfl rfl rfl (op_move rfl) ?_
          refine TL_pure rfl rfl rfl rfl (op_addW rfl rfl) ?_
          refine TL_pure rfl rfl rfl rfl (op_assign rfl) ?_
          refine TL_nil ?_
          refine TR_keepH [0, 2, 3, 4] [11, 412, 812, 892, 1452, 70005] rfl rfl rfl rfl (by rw [hF]; rfl) ?_
          obtain rfl := someI hm
          have hn := CtlOK_next hc0
          exact hn _ rfl
        refine TZ_cut 7 [true, true, true, true, true, true, true, true, true, false, true, true, true, true, true, true, true, true, false, false, false, false, false, false] ⟨[(0, .cp [.sl 2 (List.map a_Term p0.Pre), .sl 2 (List.map a_Term p0.Post), .sl 2 (List.map a_Instr p0.Code), .sl 2 (List.map a_Point p0.Points)]), (2, .ptr 11 0 0), (3, .ptr 1452 0 0), (4, .int .i64 s0.2), (22, .int .i64 s0.2), (23, .cp [.sl 2 (List.map a_Term p0.Pre), .sl 2 (List.map a_Term p0.Post), .sl 2 (List.map a_Instr p0.Code), .sl 2 (List.map a_Point p0.Points)]), (24, .cp [.sl 2 (List.map a_Term p0.Pre), .sl 2 (List.map a_Term p0.Post), .sl 2 (List.map a_Instr p0.Code), .sl 2 (List.map a_Point p0.Points)]), (25, .cp [.sl 2 (List.map a_Point p0.Points)]), (26, .sl 2 (List.map a_Point p0.Points)), (27, .int .i64 (p0.Points.length : Int)), (28, .bool (decide (s0.2 < (p0.Points.length : Int)))), (31, .ptr 1452 0 3), (32, .ow 70005), (33, .cp [.sl 2 (List.map a_Term p0.Pre), .sl 2 (List.map a_Term p0.Post), .sl 2 (List.map a_Instr p0.Code), .sl 2 (List.map a_Point p0.Points)]), (34, .cp [.sl 2 (List.map a_Term p0.Pre), .sl 2 (List.map a_Term p0.Post), .sl 2 (List.map a_Instr p0.Code), .sl 2 (List.map a_Point p0.Points)]), (35, .cp [.sl 2 (List.map a_Point p0.Points)]), (36, .sl 2 (List.map a_Point p0.Points)), (37, .int .i64 s0.2), (38, .cp [.int .i64 x38.At, .sl 2 (List.map a_Term x38.Facts)]), (39, .cp [.int .i64 x38.At]), (41, .cp [.sl 2 (List.map a_Term p0.Pre), .sl 2 (List.map a_Term p0.Post), .sl 2 (List.map a_Instr p0.Code), .sl 2 (List.map a_Point p0.Points)]), (42, .cp [.sl 2 (List.map a_Term p0.Pre), .sl 2 (List.map a_Term p0.Post), .sl 2 (List.map a_Instr p0.Code), .sl 2 (List.map a_Point p0.Points)]), (43, .cp [.sl 2 (List.map a_Point p0.Points)]), (44, .sl 2 (List.map a_Point p0.Points)), (45, .int .i64 s0.2), (46, .cp [.int .i64 x38.At, .sl 2 (List.map a_Term x38.Facts)]), (47, .cp [.sl 2 (List.map a_Term x38.Facts)]), (48, .sl 2 (List.map a_Term x38.Facts))], [(11, .box [.snil, .snil, .snil, .snil]), (412, .arr ⟨false, true⟩ 2 184 (List.map a_Term j0.1)), (812, .arr ⟨false, true⟩ 2 184 (List.map a_Term j0.2)), (892, .arr ⟨false, false⟩ 2 40 (List.map a_Instr (([] : List Instr) ++ p0.Code))), (1452, .box [.ow 412, .ow 812, .ow 892, .ow 70005]), (70005, .arr ⟨false, true⟩ 2 81 (List.map a_Point s0.1))]⟩ ?_ (fun hS5371_4 => ?_)
        · refine TZ_each [9, 18] (by kernel_rfl) rfl ?_
          refine ⟨?_, ?_⟩
          · refine ⟨_, rfl, ?_⟩
            refine TL_pure rfl rfl rfl rfl (op_load_one ag2 rfl rfl) ?_
            refine TL_nil ?_
            refine TZ_keepH [0, 2, 3, 4, 22, 23, 24, 25, 26, 27, 28, 31, 32, 33, 34, 35, 36, 37, 38, 39, 40, 41, 42, 43, 44, 45, 46, 47, 48] [11, 412, 812, 892, 1452, 70005] rfl rfl rfl rfl (by rw [hF]; rfl) ?_
            exact hS5371_2
          · refine ⟨_, rfl, ?_⟩
            refine TL_callO [(1000, 6892)] (ACall.F (F := F) (c_spec_l02OwnAll x38.Facts r49 hr49)) Try.call104 rfl rfl rfl rfl rfl rfl rfl rfl rfl rfl rfl rfl rfl ?_
            refine TL_nil ?_
            refine TZ_keepH [0, 2, 3, 4, 22, 23, 24, 25, 26, 27, 28, 31, 32, 33, 34, 35, 36, 37, 38, 39, 41, 42, 43, 44, 45, 46, 47, 48, 49] [11, 412, 812, 892, 1452, 6892, 70005] rfl rfl rfl rfl (by rw [hF]; rfl) ?_
            exact hS5371_3
        refine TZ_cut 10 [true, true, true, true, true, true, true, true, true, false, true, true, true, true, true, false, false, false, false, false, false, false, false, false] ⟨[(0, .cp [.sl 2 (List.map a_Term p0.Pre), .sl 2 (List.map a_Term p0.Post), .sl 2 (List.map a_Instr p0.Code), .sl 2 (List.map a_Point p0.Points)]), (2, .ptr 11 0 0), (3, .ptr 1452 0 0), (4, .int .i64 s0.2), (22, .int .i64 s0.2), (23, .cp [.sl 2 (List.map a_Term p0.Pre), .sl 2 (List.map a_Term p0.Post), .sl 2 (List.map a_Instr p0.Code), .sl 2 (List.map a_Point p0.Points)]), (24, .cp [.sl 2 (List.map a_Term p0.Pre), .sl 2 (List.map a_Term p0.Post), .sl 2 (List.map a_Instr p0.Code), .sl 2 (List.map a_Point p0.Points)]), (25, .cp [.sl 2 (List.map a_Point p0.Points)]), (26, .sl 2 (List.map a_Point p0.Points)), (27, .int .i64 (p0.Points.length : Int)), (28, .bool (decide (s0.2 < (p0.Points.length : Int)))), (31, .ptr 1452 0 3), (32, .ow 70005), (33, .cp [.sl 2 (List.map a_Term p0.Pre), .sl 2 (List.map a_Term p0.Post), .sl 2 (List.map a_Instr p0.Code), .sl 2 (List.map a_Point p0.Points)]), (34, .cp [.sl 2 (List.map a_Term p0.Pre), .sl 2 (List.map a_Term p0.Post), .sl 2 (List.map a_Instr p0.Code), .sl 2 (List.map a_Point p0.Points)]), (35, .cp [.sl 2 (List.map a_Point p0.Points)]), (36, .sl 2 (List.map a_Point p0.Points)), (37, .int .i64 s0.2), (38, .cp [.int .i64 x38.At, .sl 2 (List.map a_Term x38.Facts)]), (39, .cp [.int .i64 x38.At]), (41, .cp [.sl 2 (List.map a_Term p0.Pre), .sl 2 (List.map a_Term p0.Post), .sl 2 (List.map a_Instr p0.Code), .sl 2 (List.map a_Point p0.Points)]), (42, .cp [.sl 2 (List.map a_Term p0.Pre), .sl 2 (List.map a_Term p0.Post), .sl 2 (List.map a_Instr p0.Code), .sl 2 (List.map a_Point p0.Points)]), (43, .cp [.sl 2 (List.map a_Point p0.Points)]), (44, .sl 2 (List.map a_Point p0.Points)), (45, .int .i64 s0.2)], [(11, .box [.snil, .snil, .snil, .snil]), (412, .arr ⟨false, true⟩ 2 184 (List.map a_Term j0.1)), (812, .arr ⟨false, true⟩ 2 184 (List.map a_Term j0.2)), (892, .arr ⟨false, false⟩ 2 40 (List.map a_Instr (([] : List Instr) ++ p0.Code))), (1452, .box [.ow 412, .ow 812, .ow 892, .ow 70005]), (70005, .arr ⟨false, true⟩ 2 81 (List.map a_Point s0.1))]⟩ ?_ (fun hS5371_5 => ?_)
        · refine TZ_pure 15 (by kernel_rfl) rfl rfl rfl rfl rfl (op_indexT el67 rfl rfl hx38 rfl) ?_
          refine TZ_pure 16 (by kernel_rfl) rfl rfl rfl rfl rfl (op_fieldAddr fa81_1 rfl rfl) ?_
          refine TZ_each [9, 17] (by kernel_rfl) rfl ?_
          refine ⟨?_, ?_⟩
          · refine ⟨_, rfl, ?_⟩
            refine TL_pure rfl rfl rfl rfl (op_load_one ag2 rfl rfl) ?_
            refine TL_nil ?_
            refine TZ_keepH [0, 2, 3, 4, 22, 23, 24, 25, 26, 27, 28, 31, 32, 33, 34, 35, 36, 37, 38, 39, 40, 41, 42, 43, 44, 45, 46, 47] [11, 412, 812, 892, 1452, 70005] rfl rfl rfl rfl (by rw [hF]; rfl) ?_
            exact hS5371_1
          · refine ⟨_, rfl, ?_⟩
            refine TL_pure rfl rfl rfl rfl (op_load_one ag66 rfl rfl) ?_
            refine TL_nil ?_
            refine TZ_keepH [0, 2, 3, 4, 22, 23, 24, 25, 26, 27, 28, 31, 32, 33, 34, 35, 36, 37, 38, 39, 41, 42, 43, 44, 45, 46, 47, 48] [11, 412, 812, 892, 1452, 70005] rfl rfl rfl rfl (by rw [hF]; rfl) ?_
            exact hS5371_4
        refine TZ_cut 13 [true, true, true, true, true, true, true, false, false, false, true, true, true, false, true, false, false, false, false, false, false, false, false, false] ⟨[(0, .cp [.sl 2 (List.map a_Term p0.Pre), .sl 2 (List.map a_Term p0.Post), .sl 2 (List.map a_Instr p0.Code), .sl 2 (List.map a_Point p0.Points)]), (2, .ptr 11 0 0), (3, .ptr 1452 0 0), (4, .int .i64 s0.2), (22, .int .i64 s0.2), (23, .cp [.sl 2 (List.map a_Term p0.Pre), .sl 2 (List.map a_Term p0.Post), .sl 2 (List.map a_Instr p0.Code), .sl 2 (List.map a_Point p0.Points)]), (24, .cp [.sl 2 (List.map a_Term p0.Pre), .sl 2 (List.map a_Term p0.Post), .sl 2 (List.map a_Instr p0.Code), .sl 2 (List.map a_Point p0.Points)]), (25, .cp [.sl 2 (List.map a_Point p0.Points)]), (26, .sl 2 (List.map a_Point p0.Points)), (27, .int .i64 (p0.Points.length : Int)), (28, .bool (decide (s0.2 < (p0.Points.length : Int)))), (31, .ptr 1452 0 3), (32, .ow 70005), (33, .cp [.sl 2 (List.map a_Term p0.Pre), .sl 2 (List.map a_Term p0.Post), .sl 2 (List.map a_Instr p0.Code), .sl 2 (List.map a_Point p0.Points)]), (34, .cp [.sl 2 (List.map a_Term p0.Pre), .sl 2 (List.map a_Term p0.Post), .sl 2 (List.map a_Instr p0.Code), .sl 2 (List.map a_Point p0.Points)]), (35, .cp [.sl 2 (List.map a_Point p0.Points)]), (36, .sl 2 (List.map a_Point p0.Points)), (37, .int .i64 s0.2), (41, .cp [.sl 2 (List.map a_Term p0.Pre), .sl 2 (List.map a_Term p0.Post), .sl 2 (List.map a_Instr p0.Code), .sl 2 (List.map a_Point p0.Points)]), (42, .cp [.sl 2 (List.map a_Term p0.Pre), .sl 2 (List.map a_Term p0.Post), .sl 2 (List.map a_Instr p0.Code), .sl 2 (List.map a_Point p0.Points)]), (43, .cp [.sl 2 (List.map a_Point p0.Points)]), (45, .int .i64 s0.2)], [(11, .box [.snil, .snil, .snil, .snil]), (412, .arr ⟨false, true⟩ 2 184 (List.map a_Term j0.1)), (812, .arr ⟨false, true⟩ 2 184 (List.map a_Term j0.2)), (892, .arr ⟨false, false⟩ 2 40 (List.map a_Instr (([] : List Instr) ++ p0.Code))), (1452, .box [.ow 412, .ow 812, .ow 892, .ow 70005]), (70005, .arr ⟨false, true⟩ 2 81 (List.map a_Point s0.1))]⟩ ?_ (fun hS5371_6 => ?_)
        · refine TZ_pure 7 (by kernel_rfl) rfl rfl rfl rfl rfl (op_indexT el67 rfl rfl hx38 rfl) ?_
          refine TZ_pure 8 (by kernel_rfl) rfl rfl rfl rfl rfl (op_fieldAddrC (n := 1) fa81_0 rfl rfl rfl) ?_
          refine TZ_each [9, 13] (by kernel_rfl) rfl ?_
          refine ⟨?_, ?_⟩
          · refine ⟨_, rfl, ?_⟩
            refine TL_pure rfl rfl rfl rfl (op_load_one ag2 rfl rfl) ?_
            refine TL_nil ?_
            refine TZ_keepH [0, 2, 3, 4, 22, 23, 24, 25, 26, 27, 28, 31, 32, 33, 34, 35, 36, 37, 38, 39, 40, 41, 42, 43, 45] [11, 412, 812, 892, 1452, 70005] rfl rfl rfl rfl (by rw [hF]; rfl) ?_
            exact hS5371_0
          · refine ⟨_, rfl, ?_⟩
            refine TL_pure rfl rfl rfl rfl (op_load_one ag67 rfl rfl) ?_
            refine TL_nil ?_
            refine TZ_keepH [0, 2, 3, 4, 22, 23, 24, 25, 26, 27, 28, 31, 32, 33, 34, 35, 36, 37, 38, 39, 41, 42, 43, 44, 45] [11, 412, 812, 892, 1452, 70005] rfl rfl rfl rfl (by rw [hF]; rfl) ?_
            exact hS5371_5
        refine TZ_cut 10 [true, true, true, true, true, true, true, false, false, false, true, true, true, true, true, true, true, false, false, false, false, false, false, false] ⟨[(0, .cp [.sl 2 (List.map a_Term p0.Pre), .sl 2 (List.map a_Term p0.Post), .sl 2 (List.map a_Instr p0.Code), .sl 2 (List.map a_Point p0.Points)]), (2, .ptr 11 0 0), (3, .ptr 1452 0 0), (4, .int .i64 s0.2), (22, .int .i64 s0.2), (23, .cp [.sl 2 (List.map a_Term p0.Pre), .sl 2 (List.map a_Term p0.Post), .sl 2 (List.map a_Instr p0.Code), .sl 2 (List.map a_Point p0.Points)]), (24, .cp [.sl 2 (List.map a_Term p0.Pre), .sl 2 (List.map a_Term p0.Post), .sl 2 (List.map a_Instr p0.Code), .sl 2 (List.map a_Point p0.Points)]), (25, .cp [.sl 2 (List.map a_Point p0.Points)]), (26, .sl 2 (List.map a_Point p0.Points)), (27, .int .i64 (p0.Points.length : Int)), (28, .bool (decide (s0.2 < (p0.Points.length : Int)))), (31, .ptr 1452 0 3), (32, .ow 70005), (33, .cp [.sl 2 (List.map a_Term p0.Pre), .sl 2 (List.map a_Term p0.Post), .sl 2 (List.map a_Instr p0.Code), .sl 2 (List.map a_Point p0.Points)]), (34, .cp [.sl 2 (List.map a_Term p0.Pre), .sl 2 (List.map a_Term p0.Post), .sl 2 (List.map a_Instr p0.Code), .sl 2 (List.map a_Point p0.Points)]), (35, .cp [.sl 2 (List.map a_Point p0.Points)]), (36, .sl 2 (List.map a_Point p0.Points)), (37, .int .i64 s0.2), (41, .cp [.sl 2 (List.map a_Term p0.Pre), .sl 2 (List.map a_Term p0.Post), .sl 2 (List.map a_Instr p0.Code), .sl 2 (List.map a_Point p0.Points)]), (42, .cp [.sl 2 (List.map a_Term p0.Pre), .sl 2 (List.map a_Term p0.Post), .sl 2 (List.map a_Instr p0.Code), .sl 2 (List.map a_Point p0.Points)]), (43, .cp [.sl 2 (List.map a_Point p0.Points)]), (44, .sl 2 (List.map a_Point p0.Points)), (45, .int .i64 s0.2), (46, .cp [.int .i64 x38.At, .sl 2 (List.map a_Term x38.Facts)]), (47, .cp [.sl 2 (List.map a_Term x38.Facts)])], [(11, .box [.snil, .snil, .snil, .snil]), (412, .arr ⟨false, true⟩ 2 184 (List.map a_Term j0.1)), (812, .arr ⟨false, true⟩ 2 184 (List.map a_Term j0.2)), (892, .arr ⟨false, false⟩ 2 40 (List.map a_Instr (([] : List Instr) ++ p0.Code))), (1452, .box [.ow 412, .ow 812, .ow 892, .ow 70005]), (70005, .arr ⟨false, true⟩ 2 81 (List.map a_Point s0.1))]⟩ ?_ (fun hS5371_7 => ?_)
        · refine TZ_pure 7 (by kernel_rfl) rfl rfl rfl rfl rfl (op_indexT el67 rfl rfl hx38 rfl) ?_
          refine TZ_pure 8 (by kernel_rfl) rfl rfl rfl rfl rfl (op_fieldAddrC (n := 1) fa81_0 rfl rfl rfl) ?_
          refine TZ_each [9, 17] (by kernel_rfl) rfl ?_
          refine ⟨?_, ?_⟩
          · refine ⟨_, rfl, ?_⟩
            refine TL_pure rfl rfl rfl rfl (op_load_one ag2 rfl rfl) ?_
            refine TL_nil ?_
            refine TZ_keepH [0, 2, 3, 4, 22, 23, 24, 25, 26, 27, 28, 31, 32, 33, 34, 35, 36, 37, 38, 39, 40, 41, 42, 43, 44, 45, 46, 47] [11, 412, 812, 892, 1452, 70005] rfl rfl rfl rfl (by rw [hF]; rfl) ?_
            exact hS5371_1
          · refine ⟨_, rfl, ?_⟩
            refine TL_pure rfl rfl rfl rfl (op_load_one ag66 rfl rfl) ?_
            refine TL_nil ?_
            refine TZ_keepH [0, 2, 3, 4, 22, 23, 24, 25, 26, 27, 28, 31, 32, 33, 34, 35, 36, 37, 38, 39, 41, 42, 43, 44, 45, 46, 47, 48] [11, 412, 812, 892, 1452, 70005] rfl rfl rfl rfl (by rw [hF]; rfl) ?_
            exact hS5371_4
        refine TZ_cut 9 [true, true, true, true, true, true, true, false, false, false, true, true, true, true, true, true, true, true, false, false, false, false, false, false] ⟨[(0, .cp [.sl 2 (List.map a_Term p0.Pre), .sl 2 (List.map a_Term p0.Post), .sl 2 (List.map a_Instr p0.Code), .sl 2 (List.map a_Point p0.Points)]), (2, .ptr 11 0 0), (3, .ptr 1452 0 0), (4, .int .i64 s0.2), (22, .int .i64 s0.2), (23, .cp [.sl 2 (List.map a_Term p0.Pre), .sl 2 (List.map a_Term p0.Post), .sl 2 (List.map a_Instr p0.Code), .sl 2 (List.map a_Point p0.Points)]), (24, .cp [.sl 2 (List.map a_Term p0.Pre), .sl 2 (List.map a_Term p0.Post), .sl 2 (List.map a_Instr p0.Code), .sl 2 (List.map a_Point p0.Points)]), (25, .cp [.sl 2 (List.map a_Point p0.Points)]), (26, .sl 2 (List.map a_Point p0.Points)), (27, .int .i64 (p0.Points.length : Int)), (28, .bool (decide (s0.2 < (p0.Points.length : Int)))), (31, .ptr 1452 0 3), (32, .ow 70005), (33, .cp [.sl 2 (List.map a_Term p0.Pre), .sl 2 (List.map a_Term p0.Post), .sl 2 (List.map a_Instr p0.Code), .sl 2 (List.map a_Point p0.Points)]), (34, .cp [.sl 2 (List.map a_Term p0.Pre), .sl 2 (List.map a_Term p0.Post), .sl 2 (List.map a_Instr p0.Code), .sl 2 (List.map a_Point p0.Points)]), (35, .cp [.sl 2 (List.map a_Point p0.Points)]), (36, .sl 2 (List.map a_Point p0.Points)), (37, .int .i64 s0.2), (41, .cp [.sl 2 (List.map a_Term p0.Pre), .sl 2 (List.map a_Term p0.Post), .sl 2 (List.map a_Instr p0.Code), .sl 2 (List.map a_Point p0.Points)]), (42, .cp [.sl 2 (List.map a_Term p0.Pre), .sl 2 (List.map a_Term p0.Post), .sl 2 (List.map a_Instr p0.Code), .sl 2 (List.map a_Point p0.Points)]), (43, .cp [.sl 2 (List.map a_Point p0.Points)]), (44, .sl 2 (List.map a_Point p0.Points)), (45, .int .i64 s0.2), (46, .cp [.int .i64 x38.At, .sl 2 (List.map a_Term x38.Facts)]), (47, .cp [.sl 2 (List.map a_Term x38.Facts)]), (48, .sl 2 (List.map a_Term x38.Facts))], [(11, .box [.snil, .snil, .snil, .snil]), (412, .arr ⟨false, true⟩ 2 184 (List.map a_Term j0.1)), (812, .arr ⟨false, true⟩ 2 184 (List.map a_Term j0.2)), (892, .arr ⟨false, false⟩ 2 40 (List.map a_Instr (([] : List Instr) ++ p0.Code))), (1452, .box [.ow 412, .ow 812, .ow 892, .ow 70005]), (70005, .arr ⟨false, true⟩ 2 81 (List.map a_Point s0.1))]⟩ ?_ (fun hS5371_8 => ?_)
        · refine TZ_pure 7 (by kernel_rfl) rfl rfl rfl rfl rfl (op_indexT el67 rfl rfl hx38 rfl) ?_
          refine TZ_pure 8 (by kernel_rfl) rfl rfl rfl rfl rfl (op_fieldAddrC (n := 1) fa81_0 rfl rfl rfl) ?_
          refine TZ_each [9, 18] (by kernel_rfl) rfl ?_
          refine ⟨?_, ?_⟩
          · refine ⟨_, rfl, ?_⟩
            refine TL_pure rfl rfl rfl rfl (op_load_one ag2 rfl rfl) ?_
            refine TL_nil ?_
            refine TZ_keepH [0, 2, 3, 4, 22, 23, 24, 25, 26, 27, 28, 31, 32, 33, 34, 35, 36, 37, 38, 39, 40, 41, 42, 43, 44, 45, 46, 47, 48] [11, 412, 812, 892, 1452, 70005] rfl rfl rfl rfl (by rw [hF]; rfl) ?_
            exact hS5371_2
          · refine ⟨_, rfl, ?_⟩
            refine TL_callO [(1000, 6892)] (ACall.F (F := F) (c_spec_l02OwnAll x38.Facts r49 hr49)) Try.call104 rfl rfl rfl rfl rfl rfl rfl rfl rfl rfl rfl rfl rfl ?_
            refine TL_nil ?_
            refine TZ_keepH [0, 2, 3, 4, 22, 23, 24, 25, 26, 27, 28, 31, 32, 33, 34, 35, 36, 37, 38, 39, 41, 42, 43, 44, 45, 46, 47, 48, 49] [11, 412, 812, 892, 1452, 6892, 70005] rfl rfl rfl rfl (by rw [hF]; rfl) ?_
            exact hS5371_3
        refine TZ_cut 9 [true, true, true, true, true, false, true, false, false, false, true, true, true, true, true, true, true, true, true, false, false, false, false, false] ⟨[(0, .cp [.sl 2 (List.map a_Term p0.Pre), .sl 2 (List.map a_Term p0.Post), .sl 2 (List.map a_Instr p0.Code), .sl 2 (List.map a_Point p0.Points)]), (2, .ptr 11 0 0), (3, .ptr 1452 0 0), (4, .int .i64 s0.2), (22, .int .i64 s0.2), (23, .cp [.sl 2 (List.map a_Term p0.Pre), .sl 2 (List.map a_Term p0.Post), .sl 2 (List.map a_Instr p0.Code), .sl 2 (List.map a_Point p0.Points)]), (24, .cp [.sl 2 (List.map a_Term p0.Pre), .sl 2 (List.map a_Term p0.Post), .sl 2 (List.map a_Instr p0.Code), .sl 2 (List.map a_Point p0.Points)]), (25, .cp [.sl 2 (List.map a_Point p0.Points)]), (26, .sl 2 (List.map a_Point p0.Points)), (27, .int .i64 (p0.Points.length : Int)), (28, .bool (decide (s0.2 < (p0.Points.length : Int)))), (31, .ptr 1452 0 3), (32, .ow 70005), (33, .cp [.sl 2 (List.map a_Term p0.Pre), .sl 2 (List.map a_Term p0.Post), .sl 2 (List.map a_Instr p0.Code), .sl 2 (List.map a_Point p0.Points)]), (34, .cp [.sl 2 (List.map a_Term p0.Pre), .sl 2 (List.map a_Term p0.Post), .sl 2 (List.map a_Instr p0.Code), .sl 2 (List.map a_Point p0.Points)]), (35, .cp [.sl 2 (List.map a_Point p0.Points)]), (37, .int .i64 s0.2), (41, .cp [.sl 2 (List.map a_Term p0.Pre), .sl 2 (List.map a_Term p0.Post), .sl 2 (List.map a_Instr p0.Code), .sl 2 (List.map a_Point p0.Points)]), (42, .cp [.sl 2 (List.map a_Term p0.Pre), .sl 2 (List.map a_Term p0.Post), .sl 2 (List.map a_Instr p0.Code), .sl 2 (List.map a_Point p0.Points)]), (43, .cp [.sl 2 (List.map a_Point p0.Points)]), (44, .sl 2 (List.map a_Point p0.Points)), (45, .int .i64 s0.2), (46, .cp [.int .i64 x38.At, .sl 2 (List.map a_Term x38.Facts)]), (47, .cp [.sl 2 (List.map a_Term x38.Facts)]), (48, .sl 2 (List.map a_Term x38.Facts)), (49, .ow 6892)], [(11, .box [.snil, .snil, .snil, .snil]), (412, .arr ⟨false, true⟩ 2 184 (List.map a_Term j0.1)), (812, .arr ⟨false, true⟩ 2 184 (List.map a_Term j0.2)), (892, .arr ⟨false, false⟩ 2 40 (List.map a_Instr (([] : List Instr) ++ p0.Code))), (1452, .box [.ow 412, .ow 812, .ow 892, .ow 70005]), (6892, .arr ⟨false, true⟩ 2 184 (List.map a_Term r49)), (70005, .arr ⟨false, true⟩ 2 81 (List.map a_Point s0.1))]⟩ ?_ (fun hS5371_9 => ?_)
        · refine TZ_one 5 (by kernel_rfl) rfl ?_
          refine TL_pure rfl rfl rfl rfl (op_load_one ag67 rfl rfl) ?_
          refine TL_nil ?_
          refine TZ_pure 7 (by kernel_rfl) rfl rfl rfl rfl rfl (op_indexT el67 rfl rfl hx38 rfl) ?_
          refine TZ_pure 8 (by kernel_rfl) rfl rfl rfl rfl rfl (op_fieldAddrC (n := 1) fa81_0 rfl rfl rfl) ?_
          refine TZ_one 9 (by kernel_rfl) rfl ?_
          refine TL_pure rfl rfl rfl rfl (op_load_one ag2 rfl rfl) ?_
          refine TL_nil ?_
          refine TZ_pure 19 (by kernel_rfl) rfl rfl rfl rfl rfl (op_buildP pl81 z81 rfl rfl rfl rfl rfl) ?_
          refine TZ_one 20 (by kernel_rfl) rfl ?_
          refine TL_buildSliceD (ids := [6892]) (es := List.map a_Point [(Point.mk x38.At r49)]) 7052 el67 z81 rfl rfl rfl rfl rfl rfl (by rw [hF]; intro j hj; simp only [List.mem_cons, List.not_mem_nil, or_false] at hj; rcases hj with rfl <;> rfl) rfl rfl rfl rfl rfl rfl ?_
          refine TL_nil ?_
          refine TZ_one 21 (by kernel_rfl) rfl ?_
          refine TL_appendDT (f := a_Point) (a := s0.1) (b := [(Point.mk x38.At r49)]) el67 z81 rfl rfl rfl rfl rfl rfl rfl rfl (by rw [hF]; rfl) (capI_spec hq52) rfl rfl rfl rfl rfl ?_
          refine TL_nil ?_
          refine TZ_pure 22 (by kernel_rfl) rfl rfl rfl rfl rfl (op_fieldAddr fa69_3 rfl rfl) ?_
          refine TZ_one 23 (by kernel_rfl) rfl ?_
          refine TL_store_box sz67 rfl rfl rfl rfl rfl rfl rfl rfl rfl ?_
          refine TL_nil ?_
          refine TZ_done (by kernel_rfl) ?_
          refine T_region ?_
          refine TL_pure rfl rfl rfl rfl (op_move rfl) ?_
          refine TL_pure rfl rfl rfl rfl (op_addW rfl rfl) ?_
          refine TL_pure rfl rfl rfl rfl (op_assign rfl) ?_
          refine TL_nil ?_
          refine TR_keepH [0, 2, 3, 4] [11, 412, 812, 892, 1452, 70005] rfl rfl rfl rfl (by rw [hF]; rfl) ?_
          obtain rfl := someI hm
          have hn := CtlOK_next hc0
          exact hn _ rfl
        refine TZ_cut 10 [true, true, true, true, true, false, true, false, false, false, true, true, true, true, true, true, true, true, false, false, false, false, false, false] ⟨[(0, .cp [.sl 2 (List.map a_Term p0.Pre), .sl 2 (List.map a_Term p0.Post), .sl 2 (List.map a_Instr p0.Code), .sl 2 (List.map a_Point p0.Points)]), (2, .ptr 11 0 0), (3, .ptr 1452 0 0), (4, .int .i64 s0.2), (22, .int .i64 s0.2), (23, .cp [.sl 2 (List.map a_Term p0.Pre), .sl 2 (List.map a_Term p0.Post), .sl 2 (List.map a_Instr p0.Code), .sl 2 (List.map a_Point p0.Points)]), (24, .cp [.sl 2 (List.map a_Term p0.Pre), .sl 2 (List.map a_Term p0.Post), .sl 2 (List.map a_Instr p0.Code), .sl 2 (List.map a_Point p0.Points)]), (25, .cp [.sl 2 (List.map a_Point p0.Points)]), (26, .sl 2 (List.map a_Point p0.Points)), (27, .int .i64 (p0.Points.length : Int)), (28, .bool (decide (s0.2 < (p0.Points.length : Int)))), (31, .ptr 1452 0 3), (32, .ow 70005), (33, .cp [.sl 2 (List.map a_Term p0.Pre), .sl 2 (List.map a_Term p0.Post), .sl 2 (List.map a_Instr p0.Code), .sl 2 (List.map a_Point p0.Points)]), (34, .cp [.sl 2 (List.map a_Term p0.Pre), .sl 2 (List.map a_Term p0.Post), .sl 2 (List.map a_Instr p0.Code), .sl 2 (List.map a_Point p0.Points)]), (35, .cp [.sl 2 (List.map a_Point p0.Points)]), (37, .int .i64 s0.2), (41, .cp [.sl 2 (List.map a_Term p0.Pre), .sl 2 (List.map a_Term p0.Post), .sl 2 (List.map a_Instr p0.Code), .sl 2 (List.map a_Point p0.Points)]), (42, .cp [.sl 2 (List.map a_Term p0.Pre), .sl 2 (List.map a_Term p0.Post), .sl 2 (List.map a_Instr p0.Code), .sl 2 (List.map a_Point p0.Points)]), (43, .cp [.sl 2 (List.map a_Point p0.Points)]), (44, .sl 2 (List.map a_Point p0.Points)), (45, .int .i64 s0.2), (46, .cp [.int .i64 x38.At, .sl 2 (List.map a_Term x38.Facts)]), (47, .cp [.sl 2 (List.map a_Term x38.Facts)]), (48, .sl 2 (List.map a_Term x38.Facts))], [(11, .box [.snil, .snil, .snil, .snil]), (412, .arr ⟨false, true⟩ 2 184 (List.map a_Term j0.1)), (812, .arr ⟨false, true⟩ 2 184 (List.map a_Term j0.2)), (892, .arr ⟨false, false⟩ 2 40 (List.map a_Instr (([] : List Instr) ++ p0.Code))), (1452, .box [.ow 412, .ow 812, .ow 892, .ow 70005]), (70005, .arr ⟨false, true⟩ 2 81 (List.map a_Point s0.1))]⟩ ?_ (fun hS5371_10 => ?_)
        · refine TZ_each [5, 18] (by kernel_rfl) rfl ?_
          refine ⟨?_, ?_⟩
          · refine ⟨_, rfl, ?_⟩
            refine TL_pure rfl rfl rfl rfl (op_load_one ag67 rfl rfl) ?_
            refine TL_nil ?_
            refine TZ_keepH [0, 2, 3, 4, 22, 23, 24, 25, 26, 27, 28, 31, 32, 33, 34, 35, 36, 37, 41, 42, 43, 44, 45, 46, 47, 48] [11, 412, 812, 892, 1452, 70005] rfl rfl rfl rfl (by rw [hF]; rfl) ?_
            exact hS5371_8
          · refine ⟨_, rfl, ?_⟩
            refine TL_callO [(1000, 6892)] (ACall.F (F := F) (c_spec_l02OwnAll x38.Facts r49 hr49)) Try.call104 rfl rfl rfl rfl rfl rfl rfl rfl rfl rfl rfl rfl rfl ?_
            refine TL_nil ?_
            refine TZ_keepH [0, 2, 3, 4, 22, 23, 24, 25, 26, 27, 28, 31, 32, 33, 34, 35, 37, 41, 42, 43, 44, 45, 46, 47, 48, 49] [11, 412, 812, 892, 1452, 6892, 70005] rfl rfl rfl rfl (by rw [hF]; rfl) ?_
            exact hS5371_9
        refine TZ_cut 13 [true, true, true, true, true, false, true, false, false, false, true, true, true, true, true, false, false, false, false, false, false, false, false, false] ⟨[(0, .cp [.sl 2 (List.map a_Term p0.Pre), .sl 2 (List.map a_Term p0.Post), .sl 2 (List.map a_Instr p0.Code), .sl 2 (List.map a_Point p0.Points)]), (2, .ptr 11 0 0), (3, .ptr 1452 0 0), (4, .int .i64 s0.2), (22, .int .i64 s0.2), (23, .cp [.sl 2 (List.map a_Term p0.Pre), .sl 2 (List.map a_Term p0.Post), .sl 2 (List.map a_Instr p0.Code), .sl 2 (List.map a_Point p0.Points)]), (24, .cp [.sl 2 (List.map a_Term p0.Pre), .sl 2 (List.map a_Term p0.Post), .sl 2 (List.map a_Instr p0.Code), .sl 2 (List.map a_Point p0.Points)]), (25, .cp [.sl 2 (List.map a_Point p0.Points)]), (26, .sl 2 (List.map a_Point p0.Points)), (27, .int .i64 (p0.Points.length : Int)), (28, .bool (decide (s0.2 < (p0.Points.length : Int)))), (31, .ptr 1452 0 3), (32, .ow 70005), (33, .cp [.sl 2 (List.map a_Term p0.Pre), .sl 2 (List.map a_Term p0.Post), .sl 2 (List.map a_Instr p0.Code), .sl 2 (List.map a_Point p0.Points)]), (34, .cp [.sl 2 (List.map a_Term p0.Pre), .sl 2 (List.map a_Term p0.Post), .sl 2 (List.map a_Instr p0.Code), .sl 2 (List.map a_Point p0.Points)]), (35, .cp [.sl 2 (List.map a_Point p0.Points)]), (37, .int .i64 s0.2), (41, .cp [.sl 2 (List.map a_Term p0.Pre), .sl 2 (List.map a_Term p0.Post), .sl 2 (List.map a_Instr p0.Code), .sl 2 (List.map a_Point p0.Points)]), (42, .cp [.sl 2 (List.map a_Term p0.Pre), .sl 2 (List.map a_Term p0.Post), .sl 2 (List.map a_Instr p0.Code), .sl 2 (List.map a_Point p0.Points)]), (43, .cp [.sl 2 (List.map a_Point p0.Points)]), (44, .sl 2 (List.map a_Point p0.Points)), (45, .int .i64 s0.2)], [(11, .box [.snil, .snil, .snil, .snil]), (412, .arr ⟨false, true⟩ 2 184 (List.map a_Term j0.1)), (812, .arr ⟨false, true⟩ 2 184 (List.map a_Term j0.2)), (892, .arr ⟨false, false⟩ 2 40 (List.map a_Instr (([] : List Instr) ++ p0.Code))), (1452, .box [.ow 412, .ow 812, .ow 892, .ow 70005]), (70005, .arr ⟨false, true⟩ 2 81 (List.map a_Point s0.1))]⟩ ?_ (fun hS5371_11 => ?_)
        · refine TZ_pure 15 (by kernel_rfl) rfl rfl rfl rfl rfl (op_indexT el67 rfl rfl hx38 rfl) ?_
          refine TZ_pure 16 (by kernel_rfl) rfl rfl rfl rfl rfl (op_fieldAddr fa81_1 rfl rfl) ?_
          refine TZ_each [5, 17] (by kernel_rfl) rfl ?_
          refine ⟨?_, ?_⟩
          · refine ⟨_, rfl, ?_⟩
            refine TL_pure rfl rfl rfl rfl (op_load_one ag67 rfl rfl) ?_
            refine TL_nil ?_
            refine TZ_keepH [0, 2, 3, 4, 22, 23, 24, 25, 26, 27, 28, 31, 32, 33, 34, 35, 36, 37, 41, 42, 43, 44, 45, 46, 47] [11, 412, 812, 892, 1452, 70005] rfl rfl rfl rfl (by rw [hF]; rfl) ?_
            exact hS5371_7
          · refine ⟨_, rfl, ?_⟩
            refine TL_pure rfl rfl rfl rfl (op_load_one ag66 rfl rfl) ?_
            refine TL_nil ?_
            refine TZ_keepH [0, 2, 3, 4, 22, 23, 24, 25, 26, 27, 28, 31, 32, 33, 34, 35, 37, 41, 42, 43, 44, 45, 46, 47, 48] [11, 412, 812, 892, 1452, 70005] rfl rfl rfl rfl (by rw [hF]; rfl) ?_
            exact hS5371_10
        refine TZ_cut 14 [true, true, true, true, true, false, true, false, false, false, true, true, true, false, true, false, false, false, false, false, false, false, false, false] ⟨[(0, .cp [.sl 2 (List.map a_Term p0.Pre), .sl 2 (List.map a_Term p0.Post), .sl 2 (List.map a_Instr p0.Code), .sl 2 (List.map a_Point p0.Points)]), (2, .ptr 11 0 0), (3, .ptr 1452 0 0), (4, .int .i64 s0.2), (22, .int .i64 s0.2), (23, .cp [.sl 2 (List.map a_Term p0.Pre), .sl 2 (List.map a_Term p0.Post), .sl 2 (List.map a_Instr p0.Code), .sl 2 (List.map a_Point p0.Points)]), (24, .cp [.sl 2 (List.map a_Term p0.Pre), .sl 2 (List.map a_Term p0.Post), .sl 2 (List.map a_Instr p0.Code), .sl 2 (List.map a_Point p0.Points)]), (25, .cp [.sl 2 (List.map a_Point p0.Points)]), (26, .sl 2 (List.map a_Point p0.Points)), (27, .int .i64 (p0.Points.length : Int)), (28, .bool (decide (s0.2 < (p0.Points.length : Int)))), (31, .ptr 1452 0 3), (32, .ow 70005), (33, .cp [.sl 2 (List.map a_Term p0.Pre), .sl 2 (List.map a_Term p0.Post), .sl 2 (List.map a_Instr p0.Code), .sl 2 (List.map a_Point p0.Points)]), (34, .cp [.sl 2 (List.map a_Term p0.Pre), .sl 2 (List.map a_Term p0.Post), .sl 2 (List.map a_Instr p0.Code), .sl 2 (List.map a_Point p0.Points)]), (35, .cp [.sl 2 (List.map a_Point p0.Points)]), (37, .int .i64 s0.2), (41, .cp [.sl 2 (List.map a_Term p0.Pre), .sl 2 (List.map a_Term p0.Post), .sl 2 (List.map a_Instr p0.Code), .sl 2 (List.map a_Point p0.Points)]), (42, .cp [.sl 2 (List.map a_Term p0.Pre), .sl 2 (List.map a_Term p0.Post), .sl 2 (List.map a_Instr p0.Code), .sl 2 (List.map a_Point p0.Points)]), (43, .cp [.sl 2 (List.map a_Point p0.Points)]), (45, .int .i64 s0.2)], [(11, .box [.snil, .snil, .snil, .snil]), (412, .arr ⟨false, true⟩ 2 184 (List.map a_Term j0.1)), (812, .arr ⟨false, true⟩ 2 184 (List.map a_Term j0.2)), (892, .arr ⟨false, false⟩ 2 40 (List.map a_Instr (([] : List Instr) ++ p0.Code))), (1452, .box [.ow 412, .ow 812, .ow 892, .ow 70005]), (70005, .arr ⟨false, true⟩ 2 81 (List.map a_Point s0.1))]⟩ ?_ (fun hS5371_12 => ?_)
        · refine TZ_each [5, 13] (by kernel_rfl) rfl ?_
          refine ⟨?_, ?_⟩
          · refine ⟨_, rfl, ?_⟩
            refine TL_pure rfl rfl rfl rfl (op_load_one ag67 rfl rfl) ?_
            refine TL_nil ?_
            refine TZ_keepH [0, 2, 3, 4, 22, 23, 24, 25, 26, 27, 28, 31, 32, 33, 34, 35, 36, 37, 41, 42, 43, 45] [11, 412, 812, 892, 1452, 70005] rfl rfl rfl rfl (by rw [hF]; rfl) ?_
            exact hS5371_6
          · refine ⟨_, rfl, ?_⟩
            refine TL_pure rfl rfl rfl rfl (op_load_one ag67 rfl rfl) ?_
            refine TL_nil ?_
            refine TZ_keepH [0, 2, 3, 4, 22, 23, 24, 25, 26, 27, 28, 31, 32, 33, 34, 35, 37, 41, 42, 43, 44, 45] [11, 412, 812, 892, 1452, 70005] rfl rfl rfl rfl (by rw [hF]; rfl) ?_
            exact hS5371_11
        refine TZ_cut 11 [true, true, true, true, true, true, true, true, true, false, true, true, true, false, true, false, false, false, false, false, false, false, false, false] ⟨[(0, .cp [.sl 2 (List.map a_Term p0.Pre), .sl 2 (List.map a_Term p0.Post), .sl 2 (List.map a_Instr p0.Code), .sl 2 (List.map a_Point p0.Points)]), (2, .ptr 11 0 0), (3, .ptr 1452 0 0), (4, .int .i64 s0.2), (22, .int .i64 s0.2), (23, .cp [.sl 2 (List.map a_Term p0.Pre), .sl 2 (List.map a_Term p0.Post), .sl 2 (List.map a_Instr p0.Code), .sl 2 (List.map a_Point p0.Points)]), (24, .cp [.sl 2 (List.map a_Term p0.Pre), .sl 2 (List.map a_Term p0.Post), .sl 2 (List.map a_Instr p0.Code), .sl 2 (List.map a_Point p0.Points)]), (25, .cp [.sl 2 (List.map a_Point p0.Points)]), (26, .sl 2 (List.map a_Point p0.Points)), (27, .int .i64 (p0.Points.length : Int)), (28, .bool (decide (s0.2 < (p0.Points.length : Int)))), (31, .ptr 1452 0 3), (32, .ow 70005), (33, .cp [.sl 2 (List.map a_Term p0.Pre), .sl 2 (List.map a_Term p0.Post), .sl 2 (List.map a_Instr p0.Code), .sl 2 (List.map a_Point p0.Points)]), (34, .cp [.sl 2 (List.map a_Term p0.Pre), .sl 2 (List.map a_Term p0.Post), .sl 2 (List.map a_Instr p0.Code), .sl 2 (List.map a_Point p0.Points)]), (35, .cp [.sl 2 (List.map a_Point p0.Points)]), (36, .sl 2 (List.map a_Point p0.Points)), (37, .int .i64 s0.2), (38, .cp [.int .i64 x38.At, .sl 2 (List.map a_Term x38.Facts)]), (39, .cp [.int .i64 x38.At]), (41, .cp [.sl 2 (List.map a_Term p0.Pre), .sl 2 (List.map a_Term p0.Post), .sl 2 (List.map a_Instr p0.Code), .sl 2 (List.map a_Point p0.Points)]), (42, .cp [.sl 2 (List.map a_Term p0.Pre), .sl 2 (List.map a_Term p0.Post), .sl 2 (List.map a_Instr p0.Code), .sl 2 (List.map a_Point p0.Points)]), (43, .cp [.sl 2 (List.map a_Point p0.Points)]), (45, .int .i64 s0.2)], [(11, .box [.snil, .snil, .snil, .snil]), (412, .arr ⟨false, true⟩ 2 184 (List.map a_Term j0.1)), (812, .arr ⟨false, true⟩ 2 184 (List.map a_Term j0.2)), (892, .arr ⟨false, false⟩ 2 40 (List.map a_Instr (([] : List Instr) ++ p0.Code))), (1452, .box [.ow 412, .ow 812, .ow 892, .ow 70005]), (70005, .arr ⟨false, true⟩ 2 81 (List.map a_Point s0.1))]⟩ ?_ (fun hS5371_13 => ?_)
        · refine TZ_each [9, 13] (by kernel_rfl) rfl ?_
          refine ⟨?_, ?_⟩
          · refine ⟨_, rfl, ?_⟩
            refine TL_pure rfl rfl rfl rfl (op_load_one ag2 rfl rfl) ?_
            refine TL_nil ?_
            refine TZ_keepH [0, 2, 3, 4, 22, 23, 24, 25, 26, 27, 28, 31, 32, 33, 34, 35, 36, 37, 38, 39, 40, 41, 42, 43, 45] [11, 412, 812, 892, 1452, 70005] rfl rfl rfl rfl (by rw [hF]; rfl) ?_
            exact hS5371_0
          · refine ⟨_, rfl, ?_⟩
            refine TL_pure rfl rfl rfl rfl (op_load_one ag67 rfl rfl) ?_
            refine TL_nil ?_
            refine TZ_keepH [0, 2, 3, 4, 22, 23, 24, 25, 26, 27, 28, 31, 32, 33, 34, 35, 36, 37, 38, 39, 41, 42, 43, 44, 45] [11, 412, 812, 892, 1452, 70005] rfl rfl rfl rfl (by rw [hF]; rfl) ?_
            exact hS5371_5
        refine TZ_cut 4 [true, true, true, true, true, true, true, true, true, true, true, true, true, true, true, true, true, true, true, true, false, false, false, false] ⟨[(0, .cp [.sl 2 (List.map a_Term p0.Pre), .sl 2 (List.map a_Term p0.Post), .sl 2 (List.map a_Instr p0.Code), .sl 2 (List.map a_Point p0.Points)]), (2, .ptr 11 0 0), (3, .ptr 1452 0 0), (4, .int .i64 s0.2), (22, .int .i64 s0.2), (23, .cp [.sl 2 (List.map a_Term p0.Pre), .sl 2 (List.map a_Term p0.Post), .sl 2 (List.map a_Instr p0.Code), .sl 2 (List.map a_Point p0.Points)]), (24, .cp [.sl 2 (List.map a_Term p0.Pre), .sl 2 (List.map a_Term p0.Post), .sl 2 (List.map a_Instr p0.Code), .sl 2 (List.map a_Point p0.Points)]), (25, .cp [.sl 2 (List.map a_Point p0.Points)]), (26, .sl 2 (List.map a_Point p0.Points)), (27, .int .i64 (p0.Points.length : Int)), (28, .bool (decide (s0.2 < (p0.Points.length : Int)))), (31, .ptr 1452 0 3), (32, .ow 70005), (33, .cp [.sl 2 (List.map a_Term p0.Pre), .sl 2 (List.map a_Term p0.Post), .sl 2 (List.map a_Instr p0.Code), .sl 2 (List.map a_Point p0.Points)]), (34, .cp [.sl 2 (List.map a_Term p0.Pre), .sl 2 (List.map a_Term p0.Post), .sl 2 (List.map a_Instr p0.Code), .sl 2 (List.map a_Point p0.Points)]), (35, .cp [.sl 2 (List.map a_Point p0.Points)]), (36, .sl 2 (List.map a_Point p0.Points)), (37, .int .i64 s0.2), (38, .cp [.int .i64 x38.At, .sl 2 (List.map a_Term x38.Facts)]), (39, .cp [.int .i64 x38.At]), (40, .int .i64 x38.At), (41, .cp [.sl 2 (List.map a_Term p0.Pre), .sl 2 (List.map a_Term p0.Post), .sl 2 (List.map a_Instr p0.Code), .sl 2 (List.map a_Point p0.Points)]), (42, .cp [.sl 2 (List.map a_Term p0.Pre), .sl 2 (List.map a_Term p0.Post), .sl 2 (List.map a_Instr p0.Code), .sl 2 (List.map a_Point p0.Points)]), (43, .cp [.sl 2 (List.map a_Point p0.Points)]), (44, .sl 2 (List.map a_Point p0.Points)), (45, .int .i64 s0.2), (46, .cp [.int .i64 x38.At, .sl 2 (List.map a_Term x38.Facts)]), (47, .cp [.sl 2 (List.map a_Term x38.Facts)]), (48, .sl 2 (List.map a_Term x38.Facts)), (49, .ow 6892), (50, .agg [.int .i64 x38.At, .ow 6892])], [(11, .box [.snil, .snil, .snil, .snil]), (412, .arr ⟨false, true⟩ 2 184 (List.map a_Term j0.1)), (812, .arr ⟨false, true⟩ 2 184 (List.map a_Term j0.2)), (892, .arr ⟨false, false⟩ 2 40 (List.map a_Instr (([] : List Instr) ++ p0.Code))), (1452, .box [.ow 412, .ow 812, .ow 892, .ow 70005]), (6892, .arr ⟨false, true⟩ 2 184 (List.map a_Term r49)), (70005, .arr ⟨false, true⟩ 2 81 (List.map a_Point s0.1))]⟩ ?_ (fun hS5371_14 => ?_)
        · refine TZ_one 20 (by kernel_rfl) rfl ?_
          refine TL_buildSliceD (ids := [6892]) (es := List.map a_Point [(Point.mk x38.At r49)]) 7052 el67 z81 rfl rfl rfl rfl rfl rfl (by rw [hF]; intro j hj; simp only [List.mem_cons, List.not_mem_nil, or_false] at hj; rcases hj with rfl <;> rfl) rfl rfl rfl rfl rfl rfl ?_
          refine TL_nil ?_
          refine TZ_one 21 (by kernel_rfl) rfl ?_
          refine TL_appendDT (f := a_Point) (a := s0.1) (b := [(Point.mk x38.At r49)]) el67 z81 rfl rfl rfl rfl rfl rfl rfl rfl (by rw [hF]; rfl) (capI_spec hq52) rfl rfl rfl rfl rfl ?_
          refine TL_nil ?_
          refine TZ_pure 22 (by kernel_rfl) rfl rfl rfl rfl rfl (op_fieldAddr fa69_3 rfl rfl) ?_
          refine TZ_one 23 (by kernel_rfl) rfl ?_
          refine TL_store_box sz67 rfl rfl rfl rfl rfl rfl rfl rfl rfl ?_
          refine TL_nil ?_
          refine TZ_done (by kernel_rfl) ?_
          refine T_region ?_
          refine TL_pure rfl rfl rfl rfl (op_move rfl) ?_
          refine TL_pure rfl rfl rfl rfl (op_addW rfl rfl) ?_
          refine TL_pure rfl rfl rfl rfl (op_assign rfl) ?_
          refine TL_nil ?_
          refine TR_keepH [0, 2, 3, 4] [11, 412, 812, 892, 1452, 70005] rfl rfl rfl rfl (by rw [hF]; rfl) ?_
          obtain rfl := someI hm
          have hn := CtlOK_next hc0
          exact hn _ rfl
        refine TZ_cut 4 [true, false, true, true, true, true, true, true, true, true, true, true, true, true, true, true, true, true, true, true, true, false, false, false] ⟨[(0, .cp [.sl 2 (List.map a_Term p0.Pre), .sl 2 (List.map a_Term p0.Post), .sl 2 (List.map a_Instr p0.Code), .sl 2 (List.map a_Point p0.Points)]), (2, .ptr 11 0 0), (3, .ptr 1452 0 0), (4, .int .i64 s0.2), (22, .int .i64 s0.2), (23, .cp [.sl 2 (List.map a_Term p0.Pre), .sl 2 (List.map a_Term p0.Post), .sl 2 (List.map a_Instr p0.Code), .sl 2 (List.map a_Point p0.Points)]), (24, .cp [.sl 2 (List.map a_Term p0.Pre), .sl 2 (List.map a_Term p0.Post), .sl 2 (List.map a_Instr p0.Code), .sl 2 (List.map a_Point p0.Points)]), (25, .cp [.sl 2 (List.map a_Point p0.Points)]), (26, .sl 2 (List.map a_Point p0.Points)), (27, .int .i64 (p0.Points.length : Int)), (28, .bool (decide (s0.2 < (p0.Points.length : Int)))), (31, .ptr 1452 0 3), (33, .cp [.sl 2 (List.map a_Term p0.Pre), .sl 2 (List.map a_Term p0.Post), .sl 2 (List.map a_Instr p0.Code), .sl 2 (List.map a_Point p0.Points)]), (34, .cp [.sl 2 (List.map a_Term p0.Pre), .sl 2 (List.map a_Term p0.Post), .sl 2 (List.map a_Instr p0.Code), .sl 2 (List.map a_Point p0.Points)]), (35, .cp [.sl 2 (List.map a_Point p0.Points)]), (36, .sl 2 (List.map a_Point p0.Points)), (37, .int .i64 s0.2), (38, .cp [.int .i64 x38.At, .sl 2 (List.map a_Term x38.Facts)]), (39, .cp [.int .i64 x38.At]), (40, .int .i64 x38.At), (41, .cp [.sl 2 (List.map a_Term p0.Pre), .sl 2 (List.map a_Term p0.Post), .sl 2 (List.map a_Instr p0.Code), .sl 2 (List.map a_Point p0.Points)]), (42, .cp [.sl 2 (List.map a_Term p0.Pre), .sl 2 (List.map a_Term p0.Post), .sl 2 (List.map a_Instr p0.Code), .sl 2 (List.map a_Point p0.Points)]), (43, .cp [.sl 2 (List.map a_Point p0.Points)]), (44, .sl 2 (List.map a_Point p0.Points)), (45, .int .i64 s0.2), (46, .cp [.int .i64 x38.At, .sl 2 (List.map a_Term x38.Facts)]), (47, .cp [.sl 2 (List.map a_Term x38.Facts)]), (48, .sl 2 (List.map a_Term x38.Facts)), (49, .junk), (50, .junk), (51, .ow 7052)], [(11, .box [.snil, .snil, .snil, .snil]), (412, .arr ⟨false, true⟩ 2 184 (List.map a_Term j0.1)), (812, .arr ⟨false, true⟩ 2 184 (List.map a_Term j0.2)), (892, .arr ⟨false, false⟩ 2 40 (List.map a_Instr (([] : List Instr) ++ p0.Code))), (1452, .box [.ow 412, .ow 812, .ow 892, .ow 70005]), (7052, .arr ⟨false, true⟩ 2 81 (List.map a_Point [(Point.mk x38.At r49)])), (70005, .arr ⟨false, true⟩ 2 81 (List.map a_Point s0.1))]⟩ ?_ (fun hS5371_15 => ?_)
        · refine TZ_pure 1 (by kernel_rfl) rfl rfl rfl rfl rfl (op_load_one ag67 rfl rfl) ?_
          refine TZ_one 21 (by kernel_rfl) rfl ?_
          refine TL_appendDT (f := a_Point) (a := s0.1) (b := [(Point.mk x38.At r49)]) el67 z81 rfl rfl rfl rfl rfl rfl rfl rfl (by rw [hF]; rfl) (capI_spec hq52) rfl rfl rfl rfl rfl ?_
          refine TL_nil ?_
          refine TZ_pure 22 (by kernel_rfl) rfl rfl rfl rfl rfl (op_fieldAddr fa69_3 rfl rfl) ?_
          refine TZ_one 23 (by kernel_rfl) rfl ?_
          refine TL_store_box sz67 rfl rfl rfl rfl rfl rfl rfl rfl rfl ?_
          refine TL_nil ?_
          refine TZ_done (by kernel_rfl) ?_
          refine T_region ?_
          refine TL_pure rfl rfl rfl rfl (op_move rfl) ?_
          refine TL_pure rfl rfl rfl rfl (op_addW rfl rfl) ?_
          refine TL_pure rfl rfl rfl rfl (op_assign rfl) ?_
          refine TL_nil ?_
          refine TR_keepH [0, 2, 3, 4] [11, 412, 812, 892, 1452, 70005] rfl rfl rfl rfl (by rw [hF]; rfl) ?_
          obtain rfl := someI hm
          have hn := CtlOK_next hc0
          exact hn _ rfl
        refine TZ_cut 6 [true, false, true, true, true, true, true, true, true, true, true, true, true, true, true, true, true, true, true, false, false, false, false, false] ⟨[(0, .cp [.sl 2 (List.map a_Term p0.Pre), .sl 2 (List.map a_Term p0.Post), .sl 2 (List.map a_Instr p0.Code), .sl 2 (List.map a_Point p0.Points)]), (2, .ptr 11 0 0), (3, .ptr 1452 0 0), (4, .int .i64 s0.2), (22, .int .i64 s0.2), (23, .cp [.sl 2 (List.map a_Term p0.Pre), .sl 2 (List.map a_Term p0.Post), .sl 2 (List.map a_Instr p0.Code), .sl 2 (List.map a_Point p0.Points)]), (24, .cp [.sl 2 (List.map a_Term p0.Pre), .sl 2 (List.map a_Term p0.Post), .sl 2 (List.map a_Instr p0.Code), .sl 2 (List.map a_Point p0.Points)]), (25, .cp [.sl 2 (List.map a_Point p0.Points)]), (26, .sl 2 (List.map a_Point p0.Points)), (27, .int .i64 (p0.Points.length : Int)), (28, .bool (decide (s0.2 < (p0.Points.length : Int)))), (31, .ptr 1452 0 3), (33, .cp [.sl 2 (List.map a_Term p0.Pre), .sl 2 (List.map a_Term p0.Post), .sl 2 (List.map a_Instr p0.Code), .sl 2 (List.map a_Point p0.Points)]), (34, .cp [.sl 2 (List.map a_Term p0.Pre), .sl 2 (List.map a_Term p0.Post), .sl 2 (List.map a_Instr p0.Code), .sl 2 (List.map a_Point p0.Points)]), (35, .cp [.sl 2 (List.map a_Point p0.Points)]), (36, .sl 2 (List.map a_Point p0.Points)), (37, .int .i64 s0.2), (38, .cp [.int .i64 x38.At, .sl 2 (List.map a_Term x38.Facts)]), (39, .cp [.int .i64 x38.At]), (40, .int .i64 x38.At), (41, .cp [.sl 2 (List.map a_Term p0.Pre), .sl 2 (List.map a_Term p0.Post), .sl 2 (List.map a_Instr p0.Code), .sl 2 (List.map a_Point p0.Points)]), (42, .cp [.sl 2 (List.map a_Term p0.Pre), .sl 2 (List.map a_Term p0.Post), .sl 2 (List.map a_Instr p0.Code), .sl 2 (List.map a_Point p0.Points)]), (43, .cp [.sl 2 (List.map a_Point p0.Points)]), (44, .sl 2 (List.map a_Point p0.Points)), (45, .int .i64 s0.2), (46, .cp [.int .i64 x38.At, .sl 2 (List.map a_Term x38.Facts)]), (47, .cp [.sl 2 (List.map a_Term x38.Facts)]), (48, .sl 2 (List.map a_Term x38.Facts)), (49, .ow 6892)], [(11, .box [.snil, .snil, .snil, .snil]), (412, .arr ⟨false, true⟩ 2 184 (List.map a_Term j0.1)), (812, .arr ⟨false, true⟩ 2 184 (List.map a_Term j0.2)), (892, .arr ⟨false, false⟩ 2 40 (List.map a_Instr (([] : List Instr) ++ p0.Code))), (1452, .box [.ow 412, .ow 812, .ow 892, .ow 70005]), (6892, .arr ⟨false, true⟩ 2 184 (List.map a_Term r49)), (70005, .arr ⟨false, true⟩ 2 81 (List.map a_Point s0.1))]⟩ ?_ (fun hS5371_16 => ?_)
        · refine TZ_pure 19 (by kernel_rfl) rfl rfl rfl rfl rfl (op_buildP pl81 z81 rfl rfl rfl rfl rfl) ?_
          refine TZ_each [1, 20] (by kernel_rfl) rfl ?_
          refine ⟨?_, ?_⟩
          · refine ⟨_, rfl, ?_⟩
            refine TL_pure rfl rfl rfl rfl (op_load_one ag67 rfl rfl) ?_
            refine TL_nil ?_
            refine TZ_keepH [0, 2, 3, 4, 22, 23, 24, 25, 26, 27, 28, 31, 32, 33, 34, 35, 36, 37, 38, 39, 40, 41, 42, 43, 44, 45, 46, 47, 48, 49, 50] [11, 412, 812, 892, 1452, 6892, 70005] rfl rfl rfl rfl (by rw [hF]; rfl) ?_
            exact hS5371_14
          · refine ⟨_, rfl, ?_⟩
            refine TL_buildSliceD (ids := [6892]) (es := List.map a_Point [(Point.mk x38.At r49)]) 7052 el67 z81 rfl rfl rfl rfl rfl rfl (by rw [hF]; intro j hj; simp only [List.mem_cons, List.not_mem_nil, or_false] at hj; rcases hj with rfl <;> rfl) rfl rfl rfl rfl rfl rfl ?_
            refine TL_nil ?_
            refine TZ_keepH [0, 2, 3, 4, 22, 23, 24, 25, 26, 27, 28, 31, 33, 34, 35, 36, 37, 38, 39, 40, 41, 42, 43, 44, 45, 46, 47, 48, 49, 50, 51] [11, 412, 812, 892, 1452, 7052, 70005] rfl rfl rfl rfl (by rw [hF]; rfl) ?_
            exact hS5371_15
        refine TZ_cut 7 [true, false, true, true, true, true, true, true, true, true, true, true, true, true, true, true, true, true, false, false, false, false, false, false] ⟨[(0, .cp [.sl 2 (List.map a_Term p0.Pre), .sl 2 (List.map a_Term p0.Post), .sl 2 (List.map a_Instr p0.Code), .sl 2 (List.map a_Point p0.Points)]), (2, .ptr 11 0 0), (3, .ptr 1452 0 0), (4, .int .i64 s0.2), (22, .int .i64 s0.2), (23, .cp [.sl 2 (List.map a_Term p0.Pre), .sl 2 (List.map a_Term p0.Post), .sl 2 (List.map a_Instr p0.Code), .sl 2 (List.map a_Point p0.Points)]), (24, .cp [.sl 2 (List.map a_Term p0.Pre), .sl 2 (List.map a_Term p0.Post), .sl 2 (List.map a_Instr p0.Code), .sl 2 (List.map a_Point p0.Points)]), (25, .cp [.sl 2 (List.map a_Point p0.Points)]), (26, .sl 2 (List.map a_Point p0.Points)), (27, .int .i64 (p0.Points.length : Int)), (28, .bool (decide (s0.2 < (p0.Points.length : Int)))), (31, .ptr 1452 0 3), (33, .cp [.sl 2 (List.map a_Term p0.Pre), .sl 2 (List.map a_Term p0.Post), .sl 2 (List.map a_Instr p0.Code), .sl 2 (List.map a_Point p0.Points)]), (34, .cp [.sl 2 (List.map a_Term p0.Pre), .sl 2 (List.map a_Term p0.Post), .sl 2 (List.map a_Instr p0.Code), .sl 2 (List.map a_Point p0.Points)]), (35, .cp [.sl 2 (List.map a_Point p0.Points)]), (36, .sl 2 (List.map a_Point p0.Points)), (37, .int .i64 s0.2), (38, .cp [.int .i64 x38.At, .sl 2 (List.map a_Term x38.Facts)]), (39, .cp [.int .i64 x38.At]), (40, .int .i64 x38.At), (41, .cp [.sl 2 (List.map a_Term p0.Pre), .sl 2 (List.map a_Term p0.Post), .sl 2 (List.map a_Instr p0.Code), .sl 2 (List.map a_Point p0.Points)]), (42, .cp [.sl 2 (List.map a_Term p0.Pre), .sl 2 (List.map a_Term p0.Post), .sl 2 (List.map a_Instr p0.Code), .sl 2 (List.map a_Point p0.Points)]), (43, .cp [.sl 2 (List.map a_Point p0.Points)]), (44, .sl 2 (List.map a_Point p0.Points)), (45, .int .i64 s0.2), (46, .cp [.int .i64 x38.At, .sl 2 (List.map a_Term x38.Facts)]), (47, .cp [.sl 2 (List.map a_Term x38.Facts)]), (48, .sl 2 (List.map a_Term x38.Facts))], [(11, .box [.snil, .snil, .snil, .snil]), (412, .arr ⟨false, true⟩ 2 184 (List.map a_Term j0.1)), (812, .arr ⟨false, true⟩ 2 184 (List.map a_Term j0.2)), (892, .arr ⟨false, false⟩ 2 40 (List.map a_Instr (([] : List Instr) ++ p0.Code))), (1452, .box [.ow 412, .ow 812, .ow 892, .ow 70005]), (70005, .arr ⟨false, true⟩ 2 81 (List.map a_Point s0.1))]⟩ ?_ (fun hS5371_17 => ?_)
        · refine TZ_each [1, 18] (by kernel_rfl) rfl ?_
          refine ⟨?_, ?_⟩
          · refine ⟨_, rfl, ?_⟩
            refine TL_pure rfl rfl rfl rfl (op_load_one ag67 rfl rfl) ?_
            refine TL_nil ?_
            refine TZ_keepH [0, 2, 3, 4, 22, 23, 24, 25, 26, 27, 28, 31, 32, 33, 34, 35, 36, 37, 38, 39, 40, 41, 42, 43, 44, 45, 46, 47, 48] [11, 412, 812, 892, 1452, 70005] rfl rfl rfl rfl (by rw [hF]; rfl) ?_
            exact hS5371_2
          · refine ⟨_, rfl, ?_⟩
            refine TL_callO [(1000, 6892)] (ACall.F (F := F) (c_spec_l02OwnAll x38.Facts r49 hr49)) Try.call104 rfl rfl rfl rfl rfl rfl rfl rfl rfl rfl rfl rfl rfl ?_
            refine TL_nil ?_
            refine TZ_keepH [0, 2, 3, 4, 22, 23, 24, 25, 26, 27, 28, 31, 33, 34, 35, 36, 37, 38, 39, 40, 41, 42, 43, 44, 45, 46, 47, 48, 49] [11, 412, 812, 892, 1452, 6892, 70005] rfl rfl rfl rfl (by rw [hF]; rfl) ?_
            exact hS5371_16
        refine TZ_cut 10 [true, false, true, true, true, true, true, true, true, true, true, true, true, true, true, false, false, false, false, false, false, false, false, false] ⟨[(0, .cp [.sl 2 (List.map a_Term p0.Pre), .sl 2 (List.map a_Term p0.Post), .sl 2 (List.map a_Instr p0.Code), .sl 2 (List.map a_Point p0.Points)]), (2, .ptr 11 0 0), (3, .ptr 1452 0 0), (4, .int .i64 s0.2), (22, .int .i64 s0.2), (23, .cp [.sl 2 (List.map a_Term p0.Pre), .sl 2 (List.map a_Term p0.Post), .sl 2 (List.map a_Instr p0.Code), .sl 2 (List.map a_Point p0.Points)]), (24, .cp [.sl 2 (List.map a_Term p0.Pre), .sl 2 (List.map a_Term p0.Post), .sl 2 (List.map a_Instr p0.Code), .sl 2 (List.map a_Point p0.Points)]), (25, .cp [.sl 2 (List.map a_Point p0.Points)]), (26, .sl 2 (List.map a_Point p0.Points)), (27, .int .i64 (p0.Points.length : Int)), (28, .bool (decide (s0.2 < (p0.Points.length : Int)))), (31, .ptr 1452 0 3), (33, .cp [.sl 2 (List.map a_Term p0.Pre), .sl 2 (List.map a_Term p0.Post), .sl 2 (List.map a_Instr p0.Code), .sl 2 (List.map a_Point p0.Points)]), (34, .cp [.sl 2 (List.map a_Term p0.Pre), .sl 2 (List.map a_Term p0.Post), .sl 2 (List.map a_Instr p0.Code), .sl 2 (List.map a_Point p0.Points)]), (35, .cp [.sl 2 (List.map a_Point p0.Points)]), (36, .sl 2 (List.map a_Point p0.Points)), (37, .int .i64 s0.2), (38, .cp [.int .i64 x38.At, .sl 2 (List.map a_Term x38.Facts)]), (39, .cp [.int .i64 x38.At]), (40, .int .i64 x38.At), (41, .cp [.sl 2 (List.map a_Term p0.Pre), .sl 2 (List.map a_Term p0.Post), .sl 2 (List.map a_Instr p0.Code), .sl 2 (List.map a_Point p0.Points)]), (42, .cp [.sl 2 (List.map a_Term p0.Pre), .sl 2 (List.map a_Term p0.Post), .sl 2 (List.map a_Instr p0.Code), .sl 2 (List.map a_Point p0.Points)]), (43, .cp [.sl 2 (List.map a_Point p0.Points)]), (44, .sl 2 (List.map a_Point p0.Points)), (45, .int .i64 s0.2)], [(11, .box [.snil, .snil, .snil, .snil]), (412, .arr ⟨false, true⟩ 2 184 (List.map a_Term j0.1)), (812, .arr ⟨false, true⟩ 2 184 (List.map a_Term j0.2)), (892, .arr ⟨false, false⟩ 2 40 (List.map a_Instr (([] : List Instr) ++ p0.Code))), (1452, .box [.ow 412, .ow 812, .ow 892, .ow 70005]), (70005, .arr ⟨false, true⟩ 2 81 (List.map a_Point s0.1))]⟩ ?_ (fun hS5371_18 => ?_)
        · refine TZ_pure 15 (by kernel_rfl) rfl rfl rfl rfl rfl (op_indexT el67 rfl rfl hx38 rfl) ?_
          refine TZ_pure 16 (by kernel_rfl) rfl rfl rfl rfl rfl (op_fieldAddr fa81_1 rfl rfl) ?_
          refine TZ_each [1, 17] (by kernel_rfl) rfl ?_
          refine ⟨?_, ?_⟩
          · refine ⟨_, rfl, ?_⟩
            refine TL_pure rfl rfl rfl rfl (op_load_one ag67 rfl rfl) ?_
            refine TL_nil ?_
            refine TZ_keepH [0, 2, 3, 4, 22, 23, 24, 25, 26, 27, 28, 31, 32, 33, 34, 35, 36, 37, 38, 39, 40, 41, 42, 43, 44, 45, 46, 47] [11, 412, 812, 892, 1452, 70005] rfl rfl rfl rfl (by rw [hF]; rfl) ?_
            exact hS5371_1
          · refine ⟨_, rfl, ?_⟩
            refine TL_pure rfl rfl rfl rfl (op_load_one ag66 rfl rfl) ?_
            refine TL_nil ?_
            refine TZ_keepH [0, 2, 3, 4, 22, 23, 24, 25, 26, 27, 28, 31, 33, 34, 35, 36, 37, 38, 39, 40, 41, 42, 43, 44, 45, 46, 47, 48] [11, 412, 812, 892, 1452, 70005] rfl rfl rfl rfl (by rw [hF]; rfl) ?_
            exact hS5371_17
        refine TZ_cut 11 [true, false, true, true, true, true, true, true, true, true, true, true, true, false, true, false, false, false, false, false, false, false, false, false] ⟨[(0, .cp [.sl 2 (List.map a_Term p0.Pre), .sl 2 (List.map a_Term p0.Post), .sl 2 (List.map a_Instr p0.Code), .sl 2 (List.map a_Point p0.Points)]), (2, .ptr 11 0 0), (3, .ptr 1452 0 0), (4, .int .i64 s0.2), (22, .int .i64 s0.2), (23, .cp [.sl 2 (List.map a_Term p0.Pre), .sl 2 (List.map a_Term p0.Post), .sl 2 (List.map a_Instr p0.Code), .sl 2 (List.map a_Point p0.Points)]), (24, .cp [.sl 2 (List.map a_Term p0.Pre), .sl 2 (List.map a_Term p0.Post), .sl 2 (List.map a_Instr p0.Code), .sl 2 (List.map a_Point p0.Points)]), (25, .cp [.sl 2 (List.map a_Point p0.Points)]), (26, .sl 2 (List.map a_Point p0.Points)), (27, .int .i64 (p0.Points.length : Int)), (28, .bool (decide (s0.2 < (p0.Points.length : Int)))), (31, .ptr 1452 0 3), (33, .cp [.sl 2 (List.map a_Term p0.Pre), .sl 2 (List.map a_Term p0.Post), .sl 2 (List.map a_Instr p0.Code), .sl 2 (List.map a_Point p0.Points)]), (34, .cp [.sl 2 (List.map a_Term p0.Pre), .sl 2 (List.map a_Term p0.Post), .sl 2 (List.map a_Instr p0.Code), .sl 2 (List.map a_Point p0.Points)]), (35, .cp [.sl 2 (List.map a_Point p0.Points)]), (36, .sl 2 (List.map a_Point p0.Points)), (37, .int .i64 s0.2), (38, .cp [.int .i64 x38.At, .sl 2 (List.map a_Term x38.Facts)]), (39, .cp [.int .i64 x38.At]), (40, .int .i64 x38.At), (41, .cp [.sl 2 (List.map a_Term p0.Pre), .sl 2 (List.map a_Term p0.Post), .sl 2 (List.map a_Instr p0.Code), .sl 2 (List.map a_Point p0.Points)]), (42, .cp [.sl 2 (List.map a_Term p0.Pre), .sl 2 (List.map a_Term p0.Post), .sl 2 (List.map a_Instr p0.Code), .sl 2 (List.map a_Point p0.Points)]), (43, .cp [.sl 2 (List.map a_Point p0.Points)]), (45, .int .i64 s0.2)], [(11, .box [.snil, .snil, .snil, .snil]), (412, .arr ⟨false, true⟩ 2 184 (List.map a_Term j0.1)), (812, .arr ⟨false, true⟩ 2 184 (List.map a_Term j0.2)), (892, .arr ⟨false, false⟩ 2 40 (List.map a_Instr (([] : List Instr) ++ p0.Code))), (1452, .box [.ow 412, .ow 812, .ow 892, .ow 70005]), (70005, .arr ⟨false, true⟩ 2 81 (List.map a_Point s0.1))]⟩ ?_ (fun hS5371_19 => ?_)
        · refine TZ_each [1, 13] (by kernel_rfl) rfl ?_
          refine ⟨?_, ?_⟩
          · refine ⟨_, rfl, ?_⟩
            refine TL_pure rfl rfl rfl rfl (op_load_one ag67 rfl rfl) ?_
            refine TL_nil ?_
            refine TZ_keepH [0, 2, 3, 4, 22, 23, 24, 25, 26, 27, 28, 31, 32, 33, 34, 35, 36, 37, 38, 39, 40, 41, 42, 43, 45] [11, 412, 812, 892, 1452, 70005] rfl rfl rfl rfl (by rw [hF]; rfl) ?_
            exact hS5371_0
          · refine ⟨_, rfl, ?_⟩
            refine TL_pure rfl rfl rfl rfl (op_load_one ag67 rfl rfl) ?_
            refine TL_nil ?_
            refine TZ_keepH [0, 2, 3, 4, 22, 23, 24, 25, 26, 27, 28, 31, 33, 34, 35, 36, 37, 38, 39, 40, 41, 42, 43, 44, 45] [11, 412, 812, 892, 1452, 70005] rfl rfl rfl rfl (by rw [hF]; rfl) ?_
            exact hS5371_18
        refine TZ_cut 8 [true, true, true, true, true, true, true, true, true, false, true, true, true, true, true, true, true, false, false, false, false, false, false, false] ⟨[(0, .cp [.sl 2 (List.map a_Term p0.Pre), .sl 2 (List.map a_Term p0.Post), .sl 2 (List.map a_Instr p0.Code), .sl 2 (List.map a_Point p0.Points)]), (2, .ptr 11 0 0), (3, .ptr 1452 0 0), (4, .int .i64 s0.2), (22, .int .i64 s0.2), (23, .cp [.sl 2 (List.map a_Term p0.Pre), .sl 2 (List.map a_Term p0.Post), .sl 2 (List.map a_Instr p0.Code), .sl 2 (List.map a_Point p0.Points)]), (24, .cp [.sl 2 (List.map a_Term p0.Pre), .sl 2 (List.map a_Term p0.Post), .sl 2 (List.map a_Instr p0.Code), .sl 2 (List.map a_Point p0.Points)]), (25, .cp [.sl 2 (List.map a_Point p0.Points)]), (26, .sl 2 (List.map a_Point p0.Points)), (27, .int .i64 (p0.Points.length : Int)), (28, .bool (decide (s0.2 < (p0.Points.length : Int)))), (31, .ptr 1452 0 3), (32, .ow 70005), (33, .cp [.sl 2 (List.map a_Term p0.Pre), .sl 2 (List.map a_Term p0.Post), .sl 2 (List.map a_Instr p0.Code), .sl 2 (List.map a_Point p0.Points)]), (34, .cp [.sl 2 (List.map a_Term p0.Pre), .sl 2 (List.map a_Term p0.Post), .sl 2 (List.map a_Instr p0.Code), .sl 2 (List.map a_Point p0.Points)]), (35, .cp [.sl 2 (List.map a_Point p0.Points)]), (36, .sl 2 (List.map a_Point p0.Points)), (37, .int .i64 s0.2), (38, .cp [.int .i64 x38.At, .sl 2 (List.map a_Term x38.Facts)]), (39, .cp [.int .i64 x38.At]), (41, .cp [.sl 2 (List.map a_Term p0.Pre), .sl 2 (List.map a_Term p0.Post), .sl 2 (List.map a_Instr p0.Code), .sl 2 (List.map a_Point p0.Points)]), (42, .cp [.sl 2 (List.map a_Term p0.Pre), .sl 2 (List.map a_Term p0.Post), .sl 2 (List.map a_Instr p0.Code), .sl 2 (List.map a_Point p0.Points)]), (43, .cp [.sl 2 (List.map a_Point p0.Points)]), (44, .sl 2 (List.map a_Point p0.Points)), (45, .int .i64 s0.2), (46, .cp [.int .i64 x38.At, .sl 2 (List.map a_Term x38.Facts)]), (47, .cp [.sl 2 (List.map a_Term x38.Facts)])], [(11, .box [.snil, .snil, .snil, .snil]), (412, .arr ⟨false, true⟩ 2 184 (List.map a_Term j0.1)), (812, .arr ⟨false, true⟩ 2 184 (List.map a_Term j0.2)), (892, .arr ⟨false, false⟩ 2 40 (List.map a_Instr (([] : List Instr) ++ p0.Code))), (1452, .box [.ow 412, .ow 812, .ow 892, .ow 70005]), (70005, .arr ⟨false, true⟩ 2 81 (List.map a_Point s0.1))]⟩ ?_ (fun hS5371_20 => ?_)
        · refine TZ_each [9, 17] (by kernel_rfl) rfl ?_
          refine ⟨?_, ?_⟩
          · refine ⟨_, rfl, ?_⟩
            refine TL_pure rfl rfl rfl rfl (op_load_one ag2 rfl rfl) ?_
            refine TL_nil ?_
            refine TZ_keepH [0, 2, 3, 4, 22, 23, 24, 25, 26, 27, 28, 31, 32, 33, 34, 35, 36, 37, 38, 39, 40, 41, 42, 43, 44, 45, 46, 47] [11, 412, 812, 892, 1452, 70005] rfl rfl rfl rfl (by rw [hF]; rfl) ?_
            exact hS5371_1
          · refine ⟨_, rfl, ?_⟩
            refine TL_pure rfl rfl rfl rfl (op_load_one ag66 rfl rfl) ?_
            refine TL_nil ?_
            refine TZ_keepH [0, 2, 3, 4, 22, 23, 24, 25, 26, 27, 28, 31, 32, 33, 34, 35, 36, 37, 38, 39, 41, 42, 43, 44, 45, 46, 47, 48] [11, 412, 812, 892, 1452, 70005] rfl rfl rfl rfl (by rw [hF]; rfl) ?_
            exact hS5371_4
        refine TZ_cut 8 [true, false, true, true, true, true, true, true, true, true, true, true, true, true, true, true, true, false, false, false, false, false, false, false] ⟨[(0, .cp [.sl 2 (List.map a_Term p0.Pre), .sl 2 (List.map a_Term p0.Post), .sl 2 (List.map a_Instr p0.Code), .sl 2 (List.map a_Point p0.Points)]), (2, .ptr 11 0 0), (3, .ptr 1452 0 0), (4, .int .i64 s0.2), (22, .int .i64 s0.2), (23, .cp [.sl 2 (List.map a_Term p0.Pre), .sl 2 (List.map a_Term p0.Post), .sl 2 (List.map a_Instr p0.Code), .sl 2 (List.map a_Point p0.Points)]), (24, .cp [.sl 2 (List.map a_Term p0.Pre), .sl 2 (List.map a_Term p0.Post), .sl 2 (List.map a_Instr p0.Code), .sl 2 (List.map a_Point p0.Points)]), (25, .cp [.sl 2 (List.map a_Point p0.Points)]), (26, .sl 2 (List.map a_Point p0.Points)), (27, .int .i64 (p0.Points.length : Int)), (28, .bool (decide (s0.2 < (p0.Points.length : Int)))), (31, .ptr 1452 0 3), (33, .cp [.sl 2 (List.map a_Term p0.Pre), .sl 2 (List.map a_Term p0.Post), .sl 2 (List.map a_Instr p0.Code), .sl 2 (List.map a_Point p0.Points)]), (34, .cp [.sl 2 (List.map a_Term p0.Pre), .sl 2 (List.map a_Term p0.Post), .sl 2 (List.map a_Instr p0.Code), .sl 2 (List.map a_Point p0.Points)]), (35, .cp [.sl 2 (List.map a_Point p0.Points)]), (36, .sl 2 (List.map a_Point p0.Points)), (37, .int .i64 s0.2), (38, .cp [.int .i64 x38.At, .sl 2 (List.map a_Term x38.Facts)]), (39, .cp [.int .i64 x38.At]), (40, .int .i64 x38.At), (41, .cp [.sl 2 (List.map a_Term p0.Pre), .sl 2 (List.map a_Term p0.Post), .sl 2 (List.map a_Instr p0.Code), .sl 2 (List.map a_Point p0.Points)]), (42, .cp [.sl 2 (List.map a_Term p0.Pre), .sl 2 (List.map a_Term p0.Post), .sl 2 (List.map a_Instr p0.Code), .sl 2 (List.map a_Point p0.Points)]), (43, .cp [.sl 2 (List.map a_Point p0.Points)]), (44, .sl 2 (List.map a_Point p0.Points)), (45, .int .i64 s0.2), (46, .cp [.int .i64 x38.At, .sl 2 (List.map a_Term x38.Facts)]), (47, .cp [.sl 2 (List.map a_Term x38.Facts)])], [(11, .box [.snil, .snil, .snil, .snil]), (412, .arr ⟨false, true⟩ 2 184 (List.map a_Term j0.1)), (812, .arr ⟨false, true⟩ 2 184 (List.map a_Term j0.2)), (892, .arr ⟨false, false⟩ 2 40 (List.map a_Instr (([] : List Instr) ++ p0.Code))), (1452, .box [.ow 412, .ow 812, .ow 892, .ow 70005]), (70005, .arr ⟨false, true⟩ 2 81 (List.map a_Point s0.1))]⟩ ?_ (fun hS5371_21 => ?_)
        · refine TZ_each [1, 17] (by kernel_rfl) rfl ?_
          refine ⟨?_, ?_⟩
          · refine ⟨_, rfl, ?_⟩
            refine TL_pure rfl rfl rfl rfl (op_load_one ag67 rfl rfl) ?_
            refine TL_nil ?_
            refine TZ_keepH [0, 2, 3, 4, 22, 23, 24, 25, 26, 27, 28, 31, 32, 33, 34, 35, 36, 37, 38, 39, 40, 41, 42, 43, 44, 45, 46, 47] [11, 412, 812, 892, 1452, 70005] rfl rfl rfl rfl (by rw [hF]; rfl) ?_
            exact hS5371_1
          · refine ⟨_, rfl, ?_⟩
            refine TL_pure rfl rfl rfl rfl (op_load_one ag66 rfl rfl) ?_
            refine TL_nil ?_
            refine TZ_keepH [0, 2, 3, 4, 22, 23, 24, 25, 26, 27, 28, 31, 33, 34, 35, 36, 37, 38, 39, 40, 41, 42, 43, 44, 45, 46, 47, 48] [11, 412, 812, 892, 1452, 70005] rfl rfl rfl rfl (by rw [hF]; rfl) ?_
            exact hS5371_17
        refine TZ_cut 7 [true, false, true, true, true, true, true, true, true, false, true, true, true, true, true, true, true, true, true, false, false, false, false, false] ⟨[(0, .cp [.sl 2 (List.map a_Term p0.Pre), .sl 2 (List.map a_Term p0.Post), .sl 2 (List.map a_Instr p0.Code), .sl 2 (List.map a_Point p0.Points)]), (2, .ptr 11 0 0), (3, .ptr 1452 0 0), (4, .int .i64 s0.2), (22, .int .i64 s0.2), (23, .cp [.sl 2 (List.map a_Term p0.Pre), .sl 2 (List.map a_Term p0.Post), .sl 2 (List.map a_Instr p0.Code), .sl 2 (List.map a_Point p0.Points)]), (24, .cp [.sl 2 (List.map a_Term p0.Pre), .sl 2 (List.map a_Term p0.Post), .sl 2 (List.map a_Instr p0.Code), .sl 2 (List.map a_Point p0.Points)]), (25, .cp [.sl 2 (List.map a_Point p0.Points)]), (26, .sl 2 (List.map a_Point p0.Points)), (27, .int .i64 (p0.Points.length : Int)), (28, .bool (decide (s0.2 < (p0.Points.length : Int)))), (31, .ptr 1452 0 3), (33, .cp [.sl 2 (List.map a_Term p0.Pre), .sl 2 (List.map a_Term p0.Post), .sl 2 (List.map a_Instr p0.Code), .sl 2 (List.map a_Point p0.Points)]), (34, .cp [.sl 2 (List.map a_Term p0.Pre), .sl 2 (List.map a_Term p0.Post), .sl 2 (List.map a_Instr p0.Code), .sl 2 (List.map a_Point p0.Points)]), (35, .cp [.sl 2 (List.map a_Point p0.Points)]), (36, .sl 2 (List.map a_Point p0.Points)), (37, .int .i64 s0.2), (38, .cp [.int .i64 x38.At, .sl 2 (List.map a_Term x38.Facts)]), (39, .cp [.int .i64 x38.At]), (41, .cp [.sl 2 (List.map a_Term p0.Pre), .sl 2 (List.map a_Term p0.Post), .sl 2 (List.map a_Instr p0.Code), .sl 2 (List.map a_Point p0.Points)]), (42, .cp [.sl 2 (List.map a_Term p0.Pre), .sl 2 (List.map a_Term p0.Post), .sl 2 (List.map a_Instr p0.Code), .sl 2 (List.map a_Point p0.Points)]), (43, .cp [.sl 2 (List.map a_Point p0.Points)]), (44, .sl 2 (List.map a_Point p0.Points)), (45, .int .i64 s0.2), (46, .cp [.int .i64 x38.At, .sl 2 (List.map a_Term x38.Facts)]), (47, .cp [.sl 2 (List.map a_Term x38.Facts)]), (48, .sl 2 (List.map a_Term x38.Facts)), (49, .ow 6892)], [(11, .box [.snil, .snil, .snil, .snil]), (412, .arr ⟨false, true⟩ 2 184 (List.map a_Term j0.1)), (812, .arr ⟨false, true⟩ 2 184 (List.map a_Term j0.2)), (892, .arr ⟨false, false⟩ 2 40 (List.map a_Instr (([] : List Instr) ++ p0.Code))), (1452, .box [.ow 412, .ow 812, .ow 892, .ow 70005]), (6892, .arr ⟨false, true⟩ 2 184 (List.map a_Term r49)), (70005, .arr ⟨false, true⟩ 2 81 (List.map a_Point s0.1))]⟩ ?_ (fun hS5371_22 => ?_)
        · refine TZ_each [1, 9] (by kernel_rfl) rfl ?_
          refine ⟨?_, ?_⟩
          · refine ⟨_, rfl, ?_⟩
            refine TL_pure rfl rfl rfl rfl (op_load_one ag67 rfl rfl) ?_
            refine TL_nil ?_
            refine TZ_keepH [0, 2, 3, 4, 22, 23, 24, 25, 26, 27, 28, 31, 32, 33, 34, 35, 36, 37, 38, 39, 41, 42, 43, 44, 45, 46, 47, 48, 49] [11, 412, 812, 892, 1452, 6892, 70005] rfl rfl rfl rfl (by rw [hF]; rfl) ?_
            exact hS5371_3
          · refine ⟨_, rfl, ?_⟩
            refine TL_pure rfl rfl rfl rfl (op_load_one ag2 rfl rfl) ?_
            refine TL_nil ?_
            refine TZ_keepH [0, 2, 3, 4, 22, 23, 24, 25, 26, 27, 28, 31, 33, 34, 35, 36, 37, 38, 39, 40, 41, 42, 43, 44, 45, 46, 47, 48, 49] [11, 412, 812, 892, 1452, 6892, 70005] rfl rfl rfl rfl (by rw [hF]; rfl) ?_
            exact hS5371_16
        refine TZ_cut 8 [true, false, true, true, true, true, true, true, true, false, true, true, true, true, true, true, true, true, false, false, false, false, false, false] ⟨[(0, .cp [.sl 2 (List.map a_Term p0.Pre), .sl 2 (List.map a_Term p0.Post), .sl 2 (List.map a_Instr p0.Code), .sl 2 (List.map a_Point p0.Points)]), (2, .ptr 11 0 0), (3, .ptr 1452 0 0), (4, .int .i64 s0.2), (22, .int .i64 s0.2), (23, .cp [.sl 2 (List.map a_Term p0.Pre), .sl 2 (List.map a_Term p0.Post), .sl 2 (List.map a_Instr p0.Code), .sl 2 (List.map a_Point p0.Points)]), (24, .cp [.sl 2 (List.map a_Term p0.Pre), .sl 2 (List.map a_Term p0.Post), .sl 2 (List.map a_Instr p0.Code), .sl 2 (List.map a_Point p0.Points)]), (25, .cp [.sl 2 (List.map a_Point p0.Points)]), (26, .sl 2 (List.map a_Point p0.Points)), (27, .int .i64 (p0.Points.length : Int)), (28, .bool (decide (s0.2 < (p0.Points.length : Int)))), (31, .ptr 1452 0 3), (33, .cp [.sl 2 (List.map a_Term p0.Pre), .sl 2 (List.map a_Term p0.Post), .sl 2 (List.map a_Instr p0.Code), .sl 2 (List.map a_Point p0.Points)]), (34, .cp [.sl 2 (List.map a_Term p0.Pre), .sl 2 (List.map a_Term p0.Post), .sl 2 (List.map a_Instr p0.Code), .sl 2 (List.map a_Point p0.Points)]), (35, .cp [.sl 2 (List.map a_Point p0.Points)]), (36, .sl 2 (List.map a_Point p0.Points)), (37, .int .i64 s0.2), (38, .cp [.int .i64 x38.At, .sl 2 (List.map a_Term x38.Facts)]), (39, .cp [.int .i64 x38.At]), (41, .cp [.sl 2 (List.map a_Term p0.Pre), .sl 2 (List.map a_Term p0.Post), .sl 2 (List.map a_Instr p0.Code), .sl 2 (List.map a_Point p0.Points)]), (42, .cp [.sl 2 (List.map a_Term p0.Pre), .sl 2 (List.map a_Term p0.Post), .sl 2 (List.map a_Instr p0.Code), .sl 2 (List.map a_Point p0.Points)]), (43, .cp [.sl 2 (List.map a_Point p0.Points)]), (44, .sl 2 (List.map a_Point p0.Points)), (45, .int .i64 s0.2), (46, .cp [.int .i64 x38.At, .sl 2 (List.map a_Term x38.Facts)]), (47, .cp [.sl 2 (List.map a_Term x38.Facts)]), (48, .sl 2 (List.map a_Term x38.Facts))], [(11, .box [.snil, .snil, .snil, .snil]), (412, .arr ⟨false, true⟩ 2 184 (List.map a_Term j0.1)), (812, .arr ⟨false, true⟩ 2 184 (List.map a_Term j0.2)), (892, .arr ⟨false, false⟩ 2 40 (List.map a_Instr (([] : List Instr) ++ p0.Code))), (1452, .box [.ow 412, .ow 812, .ow 892, .ow 70005]), (70005, .arr ⟨false, true⟩ 2 81 (List.map a_Point s0.1))]⟩ ?_ (fun hS5371_23 => ?_)
        · refine TZ_each [1, 9, 18] (by kernel_rfl) rfl ?_
          refine ⟨?_, ?_, ?_⟩
          · refine ⟨_, rfl, ?_⟩
            refine TL_pure rfl rfl rfl rfl (op_load_one ag67 rfl rfl) ?_
            refine TL_nil ?_
            refine TZ_keepH [0, 2, 3, 4, 22, 23, 24, 25, 26, 27, 28, 31, 32, 33, 34, 35, 36, 37, 38, 39, 41, 42, 43, 44, 45, 46, 47, 48] [11, 412, 812, 892, 1452, 70005] rfl rfl rfl rfl (by rw [hF]; rfl) ?_
            exact hS5371_4
          · refine ⟨_, rfl, ?_⟩
            refine TL_pure rfl rfl rfl rfl (op_load_one ag2 rfl rfl) ?_
            refine TL_nil ?_
            refine TZ_keepH [0, 2, 3, 4, 22, 23, 24, 25, 26, 27, 28, 31, 33, 34, 35, 36, 37, 38, 39, 40, 41, 42, 43, 44, 45, 46, 47, 48] [11, 412, 812, 892, 1452, 70005] rfl rfl rfl rfl (by rw [hF]; rfl) ?_
            exact hS5371_17
          · refine ⟨_, rfl, ?_⟩
            refine TL_callO [(1000, 6892)] (ACall.F (F := F) (c_spec_l02OwnAll x38.Facts r49 hr49)) Try.call104 rfl rfl rfl rfl rfl rfl rfl rfl rfl rfl rfl rfl rfl ?_
            refine TL_nil ?_
            refine TZ_keepH [0, 2, 3, 4, 22, 23, 24, 25, 26, 27, 28, 31, 33, 34, 35, 36, 37, 38, 39, 41, 42, 43, 44, 45, 46, 47, 48, 49] [11, 412, 812, 892, 1452, 6892, 70005] rfl rfl rfl rfl (by rw [hF]; rfl) ?_
            exact hS5371_22
        refine TZ_cut 11 [true, false, true, true, true, true, true, true, true, false, true, true, true, true, true, false, false, false, false, false, false, false, false, false] ⟨[(0, .cp [.sl 2 (List.map a_Term p0.Pre), .sl 2 (List.map a_Term p0.Post), .sl 2 (List.map a_Instr p0.Code), .sl 2 (List.map a_Point p0.Points)]), (2, .ptr 11 0 0), (3, .ptr 1452 0 0), (4, .int .i64 s0.2), (22, .int .i64 s0.2), (23, .cp [.sl 2 (List.map a_Term p0.Pre), .sl 2 (List.map a_Term p0.Post), .sl 2 (List.map a_Instr p0.Code), .sl 2 (List.map a_Point p0.Points)]), (24, .cp [.sl 2 (List.map a_Term p0.Pre), .sl 2 (List.map a_Term p0.Post), .sl 2 (List.map a_Instr p0.Code), .sl 2 (List.map a_Point p0.Points)]), (25, .cp [.sl 2 (List.map a_Point p0.Points)]), (26, .sl 2 (List.map a_Point p0.Points)), (27, .int .i64 (p0.Points.length : Int)), (28, .bool (decide (s0.2 < (p0.Points.length : Int)))), (31, .ptr 1452 0 3), (33, .cp [.sl 2 (List.map a_Term p0.Pre), .sl 2 (List.map a_Term p0.Post), .sl 2 (List.map a_Instr p0.Code), .sl 2 (List.map a_Point p0.Points)]), (34, .cp [.sl 2 (List.map a_Term p0.Pre), .sl 2 (List.map a_Term p0.Post), .sl 2 (List.map a_Instr p0.Code), .sl 2 (List.map a_Point p0.Points)]), (35, .cp [.sl 2 (List.map a_Point p0.Points)]), (36, .sl 2 (List.map a_Point p0.Points)), (37, .int .i64 s0.2), (38, .cp [.int .i64 x38.At, .sl 2 (List.map a_Term x38.Facts)]), (39, .cp [.int .i64 x38.At]), (41, .cp [.sl 2 (List.map a_Term p0.Pre), .sl 2 (List.map a_Term p0.Post), .sl 2 (List.map a_Instr p0.Code), .sl 2 (List.map a_Point p0.Points)]), (42, .cp [.sl 2 (List.map a_Term p0.Pre), .sl 2 (List.map a_Term p0.Post), .sl 2 (List.map a_Instr p0.Code), .sl 2 (List.map a_Point p0.Points)]), (43, .cp [.sl 2 (List.map a_Point p0.Points)]), (44, .sl 2 (List.map a_Point p0.Points)), (45, .int .i64 s0.2)], [(11, .box [.snil, .snil, .snil, .snil]), (412, .arr ⟨false, true⟩ 2 184 (List.map a_Term j0.1)), (812, .arr ⟨false, true⟩ 2 184 (List.map a_Term j0.2)), (892, .arr ⟨false, false⟩ 2 40 (List.map a_Instr (([] : List Instr) ++ p0.Code))), (1452, .box [.ow 412, .ow 812, .ow 892, .ow 70005]), (70005, .arr ⟨false, true⟩ 2 81 (List.map a_Point s0.1))]⟩ ?_ (fun hS5371_24 => ?_)
        · refine TZ_pure 15 (by kernel_rfl) rfl rfl rfl rfl rfl (op_indexT el67 rfl rfl hx38 rfl) ?_
          refine TZ_pure 16 (by kernel_rfl) rfl rfl rfl rfl rfl (op_fieldAddr fa81_1 rfl rfl) ?_
          refine TZ_each [1, 9, 17] (by kernel_rfl) rfl ?_
          refine ⟨?_, ?_, ?_⟩
          · refine ⟨_, rfl, ?_⟩
            refine TL_pure rfl rfl rfl rfl (op_load_one ag67 rfl rfl) ?_
            refine TL_nil ?_
            refine TZ_keepH [0, 2, 3, 4, 22, 23, 24, 25, 26, 27, 28, 31, 32, 33, 34, 35, 36, 37, 38, 39, 41, 42, 43, 44, 45, 46, 47] [11, 412, 812, 892, 1452, 70005] rfl rfl rfl rfl (by rw [hF]; rfl) ?_
            exact hS5371_20
          · refine ⟨_, rfl, ?_⟩
            refine TL_pure rfl rfl rfl rfl (op_load_one ag2 rfl rfl) ?_
            refine TL_nil ?_
            refine TZ_keepH [0, 2, 3, 4, 22, 23, 24, 25, 26, 27, 28, 31, 33, 34, 35, 36, 37, 38, 39, 40, 41, 42, 43, 44, 45, 46, 47] [11, 412, 812, 892, 1452, 70005] rfl rfl rfl rfl (by rw [hF]; rfl) ?_
            exact hS5371_21
          · refine ⟨_, rfl, ?_⟩
            refine TL_pure rfl rfl rfl rfl (op_load_one ag66 rfl rfl) ?_
            refine TL_nil ?_
            refine TZ_keepH [0, 2, 3, 4, 22, 23, 24, 25, 26, 27, 28, 31, 33, 34, 35, 36, 37, 38, 39, 41, 42, 43, 44, 45, 46, 47, 48] [11, 412, 812, 892, 1452, 70005] rfl rfl rfl rfl (by rw [hF]; rfl) ?_
            exact hS5371_23
        refine TZ_cut 14 [true, false, true, true, true, true, true, false, false, false, true, true, true, false, true, false, false, false, false, false, false, false, false, false] ⟨[(0, .cp [.sl 2 (List.map a_Term p0.Pre), .sl 2 (List.map a_Term p0.Post), .sl 2 (List.map a_Instr p0.Code), .sl 2 (List.map a_Point p0.Points)]), (2, .ptr 11 0 0), (3, .ptr 1452 0 0), (4, .int .i64 s0.2), (22, .int .i64 s0.2), (23, .cp [.sl 2 (List.map a_Term p0.Pre), .sl 2 (List.map a_Term p0.Post), .sl 2 (List.map a_Instr p0.Code), .sl 2 (List.map a_Point p0.Points)]), (24, .cp [.sl 2 (List.map a_Term p0.Pre), .sl 2 (List.map a_Term p0.Post), .sl 2 (List.map a_Instr p0.Code), .sl 2 (List.map a_Point p0.Points)]), (25, .cp [.sl 2 (List.map a_Point p0.Points)]), (26, .sl 2 (List.map a_Point p0.Points)), (27, .int .i64 (p0.Points.length : Int)), (28, .bool (decide (s0.2 < (p0.Points.length : Int)))), (31, .ptr 1452 0 3), (33, .cp [.sl 2 (List.map a_Term p0.Pre), .sl 2 (List.map a_Term p0.Post), .sl 2 (List.map a_Instr p0.Code), .sl 2 (List.map a_Point p0.Points)]), (34, .cp [.sl 2 (List.map a_Term p0.Pre), .sl 2 (List.map a_Term p0.Post), .sl 2 (List.map a_Instr p0.Code), .sl 2 (List.map a_Point p0.Points)]), (35, .cp [.sl 2 (List.map a_Point p0.Points)]), (36, .sl 2 (List.map a_Point p0.Points)), (37, .int .i64 s0.2), (41, .cp [.sl 2 (List.map a_Term p0.Pre), .sl 2 (List.map a_Term p0.Post), .sl 2 (List.map a_Instr p0.Code), .sl 2 (List.map a_Point p0.Points)]), (42, .cp [.sl 2 (List.map a_Term p0.Pre), .sl 2 (List.map a_Term p0.Post), .sl 2 (List.map a_Instr p0.Code), .sl 2 (List.map a_Point p0.Points)]), (43, .cp [.sl 2 (List.map a_Point p0.Points)]), (45, .int .i64 s0.2)], [(11, .box [.snil, .snil, .snil, .snil]), (412, .arr ⟨false, true⟩ 2 184 (List.map a_Term j0.1)), (812, .arr ⟨false, true⟩ 2 184 (List.map a_Term j0.2)), (892, .arr ⟨false, false⟩ 2 40 (List.map a_Instr (([] : List Instr) ++ p0.Code))), (1452, .box [.ow 412, .ow 812, .ow 892, .ow 70005]), (70005, .arr ⟨false, true⟩ 2 81 (List.map a_Point s0.1))]⟩ ?_ (fun hS5371_25 => ?_)
        · refine TZ_pure 7 (by kernel_rfl) rfl rfl rfl rfl rfl (op_indexT el67 rfl rfl hx38 rfl) ?_
          refine TZ_pure 8 (by kernel_rfl) rfl rfl rfl rfl rfl (op_fieldAddrC (n := 1) fa81_0 rfl rfl rfl) ?_
          refine TZ_each [1, 9, 13] (by kernel_rfl) rfl ?_
          refine ⟨?_, ?_, ?_⟩
          · refine ⟨_, rfl, ?_⟩
            refine TL_pure rfl rfl rfl rfl (op_load_one ag67 rfl rfl) ?_
            refine TL_nil ?_
            refine TZ_keepH [0, 2, 3, 4, 22, 23, 24, 25, 26, 27, 28, 31, 32, 33, 34, 35, 36, 37, 38, 39, 41, 42, 43, 45] [11, 412, 812, 892, 1452, 70005] rfl rfl rfl rfl (by rw [hF]; rfl) ?_
            exact hS5371_13
          · refine ⟨_, rfl, ?_⟩
            refine TL_pure rfl rfl rfl rfl (op_load_one ag2 rfl rfl) ?_
            refine TL_nil ?_
            refine TZ_keepH [0, 2, 3, 4, 22, 23, 24, 25, 26, 27, 28, 31, 33, 34, 35, 36, 37, 38, 39, 40, 41, 42, 43, 45] [11, 412, 812, 892, 1452, 70005] rfl rfl rfl rfl (by rw [hF]; rfl) ?_
            exact hS5371_19
          · refine ⟨_, rfl, ?_⟩
            refine TL_pure rfl rfl rfl rfl (op_load_one ag67 rfl rfl) ?_
            refine TL_nil ?_
            refine TZ_keepH [0, 2, 3, 4, 22, 23, 24, 25, 26, 27, 28, 31, 33, 34, 35, 36, 37, 38, 39, 41, 42, 43, 44, 45] [11, 412, 812, 892, 1452, 70005] rfl rfl rfl rfl (by rw [hF]; rfl) ?_
            exact hS5371_24
        refine TZ_cut 11 [true, true, true, true, true, false, true, false, false, false, true, true, true, true, true, true, true, false, false, false, false, false, false, false] ⟨[(0, .cp [.sl 2 (List.map a_Term p0.Pre), .sl 2 (List.map a_Term p0.Post), .sl 2 (List.map a_Instr p0.Code), .sl 2 (List.map a_Point p0.Points)]), (2, .ptr 11 0 0), (3, .ptr 1452 0 0), (4, .int .i64 s0.2), (22, .int .i64 s0.2), (23, .cp [.sl 2 (List.map a_Term p0.Pre), .sl 2 (List.map a_Term p0.Post), .sl 2 (List.map a_Instr p0.Code), .sl 2 (List.map a_Point p0.Points)]), (24, .cp [.sl 2 (List.map a_Term p0.Pre), .sl 2 (List.map a_Term p0.Post), .sl 2 (List.map a_Instr p0.Code), .sl 2 (List.map a_Point p0.Points)]), (25, .cp [.sl 2 (List.map a_Point p0.Points)]), (26, .sl 2 (List.map a_Point p0.Points)), (27, .int .i64 (p0.Points.length : Int)), (28, .bool (decide (s0.2 < (p0.Points.length : Int)))), (31, .ptr 1452 0 3), (32, .ow 70005), (33, .cp [.sl 2 (List.map a_Term p0.Pre), .sl 2 (List.map a_Term p0.Post), .sl 2 (List.map a_Instr p0.Code), .sl 2 (List.map a_Point p0.Points)]), (34, .cp [.sl 2 (List.map a_Term p0.Pre), .sl 2 (List.map a_Term p0.Post), .sl 2 (List.map a_Instr p0.Code), .sl 2 (List.map a_Point p0.Points)]), (35, .cp [.sl 2 (List.map a_Point p0.Points)]), (37, .int .i64 s0.2), (41, .cp [.sl 2 (List.map a_Term p0.Pre), .sl 2 (List.map a_Term p0.Post), .sl 2 (List.map a_Instr p0.Code), .sl 2 (List.map a_Point p0.Points)]), (42, .cp [.sl 2 (List.map a_Term p0.Pre), .sl 2 (List.map a_Term p0.Post), .sl 2 (List.map a_Instr p0.Code), .sl 2 (List.map a_Point p0.Points)]), (43, .cp [.sl 2 (List.map a_Point p0.Points)]), (44, .sl 2 (List.map a_Point p0.Points)), (45, .int .i64 s0.2), (46, .cp [.int .i64 x38.At, .sl 2 (List.map a_Term x38.Facts)]), (47, .cp [.sl 2 (List.map a_Term x38.Facts)])], [(11, .box [.snil, .snil, .snil, .snil]), (412, .arr ⟨false, true⟩ 2 184 (List.map a_Term j0.1)), (812, .arr ⟨false, true⟩ 2 184 (List.map a_Term j0.2)), (892, .arr ⟨false, false⟩ 2 40 (List.map a_Instr (([] : List Instr) ++ p0.Code))), (1452, .box [.ow 412, .ow 812, .ow 892, .ow 70005]), (70005, .arr ⟨false, true⟩ 2 81 (List.map a_Point s0.1))]⟩ ?_ (fun hS5371_26 => ?_)
        · refine TZ_each [5, 17] (by kernel_rfl) rfl ?_
          refine ⟨?_, ?_⟩
          · refine ⟨_, rfl, ?_⟩
            refine TL_pure rfl rfl rfl rfl (op_load_one ag67 rfl rfl) ?_
            refine TL_nil ?_
            refine TZ_keepH [0, 2, 3, 4, 22, 23, 24, 25, 26, 27, 28, 31, 32, 33, 34, 35, 36, 37, 41, 42, 43, 44, 45, 46, 47] [11, 412, 812, 892, 1452, 70005] rfl rfl rfl rfl (by rw [hF]; rfl) ?_
            exact hS5371_7
          · refine ⟨_, rfl, ?_⟩
            refine TL_pure rfl rfl rfl rfl (op_load_one ag66 rfl rfl) ?_
            refine TL_nil ?_
            refine TZ_keepH [0, 2, 3, 4, 22, 23, 24, 25, 26, 27, 28, 31, 32, 33, 34, 35, 37, 41, 42, 43, 44, 45, 46, 47, 48] [11, 412, 812, 892, 1452, 70005] rfl rfl rfl rfl (by rw [hF]; rfl) ?_
            exact hS5371_10
        refine TZ_cut 11 [true, false, true, true, true, true, true, false, false, false, true, true, true, true, true, true, true, false, false, false, false, false, false, false] ⟨[(0, .cp [.sl 2 (List.map a_Term p0.Pre), .sl 2 (List.map a_Term p0.Post), .sl 2 (List.map a_Instr p0.Code), .sl 2 (List.map a_Point p0.Points)]), (2, .ptr 11 0 0), (3, .ptr 1452 0 0), (4, .int .i64 s0.2), (22, .int .i64 s0.2), (23, .cp [.sl 2 (List.map a_Term p0.Pre), .sl 2 (List.map a_Term p0.Post), .sl 2 (List.map a_Instr p0.Code), .sl 2 (List.map a_Point p0.Points)]), (24, .cp [.sl 2 (List.map a_Term p0.Pre), .sl 2 (List.map a_Term p0.Post), .sl 2 (List.map a_Instr p0.Code), .sl 2 (List.map a_Point p0.Points)]), (25, .cp [.sl 2 (List.map a_Point p0.Points)]), (26, .sl 2 (List.map a_Point p0.Points)), (27, .int .i64 (p0.Points.length : Int)), (28, .bool (decide (s0.2 < (p0.Points.length : Int)))), (31, .ptr 1452 0 3), (33, .cp [.sl 2 (List.map a_Term p0.Pre), .sl 2 (List.map a_Term p0.Post), .sl 2 (List.map a_Instr p0.Code), .sl 2 (List.map a_Point p0.Points)]), (34, .cp [.sl 2 (List.map a_Term p0.Pre), .sl 2 (List.map a_Term p0.Post), .sl 2 (List.map a_Instr p0.Code), .sl 2 (List.map a_Point p0.Points)]), (35, .cp [.sl 2 (List.map a_Point p0.Points)]), (36, .sl 2 (List.map a_Point p0.Points)), (37, .int .i64 s0.2), (41, .cp [.sl 2 (List.map a_Term p0.Pre), .sl 2 (List.map a_Term p0.Post), .sl 2 (List.map a_Instr p0.Code), .sl 2 (List.map a_Point p0.Points)]), (42, .cp [.sl 2 (List.map a_Term p0.Pre), .sl 2 (List.map a_Term p0.Post), .sl 2 (List.map a_Instr p0.Code), .sl 2 (List.map a_Point p0.Points)]), (43, .cp [.sl 2 (List.map a_Point p0.Points)]), (44, .sl 2 (List.map a_Point p0.Points)), (45, .int .i64 s0.2), (46, .cp [.int .i64 x38.At, .sl 2 (List.map a_Term x38.Facts)]), (47, .cp [.sl 2 (List.map a_Term x38.Facts)])], [(11, .box [.snil, .snil, .snil, .snil]), (412, .arr ⟨false, true⟩ 2 184 (List.map a_Term j0.1)), (812, .arr ⟨false, true⟩ 2 184 (List.map a_Term j0.2)), (892, .arr ⟨false, false⟩ 2 40 (List.map a_Instr (([] : List Instr) ++ p0.Code))), (1452, .box [.ow 412, .ow 812, .ow 892, .ow 70005]), (70005, .arr ⟨false, true⟩ 2 81 (List.map a_Point s0.1))]⟩ ?_ (fun hS5371_27 => ?_)
        · refine TZ_pure 7 (by kernel_rfl) rfl rfl rfl rfl rfl (op_indexT el67 rfl rfl hx38 rfl) ?_
          refine TZ_pure 8 (by kernel_rfl) rfl rfl rfl rfl rfl (op_fieldAddrC (n := 1) fa81_0 rfl rfl rfl) ?_
          refine TZ_each [1, 9, 17] (by kernel_rfl) rfl ?_
          refine ⟨?_, ?_, ?_⟩
          · refine ⟨_, rfl, ?_⟩
            refine TL_pure rfl rfl rfl rfl (op_load_one ag67 rfl rfl) ?_
            refine TL_nil ?_
            refine TZ_keepH [0, 2, 3, 4, 22, 23, 24, 25, 26, 27, 28, 31, 32, 33, 34, 35, 36, 37, 38, 39, 41, 42, 43, 44, 45, 46, 47] [11, 412, 812, 892, 1452, 70005] rfl rfl rfl rfl (by rw [hF]; rfl) ?_
            exact hS5371_20
          · refine ⟨_, rfl, ?_⟩
            refine TL_pure rfl rfl rfl rfl (op_load_one ag2 rfl rfl) ?_
            refine TL_nil ?_
            refine TZ_keepH [0, 2, 3, 4, 22, 23, 24, 25, 26, 27, 28, 31, 33, 34, 35, 36, 37, 38, 39, 40, 41, 42, 43, 44, 45, 46, 47] [11, 412, 812, 892, 1452, 70005] rfl rfl rfl rfl (by rw [hF]; rfl) ?_
            exact hS5371_21
          · refine ⟨_, rfl, ?_⟩
            refine TL_pure rfl rfl rfl rfl (op_load_one ag66 rfl rfl) ?_
            refine TL_nil ?_
            refine TZ_keepH [0, 2, 3, 4, 22, 23, 24, 25, 26, 27, 28, 31, 33, 34, 35, 36, 37, 38, 39, 41, 42, 43, 44, 45, 46, 47, 48] [11, 412, 812, 892, 1452, 70005] rfl rfl rfl rfl (by rw [hF]; rfl) ?_
            exact hS5371_23
        refine TZ_cut 10 [true, false, true, true, true, true, true, false, false, false, true, true, true, true, true, true, true, true, false, false, false, false, false, false] ⟨[(0, .cp [.sl 2 (List.map a_Term p0.Pre), .sl 2 (List.map a_Term p0.Post), .sl 2 (List.map a_Instr p0.Code), .sl 2 (List.map a_Point p0.Points)]), (2, .ptr 11 0 0), (3, .ptr 1452 0 0), (4, .int .i64 s0.2), (22, .int .i64 s0.2), (23, .cp [.sl 2 (List.map a_Term p0.Pre), .sl 2 (List.map a_Term p0.Post), .sl 2 (List.map a_Instr p0.Code), .sl 2 (List.map a_Point p0.Points)]), (24, .cp [.sl 2 (List.map a_Term p0.Pre), .sl 2 (List.map a_Term p0.Post), .sl 2 (List.map a_Instr p0.Code), .sl 2 (List.map a_Point p0.Points)]), (25, .cp [.sl 2 (List.map a_Point p0.Points)]), (26, .sl 2 (List.map a_Point p0.Points)), (27, .int .i64 (p0.Points.length : Int)), (28, .bool (decide (s0.2 < (p0.Points.length : Int)))), (31, .ptr 1452 0 3), (33, .cp [.sl 2 (List.map a_Term p0.Pre), .sl 2 (List.map a_Term p0.Post), .sl 2 (List.map a_Instr p0.Code), .sl 2 (List.map a_Point p0.Points)]), (34, .cp [.sl 2 (List.map a_Term p0.Pre), .sl 2 (List.map a_Term p0.Post), .sl 2 (List.map a_Instr p0.Code), .sl 2 (List.map a_Point p0.Points)]), (35, .cp [.sl 2 (List.map a_Point p0.Points)]), (36, .sl 2 (List.map a_Point p0.Points)), (37, .int .i64 s0.2), (41, .cp [.sl 2 (List.map a_Term p0.Pre), .sl 2 (List.map a_Term p0.Post), .sl 2 (List.map a_Instr p0.Code), .sl 2 (List.map a_Point p0.Points)]), (42, .cp [.sl 2 (List.map a_Term p0.Pre), .sl 2 (List.map a_Term p0.Post), .sl 2 (List.map a_Instr p0.Code), .sl 2 (List.map a_Point p0.Points)]), (43, .cp [.sl 2 (List.map a_Point p0.Points)]), (44, .sl 2 (List.map a_Point p0.Points)), (45, .int .i64 s0.2), (46, .cp [.int .i64 x38.At, .sl 2 (List.map a_Term x38.Facts)]), (47, .cp [.sl 2 (List.map a_Term x38.Facts)]), (48, .sl 2 (List.map a_Term x38.Facts))], [(11, .box [.snil, .snil, .snil, .snil]), (412, .arr ⟨false, true⟩ 2 184 (List.map a_Term j0.1)), (812, .arr ⟨false, true⟩ 2 184 (List.map a_Term j0.2)), (892, .arr ⟨false, false⟩ 2 40 (List.map a_Instr (([] : List Instr) ++ p0.Code))), (1452, .box [.ow 412, .ow 812, .ow 892, .ow 70005]), (70005, .arr ⟨false, true⟩ 2 81 (List.map a_Point s0.1))]⟩ ?_ (fun hS5371_28 => ?_)
        · refine TZ_pure 7 (by kernel_rfl) rfl rfl rfl rfl rfl (op_indexT el67 rfl rfl hx38 rfl) ?_
          refine TZ_pure 8 (by kernel_rfl) rfl rfl rfl rfl rfl (op_fieldAddrC (n := 1) fa81_0 rfl rfl rfl) ?_
          refine TZ_each [1, 9, 18] (by kernel_rfl) rfl ?_
          refine ⟨?_, ?_, ?_⟩
          · refine ⟨_, rfl, ?_⟩
            refine TL_pure rfl rfl rfl rfl (op_load_one ag67 rfl rfl) ?_
            refine TL_nil ?_
            refine TZ_keepH [0, 2, 3, 4, 22, 23, 24, 25, 26, 27, 28, 31, 32, 33, 34, 35, 36, 37, 38, 39, 41, 42, 43, 44, 45, 46, 47, 48] [11, 412, 812, 892, 1452, 70005] rfl rfl rfl rfl (by rw [hF]; rfl) ?_
            exact hS5371_4
          · refine ⟨_, rfl, ?_⟩
            refine TL_pure rfl rfl rfl rfl (op_load_one ag2 rfl rfl) ?_
            refine TL_nil ?_
            refine TZ_keepH [0, 2, 3, 4, 22, 23, 24, 25, 26, 27, 28, 31, 33, 34, 35, 36, 37, 38, 39, 40, 41, 42, 43, 44, 45, 46, 47, 48] [11, 412, 812, 892, 1452, 70005] rfl rfl rfl rfl (by rw [hF]; rfl) ?_
            exact hS5371_17
          · refine ⟨_, rfl, ?_⟩
            refine TL_callO [(1000, 6892)] (ACall.F (F := F) (c_spec_l02OwnAll x38.Facts r49 hr49)) Try.call104 rfl rfl rfl rfl rfl rfl rfl rfl rfl rfl rfl rfl rfl ?_
            refine TL_nil ?_
            refine TZ_keepH [0, 2, 3, 4, 22, 23, 24, 25, 26, 27, 28, 31, 33, 34, 35, 36, 37, 38, 39, 41, 42, 43, 44, 45, 46, 47, 48, 49] [11, 412, 812, 892, 1452, 6892, 70005] rfl rfl rfl rfl (by rw [hF]; rfl) ?_
            exact hS5371_22
        refine TZ_cut 9 [true, false, true, true, true, true, true, false, false, false, true, true, true, true, true, true, true, true, true, false, false, false, false, false] ⟨[(0, .cp [.sl 2 (List.map a_Term p0.Pre), .sl 2 (List.map a_Term p0.Post), .sl 2 (List.map a_Instr p0.Code), .sl 2 (List.map a_Point p0.Points)]), (2, .ptr 11 0 0), (3, .ptr 1452 0 0), (4, .int .i64 s0.2), (22, .int .i64 s0.2), (23, .cp [.sl 2 (List.map a_Term p0.Pre), .sl 2 (List.map a_Term p0.Post), .sl 2 (List.map a_Instr p0.Code), .sl 2 (List.map a_Point p0.Points)]), (24, .cp [.sl 2 (List.map a_Term p0.Pre), .sl 2 (List.map a_Term p0.Post), .sl 2 (List.map a_Instr p0.Code), .sl 2 (List.map a_Point p0.Points)]), (25, .cp [.sl 2 (List.map a_Point p0.Points)]), (26, .sl 2 (List.map a_Point p0.Points)), (27, .int .i64 (p0.Points.length : Int)), (28, .bool (decide (s0.2 < (p0.Points.length : Int)))), (31, .ptr 1452 0 3), (33, .cp [.sl 2 (List.map a_Term p0.Pre), .sl 2 (List.map a_Term p0.Post), .sl 2 (List.map a_Instr p0.Code), .sl 2 (List.map a_Point p0.Points)]), (34, .cp [.sl 2 (List.map a_Term p0.Pre), .sl 2 (List.map a_Term p0.Post), .sl 2 (List.map a_Instr p0.Code), .sl 2 (List.map a_Point p0.Points)]), (35, .cp [.sl 2 (List.map a_Point p0.Points)]), (36, .sl 2 (List.map a_Point p0.Points)), (37, .int .i64 s0.2), (41, .cp [.sl 2 (List.map a_Term p0.Pre), .sl 2 (List.map a_Term p0.Post), .sl 2 (List.map a_Instr p0.Code), .sl 2 (List.map a_Point p0.Points)]), (42, .cp [.sl 2 (List.map a_Term p0.Pre), .sl 2 (List.map a_Term p0.Post), .sl 2 (List.map a_Instr p0.Code), .sl 2 (List.map a_Point p0.Points)]), (43, .cp [.sl 2 (List.map a_Point p0.Points)]), (44, .sl 2 (List.map a_Point p0.Points)), (45, .int .i64 s0.2), (46, .cp [.int .i64 x38.At, .sl 2 (List.map a_Term x38.Facts)]), (47, .cp [.sl 2 (List.map a_Term x38.Facts)]), (48, .sl 2 (List.map a_Term x38.Facts)), (49, .ow 6892)], [(11, .box [.snil, .snil, .snil, .snil]), (412, .arr ⟨false, true⟩ 2 184 (List.map a_Term j0.1)), (812, .arr ⟨false, true⟩ 2 184 (List.map a_Term j0.2)), (892, .arr ⟨false, false⟩ 2 40 (List.map a_Instr (([] : List Instr) ++ p0.Code))), (1452, .box [.ow 412, .ow 812, .ow 892, .ow 70005]), (6892, .arr ⟨false, true⟩ 2 184 (List.map a_Term r49)), (70005, .arr ⟨false, true⟩ 2 81 (List.map a_Point s0.1))]⟩ ?_ (fun hS5371_29 => ?_)
        · refine TZ_pure 7 (by kernel_rfl) rfl rfl rfl rfl rfl (op_indexT el67 rfl rfl hx38 rfl) ?_
          refine TZ_pure 8 (by kernel_rfl) rfl rfl rfl rfl rfl (op_fieldAddrC (n := 1) fa81_0 rfl rfl rfl) ?_
          refine TZ_each [1, 9] (by kernel_rfl) rfl ?_
          refine ⟨?_, ?_⟩
          · refine ⟨_, rfl, ?_⟩
            refine TL_pure rfl rfl rfl rfl (op_load_one ag67 rfl rfl) ?_
            refine TL_nil ?_
            refine TZ_keepH [0, 2, 3, 4, 22, 23, 24, 25, 26, 27, 28, 31, 32, 33, 34, 35, 36, 37, 38, 39, 41, 42, 43, 44, 45, 46, 47, 48, 49] [11, 412, 812, 892, 1452, 6892, 70005] rfl rfl rfl rfl (by rw [hF]; rfl) ?_
            exact hS5371_3
          · refine ⟨_, rfl, ?_⟩
            refine TL_pure rfl rfl rfl rfl (op_load_one ag2 rfl rfl) ?_
            refine TL_nil ?_
            refine TZ_keepH [0, 2, 3, 4, 22, 23, 24, 25, 26, 27, 28, 31, 33, 34, 35, 36, 37, 38, 39, 40, 41, 42, 43, 44, 45, 46, 47, 48, 49] [11, 412, 812, 892, 1452, 6892, 70005] rfl rfl rfl rfl (by rw [hF]; rfl) ?_
            exact hS5371_16
        refine TZ_cut 10 [true, false, true, true, true, false, true, false, false, false, true, true, true, true, true, true, true, true, true, false, false, false, false, false] ⟨[(0, .cp [.sl 2 (List.map a_Term p0.Pre), .sl 2 (List.map a_Term p0.Post), .sl 2 (List.map a_Instr p0.Code), .sl 2 (List.map a_Point p0.Points)]), (2, .ptr 11 0 0), (3, .ptr 1452 0 0), (4, .int .i64 s0.2), (22, .int .i64 s0.2), (23, .cp [.sl 2 (List.map a_Term p0.Pre), .sl 2 (List.map a_Term p0.Post), .sl 2 (List.map a_Instr p0.Code), .sl 2 (List.map a_Point p0.Points)]), (24, .cp [.sl 2 (List.map a_Term p0.Pre), .sl 2 (List.map a_Term p0.Post), .sl 2 (List.map a_Instr p0.Code), .sl 2 (List.map a_Point p0.Points)]), (25, .cp [.sl 2 (List.map a_Point p0.Points)]), (26, .sl 2 (List.map a_Point p0.Points)), (27, .int .i64 (p0.Points.length : Int)), (28, .bool (decide (s0.2 < (p0.Points.length : Int)))), (31, .ptr 1452 0 3), (33, .cp [.sl 2 (List.map a_Term p0.Pre), .sl 2 (List.map a_Term p0.Post), .sl 2 (List.map a_Instr p0.Code), .sl 2 (List.map a_Point p0.Points)]), (34, .cp [.sl 2 (List.map a_Term p0.Pre), .sl 2 (List.map a_Term p0.Post), .sl 2 (List.map a_Instr p0.Code), .sl 2 (List.map a_Point p0.Points)]), (35, .cp [.sl 2 (List.map a_Point p0.Points)]), (37, .int .i64 s0.2), (41, .cp [.sl 2 (List.map a_Term p0.Pre), .sl 2 (List.map a_Term p0.Post), .sl 2 (List.map a_Instr p0.Code), .sl 2 (List.map a_Point p0.Points)]), (42, .cp [.sl 2 (List.map a_Term p0.Pre), .sl 2 (List.map a_Term p0.Post), .sl 2 (List.map a_Instr p0.Code), .sl 2 (List.map a_Point p0.Points)]), (43, .cp [.sl 2 (List.map a_Point p0.Points)]), (44, .sl 2 (List.map a_Point p0.Points)), (45, .int .i64 s0.2), (46, .cp [.int .i64 x38.At, .sl 2 (List.map a_Term x38.Facts)]), (47, .cp [.sl 2 (List.map a_Term x38.Facts)]), (48, .sl 2 (List.map a_Term x38.Facts)), (49, .ow 6892)], [(11, .box [.snil, .snil, .snil, .snil]), (412, .arr ⟨false, true⟩ 2 184 (List.map a_Term j0.1)), (812, .arr ⟨false, true⟩ 2 184 (List.map a_Term j0.2)), (892, .arr ⟨false, false⟩ 2 40 (List.map a_Instr (([] : List Instr) ++ p0.Code))), (1452, .box [.ow 412, .ow 812, .ow 892, .ow 70005]), (6892, .arr ⟨false, true⟩ 2 184 (List.map a_Term r49)), (70005, .arr ⟨false, true⟩ 2 81 (List.map a_Point s0.1))]⟩ ?_ (fun hS5371_30 => ?_)
        · refine TZ_each [1, 5] (by kernel_rfl) rfl ?_
          refine ⟨?_, ?_⟩
          · refine ⟨_, rfl, ?_⟩
            refine TL_pure rfl rfl rfl rfl (op_load_one ag67 rfl rfl) ?_
            refine TL_nil ?_
            refine TZ_keepH [0, 2, 3, 4, 22, 23, 24, 25, 26, 27, 28, 31, 32, 33, 34, 35, 37, 41, 42, 43, 44, 45, 46, 47, 48, 49] [11, 412, 812, 892, 1452, 6892, 70005] rfl rfl rfl rfl (by rw [hF]; rfl) ?_
            exact hS5371_9
          · refine ⟨_, rfl, ?_⟩
            refine TL_pure rfl rfl rfl rfl (op_load_one ag67 rfl rfl) ?_
            refine TL_nil ?_
            refine TZ_keepH [0, 2, 3, 4, 22, 23, 24, 25, 26, 27, 28, 31, 33, 34, 35, 36, 37, 41, 42, 43, 44, 45, 46, 47, 48, 49] [11, 412, 812, 892, 1452, 6892, 70005] rfl rfl rfl rfl (by rw [hF]; rfl) ?_
            exact hS5371_29
        refine TZ_cut 11 [true, false, true, true, true, false, true, false, false, false, true, true, true, true, true, true, true, true, false, false, false, false, false, false] ⟨[(0, .cp [.sl 2 (List.map a_Term p0.Pre), .sl 2 (List.map a_Term p0.Post), .sl 2 (List.map a_Instr p0.Code), .sl 2 (List.map a_Point p0.Points)]), (2, .ptr 11 0 0), (3, .ptr 1452 0 0), (4, .int .i64 s0.2), (22, .int .i64 s0.2), (23, .cp [.sl 2 (List.map a_Term p0.Pre), .sl 2 (List.map a_Term p0.Post), .sl 2 (List.map a_Instr p0.Code), .sl 2 (List.map a_Point p0.Points)]), (24, .cp [.sl 2 (List.map a_Term p0.Pre), .sl 2 (List.map a_Term p0.Post), .sl 2 (List.map a_Instr p0.Code), .sl 2 (List.map a_Point p0.Points)]), (25, .cp [.sl 2 (List.map a_Point p0.Points)]), (26, .sl 2 (List.map a_Point p0.Points)), (27, .int .i64 (p0.Points.length : Int)), (28, .bool (decide (s0.2 < (p0.Points.length : Int)))), (31, .ptr 1452 0 3), (33, .cp [.sl 2 (List.map a_Term p0.Pre), .sl 2 (List.map a_Term p0.Post), .sl 2 (List.map a_Instr p0.Code), .sl 2 (List.map a_Point p0.Points)]), (34, .cp [.sl 2 (List.map a_Term p0.Pre), .sl 2 (List.map a_Term p0.Post), .sl 2 (List.map a_Instr p0.Code), .sl 2 (List.map a_Point p0.Points)]), (35, .cp [.sl 2 (List.map a_Point p0.Points)]), (37, .int .i64 s0.2), (41, .cp [.sl 2 (List.map a_Term p0.Pre), .sl 2 (List.map a_Term p0.Post), .sl 2 (List.map a_Instr p0.Code), .sl 2 (List.map a_Point p0.Points)]), (42, .cp [.sl 2 (List.map a_Term p0.Pre), .sl 2 (List.map a_Term p0.Post), .sl 2 (List.map a_Instr p0.Code), .sl 2 (List.map a_Point p0.Points)]), (43, .cp [.sl 2 (List.map a_Point p0.Points)]), (44, .sl 2 (List.map a_Point p0.Points)), (45, .int .i64 s0.2), (46, .cp [.int .i64 x38.At, .sl 2 (List.map a_Term x38.Facts)]), (47, .cp [.sl 2 (List.map a_Term x38.Facts)]), (48, .sl 2 (List.map a_Term x38.Facts))], [(11, .box [.snil, .snil, .snil, .snil]), (412, .arr ⟨false, true⟩ 2 184 (List.map a_Term j0.1)), (812, .arr ⟨false, true⟩ 2 184 (List.map a_Term j0.2)), (892, .arr ⟨false, false⟩ 2 40 (List.map a_Instr (([] : List Instr) ++ p0.Code))), (1452, .box [.ow 412, .ow 812, .ow 892, .ow 70005]), (70005, .arr ⟨false, true⟩ 2 81 (List.map a_Point s0.1))]⟩ ?_ (fun hS5371_31 => ?_)
        · refine TZ_each [1, 5, 18] (by kernel_rfl) rfl ?_
          refine ⟨?_, ?_, ?_⟩
          · refine ⟨_, rfl, ?_⟩
            refine TL_pure rfl rfl rfl rfl (op_load_one ag67 rfl rfl) ?_
            refine TL_nil ?_
            refine TZ_keepH [0, 2, 3, 4, 22, 23, 24, 25, 26, 27, 28, 31, 32, 33, 34, 35, 37, 41, 42, 43, 44, 45, 46, 47, 48] [11, 412, 812, 892, 1452, 70005] rfl rfl rfl rfl (by rw [hF]; rfl) ?_
            exact hS5371_10
          · refine ⟨_, rfl, ?_⟩
            refine TL_pure rfl rfl rfl rfl (op_load_one ag67 rfl rfl) ?_
            refine TL_nil ?_
            refine TZ_keepH [0, 2, 3, 4, 22, 23, 24, 25, 26, 27, 28, 31, 33, 34, 35, 36, 37, 41, 42, 43, 44, 45, 46, 47, 48] [11, 412, 812, 892, 1452, 70005] rfl rfl rfl rfl (by rw [hF]; rfl) ?_
            exact hS5371_28
          · refine ⟨_, rfl, ?_⟩
            refine TL_callO [(1000, 6892)] (ACall.F (F := F) (c_spec_l02OwnAll x38.Facts r49 hr49)) Try.call104 rfl rfl rfl rfl rfl rfl rfl rfl rfl rfl rfl rfl rfl ?_
            refine TL_nil ?_
            refine TZ_keepH [0, 2, 3, 4, 22, 23, 24, 25, 26, 27, 28, 31, 33, 34, 35, 37, 41, 42, 43, 44, 45, 46, 47, 48, 49] [11, 412, 812, 892, 1452, 6892, 70005] rfl rfl rfl rfl (by rw [hF]; rfl) ?_
            exact hS5371_30
        refine TZ_cut 14 [true, false, true, true, true, false, true, false, false, false, true, true, true, true, true, false, false, false, false, false, false, false, false, false] ⟨[(0, .cp [.sl 2 (List.map a_Term p0.Pre), .sl 2 (List.map a_Term p0.Post), .sl 2 (List.map a_Instr p0.Code), .sl 2 (List.map a_Point p0.Points)]), (2, .ptr 11 0 0), (3, .ptr 1452 0 0), (4, .int .i64 s0.2), (22, .int .i64 s0.2), (23, .cp [.sl 2 (List.map a_Term p0.Pre), .sl 2 (List.map a_Term p0.Post), .sl 2 (List.map a_Instr p0.Code), .sl 2 (List.map a_Point p0.Points)]), (24, .cp [.sl 2 (List.map a_Term p0.Pre), .sl 2 (List.map a_Term p0.Post), .sl 2 (List.map a_Instr p0.Code), .sl 2 (List.map a_Point p0.Points)]), (25, .cp [.sl 2 (List.map a_Point p0.Points)]), (26, .sl 2 (List.map a_Point p0.Points)), (27, .int .i64 (p0.Points.length : Int)), (28, .bool (decide (s0.2 < (p0.Points.length : Int)))), (31, .ptr 1452 0 3), (33, .cp [.sl 2 (List.map a_Term p0.Pre), .sl 2 (List.map a_Term p0.Post), .sl 2 (List.map a_Instr p0.Code), .sl 2 (List.map a_Point p0.Points)]), (34, .cp [.sl 2 (List.map a_Term p0.Pre), .sl 2 (List.map a_Term p0.Post), .sl 2 (List.map a_Instr p0.Code), .sl 2 (List.map a_Point p0.Points)]), (35, .cp [.sl 2 (List.map a_Point p0.Points)]), (37, .int .i64 s0.2), (41, .cp [.sl 2 (List.map a_Term p0.Pre), .sl 2 (List.map a_Term p0.Post), .sl 2 (List.map a_Instr p0.Code), .sl 2 (List.map a_Point p0.Points)]), (42, .cp [.sl 2 (List.map a_Term p0.Pre), .sl 2 (List.map a_Term p0.Post), .sl 2 (List.map a_Instr p0.Code), .sl 2 (List.map a_Point p0.Points)]), (43, .cp [.sl 2 (List.map a_Point p0.Points)]), (44, .sl 2 (List.map a_Point p0.Points)), (45, .int .i64 s0.2)], [(11, .box [.snil, .snil, .snil, .snil]), (412, .arr ⟨false, true⟩ 2 184 (List.map a_Term j0.1)), (812, .arr ⟨false, true⟩ 2 184 (List.map a_Term j0.2)), (892, .arr ⟨false, false⟩ 2 40 (List.map a_Instr (([] : List Instr) ++ p0.Code))), (1452, .box [.ow 412, .ow 812, .ow 892, .ow 70005]), (70005, .arr ⟨false, true⟩ 2 81 (List.map a_Point s0.1))]⟩ ?_ (fun hS5371_32 => ?_)
        · refine TZ_pure 15 (by kernel_rfl) rfl rfl rfl rfl rfl (op_indexT el67 rfl rfl hx38 rfl) ?_
          refine TZ_pure 16 (by kernel_rfl) rfl rfl rfl rfl rfl (op_fieldAddr fa81_1 rfl rfl) ?_
          refine TZ_each [1, 5, 17] (by kernel_rfl) rfl ?_
          refine ⟨?_, ?_, ?_⟩
          · refine ⟨_, rfl, ?_⟩
            refine TL_pure rfl rfl rfl rfl (op_load_one ag67 rfl rfl) ?_
            refine TL_nil ?_
            refine TZ_keepH [0, 2, 3, 4, 22, 23, 24, 25, 26, 27, 28, 31, 32, 33, 34, 35, 37, 41, 42, 43, 44, 45, 46, 47] [11, 412, 812, 892, 1452, 70005] rfl rfl rfl rfl (by rw [hF]; rfl) ?_
            exact hS5371_26
          · refine ⟨_, rfl, ?_⟩
            refine TL_pure rfl rfl rfl rfl (op_load_one ag67 rfl rfl) ?_
            refine TL_nil ?_
            refine TZ_keepH [0, 2, 3, 4, 22, 23, 24, 25, 26, 27, 28, 31, 33, 34, 35, 36, 37, 41, 42, 43, 44, 45, 46, 47] [11, 412, 812, 892, 1452, 70005] rfl rfl rfl rfl (by rw [hF]; rfl) ?_
            exact hS5371_27
          · refine ⟨_, rfl, ?_⟩
            refine TL_pure rfl rfl rfl rfl (op_load_one ag66 rfl rfl) ?_
            refine TL_nil ?_
            refine TZ_keepH [0, 2, 3, 4, 22, 23, 24, 25, 26, 27, 28, 31, 33, 34, 35, 37, 41, 42, 43, 44, 45, 46, 47, 48] [11, 412, 812, 892, 1452, 70005] rfl rfl rfl rfl (by rw [hF]; rfl) ?_
            exact hS5371_31
        refine TZ_each [1, 5, 13] (by kernel_rfl) rfl ?_
        refine ⟨?_, ?_, ?_⟩
        · refine ⟨_, rfl, ?_⟩
          refine TL_pure rfl rfl rfl rfl (op_load_one ag67 rfl rfl) ?_
          refine TL_nil ?_
          refine TZ_keepH [0, 2, 3, 4, 22, 23, 24, 25, 26, 27, 28, 31, 32, 33, 34, 35, 37, 41, 42, 43, 45] [11, 412, 812, 892, 1452, 70005] rfl rfl rfl rfl (by rw [hF]; rfl) ?_
          exact hS5371_12
        · refine ⟨_, rfl, ?_⟩
          refine TL_pure rfl rfl rfl rfl (op_load_one ag67 rfl rfl) ?_
          refine TL_nil ?_
          refine TZ_keepH [0, 2, 3, 4, 22, 23, 24, 25, 26, 27, 28, 31, 33, 34, 35, 36, 37, 41, 42, 43, 45] [11, 412, 812, 892, 1452, 70005] rfl rfl rfl rfl (by rw [hF]; rfl) ?_
          exact hS5371_25
        · refine ⟨_, rfl, ?_⟩
          refine TL_pure rfl rfl rfl rfl (op_load_one ag67 rfl rfl) ?_
          refine TL_nil ?_
          refine TZ_keepH [0, 2, 3, 4, 22, 23, 24, 25, 26, 27, 28, 31, 33, 34, 35, 37, 41, 42, 43, 44, 45] [11, 412, 812, 892, 1452, 70005] rfl rfl rfl rfl (by rw [hF]; rfl) ?_
          exact hS5371_32
      · replace hm := condF hq hm
        refine T_keepH [2, 3] [11, 412, 812, 892, 1452, 70005] rfl rfl rfl rfl (by rw [hF]; rfl) ?_
        refine T_exit ?_
        obtain rfl := someI hm
        have hn := CtlOK_out hc0
        exact hx0 s0.1 hn
  · refine T_drawZ [10, 15, 18] mix (by kernel_rfl) rfl ?_
    obtain ⟨r9, hr9, hm⟩ := bindS hm
    obtain ⟨r14, hr14, hm⟩ := bindS hm
    obtain ⟨q20, hq20, hm⟩ := bindS hm
    refine TZ_pure 0 (by kernel_rfl) rfl rfl rfl rfl rfl (op_move rfl) ?_
    refine TZ_pure 1 (by kernel_rfl) rfl rfl rfl rfl rfl (op_nilCheck rfl rfl) ?_
    refine TZ_pure 2 (by kernel_rfl) rfl rfl rfl rfl rfl (op_fieldAddrC (n := 1) fa69_0 rfl rfl rfl) ?_
    refine TZ_pure 5 (by kernel_rfl) rfl rfl rfl rfl rfl (op_move rfl) ?_
    refine TZ_pure 6 (by kernel_rfl) rfl rfl rfl rfl rfl (op_nilCheck rfl rfl) ?_
    refine TZ_pure 7 (by kernel_rfl) rfl rfl rfl rfl rfl (op_fieldAddrC (n := 1) fa69_1 rfl rfl rfl) ?_
    refine TZ_pure 11 (by kernel_rfl) rfl rfl rfl rfl rfl (op_move rfl) ?_
    refine TZ_pure 12 (by kernel_rfl) rfl rfl rfl rfl rfl (op_nilCheck rfl rfl) ?_
    refine TZ_pure 13 (by kernel_rfl) rfl rfl rfl rfl rfl (op_fieldAddrC (n := 1) fa69_2 rfl rfl rfl) ?_
    refine TZ_cut 3 [true, true, true, true, true, true, true, true, true, true, true, true, true, true, true, true, false, false, false] ⟨[(0, .cp [.sl 2 (List.map a_Term p0.Pre), .sl 2 (List.map a_Term p0.Post), .sl 2 (List.map a_Instr p0.Code), .sl 2 (List.map a_Point p0.Points)]), (2, .ptr 11 0 0), (5, .cp [.sl 2 (List.map a_Term p0.Pre), .sl 2 (List.map a_Term p0.Post), .sl 2 (List.map a_Instr p0.Code), .sl 2 (List.map a_Point p0.Points)]), (6, .cp [.sl 2 (List.map a_Term p0.Pre), .sl 2 (List.map a_Term p0.Post), .sl 2 (List.map a_Instr p0.Code), .sl 2 (List.map a_Point p0.Points)]), (7, .cp [.sl 2 (List.map a_Term p0.Pre)]), (8, .sl 2 (List.map a_Term p0.Pre)), (9, .ow 7693), (10, .cp [.sl 2 (List.map a_Term p0.Pre), .sl 2 (List.map a_Term p0.Post), .sl 2 (List.map a_Instr p0.Code), .sl 2 (List.map a_Point p0.Points)]), (11, .cp [.sl 2 (List.map a_Term p0.Pre), .sl 2 (List.map a_Term p0.Post), .sl 2 (List.map a_Instr p0.Code), .sl 2 (List.map a_Point p0.Points)]), (12, .cp [.sl 2 (List.map a_Term p0.Post)]), (13, .sl 2 (List.map a_Term p0.Post)), (14, .ow 8093), (15, .junk), (16, .cp [.sl 2 (List.map a_Term p0.Pre), .sl 2 (List.map a_Term p0.Post), .sl 2 (List.map a_Instr p0.Code), .sl 2 (List.map a_Point p0.Points)]), (17, .cp [.sl 2 (List.map a_Term p0.Pre), .sl 2 (List.map a_Term p0.Post), .sl 2 (List.map a_Instr p0.Code), .sl 2 (List.map a_Point p0.Points)]), (18, .cp [.sl 2 (List.map a_Instr p0.Code)]), (19, .sl 2 (List.map a_Instr p0.Code)), (20, .ow 8173)], [(11, .box [.snil, .snil, .snil, .snil]), (7693, .arr ⟨false, true⟩ 2 184 (List.map a_Term r9)), (8093, .arr ⟨false, true⟩ 2 184 (List.map a_Term r14)), (8173, .arr ⟨false, false⟩ 2 40 (List.map a_Instr (([] : List Instr) ++ p0.Code)))]⟩ ?_ (fun hS7292_0 => ?_)
    · refine TZ_pure 16 (by kernel_rfl) rfl rfl rfl rfl rfl (op_buildP pl69 z69 rfl rfl rfl rfl rfl) ?_
      refine TZ_one 17 (by kernel_rfl) rfl ?_
      refine TL_alloc 8733 z69 rfl rfl rfl rfl rfl rfl rfl ?_
      refine TL_nil ?_
      refine TZ_one 18 (by kernel_rfl) rfl ?_
      refine TL_store_box sz69 rfl rfl rfl rfl rfl rfl rfl rfl rfl ?_
      refine TL_nil ?_
      refine TZ_done (by kernel_rfl) ?_
      refine T_keepH [0, 2, 3] [11, 7693, 8093, 8173, 8733] rfl rfl rfl rfl (by rw [hF]; rfl) ?_
      refine T_ren [(11, 11), (7693, 412), (8093, 812), (8173, 892), (8733, 1452)] rfl rfl rfl (by rw [hF]; rfl) ?_
      exact hj0 (r9, r14) hm
    refine TZ_cut 3 [true, true, true, true, true, true, true, true, true, true, true, true, true, true, true, false, false, true, false] ⟨[(0, .cp [.sl 2 (List.map a_Term p0.Pre), .sl 2 (List.map a_Term p0.Post), .sl 2 (List.map a_Instr p0.Code), .sl 2 (List.map a_Point p0.Points)]), (2, .ptr 11 0 0), (3, .ptr 8733 0 0), (5, .cp [.sl 2 (List.map a_Term p0.Pre), .sl 2 (List.map a_Term p0.Post), .sl 2 (List.map a_Instr p0.Code), .sl 2 (List.map a_Point p0.Points)]), (6, .cp [.sl 2 (List.map a_Term p0.Pre), .sl 2 (List.map a_Term p0.Post), .sl 2 (List.map a_Instr p0.Code), .sl 2 (List.map a_Point p0.Points)]), (7, .cp [.sl 2 (List.map a_Term p0.Pre)]), (8, .sl 2 (List.map a_Term p0.Pre)), (9, .ow 7693), (10, .cp [.sl 2 (List.map a_Term p0.Pre), .sl 2 (List.map a_Term p0.Post), .sl 2 (List.map a_Instr p0.Code), .sl 2 (List.map a_Point p0.Points)]), (11, .cp [.sl 2 (List.map a_Term p0.Pre), .sl 2 (List.map a_Term p0.Post), .sl 2 (List.map a_Instr p0.Code), .sl 2 (List.map a_Point p0.Points)]), (12, .cp [.sl 2 (List.map a_Term p0.Post)]), (13, .sl 2 (List.map a_Term p0.Post)), (14, .ow 8093), (15, .ow 8173), (16, .cp [.sl 2 (List.map a_Term p0.Pre), .sl 2 (List.map a_Term p0.Post), .sl 2 (List.map a_Instr p0.Code), .sl 2 (List.map a_Point p0.Points)]), (17, .cp [.sl 2 (List.map a_Term p0.Pre), .sl 2 (List.map a_Term p0.Post), .sl 2 (List.map a_Instr p0.Code), .sl 2 (List.map a_Point p0.Points)]), (18, .cp [.sl 2 (List.map a_Instr p0.Code)]), (19, .sl 2 (List.map a_Instr p0.Code))], [(11, .box [.snil, .snil, .snil, .snil]), (7693, .arr ⟨false, true⟩ 2 184 (List.map a_Term r9)), (8093, .arr ⟨false, true⟩ 2 184 (List.map a_Term r14)), (8173, .arr ⟨false, false⟩ 2 40 (List.map a_Instr ([] : List Instr))), (8733, .box [.snil, .snil, .snil, .snil])]⟩ ?_ (fun hS7292_1 => ?_)
    · refine TZ_one 15 (by kernel_rfl) rfl ?_
      refine TL_appendT (f := a_Instr) (a := ([] : List Instr)) (b := p0.Code) el24 z40 rfl rfl rfl rfl rfl rfl rfl (capI_spec hq20) rfl rfl rfl rfl rfl ?_
      refine TL_nil ?_
      refine TZ_pure 16 (by kernel_rfl) rfl rfl rfl rfl rfl (op_buildP pl69 z69 rfl rfl rfl rfl rfl) ?_
      refine TZ_one 18 (by kernel_rfl) rfl ?_
      refine TL_store_box sz69 rfl rfl rfl rfl rfl rfl rfl rfl rfl ?_
      refine TL_nil ?_
      refine TZ_done (by kernel_rfl) ?_
      refine T_keepH [0, 2, 3] [11, 7693, 8093, 8173, 8733] rfl rfl rfl rfl (by rw [hF]; rfl) ?_
      refine T_ren [(11, 11), (7693, 412), (8093, 812), (8173, 892), (8733, 1452)] rfl rfl rfl (by rw [hF]; rfl) ?_
      exact hj0 (r9, r14) hm
    refine TZ_cut 5 [true, true, true, true, true, true, true, true, true, true, true, true, true, true, false, false, false, false, false] ⟨[(0, .cp [.sl 2 (List.map a_Term p0.Pre), .sl 2 (List.map a_Term p0.Post), .sl 2 (List.map a_Instr p0.Code), .sl 2 (List.map a_Point p0.Points)]), (2, .ptr 11 0 0), (5, .cp [.sl 2 (List.map a_Term p0.Pre), .sl 2 (List.map a_Term p0.Post), .sl 2 (List.map a_Instr p0.Code), .sl 2 (List.map a_Point p0.Points)]), (6, .cp [.sl 2 (List.map a_Term p0.Pre), .sl 2 (List.map a_Term p0.Post), .sl 2 (List.map a_Instr p0.Code), .sl 2 (List.map a_Point p0.Points)]), (7, .cp [.sl 2 (List.map a_Term p0.Pre)]), (8, .sl 2 (List.map a_Term p0.Pre)), (9, .ow 7693), (10, .cp [.sl 2 (List.map a_Term p0.Pre), .sl 2 (List.map a_Term p0.Post), .sl 2 (List.map a_Instr p0.Code), .sl 2 (List.map a_Point p0.Points)]), (11, .cp [.sl 2 (List.map a_Term p0.Pre), .sl 2 (List.map a_Term p0.Post), .sl 2 (List.map a_Instr p0.Code), .sl 2 (List.map a_Point p0.Points)]), (12, .cp [.sl 2 (List.map a_Term p0.Post)]), (13, .sl 2 (List.map a_Term p0.Post)), (14, .ow 8093), (15, .ow 8173), (16, .cp [.sl 2 (List.map a_Term p0.Pre), .sl 2 (List.map a_Term p0.Post), .sl 2 (List.map a_Instr p0.Code), .sl 2 (List.map a_Point p0.Points)]), (17, .cp [.sl 2 (List.map a_Term p0.Pre), .sl 2 (List.map a_Term p0.Post), .sl 2 (List.map a_Instr p0.Code), .sl 2 (List.map a_Point p0.Points)]), (18, .cp [.sl 2 (List.map a_Instr p0.Code)])], [(11, .box [.snil, .snil, .snil, .snil]), (7693, .arr ⟨false, true⟩ 2 184 (List.map a_Term r9)), (8093, .arr ⟨false, true⟩ 2 184 (List.map a_Term r14)), (8173, .arr ⟨false, false⟩ 2 40 (List.map a_Instr ([] : List Instr)))]⟩ ?_ (fun hS7292_2 => ?_)
    · refine TZ_pure 14 (by kernel_rfl) rfl rfl rfl rfl rfl (op_load_one ag24 rfl rfl) ?_
      refine TZ_each [15, 17] (by kernel_rfl) rfl ?_
      refine ⟨?_, ?_⟩
      · refine ⟨_, rfl, ?_⟩
        refine TL_appendT (f := a_Instr) (a := ([] : List Instr)) (b := p0.Code) el24 z40 rfl rfl rfl rfl rfl rfl rfl (capI_spec hq20) rfl rfl rfl rfl rfl ?_
        refine TL_nil ?_
        refine TZ_keepH [0, 2, 5, 6, 7, 8, 9, 10, 11, 12, 13, 14, 15, 16, 17, 18, 19, 20] [11, 7693, 8093, 8173] rfl rfl rfl rfl (by rw [hF]; rfl) ?_
        exact hS7292_0
      · refine ⟨_, rfl, ?_⟩
        refine TL_alloc 8733 z69 rfl rfl rfl rfl rfl rfl rfl ?_
        refine TL_nil ?_
        refine TZ_keepH [0, 2, 3, 5, 6, 7, 8, 9, 10, 11, 12, 13, 14, 15, 16, 17, 18, 19] [11, 7693, 8093, 8173, 8733] rfl rfl rfl rfl (by rw [hF]; rfl) ?_
        exact hS7292_1
    refine TZ_cut 4 [true, true, true, true, true, true, true, true, true, true, true, true, true, true, true, false, false, false, false] ⟨[(0, .cp [.sl 2 (List.map a_Term p0.Pre), .sl 2 (List.map a_Term p0.Post), .sl 2 (List.map a_Instr p0.Code), .sl 2 (List.map a_Point p0.Points)]), (2, .ptr 11 0 0), (5, .cp [.sl 2 (List.map a_Term p0.Pre), .sl 2 (List.map a_Term p0.Post), .sl 2 (List.map a_Instr p0.Code), .sl 2 (List.map a_Point p0.Points)]), (6, .cp [.sl 2 (List.map a_Term p0.Pre), .sl 2 (List.map a_Term p0.Post), .sl 2 (List.map a_Instr p0.Code), .sl 2 (List.map a_Point p0.Points)]), (7, .cp [.sl 2 (List.map a_Term p0.Pre)]), (8, .sl 2 (List.map a_Term p0.Pre)), (9, .ow 7693), (10, .cp [.sl 2 (List.map a_Term p0.Pre), .sl 2 (List.map a_Term p0.Post), .sl 2 (List.map a_Instr p0.Code), .sl 2 (List.map a_Point p0.Points)]), (11, .cp [.sl 2 (List.map a_Term p0.Pre), .sl 2 (List.map a_Term p0.Post), .sl 2 (List.map a_Instr p0.Code), .sl 2 (List.map a_Point p0.Points)]), (12, .cp [.sl 2 (List.map a_Term p0.Post)]), (13, .sl 2 (List.map a_Term p0.Post)), (14, .ow 8093), (15, .ow 8173), (16, .cp [.sl 2 (List.map a_Term p0.Pre), .sl 2 (List.map a_Term p0.Post), .sl 2 (List.map a_Instr p0.Code), .sl 2 (List.map a_Point p0.Points)]), (17, .cp [.sl 2 (List.map a_Term p0.Pre), .sl 2 (List.map a_Term p0.Post), .sl 2 (List.map a_Instr p0.Code), .sl 2 (List.map a_Point p0.Points)]), (18, .cp [.sl 2 (List.map a_Instr p0.Code)]), (19, .sl 2 (List.map a_Instr p0.Code))], [(11, .box [.snil, .snil, .snil, .snil]), (7693, .arr ⟨false, true⟩ 2 184 (List.map a_Term r9)), (8093, .arr ⟨false, true⟩ 2 184 (List.map a_Term r14)), (8173, .arr ⟨false, false⟩ 2 40 (List.map a_Instr ([] : List Instr)))]⟩ ?_ (fun hS7292_3 => ?_)
    · refine TZ_each [15, 17] (by kernel_rfl) rfl ?_
      refine ⟨?_, ?_⟩
      · refine ⟨_, rfl, ?_⟩
        refine TL_appendT (f := a_Instr) (a := ([] : List Instr)) (b := p0.Code) el24 z40 rfl rfl rfl rfl rfl rfl rfl (capI_spec hq20) rfl rfl rfl rfl rfl ?_
        refine TL_nil ?_
        refine TZ_keepH [0, 2, 5, 6, 7, 8, 9, 10, 11, 12, 13, 14, 15, 16, 17, 18, 19, 20] [11, 7693, 8093, 8173] rfl rfl rfl rfl (by rw [hF]; rfl) ?_
        exact hS7292_0
      · refine ⟨_, rfl, ?_⟩
        refine TL_alloc 8733 z69 rfl rfl rfl rfl rfl rfl rfl ?_
        refine TL_nil ?_
        refine TZ_keepH [0, 2, 3, 5, 6, 7, 8, 9, 10, 11, 12, 13, 14, 15, 16, 17, 18, 19] [11, 7693, 8093, 8173, 8733] rfl rfl rfl rfl (by rw [hF]; rfl) ?_
        exact hS7292_1
    refine TZ_cut 4 [true, true, true, true, true, true, true, true, true, true, false, true, true, true, true, false, false, true, false] ⟨[(0, .cp [.sl 2 (List.map a_Term p0.Pre), .sl 2 (List.map a_Term p0.Post), .sl 2 (List.map a_Instr p0.Code), .sl 2 (List.map a_Point p0.Points)]), (2, .ptr 11 0 0), (3, .ptr 8733 0 0), (5, .cp [.sl 2 (List.map a_Term p0.Pre), .sl 2 (List.map a_Term p0.Post), .sl 2 (List.map a_Instr p0.Code), .sl 2 (List.map a_Point p0.Points)]), (6, .cp [.sl 2 (List.map a_Term p0.Pre), .sl 2 (List.map a_Term p0.Post), .sl 2 (List.map a_Instr p0.Code), .sl 2 (List.map a_Point p0.Points)]), (7, .cp [.sl 2 (List.map a_Term p0.Pre)]), (8, .sl 2 (List.map a_Term p0.Pre)), (9, .ow 7693), (10, .cp [.sl 2 (List.map a_Term p0.Pre), .sl 2 (List.map a_Term p0.Post), .sl 2 (List.map a_Instr p0.Code), .sl 2 (List.map a_Point p0.Points)]), (11, .cp [.sl 2 (List.map a_Term p0.Pre), .sl 2 (List.map a_Term p0.Post), .sl 2 (List.map a_Instr p0.Code), .sl 2 (List.map a_Point p0.Points)]), (12, .cp [.sl 2 (List.map a_Term p0.Post)]), (13, .sl 2 (List.map a_Term p0.Post)), (14, .ow 8093), (16, .cp [.sl 2 (List.map a_Term p0.Pre), .sl 2 (List.map a_Term p0.Post), .sl 2 (List.map a_Instr p0.Code), .sl 2 (List.map a_Point p0.Points)]), (17, .cp [.sl 2 (List.map a_Term p0.Pre), .sl 2 (List.map a_Term p0.Post), .sl 2 (List.map a_Instr p0.Code), .sl 2 (List.map a_Point p0.Points)]), (18, .cp [.sl 2 (List.map a_Instr p0.Code)]), (19, .sl 2 (List.map a_Instr p0.Code))], [(11, .box [.snil, .snil, .snil, .snil]), (7693, .arr ⟨false, true⟩ 2 184 (List.map a_Term r9)), (8093, .arr ⟨false, true⟩ 2 184 (List.map a_Term r14)), (8733, .box [.snil, .snil, .snil, .snil])]⟩ ?_ (fun hS7292_4 => ?_)
    · refine TZ_one 10 (by kernel_rfl) rfl ?_
      refine TL_buildSlice 8173 (es := List.map a_Instr ([] : List Instr)) el24 z40 rfl rfl rfl rfl rfl rfl rfl rfl rfl ?_
      refine TL_nil ?_
      refine TZ_one 15 (by kernel_rfl) rfl ?_
      refine TL_appendT (f := a_Instr) (a := ([] : List Instr)) (b := p0.Code) el24 z40 rfl rfl rfl rfl rfl rfl rfl (capI_spec hq20) rfl rfl rfl rfl rfl ?_
      refine TL_nil ?_
      refine TZ_pure 16 (by kernel_rfl) rfl rfl rfl rfl rfl (op_buildP pl69 z69 rfl rfl rfl rfl rfl) ?_
      refine TZ_one 18 (by kernel_rfl) rfl ?_
      refine TL_store_box sz69 rfl rfl rfl rfl rfl rfl rfl rfl rfl ?_
      refine TL_nil ?_
      refine TZ_done (by kernel_rfl) ?_
      refine T_keepH [0, 2, 3] [11, 7693, 8093, 8173, 8733] rfl rfl rfl rfl (by rw [hF]; rfl) ?_
      refine T_ren [(11, 11), (7693, 412), (8093, 812), (8173, 892), (8733, 1452)] rfl rfl rfl (by rw [hF]; rfl) ?_
      exact hj0 (r9, r14) hm
    refine TZ_cut 5 [true, true, true, true, true, true, true, true, true, true, false, true, true, true, true, false, false, false, false] ⟨[(0, .cp [.sl 2 (List.map a_Term p0.Pre), .sl 2 (List.map a_Term p0.Post), .sl 2 (List.map a_Instr p0.Code), .sl 2 (List.map a_Point p0.Points)]), (2, .ptr 11 0 0), (5, .cp [.sl 2 (List.map a_Term p0.Pre), .sl 2 (List.map a_Term p0.Post), .sl 2 (List.map a_Instr p0.Code), .sl 2 (List.map a_Point p0.Points)]), (6, .cp [.sl 2 (List.map a_Term p0.Pre), .sl 2 (List.map a_Term p0.Post), .sl 2 (List.map a_Instr p0.Code), .sl 2 (List.map a_Point p0.Points)]), (7, .cp [.sl 2 (List.map a_Term p0.Pre)]), (8, .sl 2 (List.map a_Term p0.Pre)), (9, .ow 7693), (10, .cp [.sl 2 (List.map a_Term p0.Pre), .sl 2 (List.map a_Term p0.Post), .sl 2 (List.map a_Instr p0.Code), .sl 2 (List.map a_Point p0.Points)]), (11, .cp [.sl 2 (List.map a_Term p0.Pre), .sl 2 (List.map a_Term p0.Post), .sl 2 (List.map a_Instr p0.Code), .sl 2 (List.map a_Point p0.Points)]), (12, .cp [.sl 2 (List.map a_Term p0.Post)]), (13, .sl 2 (List.map a_Term p0.Post)), (14, .ow 8093), (16, .cp [.sl 2 (List.map a_Term p0.Pre), .sl 2 (List.map a_Term p0.Post), .sl 2 (List.map a_Instr p0.Code), .sl 2 (List.map a_Point p0.Points)]), (17, .cp [.sl 2 (List.map a_Term p0.Pre), .sl 2 (List.map a_Term p0.Post), .sl 2 (List.map a_Instr p0.Code), .sl 2 (List.map a_Point p0.Points)]), (18, .cp [.sl 2 (List.map a_Instr p0.Code)]), (19, .sl 2 (List.map a_Instr p0.Code))], [(11, .box [.snil, .snil, .snil, .snil]), (7693, .arr ⟨false, true⟩ 2 184 (List.map a_Term r9)), (8093, .arr ⟨false, true⟩ 2 184 (List.map a_Term r14))]⟩ ?_ (fun hS7292_5 => ?_)
    · refine TZ_each [10, 17] (by kernel_rfl) rfl ?_
      refine ⟨?_, ?_⟩
      · refine ⟨_, rfl, ?_⟩
        refine TL_buildSlice 8173 (es := List.map a_Instr ([] : List Instr)) el24 z40 rfl rfl rfl rfl rfl rfl rfl rfl rfl ?_
        refine TL_nil ?_
        refine TZ_keepH [0, 2, 5, 6, 7, 8, 9, 10, 11, 12, 13, 14, 15, 16, 17, 18, 19] [11, 7693, 8093, 8173] rfl rfl rfl rfl (by rw [hF]; rfl) ?_
        exact hS7292_3
      · refine ⟨_, rfl, ?_⟩
        refine TL_alloc 8733 z69 rfl rfl rfl rfl rfl rfl rfl ?_
        refine TL_nil ?_
        refine TZ_keepH [0, 2, 3, 5, 6, 7, 8, 9, 10, 11, 12, 13, 14, 16, 17, 18, 19] [11, 7693, 8093, 8733] rfl rfl rfl rfl (by rw [hF]; rfl) ?_
        exact hS7292_4
    refine TZ_cut 4 [true, true, true, true, true, true, true, true, true, true, true, true, true, true, false, false, false, true, false] ⟨[(0, .cp [.sl 2 (List.map a_Term p0.Pre), .sl 2 (List.map a_Term p0.Post), .sl 2 (List.map a_Instr p0.Code), .sl 2 (List.map a_Point p0.Points)]), (2, .ptr 11 0 0), (3, .ptr 8733 0 0), (5, .cp [.sl 2 (List.map a_Term p0.Pre), .sl 2 (List.map a_Term p0.Post), .sl 2 (List.map a_Instr p0.Code), .sl 2 (List.map a_Point p0.Points)]), (6, .cp [.sl 2 (List.map a_Term p0.Pre), .sl 2 (List.map a_Term p0.Post), .sl 2 (List.map a_Instr p0.Code), .sl 2 (List.map a_Point p0.Points)]), (7, .cp [.sl 2 (List.map a_Term p0.Pre)]), (8, .sl 2 (List.map a_Term p0.Pre)), (9, .ow 7693), (10, .cp [.sl 2 (List.map a_Term p0.Pre), .sl 2 (List.map a_Term p0.Post), .sl 2 (List.map a_Instr p0.Code), .sl 2 (List.map a_Point p0.Points)]), (11, .cp [.sl 2 (List.map a_Term p0.Pre), .sl 2 (List.map a_Term p0.Post), .sl 2 (List.map a_Instr p0.Code), .sl 2 (List.map a_Point p0.Points)]), (12, .cp [.sl 2 (List.map a_Term p0.Post)]), (13, .sl 2 (List.map a_Term p0.Post)), (14, .ow 8093), (15, .ow 8173), (16, .cp [.sl 2 (List.map a_Term p0.Pre), .sl 2 (List.map a_Term p0.Post), .sl 2 (List.map a_Instr p0.Code), .sl 2 (List.map a_Point p0.Points)]), (17, .cp [.sl 2 (List.map a_Term p0.Pre), .sl 2 (List.map a_Term p0.Post), .sl 2 (List.map a_Instr p0.Code), .sl 2 (List.map a_Point p0.Points)]), (18, .cp [.sl 2 (List.map a_Instr p0.Code)])], [(11, .box [.snil, .snil, .snil, .snil]), (7693, .arr ⟨false, true⟩ 2 184 (List.map a_Term r9)), (8093, .arr ⟨false, true⟩ 2 184 (List.map a_Term r14)), (8173, .arr ⟨false, false⟩ 2 40 (List.map a_Instr ([] : List Instr))), (8733, .box [.snil, .snil, .snil, .snil])]⟩ ?_ (fun hS7292_6 => ?_)
    · refine TZ_pure 14 (by kernel_rfl) rfl rfl rfl rfl rfl (op_load_one ag24 rfl rfl) ?_
      refine TZ_one 15 (by kernel_rfl) rfl ?_
      refine TL_appendT (f := a_Instr) (a := ([] : List Instr)) (b := p0.Code) el24 z40 rfl rfl rfl rfl rfl rfl rfl (capI_spec hq20) rfl rfl rfl rfl rfl ?_
      refine TL_nil ?_
      refine TZ_pure 16 (by kernel_rfl) rfl rfl rfl rfl rfl (op_buildP pl69 z69 rfl rfl rfl rfl rfl) ?_
      refine TZ_one 18 (by kernel_rfl) rfl ?_
      refine TL_store_box sz69 rfl rfl rfl rfl rfl rfl rfl rfl rfl ?_
      refine TL_nil ?_
      refine TZ_done (by kernel_rfl) ?_
      refine T_keepH [0, 2, 3] [11, 7693, 8093, 8173, 8733] rfl rfl rfl rfl (by rw [hF]; rfl) ?_
      refine T_ren [(11, 11), (7693, 412), (8093, 812), (8173, 892), (8733, 1452)] rfl rfl rfl (by rw [hF]; rfl) ?_
      exact hj0 (r9, r14) hm
    refine TZ_cut 5 [true, true, true, true, true, true, true, true, true, true, false, true, true, true, false, false, false, true, false] ⟨[(0, .cp [.sl 2 (List.map a_Term p0.Pre), .sl 2 (List.map a_Term p0.Post), .sl 2 (List.map a_Instr p0.Code), .sl 2 (List.map a_Point p0.Points)]), (2, .ptr 11 0 0), (3, .ptr 8733 0 0), (5, .cp [.sl 2 (List.map a_Term p0.Pre), .sl 2 (List.map a_Term p0.Post), .sl 2 (List.map a_Instr p0.Code), .sl 2 (List.map a_Point p0.Points)]), (6, .cp [.sl 2 (List.map a_Term p0.Pre), .sl 2 (List.map a_Term p0.Post), .sl 2 (List.map a_Instr p0.Code), .sl 2 (List.map a_Point p0.Points)]), (7, .cp [.sl 2 (List.map a_Term p0.Pre)]), (8, .sl 2 (List.map a_Term p0.Pre)), (9, .ow 7693), (10, .cp [.sl 2 (List.map a_Term p0.Pre), .sl 2 (List.map a_Term p0.Post), .sl 2 (List.map a_Instr p0.Code), .sl 2 (List.map a_Point p0.Points)]), (11, .cp [.sl 2 (List.map a_Term p0.Pre), .sl 2 (List.map a_Term p0.Post), .sl 2 (List.map a_Instr p0.Code), .sl 2 (List.map a_Point p0.Points)]), (12, .cp [.sl 2 (List.map a_Term p0.Post)]), (13, .sl 2 (List.map a_Term p0.Post)), (14, .ow 8093), (16, .cp [.sl 2 (List.map a_Term p0.Pre), .sl 2 (List.map a_Term p0.Post), .sl 2 (List.map a_Instr p0.Code), .sl 2 (List.map a_Point p0.Points)]), (17, .cp [.sl 2 (List.map a_Term p0.Pre), .sl 2 (List.map a_Term p0.Post), .sl 2 (List.map a_Instr p0.Code), .sl 2 (List.map a_Point p0.Points)]), (18, .cp [.sl 2 (List.map a_Instr p0.Code)])], [(11, .box [.snil, .snil, .snil, .snil]), (7693, .arr ⟨false, true⟩ 2 184 (List.map a_Term r9)), (8093, .arr ⟨false, true⟩ 2 184 (List.map a_Term r14)), (8733, .box [.snil, .snil, .snil, .snil])]⟩ ?_ (fun hS7292_7 => ?_)
    · refine TZ_each [10, 14] (by kernel_rfl) rfl ?_
      refine ⟨?_, ?_⟩
      · refine ⟨_, rfl, ?_⟩
        refine TL_buildSlice 8173 (es := List.map a_Instr ([] : List Instr)) el24 z40 rfl rfl rfl rfl rfl rfl rfl rfl rfl ?_
        refine TL_nil ?_
        refine TZ_keepH [0, 2, 3, 5, 6, 7, 8, 9, 10, 11, 12, 13, 14, 15, 16, 17, 18] [11, 7693, 8093, 8173, 8733] rfl rfl rfl rfl (by rw [hF]; rfl) ?_
        exact hS7292_6
      · refine ⟨_, rfl, ?_⟩
        refine TL_pure rfl rfl rfl rfl (op_load_one ag24 rfl rfl) ?_
        refine TL_nil ?_
        refine TZ_keepH [0, 2, 3, 5, 6, 7, 8, 9, 10, 11, 12, 13, 14, 16, 17, 18, 19] [11, 7693, 8093, 8733] rfl rfl rfl rfl (by rw [hF]; rfl) ?_
        exact hS7292_4
    refine TZ_cut 6 [true, true, true, true, true, true, true, true, true, true, false, true, true, true, false, false, false, false, false] ⟨[(0, .cp [.sl 2 (List.map a_Term p0.Pre), .sl 2 (List.map a_Term p0.Post), .sl 2 (List.map a_Instr p0.Code), .sl 2 (List.map a_Point p0.Points)]), (2, .ptr 11 0 0), (5, .cp [.sl 2 (List.map a_Term p0.Pre), .sl 2 (List.map a_Term p0.Post), .sl 2 (List.map a_Instr p0.Code), .sl 2 (List.map a_Point p0.Points)]), (6, .cp [.sl 2 (List.map a_Term p0.Pre), .sl 2 (List.map a_Term p0.Post), .sl 2 (List.map a_Instr p0.Code), .sl 2 (List.map a_Point p0.Points)]), (7, .cp [.sl 2 (List.map a_Term p0.Pre)]), (8, .sl 2 (List.map a_Term p0.Pre)), (9, .ow 7693), (10, .cp [.sl 2 (List.map a_Term p0.Pre), .sl 2 (List.map a_Term p0.Post), .sl 2 (List.map a_Instr p0.Code), .sl 2 (List.map a_Point p0.Points)]), (11, .cp [.sl 2 (List.map a_Term p0.Pre), .sl 2 (List.map a_Term p0.Post), .sl 2 (List.map a_Instr p0.Code), .sl 2 (List.map a_Point p0.Points)]), (12, .cp [.sl 2 (List.map a_Term p0.Post)]), (13, .sl 2 (List.map a_Term p0.Post)), (14, .ow 8093), (16, .cp [.sl 2 (List.map a_Term p0.Pre), .sl 2 (List.map a_Term p0.Post), .sl 2 (List.map a_Instr p0.Code), .sl 2 (List.map a_Point p0.Points)]), (17, .cp [.sl 2 (List.map a_Term p0.Pre), .sl 2 (List.map a_Term p0.Post), .sl 2 (List.map a_Instr p0.Code), .sl 2 (List.map a_Point p0.Points)]), (18, .cp [.sl 2 (List.map a_Instr p0.Code)])], [(11, .box [.snil, .snil, .snil, .snil]), (7693, .arr ⟨false, true⟩ 2 184 (List.map a_Term r9)), (8093, .arr ⟨false, true⟩ 2 184 (List.map a_Term r14))]⟩ ?_ (fun hS7292_8 => ?_)
    · refine TZ_each [10, 14, 17] (by kernel_rfl) rfl ?_
      refine ⟨?_, ?_, ?_⟩
      · refine ⟨_, rfl, ?_⟩
        refine TL_buildSlice 8173 (es := List.map a_Instr ([] : List Instr)) el24 z40 rfl rfl rfl rfl rfl rfl rfl rfl rfl ?_
        refine TL_nil ?_
        refine TZ_keepH [0, 2, 5, 6, 7, 8, 9, 10, 11, 12, 13, 14, 15, 16, 17, 18] [11, 7693, 8093, 8173] rfl rfl rfl rfl (by rw [hF]; rfl) ?_
        exact hS7292_2
      · refine ⟨_, rfl, ?_⟩
        refine TL_pure rfl rfl rfl rfl (op_load_one ag24 rfl rfl) ?_
        refine TL_nil ?_
        refine TZ_keepH [0, 2, 5, 6, 7, 8, 9, 10, 11, 12, 13, 14, 16, 17, 18, 19] [11, 7693, 8093] rfl rfl rfl rfl (by rw [hF]; rfl) ?_
        exact hS7292_5
      · refine ⟨_, rfl, ?_⟩
        refine TL_alloc 8733 z69 rfl rfl rfl rfl rfl rfl rfl ?_
        refine TL_nil ?_
        refine TZ_keepH [0, 2, 3, 5, 6, 7, 8, 9, 10, 11, 12, 13, 14, 16, 17, 18] [11, 7693, 8093, 8733] rfl rfl rfl rfl (by rw [hF]; rfl) ?_
        exact hS7292_7
    refine TZ_cut 4 [true, true, true, true, true, true, true, true, true, false, true, true, true, true, true, false, false, true, false] ⟨[(0, .cp [.sl 2 (List.map a_Term p0.Pre), .sl 2 (List.map a_Term p0.Post), .sl 2 (List.map a_Instr p0.Code), .sl 2 (List.map a_Point p0.Points)]), (2, .ptr 11 0 0), (3, .ptr 8733 0 0), (5, .cp [.sl 2 (List.map a_Term p0.Pre), .sl 2 (List.map a_Term p0.Post), .sl 2 (List.map a_Instr p0.Code), .sl 2 (List.map a_Point p0.Points)]), (6, .cp [.sl 2 (List.map a_Term p0.Pre), .sl 2 (List.map a_Term p0.Post), .sl 2 (List.map a_Instr p0.Code), .sl 2 (List.map a_Point p0.Points)]), (7, .cp [.sl 2 (List.map a_Term p0.Pre)]), (8, .sl 2 (List.map a_Term p0.Pre)), (9, .ow 7693), (10, .cp [.sl 2 (List.map a_Term p0.Pre), .sl 2 (List.map a_Term p0.Post), .sl 2 (List.map a_Instr p0.Code), .sl 2 (List.map a_Point p0.Points)]), (11, .cp [.sl 2 (List.map a_Term p0.Pre), .sl 2 (List.map a_Term p0.Post), .sl 2 (List.map a_Instr p0.Code), .sl 2 (List.map a_Point p0.Points)]), (12, .cp [.sl 2 (List.map a_Term p0.Post)]), (13, .sl 2 (List.map a_Term p0.Post)), (15, .ow 8173), (16, .cp [.sl 2 (List.map a_Term p0.Pre), .sl 2 (List.map a_Term p0.Post), .sl 2 (List.map a_Instr p0.Code), .sl 2 (List.map a_Point p0.Points)]), (17, .cp [.sl 2 (List.map a_Term p0.Pre), .sl 2 (List.map a_Term p0.Post), .sl 2 (List.map a_Instr p0.Code), .sl 2 (List.map a_Point p0.Points)]), (18, .cp [.sl 2 (List.map a_Instr p0.Code)]), (19, .sl 2 (List.map a_Instr p0.Code))], [(11, .box [.snil, .snil, .snil, .snil]), (7693, .arr ⟨false, true⟩ 2 184 (List.map a_Term r9)), (8173, .arr ⟨false, false⟩ 2 40 (List.map a_Instr ([] : List Instr))), (8733, .box [.snil, .snil, .snil, .snil])]⟩ ?_ (fun hS7292_9 => ?_)
    · refine TZ_one 9 (by kernel_rfl) rfl ?_
      refine TL_callO [(1000, 8093)] (ACall.F (F := F) (c_spec_l02OwnAll p0.Post r14 hr14)) Try.call104 rfl rfl rfl rfl rfl rfl rfl rfl rfl rfl rfl rfl rfl ?_
      refine TL_nil ?_
      refine TZ_one 15 (by kernel_rfl) rfl ?_
      refine TL_appendT (f := a_Instr) (a := ([] : List Instr)) (b := p0.Code) el24 z40 rfl rfl rfl rfl rfl rfl rfl (capI_spec hq20) rfl rfl rfl rfl rfl ?_
      refine TL_nil ?_
      refine TZ_pure 16 (by kernel_rfl) rfl rfl rfl rfl rfl (op_buildP pl69 z69 rfl rfl rfl rfl rfl) ?_
      refine TZ_one 18 (by kernel_rfl) rfl ?_
      refine TL_store_box sz69 rfl rfl rfl rfl rfl rfl rfl rfl rfl ?_
      refine TL_nil ?_
      refine TZ_done (by kernel_rfl) ?_
      refine T_keepH [0, 2, 3] [11, 7693, 8093, 8173, 8733] rfl rfl rfl rfl (by rw [hF]; rfl) ?_
      refine T_ren [(11, 11), (7693, 412), (8093, 812), (8173, 892), (8733, 1452)] rfl rfl rfl (by rw [hF]; rfl) ?_
      exact hj0 (r9, r14) hm
    refine TZ_cut 6 [true, true, true, true, true, true, true, true, true, false, true, true, true, true, false, false, false, false, false] ⟨[(0, .cp [.sl 2 (List.map a_Term p0.Pre), .sl 2 (List.map a_Term p0.Post), .sl 2 (List.map a_Instr p0.Code), .sl 2 (List.map a_Point p0.Points)]), (2, .ptr 11 0 0), (5, .cp [.sl 2 (List.map a_Term p0.Pre), .sl 2 (List.map a_Term p0.Post), .sl 2 (List.map a_Instr p0.Code), .sl 2 (List.map a_Point p0.Points)]), (6, .cp [.sl 2 (List.map a_Term p0.Pre), .sl 2 (List.map a_Term p0.Post), .sl 2 (List.map a_Instr p0.Code), .sl 2 (List.map a_Point p0.Points)]), (7, .cp [.sl 2 (List.map a_Term p0.Pre)]), (8, .sl 2 (List.map a_Term p0.Pre)), (9, .ow 7693), (10, .cp [.sl 2 (List.map a_Term p0.Pre), .sl 2 (List.map a_Term p0.Post), .sl 2 (List.map a_Instr p0.Code), .sl 2 (List.map a_Point p0.Points)]), (11, .cp [.sl 2 (List.map a_Term p0.Pre), .sl 2 (List.map a_Term p0.Post), .sl 2 (List.map a_Instr p0.Code), .sl 2 (List.map a_Point p0.Points)]), (12, .cp [.sl 2 (List.map a_Term p0.Post)]), (13, .sl 2 (List.map a_Term p0.Post)), (15, .ow 8173), (16, .cp [.sl 2 (List.map a_Term p0.Pre), .sl 2 (List.map a_Term p0.Post), .sl 2 (List.map a_Instr p0.Code), .sl 2 (List.map a_Point p0.Points)]), (17, .cp [.sl 2 (List.map a_Term p0.Pre), .sl 2 (List.map a_Term p0.Post), .sl 2 (List.map a_Instr p0.Code), .sl 2 (List.map a_Point p0.Points)]), (18, .cp [.sl 2 (List.map a_Instr p0.Code)])], [(11, .box [.snil, .snil, .snil, .snil]), (7693, .arr ⟨false, true⟩ 2 184 (List.map a_Term r9)), (8173, .arr ⟨false, false⟩ 2 40 (List.map a_Instr ([] : List Instr)))]⟩ ?_ (fun hS7292_10 => ?_)
    · refine TZ_pure 14 (by kernel_rfl) rfl rfl rfl rfl rfl (op_load_one ag24 rfl rfl) ?_
      refine TZ_each [9, 17] (by kernel_rfl) rfl ?_
      refine ⟨?_, ?_⟩
      · refine ⟨_, rfl, ?_⟩
        refine TL_callO [(1000, 8093)] (ACall.F (F := F) (c_spec_l02OwnAll p0.Post r14 hr14)) Try.call104 rfl rfl rfl rfl rfl rfl rfl rfl rfl rfl rfl rfl rfl ?_
        refine TL_nil ?_
        refine TZ_keepH [0, 2, 5, 6, 7, 8, 9, 10, 11, 12, 13, 14, 15, 16, 17, 18, 19] [11, 7693, 8093, 8173] rfl rfl rfl rfl (by rw [hF]; rfl) ?_
        exact hS7292_3
      · refine ⟨_, rfl, ?_⟩
        refine TL_alloc 8733 z69 rfl rfl rfl rfl rfl rfl rfl ?_
        refine TL_nil ?_
        refine TZ_keepH [0, 2, 3, 5, 6, 7, 8, 9, 10, 11, 12, 13, 15, 16, 17, 18, 19] [11, 7693, 8173, 8733] rfl rfl rfl rfl (by rw [hF]; rfl) ?_
        exact hS7292_9
    refine TZ_cut 5 [true, true, true, true, true, true, true, true, true, false, true, true, true, true, true, false, false, false, false] ⟨[(0, .cp [.sl 2 (List.map a_Term p0.Pre), .sl 2 (List.map a_Term p0.Post), .sl 2 (List.map a_Instr p0.Code), .sl 2 (List.map a_Point p0.Points)]), (2, .ptr 11 0 0), (5, .cp [.sl 2 (List.map a_Term p0.Pre), .sl 2 (List.map a_Term p0.Post), .sl 2 (List.map a_Instr p0.Code), .sl 2 (List.map a_Point p0.Points)]), (6, .cp [.sl 2 (List.map a_Term p0.Pre), .sl 2 (List.map a_Term p0.Post), .sl 2 (List.map a_Instr p0.Code), .sl 2 (List.map a_Point p0.Points)]), (7, .cp [.sl 2 (List.map a_Term p0.Pre)]), (8, .sl 2 (List.map a_Term p0.Pre)), (9, .ow 7693), (10, .cp [.sl 2 (List.map a_Term p0.Pre), .sl 2 (List.map a_Term p0.Post), .sl 2 (List.map a_Instr p0.Code), .sl 2 (List.map a_Point p0.Points)]), (11, .cp [.sl 2 (List.map a_Term p0.Pre), .sl 2 (List.map a_Term p0.Post), .sl 2 (List.map a_Instr p0.Code), .sl 2 (List.map a_Point p0.Points)]), (12, .cp [.sl 2 (List.map a_Term p0.Post)]), (13, .sl 2 (List.map a_Term p0.Post)), (15, .ow 8173), (16, .cp [.sl 2 (List.map a_Term p0.Pre), .sl 2 (List.map a_Term p0.Post), .sl 2 (List.map a_Instr p0.Code), .sl 2 (List.map a_Point p0.Points)]), (17, .cp [.sl 2 (List.map a_Term p0.Pre), .sl 2 (List.map a_Term p0.Post), .sl 2 (List.map a_Instr p0.Code), .sl 2 (List.map a_Point p0.Points)]), (18, .cp [.sl 2 (List.map a_Instr p0.Code)]), (19, .sl 2 (List.map a_Instr p0.Code))], [(11, .box [.snil, .snil, .snil, .snil]), (7693, .arr ⟨false, true⟩ 2 184 (List.map a_Term r9)), (8173, .arr ⟨false, false⟩ 2 40 (List.map a_Instr ([] : List Instr)))]⟩ ?_ (fun hS7292_11 => ?_)
    · refine TZ_each [9, 17] (by kernel_rfl) rfl ?_
      refine ⟨?_, ?_⟩
      · refine ⟨_, rfl, ?_⟩
        refine TL_callO [(1000, 8093)] (ACall.F (F := F) (c_spec_l02OwnAll p0.Post r14 hr14)) Try.call104 rfl rfl rfl rfl rfl rfl rfl rfl rfl rfl rfl rfl rfl ?_
        refine TL_nil ?_
        refine TZ_keepH [0, 2, 5, 6, 7, 8, 9, 10, 11, 12, 13, 14, 15, 16, 17, 18, 19] [11, 7693, 8093, 8173] rfl rfl rfl rfl (by rw [hF]; rfl) ?_
        exact hS7292_3
      · refine ⟨_, rfl, ?_⟩
        refine TL_alloc 8733 z69 rfl rfl rfl rfl rfl rfl rfl ?_
        refine TL_nil ?_
        refine TZ_keepH [0, 2, 3, 5, 6, 7, 8, 9, 10, 11, 12, 13, 15, 16, 17, 18, 19] [11, 7693, 8173, 8733] rfl rfl rfl rfl (by rw [hF]; rfl) ?_
        exact hS7292_9
    refine TZ_cut 5 [true, true, true, true, true, true, true, true, true, false, false, true, true, true, true, false, false, true, false] ⟨[(0, .cp [.sl 2 (List.map a_Term p0.Pre), .sl 2 (List.map a_Term p0.Post), .sl 2 (List.map a_Instr p0.Code), .sl 2 (List.map a_Point p0.Points)]), (2, .ptr 11 0 0), (3, .ptr 8733 0 0), (5, .cp [.sl 2 (List.map a_Term p0.Pre), .sl 2 (List.map a_Term p0.Post), .sl 2 (List.map a_Instr p0.Code), .sl 2 (List.map a_Point p0.Points)]), (6, .cp [.sl 2 (List.map a_Term p0.Pre), .sl 2 (List.map a_Term p0.Post), .sl 2 (List.map a_Instr p0.Code), .sl 2 (List.map a_Point p0.Points)]), (7, .cp [.sl 2 (List.map a_Term p0.Pre)]), (8, .sl 2 (List.map a_Term p0.Pre)), (9, .ow 7693), (10, .cp [.sl 2 (List.map a_Term p0.Pre), .sl 2 (List.map a_Term p0.Post), .sl 2 (List.map a_Instr p0.Code), .sl 2 (List.map a_Point p0.Points)]), (11, .cp [.sl 2 (List.map a_Term p0.Pre), .sl 2 (List.map a_Term p0.Post), .sl 2 (List.map a_Instr p0.Code), .sl 2 (List.map a_Point p0.Points)]), (12, .cp [.sl 2 (List.map a_Term p0.Post)]), (13, .sl 2 (List.map a_Term p0.Post)), (16, .cp [.sl 2 (List.map a_Term p0.Pre), .sl 2 (List.map a_Term p0.Post), .sl 2 (List.map a_Instr p0.Code), .sl 2 (List.map a_Point p0.Points)]), (17, .cp [.sl 2 (List.map a_Term p0.Pre), .sl 2 (List.map a_Term p0.Post), .sl 2 (List.map a_Instr p0.Code), .sl 2 (List.map a_Point p0.Points)]), (18, .cp [.sl 2 (List.map a_Instr p0.Code)]), (19, .sl 2 (List.map a_Instr p0.Code))], [(11, .box [.snil, .snil, .snil, .snil]), (7693, .arr ⟨false, true⟩ 2 184 (List.map a_Term r9)), (8733, .box [.snil, .snil, .snil, .snil])]⟩ ?_ (fun hS7292_12 => ?_)
    · refine TZ_each [9, 10] (by kernel_rfl) rfl ?_
      refine ⟨?_, ?_⟩
      · refine ⟨_, rfl, ?_⟩
        refine TL_callO [(1000, 8093)] (ACall.F (F := F) (c_spec_l02OwnAll p0.Post r14 hr14)) Try.call104 rfl rfl rfl rfl rfl rfl rfl rfl rfl rfl rfl rfl rfl ?_
        refine TL_nil ?_
        refine TZ_keepH [0, 2, 3, 5, 6, 7, 8, 9, 10, 11, 12, 13, 14, 16, 17, 18, 19] [11, 7693, 8093, 8733] rfl rfl rfl rfl (by rw [hF]; rfl) ?_
        exact hS7292_4
      · refine ⟨_, rfl, ?_⟩
        refine TL_buildSlice 8173 (es := List.map a_Instr ([] : List Instr)) el24 z40 rfl rfl rfl rfl rfl rfl rfl rfl rfl ?_
        refine TL_nil ?_
        refine TZ_keepH [0, 2, 3, 5, 6, 7, 8, 9, 10, 11, 12, 13, 15, 16, 17, 18, 19] [11, 7693, 8173, 8733] rfl rfl rfl rfl (by rw [hF]; rfl) ?_
        exact hS7292_9
    refine TZ_cut 6 [true, true, true, true, true, true, true, true, true, false, false, true, true, true, true, false, false, false, false] ⟨[(0, .cp [.sl 2 (List.map a_Term p0.Pre), .sl 2 (List.map a_Term p0.Post), .sl 2 (List.map a_Instr p0.Code), .sl 2 (List.map a_Point p0.Points)]), (2, .ptr 11 0 0), (5, .cp [.sl 2 (List.map a_Term p0.Pre), .sl 2 (List.map a_Term p0.Post), .sl 2 (List.map a_Instr p0.Code), .sl 2 (List.map a_Point p0.Points)]), (6, .cp [.sl 2 (List.map a_Term p0.Pre), .sl 2 (List.map a_Term p0.Post), .sl 2 (List.map a_Instr p0.Code), .sl 2 (List.map a_Point p0.Points)]), (7, .cp [.sl 2 (List.map a_Term p0.Pre)]), (8, .sl 2 (List.map a_Term p0.Pre)), (9, .ow 7693), (10, .cp [.sl 2 (List.map a_Term p0.Pre), .sl 2 (List.map a_Term p0.Post), .sl 2 (List.map a_Instr p0.Code), .sl 2 (List.map a_Point p0.Points)]), (11, .cp [.sl 2 (List.map a_Term p0.Pre), .sl 2 (List.map a_Term p0.Post), .sl 2 (List.map a_Instr p0.Code), .sl 2 (List.map a_Point p0.Points)]), (12, .cp [.sl 2 (List.map a_Term p0.Post)]), (13, .sl 2 (List.map a_Term p0.Post)), (16, .cp [.sl 2 (List.map a_Term p0.Pre), .sl 2 (List.map a_Term p0.Post), .sl 2 (List.map a_Instr p0.Code), .sl 2 (List.map a_Point p0.Points)]), (17, .cp [.sl 2 (List.map a_Term p0.Pre), .sl 2 (List.map a_Term p0.Post), .sl 2 (List.map a_Instr p0.Code), .sl 2 (List.map a_Point p0.Points)]), (18, .cp [.sl 2 (List.map a_Instr p0.Code)]), (19, .sl 2 (List.map a_Instr p0.Code))], [(11, .box [.snil, .snil, .snil, .snil]), (7693, .arr ⟨false, true⟩ 2 184 (List.map a_Term r9))]⟩ ?_ (fun hS7292_13 => ?_)
    · refine TZ_each [9, 10, 17] (by kernel_rfl) rfl ?_
      refine ⟨?_, ?_, ?_⟩
      · refine ⟨_, rfl, ?_⟩
        refine TL_callO [(1000, 8093)] (ACall.F (F := F) (c_spec_l02OwnAll p0.Post r14 hr14)) Try.call104 rfl rfl rfl rfl rfl rfl rfl rfl rfl rfl rfl rfl rfl ?_
        refine TL_nil ?_
        refine TZ_keepH [0, 2, 5, 6, 7, 8, 9, 10, 11, 12, 13, 14, 16, 17, 18, 19] [11, 7693, 8093] rfl rfl rfl rfl (by rw [hF]; rfl) ?_
        exact hS7292_5
      · refine ⟨_, rfl, ?_⟩
        refine TL_buildSlice 8173 (es := List.map a_Instr ([] : List Instr)) el24 z40 rfl rfl rfl rfl rfl rfl rfl rfl rfl ?_
        refine TL_nil ?_
        refine TZ_keepH [0, 2, 5, 6, 7, 8, 9, 10, 11, 12, 13, 15, 16, 17, 18, 19] [11, 7693, 8173] rfl rfl rfl rfl (by rw [hF]; rfl) ?_
        exact hS7292_11
      · refine ⟨_, rfl, ?_⟩
        refine TL_alloc 8733 z69 rfl rfl rfl rfl rfl rfl rfl ?_
        refine TL_nil ?_
        refine TZ_keepH [0, 2, 3, 5, 6, 7, 8, 9, 10, 11, 12, 13, 16, 17, 18, 19] [11, 7693, 8733] rfl rfl rfl rfl (by rw [hF]; rfl) ?_
        exact hS7292_12
    refine TZ_cut 5 [true, true, true, true, true, true, true, true, true, false, true, true, true, true, false, false, false, true, false] ⟨[(0, .cp [.sl 2 (List.map a_Term p0.Pre), .sl 2 (List.map a_Term p0.Post), .sl 2 (List.map a_Instr p0.Code), .sl 2 (List.map a_Point p0.Points)]), (2, .ptr 11 0 0), (3, .ptr 8733 0 0), (5, .cp [.sl 2 (List.map a_Term p0.Pre), .sl 2 (List.map a_Term p0.Post), .sl 2 (List.map a_Instr p0.Code), .sl 2 (List.map a_Point p0.Points)]), (6, .cp [.sl 2 (List.map a_Term p0.Pre), .sl 2 (List.map a_Term p0.Post), .sl 2 (List.map a_Instr p0.Code), .sl 2 (List.map a_Point p0.Points)]), (7, .cp [.sl 2 (List.map a_Term p0.Pre)]), (8, .sl 2 (List.map a_Term p0.Pre)), (9, .ow 7693), (10, .cp [.sl 2 (List.map a_Term p0.Pre), .sl 2 (List.map a_Term p0.Post), .sl 2 (List.map a_Instr p0.Code), .sl 2 (List.map a_Point p0.Points)]), (11, .cp [.sl 2 (List.map a_Term p0.Pre), .sl 2 (List.map a_Term p0.Post), .sl 2 (List.map a_Instr p0.Code), .sl 2 (List.map a_Point p0.Points)]), (12, .cp [.sl 2 (List.map a_Term p0.Post)]), (13, .sl 2 (List.map a_Term p0.Post)), (15, .ow 8173), (16, .cp [.sl 2 (List.map a_Term p0.Pre), .sl 2 (List.map a_Term p0.Post), .sl 2 (List.map a_Instr p0.Code), .sl 2 (List.map a_Point p0.Points)]), (17, .cp [.sl 2 (List.map a_Term p0.Pre), .sl 2 (List.map a_Term p0.Post), .sl 2 (List.map a_Instr p0.Code), .sl 2 (List.map a_Point p0.Points)]), (18, .cp [.sl 2 (List.map a_Instr p0.Code)])], [(11, .box [.snil, .snil, .snil, .snil]), (7693, .arr ⟨false, true⟩ 2 184 (List.map a_Term r9)), (8173, .arr ⟨false, false⟩ 2 40 (List.map a_Instr ([] : List Instr))), (8733, .box [.snil, .snil, .snil, .snil])]⟩ ?_ (fun hS7292_14 => ?_)
    · refine TZ_pure 14 (by kernel_rfl) rfl rfl rfl rfl rfl (op_load_one ag24 rfl rfl) ?_
      refine TZ_one 9 (by kernel_rfl) rfl ?_
      refine TL_callO [(1000, 8093)] (ACall.F (F := F) (c_spec_l02OwnAll p0.Post r14 hr14)) Try.call104 rfl rfl rfl rfl rfl rfl rfl rfl rfl rfl rfl rfl rfl ?_
      refine TL_nil ?_
      refine TZ_one 15 (by kernel_rfl) rfl ?_
      refine TL_appendT (f := a_Instr) (a := ([] : List Instr)) (b := p0.Code) el24 z40 rfl rfl rfl rfl rfl rfl rfl (capI_spec hq20) rfl rfl rfl rfl rfl ?_
      refine TL_nil ?_
      refine TZ_pure 16 (by kernel_rfl) rfl rfl rfl rfl rfl (op_buildP pl69 z69 rfl rfl rfl rfl rfl) ?_
      refine TZ_one 18 (by kernel_rfl) rfl ?_
      refine TL_store_box sz69 rfl rfl rfl rfl rfl rfl rfl rfl rfl ?_
      refine TL_nil ?_
      refine TZ_done (by kernel_rfl) ?_
      refine T_keepH [0, 2, 3] [11, 7693, 8093, 8173, 8733] rfl rfl rfl rfl (by rw [hF]; rfl) ?_
      refine T_ren [(11, 11), (7693, 412), (8093, 812), (8173, 892), (8733, 1452)] rfl rfl rfl (by rw [hF]; rfl) ?_
      exact hj0 (r9, r14) hm
    refine TZ_cut 6 [true, true, true, true, true, true, true, true, true, false, false, true, true, true, false, false, false, true, false] ⟨[(0, .cp [.sl 2 (List.map a_Term p0.Pre), .sl 2 (List.map a_Term p0.Post), .sl 2 (List.map a_Instr p0.Code), .sl 2 (List.map a_Point p0.Points)]), (2, .ptr 11 0 0), (3, .ptr 8733 0 0), (5, .cp [.sl 2 (List.map a_Term p0.Pre), .sl 2 (List.map a_Term p0.Post), .sl 2 (List.map a_Instr p0.Code), .sl 2 (List.map a_Point p0.Points)]), (6, .cp [.sl 2 (List.map a_Term p0.Pre), .sl 2 (List.map a_Term p0.Post), .sl 2 (List.map a_Instr p0.Code), .sl 2 (List.map a_Point p0.Points)]), (7, .cp [.sl 2 (List.map a_Term p0.Pre)]), (8, .sl 2 (List.map a_Term p0.Pre)), (9, .ow 7693), (10, .cp [.sl 2 (List.map a_Term p0.Pre), .sl 2 (List.map a_Term p0.Post), .sl 2 (List.map a_Instr p0.Code), .sl 2 (List.map a_Point p0.Points)]), (11, .cp [.sl 2 (List.map a_Term p0.Pre), .sl 2 (List.map a_Term p0.Post), .sl 2 (List.map a_Instr p0.Code), .sl 2 (List.map a_Point p0.Points)]), (12, .cp [.sl 2 (List.map a_Term p0.Post)]), (13, .sl 2 (List.map a_Term p0.Post)), (16, .cp [.sl 2 (List.map a_Term p0.Pre), .sl 2 (List.map a_Term p0.Post), .sl 2 (List.map a_Instr p0.Code), .sl 2 (List.map a_Point p0.Points)]), (17, .cp [.sl 2 (List.map a_Term p0.Pre), .sl 2 (List.map a_Term p0.Post), .sl 2 (List.map a_Instr p0.Code), .sl 2 (List.map a_Point p0.Points)]), (18, .cp [.sl 2 (List.map a_Instr p0.Code)])], [(11, .box [.snil, .snil, .snil, .snil]), (7693, .arr ⟨false, true⟩ 2 184 (List.map a_Term r9)), (8733, .box [.snil, .snil, .snil, .snil])]⟩ ?_ (fun hS7292_15 => ?_)
    · refine TZ_each [9, 10, 14] (by kernel_rfl) rfl ?_
      refine ⟨?_, ?_, ?_⟩
      · refine ⟨_, rfl, ?_⟩
        refine TL_callO [(1000, 8093)] (ACall.F (F := F) (c_spec_l02OwnAll p0.Post r14 hr14)) Try.call104 rfl rfl rfl rfl rfl rfl rfl rfl rfl rfl rfl rfl rfl ?_
        refine TL_nil ?_
        refine TZ_keepH [0, 2, 3, 5, 6, 7, 8, 9, 10, 11, 12, 13, 14, 16, 17, 18] [11, 7693, 8093, 8733] rfl rfl rfl rfl (by rw [hF]; rfl) ?_
        exact hS7292_7
      · refine ⟨_, rfl, ?_⟩
        refine TL_buildSlice 8173 (es := List.map a_Instr ([] : List Instr)) el24 z40 rfl rfl rfl rfl rfl rfl rfl rfl rfl ?_
        refine TL_nil ?_
        refine TZ_keepH [0, 2, 3, 5, 6, 7, 8, 9, 10, 11, 12, 13, 15, 16, 17, 18] [11, 7693, 8173, 8733] rfl rfl rfl rfl (by rw [hF]; rfl) ?_
        exact hS7292_14
      · refine ⟨_, rfl, ?_⟩
        refine TL_pure rfl rfl rfl rfl (op_load_one ag24 rfl rfl) ?_
        refine TL_nil ?_
        refine TZ_keepH [0, 2, 3, 5, 6, 7, 8, 9, 10, 11, 12, 13, 16, 17, 18, 19] [11, 7693, 8733] rfl rfl rfl rfl (by rw [hF]; rfl) ?_
        exact hS7292_12
    refine TZ_cut 7 [true, true, true, true, true, true, true, true, true, false, false, true, true, true, false, false, false, false, false] ⟨[(0, .cp [.sl 2 (List.map a_Term p0.Pre), .sl 2 (List.map a_Term p0.Post), .sl 2 (List.map a_Instr p0.Code), .sl 2 (List.map a_Point p0.Points)]), (2, .ptr 11 0 0), (5, .cp [.sl 2 (List.map a_Term p0.Pre), .sl 2 (List.map a_Term p0.Post), .sl 2 (List.map a_Instr p0.Code), .sl 2 (List.map a_Point p0.Points)]), (6, .cp [.sl 2 (List.map a_Term p0.Pre), .sl 2 (List.map a_Term p0.Post), .sl 2 (List.map a_Instr p0.Code), .sl 2 (List.map a_Point p0.Points)]), (7, .cp [.sl 2 (List.map a_Term p0.Pre)]), (8, .sl 2 (List.map a_Term p0.Pre)), (9, .ow 7693), (10, .cp [.sl 2 (List.map a_Term p0.Pre), .sl 2 (List.map a_Term p0.Post), .sl 2 (List.map a_Instr p0.Code), .sl 2 (List.map a_Point p0.Points)]), (11, .cp [.sl 2 (List.map a_Term p0.Pre), .sl 2 (List.map a_Term p0.Post), .sl 2 (List.map a_Instr p0.Code), .sl 2 (List.map a_Point p0.Points)]), (12, .cp [.sl 2 (List.map a_Term p0.Post)]), (13, .sl 2 (List.map a_Term p0.Post)), (16, .cp [.sl 2 (List.map a_Term p0.Pre), .sl 2 (List.map a_Term p0.Post), .sl 2 (List.map a_Instr p0.Code), .sl 2 (List.map a_Point p0.Points)]), (17, .cp [.sl 2 (List.map a_Term p0.Pre), .sl 2 (List.map a_Term p0.Post), .sl 2 (List.map a_Instr p0.Code), .sl 2 (List.map a_Point p0.Points)]), (18, .cp [.sl 2 (List.map a_Instr p0.Code)])], [(11, .box [.snil, .snil, .snil, .snil]), (7693, .arr ⟨false, true⟩ 2 184 (List.map a_Term r9))]⟩ ?_ (fun hS7292_16 => ?_)
    · refine TZ_each [9, 10, 14, 17] (by kernel_rfl) rfl ?_
      refine ⟨?_, ?_, ?_, ?_⟩
      · refine ⟨_, rfl, ?_⟩
        refine TL_callO [(1000, 8093)] (ACall.F (F := F) (c_spec_l02OwnAll p0.Post r14 hr14)) Try.call104 rfl rfl rfl rfl rfl rfl rfl rfl rfl rfl rfl rfl rfl ?_
        refine TL_nil ?_
        refine TZ_keepH [0, 2, 5, 6, 7, 8, 9, 10, 11, 12, 13, 14, 16, 17, 18] [11, 7693, 8093] rfl rfl rfl rfl (by rw [hF]; rfl) ?_
        exact hS7292_8
      · refine ⟨_, rfl, ?_⟩
        refine TL_buildSlice 8173 (es := List.map a_Instr ([] : List Instr)) el24 z40 rfl rfl rfl rfl rfl rfl rfl rfl rfl ?_
        refine TL_nil ?_
        refine TZ_keepH [0, 2, 5, 6, 7, 8, 9, 10, 11, 12, 13, 15, 16, 17, 18] [11, 7693, 8173] rfl rfl rfl rfl (by rw [hF]; rfl) ?_
        exact hS7292_10
      · refine ⟨_, rfl, ?_⟩
        refine TL_pure rfl rfl rfl rfl (op_load_one ag24 rfl rfl) ?_
        refine TL_nil ?_
        refine TZ_keepH [0, 2, 5, 6, 7, 8, 9, 10, 11, 12, 13, 16, 17, 18, 19] [11, 7693] rfl rfl rfl rfl (by rw [hF]; rfl) ?_
        exact hS7292_13
      · refine ⟨_, rfl, ?_⟩
        refine TL_alloc 8733 z69 rfl rfl rfl rfl rfl rfl rfl ?_
        refine TL_nil ?_
        refine TZ_keepH [0, 2, 3, 5, 6, 7, 8, 9, 10, 11, 12, 13, 16, 17, 18] [11, 7693, 8733] rfl rfl rfl rfl (by rw [hF]; rfl) ?_
        exact hS7292_15
    refine TZ_cut 5 [true, true, true, true, true, true, true, true, false, false, true, true, true, true, true, false, false, true, false] ⟨[(0, .cp [.sl 2 (List.map a_Term p0.Pre), .sl 2 (List.map a_Term p0.Post), .sl 2 (List.map a_Instr p0.Code), .sl 2 (List.map a_Point p0.Points)]), (2, .ptr 11 0 0), (3, .ptr 8733 0 0), (5, .cp [.sl 2 (List.map a_Term p0.Pre), .sl 2 (List.map a_Term p0.Post), .sl 2 (List.map a_Instr p0.Code), .sl 2 (List.map a_Point p0.Points)]), (6, .cp [.sl 2 (List.map a_Term p0.Pre), .sl 2 (List.map a_Term p0.Post), .sl 2 (List.map a_Instr p0.Code), .sl 2 (List.map a_Point p0.Points)]), (7, .cp [.sl 2 (List.map a_Term p0.Pre)]), (8, .sl 2 (List.map a_Term p0.Pre)), (9, .ow 7693), (10, .cp [.sl 2 (List.map a_Term p0.Pre), .sl 2 (List.map a_Term p0.Post), .sl 2 (List.map a_Instr p0.Code), .sl 2 (List.map a_Point p0.Points)]), (11, .cp [.sl 2 (List.map a_Term p0.Pre), .sl 2 (List.map a_Term p0.Post), .sl 2 (List.map a_Instr p0.Code), .sl 2 (List.map a_Point p0.Points)]), (12, .cp [.sl 2 (List.map a_Term p0.Post)]), (15, .ow 8173), (16, .cp [.sl 2 (List.map a_Term p0.Pre), .sl 2 (List.map a_Term p0.Post), .sl 2 (List.map a_Instr p0.Code), .sl 2 (List.map a_Point p0.Points)]), (17, .cp [.sl 2 (List.map a_Term p0.Pre), .sl 2 (List.map a_Term p0.Post), .sl 2 (List.map a_Instr p0.Code), .sl 2 (List.map a_Point p0.Points)]), (18, .cp [.sl 2 (List.map a_Instr p0.Code)]), (19, .sl 2 (List.map a_Instr p0.Code))], [(11, .box [.snil, .snil, .snil, .snil]), (7693, .arr ⟨false, true⟩ 2 184 (List.map a_Term r9)), (8173, .arr ⟨false, false⟩ 2 40 (List.map a_Instr ([] : List Instr))), (8733, .box [.snil, .snil, .snil, .snil])]⟩ ?_ (fun hS7292_17 => ?_)
    · refine TZ_one 8 (by kernel_rfl) rfl ?_
      refine TL_pure rfl rfl rfl rfl (op_load_one ag66 rfl rfl) ?_
      refine TL_nil ?_
      refine TZ_one 9 (by kernel_rfl) rfl ?_
      refine TL_callO [(1000, 8093)] (ACall.F (F := F) (c_spec_l02OwnAll p0.Post r14 hr14)) Try.call104 rfl rfl rfl rfl rfl rfl rfl rfl rfl rfl rfl rfl rfl ?_
      refine TL_nil ?_
      refine TZ_one 15 (by kernel_rfl) rfl ?_
      refine TL_appendT (f := a_Instr) (a := ([] : List Instr)) (b := p0.Code) el24 z40 rfl rfl rfl rfl rfl rfl rfl (capI_spec hq20) rfl rfl rfl rfl rfl ?_
      refine TL_nil ?_
      refine TZ_pure 16 (by kernel_rfl) rfl rfl rfl rfl rfl (op_buildP pl69 z69 rfl rfl rfl rfl rfl) ?_
      refine TZ_one 18 (by kernel_rfl) rfl ?_
      refine TL_store_box sz69 rfl rfl rfl rfl rfl rfl rfl rfl rfl ?_
      refine TL_nil ?_
      refine TZ_done (by kernel_rfl) ?_
      refine T_keepH [0, 2, 3] [11, 7693, 8093, 8173, 8733] rfl rfl rfl rfl (by rw [hF]; rfl) ?_
      refine T_ren [(11, 11), (7693, 412), (8093, 812), (8173, 892), (8733, 1452)] rfl rfl rfl (by rw [hF]; rfl) ?_
      exact hj0 (r9, r14) hm
    refine TZ_cut 7 [true, true, true, true, true, true, true, true, false, false, true, true, true, true, false, false, false, false, false] ⟨[(0, .cp [.sl 2 (List.map a_Term p0.Pre), .sl 2 (List.map a_Term p0.Post), .sl 2 (List.map a_Instr p0.Code), .sl 2 (List.map a_Point p0.Points)]), (2, .ptr 11 0 0), (5, .cp [.sl 2 (List.map a_Term p0.Pre), .sl 2 (List.map a_Term p0.Post), .sl 2 (List.map a_Instr p0.Code), .sl 2 (List.map a_Point p0.Points)]), (6, .cp [.sl 2 (List.map a_Term p0.Pre), .sl 2 (List.map a_Term p0.Post), .sl 2 (List.map a_Instr p0.Code), .sl 2 (List.map a_Point p0.Points)]), (7, .cp [.sl 2 (List.map a_Term p0.Pre)]), (8, .sl 2 (List.map a_Term p0.Pre)), (9, .ow 7693), (10, .cp [.sl 2 (List.map a_Term p0.Pre), .sl 2 (List.map a_Term p0.Post), .sl 2 (List.map a_Instr p0.Code), .sl 2 (List.map a_Point p0.Points)]), (11, .cp [.sl 2 (List.map a_Term p0.Pre), .sl 2 (List.map a_Term p0.Post), .sl 2 (List.map a_Instr p0.Code), .sl 2 (List.map a_Point p0.Points)]), (12, .cp [.sl 2 (List.map a_Term p0.Post)]), (15, .ow 8173), (16, .cp [.sl 2 (List.map a_Term p0.Pre), .sl 2 (List.map a_Term p0.Post), .sl 2 (List.map a_Instr p0.Code), .sl 2 (List.map a_Point p0.Points)]), (17, .cp [.sl 2 (List.map a_Term p0.Pre), .sl 2 (List.map a_Term p0.Post), .sl 2 (List.map a_Instr p0.Code), .sl 2 (List.map a_Point p0.Points)]), (18, .cp [.sl 2 (List.map a_Instr p0.Code)])], [(11, .box [.snil, .snil, .snil, .snil]), (7693, .arr ⟨false, true⟩ 2 184 (List.map a_Term r9)), (8173, .arr ⟨false, false⟩ 2 40 (List.map a_Instr ([] : List Instr)))]⟩ ?_ (fun hS7292_18 => ?_)
    · refine TZ_pure 14 (by kernel_rfl) rfl rfl rfl rfl rfl (op_load_one ag24 rfl rfl) ?_
      refine TZ_each [8, 17] (by kernel_rfl) rfl ?_
      refine ⟨?_, ?_⟩
      · refine ⟨_, rfl, ?_⟩
        refine TL_pure rfl rfl rfl rfl (op_load_one ag66 rfl rfl) ?_
        refine TL_nil ?_
        refine TZ_keepH [0, 2, 5, 6, 7, 8, 9, 10, 11, 12, 13, 15, 16, 17, 18, 19] [11, 7693, 8173] rfl rfl rfl rfl (by rw [hF]; rfl) ?_
        exact hS7292_11
      · refine ⟨_, rfl, ?_⟩
        refine TL_alloc 8733 z69 rfl rfl rfl rfl rfl rfl rfl ?_
        refine TL_nil ?_
        refine TZ_keepH [0, 2, 3, 5, 6, 7, 8, 9, 10, 11, 12, 15, 16, 17, 18, 19] [11, 7693, 8173, 8733] rfl rfl rfl rfl (by rw [hF]; rfl) ?_
        exact hS7292_17
    refine TZ_cut 6 [true, true, true, true, true, true, true, true, false, false, true, true, true, true, true, false, false, false, false] ⟨[(0, .cp [.sl 2 (List.map a_Term p0.Pre), .sl 2 (List.map a_Term p0.Post), .sl 2 (List.map a_Instr p0.Code), .sl 2 (List.map a_Point p0.Points)]), (2, .ptr 11 0 0), (5, .cp [.sl 2 (List.map a_Term p0.Pre), .sl 2 (List.map a_Term p0.Post), .sl 2 (List.map a_Instr p0.Code), .sl 2 (List.map a_Point p0.Points)]), (6, .cp [.sl 2 (List.map a_Term p0.Pre), .sl 2 (List.map a_Term p0.Post), .sl 2 (List.map a_Instr p0.Code), .sl 2 (List.map a_Point p0.Points)]), (7, .cp [.sl 2 (List.map a_Term p0.Pre)]), (8, .sl 2 (List.map a_Term p0.Pre)), (9, .ow 7693), (10, .cp [.sl 2 (List.map a_Term p0.Pre), .sl 2 (List.map a_Term p0.Post), .sl 2 (List.map a_Instr p0.Code), .sl 2 (List.map a_Point p0.Points)]), (11, .cp [.sl 2 (List.map a_Term p0.Pre), .sl 2 (List.map a_Term p0.Post), .sl 2 (List.map a_Instr p0.Code), .sl 2 (List.map a_Point p0.Points)]), (12, .cp [.sl 2 (List.map a_Term p0.Post)]), (15, .ow 8173), (16, .cp [.sl 2 (List.map a_Term p0.Pre), .sl 2 (List.map a_Term p0.Post), .sl 2 (List.map a_Instr p0.Code), .sl 2 (List.map a_Point p0.Points)]), (17, .cp [.sl 2 (List.map a_Term p0.Pre), .sl 2 (List.map a_Term p0.Post), .sl 2 (List.map a_Instr p0.Code), .sl 2 (List.map a_Point p0.Points)]), (18, .cp [.sl 2 (List.map a_Instr p0.Code)]), (19, .sl 2 (List.map a_Instr p0.Code))], [(11, .box [.snil, .snil, .snil, .snil]), (7693, .arr ⟨false, true⟩ 2 184 (List.map a_Term r9)), (8173, .arr ⟨false, false⟩ 2 40 (List.map a_Instr ([] : List Instr)))]⟩ ?_ (fun hS7292_19 => ?_)
    · refine TZ_each [8, 17] (by kernel_rfl) rfl ?_
      refine ⟨?_, ?_⟩
      · refine ⟨_, rfl, ?_⟩
        refine TL_pure rfl rfl rfl rfl (op_load_one ag66 rfl rfl) ?_
        refine TL_nil ?_
        refine TZ_keepH [0, 2, 5, 6, 7, 8, 9, 10, 11, 12, 13, 15, 16, 17, 18, 19] [11, 7693, 8173] rfl rfl rfl rfl (by rw [hF]; rfl) ?_
        exact hS7292_11
      · refine ⟨_, rfl, ?_⟩
        refine TL_alloc 8733 z69 rfl rfl rfl rfl rfl rfl rfl ?_
        refine TL_nil ?_
        refine TZ_keepH [0, 2, 3, 5, 6, 7, 8, 9, 10, 11, 12, 15, 16, 17, 18, 19] [11, 7693, 8173, 8733] rfl rfl rfl rfl (by rw [hF]; rfl) ?_
        exact hS7292_17
    refine TZ_cut 6 [true, true, true, true, true, true, true, true, false, false, false, true, true, true, true, false, false, true, false] ⟨[(0, .cp [.sl 2 (List.map a_Term p0.Pre), .sl 2 (List.map a_Term p0.Post), .sl 2 (List.map a_Instr p0.Code), .sl 2 (List.map a_Point p0.Points)]), (2, .ptr 11 0 0), (3, .ptr 8733 0 0), (5, .cp [.sl 2 (List.map a_Term p0.Pre), .sl 2 (List.map a_Term p0.Post), .sl 2 (List.map a_Instr p0.Code), .sl 2 (List.map a_Point p0.Points)]), (6, .cp [.sl 2 (List.map a_Term p0.Pre), .sl 2 (List.map a_Term p0.Post), .sl 2 (List.map a_Instr p0.Code), .sl 2 (List.map a_Point p0.Points)]), (7, .cp [.sl 2 (List.map a_Term p0.Pre)]), (8, .sl 2 (List.map a_Term p0.Pre)), (9, .ow 7693), (10, .cp [.sl 2 (List.map a_Term p0.Pre), .sl 2 (List.map a_Term p0.Post), .sl 2 (List.map a_Instr p0.Code), .sl 2 (List.map a_Point p0.Points)]), (11, .cp [.sl 2 (List.map a_Term p0.Pre), .sl 2 (List.map a_Term p0.Post), .sl 2 (List.map a_Instr p0.Code), .sl 2 (List.map a_Point p0.Points)]), (12, .cp [.sl 2 (List.map a_Term p0.Post)]), (16, .cp [.sl 2 (List.map a_Term p0.Pre), .sl 2 (List.map a_Term p0.Post), .sl 2 (List.map a_Instr p0.Code), .sl 2 (List.map a_Point p0.Points)]), (17, .cp [.sl 2 (List.map a_Term p0.Pre), .sl 2 (List.map a_Term p0.Post), .sl 2 (List.map a_Instr p0.Code), .sl 2 (List.map a_Point p0.Points)]), (18, .cp [.sl 2 (List.map a_Instr p0.Code)]), (19, .sl 2 (List.map a_Instr p0.Code))], [(11, .box [.snil, .snil, .snil, .snil]), (7693, .arr ⟨false, true⟩ 2 184 (List.map a_Term r9)), (8733, .box [.snil, .snil, .snil, .snil])]⟩ ?_ (fun hS7292_20 => ?_)
    · refine TZ_each [8, 10] (by kernel_rfl) rfl ?_
      refine ⟨?_, ?_⟩
      · refine ⟨_, rfl, ?_⟩
        refine TL_pure rfl rfl rfl rfl (op_load_one ag66 rfl rfl) ?_
        refine TL_nil ?_
        refine TZ_keepH [0, 2, 3, 5, 6, 7, 8, 9, 10, 11, 12, 13, 16, 17, 18, 19] [11, 7693, 8733] rfl rfl rfl rfl (by rw [hF]; rfl) ?_
        exact hS7292_12
      · refine ⟨_, rfl, ?_⟩
        refine TL_buildSlice 8173 (es := List.map a_Instr ([] : List Instr)) el24 z40 rfl rfl rfl rfl rfl rfl rfl rfl rfl ?_
        refine TL_nil ?_
        refine TZ_keepH [0, 2, 3, 5, 6, 7, 8, 9, 10, 11, 12, 15, 16, 17, 18, 19] [11, 7693, 8173, 8733] rfl rfl rfl rfl (by rw [hF]; rfl) ?_
        exact hS7292_17
    refine TZ_cut 7 [true, true, true, true, true, true, true, true, false, false, false, true, true, true, true, false, false, false, false] ⟨[(0, .cp [.sl 2 (List.map a_Term p0.Pre), .sl 2 (List.map a_Term p0.Post), .sl 2 (List.map a_Instr p0.Code), .sl 2 (List.map a_Point p0.Points)]), (2, .ptr 11 0 0), (5, .cp [.sl 2 (List.map a_Term p0.Pre), .sl 2 (List.map a_Term p0.Post), .sl 2 (List.map a_Instr p0.Code), .sl 2 (List.map a_Point p0.Points)]), (6, .cp [.sl 2 (List.map a_Term p0.Pre), .sl 2 (List.map a_Term p0.Post), .sl 2 (List.map a_Instr p0.Code), .sl 2 (List.map a_Point p0.Points)]), (7, .cp [.sl 2 (List.map a_Term p0.Pre)]), (8, .sl 2 (List.map a_Term p0.Pre)), (9, .ow 7693), (10, .cp [.sl 2 (List.map a_Term p0.Pre), .sl 2 (List.map a_Term p0.Post), .sl 2 (List.map a_Instr p0.Code), .sl 2 (List.map a_Point p0.Points)]), (11, .cp [.sl 2 (List.map a_Term p0.Pre), .sl 2 (List.map a_Term p0.Post), .sl 2 (List.map a_Instr p0.Code), .sl 2 (List.map a_Point p0.Points)]), (12, .cp [.sl 2 (List.map a_Term p0.Post)]), (16, .cp [.sl 2 (List.map a_Term p0.Pre), .sl 2 (List.map a_Term p0.Post), .sl 2 (List.map a_Instr p0.Code), .sl 2 (List.map a_Point p0.Points)]), (17, .cp [.sl 2 (List.map a_Term p0.Pre), .sl 2 (List.map a_Term p0.Post), .sl 2 (List.map a_Instr p0.Code), .sl 2 (List.map a_Point p0.Points)]), (18, .cp [.sl 2 (List.map a_Instr p0.Code)]), (19, .sl 2 (List.map a_Instr p0.Code))], [(11, .box [.snil, .snil, .snil, .snil]), (7693, .arr ⟨false, true⟩ 2 184 (List.map a_Term r9))]⟩ ?_ (fun hS7292_21 => ?_)
    · refine TZ_each [8, 10, 17] (by kernel_rfl) rfl ?_
      refine ⟨?_, ?_, ?_⟩
      · refine ⟨_, rfl, ?_⟩
        refine TL_pure rfl rfl rfl rfl (op_load_one ag66 rfl rfl) ?_
        refine TL_nil ?_
        refine TZ_keepH [0, 2, 5, 6, 7, 8, 9, 10, 11, 12, 13, 16, 17, 18, 19] [11, 7693] rfl rfl rfl rfl (by rw [hF]; rfl) ?_
        exact hS7292_13
      · refine ⟨_, rfl, ?_⟩
        refine TL_buildSlice 8173 (es := List.map a_Instr ([] : List Instr)) el24 z40 rfl rfl rfl rfl rfl rfl rfl rfl rfl ?_
        refine TL_nil ?_
        refine TZ_keepH [0, 2, 5, 6, 7, 8, 9, 10, 11, 12, 15, 16, 17, 18, 19] [11, 7693, 8173] rfl rfl rfl rfl (by rw [hF]; rfl) ?_
        exact hS7292_19
      · refine ⟨_, rfl, ?_⟩
        refine TL_alloc 8733 z69 rfl rfl rfl rfl rfl rfl rfl ?_
        refine TL_nil ?_
        refine TZ_keepH [0, 2, 3, 5, 6, 7, 8, 9, 10, 11, 12, 16, 17, 18, 19] [11, 7693, 8733] rfl rfl rfl rfl (by rw [hF]; rfl) ?_
        exact hS7292_20
    refine TZ_cut 6 [true, true, true, true, true, true, true, true, false, false, true, true, true, true, false, false, false, true, false] ⟨[(0, .cp [.sl 2 (List.map a_Term p0.Pre), .sl 2 (List.map a_Term p0.Post), .sl 2 (List.map a_Instr p0.Code), .sl 2 (List.map a_Point p0.Points)]), (2, .ptr 11 0 0), (3, .ptr 8733 0 0), (5, .cp [.sl 2 (List.map a_Term p0.Pre), .sl 2 (List.map a_Term p0.Post), .sl 2 (List.map a_Instr p0.Code), .sl 2 (List.map a_Point p0.Points)]), (6, .cp [.sl 2 (List.map a_Term p0.Pre), .sl 2 (List.map a_Term p0.Post), .sl 2 (List.map a_Instr p0.Code), .sl 2 (List.map a_Point p0.Points)]), (7, .cp [.sl 2 (List.map a_Term p0.Pre)]), (8, .sl 2 (List.map a_Term p0.Pre)), (9, .ow 7693), (10, .cp [.sl 2 (List.map a_Term p0.Pre), .sl 2 (List.map a_Term p0.Post), .sl 2 (List.map a_Instr p0.Code), .sl 2 (List.map a_Point p0.Points)]), (11, .cp [.sl 2 (List.map a_Term p0.Pre), .sl 2 (List.map a_Term p0.Post), .sl 2 (List.map a_Instr p0.Code), .sl 2 (List.map a_Point p0.Points)]), (12, .cp [.sl 2 (List.map a_Term p0.Post)]), (15, .ow 8173), (16, .cp [.sl 2 (List.map a_Term p0.Pre), .sl 2 (List.map a_Term p0.Post), .sl 2 (List.map a_Instr p0.Code), .sl 2 (List.map a_Point p0.Points)]), (17, .cp [.sl 2 (List.map a_Term p0.Pre), .sl 2 (List.map a_Term p0.Post), .sl 2 (List.map a_Instr p0.Code), .sl 2 (List.map a_Point p0.Points)]), (18, .cp [.sl 2 (List.map a_Instr p0.Code)])], [(11, .box [.snil, .snil, .snil, .snil]), (7693, .arr ⟨false, true⟩ 2 184 (List.map a_Term r9)), (8173, .arr ⟨false, false⟩ 2 40 (List.map a_Instr ([] : List Instr))), (8733, .box [.snil, .snil, .snil, .snil])]⟩ ?_ (fun hS7292_22 => ?_)
    · refine TZ_pure 14 (by kernel_rfl) rfl rfl rfl rfl rfl (op_load_one ag24 rfl rfl) ?_
      refine TZ_one 8 (by kernel_rfl) rfl ?_
      refine TL_pure rfl rfl rfl rfl (op_load_one ag66 rfl rfl) ?_
      refine TL_nil ?_
      refine TZ_one 9 (by kernel_rfl) rfl ?_
      refine TL_callO [(1000, 8093)] (ACall.F (F := F) (c_spec_l02OwnAll p0.Post r14 hr14)) Try.call104 rfl rfl rfl rfl rfl rfl rfl rfl rfl rfl rfl rfl rfl ?_
      refine TL_nil ?_
      refine TZ_one 15 (by kernel_rfl) rfl ?_
      refine TL_appendT (f := a_Instr) (a := ([] : List Instr)) (b := p0.Code) el24 z40 rfl rfl rfl rfl rfl rfl rfl (capI_spec hq20) rfl rfl rfl rfl rfl ?_
      refine TL_nil ?_
      refine TZ_pure 16 (by kernel_rfl) rfl rfl rfl rfl rfl (op_buildP pl69 z69 rfl rfl rfl rfl rfl) ?_
      refine TZ_one 18 (by kernel_rfl) rfl ?_
      refine TL_store_box sz69 rfl rfl rfl rfl rfl rfl rfl rfl rfl ?_
      refine TL_nil ?_
      refine TZ_done (by kernel_rfl) ?_
      refine T_keepH [0, 2, 3] [11, 7693, 8093, 8173, 8733] rfl rfl rfl rfl (by rw [hF]; rfl) ?_
      refine T_ren [(11, 11), (7693, 412), (8093, 812), (8173, 892), (8733, 1452)] rfl rfl rfl (by rw [hF]; rfl) ?_
      exact hj0 (r9, r14) hm
    refine TZ_cut 7 [true, true, true, true, true, true, true, true, false, false, false, true, true, true, false, false, false, true, false] ⟨[(0, .cp [.sl 2 (List.map a_Term p0.Pre), .sl 2 (List.map a_Term p0.Post), .sl 2 (List.map a_Instr p0.Code), .sl 2 (List.map a_Point p0.Points)]), (2, .ptr 11 0 0), (3, .ptr 8733 0 0), (5, .cp [.sl 2 (List.map a_Term p0.Pre), .sl 2 (List.map a_Term p0.Post), .sl 2 (List.map a_Instr p0.Code), .sl 2 (List.map a_Point p0.Points)]), (6, .cp [.sl 2 (List.map a_Term p0.Pre), .sl 2 (List.map a_Term p0.Post), .sl 2 (List.map a_Instr p0.Code), .sl 2 (List.map a_Point p0.Points)]), (7, .cp [.sl 2 (List.map a_Term p0.Pre)]), (8, .sl 2 (List.map a_Term p0.Pre)), (9, .ow 7693), (10, .cp [.sl 2 (List.map a_Term p0.Pre), .sl 2 (List.map a_Term p0.Post), .sl 2 (List.map a_Instr p0.Code), .sl 2 (List.map a_Point p0.Points)]), (11, .cp [.sl 2 (List.map a_Term p0.Pre), .sl 2 (List.map a_Term p0.Post), .sl 2 (List.map a_Instr p0.Code), .sl 2 (List.map a_Point p0.Points)]), (12, .cp [.sl 2 (List.map a_Term p0.Post)]), (16, .cp [.sl 2 (List.map a_Term p0.Pre), .sl 2 (List.map a_Term p0.Post), .sl 2 (List.map a_Instr p0.Code), .sl 2 (List.map a_Point p0.Points)]), (17, .cp [.sl 2 (List.map a_Term p0.Pre), .sl 2 (List.map a_Term p0.Post), .sl 2 (List.map a_Instr p0.Code), .sl 2 (List.map a_Point p0.Points)]), (18, .cp [.sl 2 (List.map a_Instr p0.Code)])], [(11, .box [.snil, .snil, .snil, .snil]), (7693, .arr ⟨false, true⟩ 2 184 (List.map a_Term r9)), (8733, .box [.snil, .snil, .snil, .snil])]⟩ ?_ (fun hS7292_23 => ?_)
    · refine TZ_each [8, 10, 14] (by kernel_rfl) rfl ?_
      refine ⟨?_, ?_, ?_⟩
      · refine ⟨_, rfl, ?_⟩
        refine TL_pure rfl rfl rfl rfl (op_load_one ag66 rfl rfl) ?_
        refine TL_nil ?_
        refine TZ_keepH [0, 2, 3, 5, 6, 7, 8, 9, 10, 11, 12, 13, 16, 17, 18] [11, 7693, 8733] rfl rfl rfl rfl (by rw [hF]; rfl) ?_
        exact hS7292_15
      · refine ⟨_, rfl, ?_⟩
        refine TL_buildSlice 8173 (es := List.map a_Instr ([] : List Instr)) el24 z40 rfl rfl rfl rfl rfl rfl rfl rfl rfl ?_
        refine TL_nil ?_
        refine TZ_keepH [0, 2, 3, 5, 6, 7, 8, 9, 10, 11, 12, 15, 16, 17, 18] [11, 7693, 8173, 8733] rfl rfl rfl rfl (by rw [hF]; rfl) ?_
        exact hS7292_22
      · refine ⟨_, rfl, ?_⟩
        refine TL_pure rfl rfl rfl rfl (op_load_one ag24 rfl rfl) ?_
        refine TL_nil ?_
        refine TZ_keepH [0, 2, 3, 5, 6, 7, 8, 9, 10, 11, 12, 16, 17, 18, 19] [11, 7693, 8733] rfl rfl rfl rfl (by rw [hF]; rfl) ?_
        exact hS7292_20
    refine TZ_cut 8 [true, true, true, true, true, true, true, true, false, false, false, true, true, true, false, false, false, false, false] ⟨[(0, .cp [.sl 2 (List.map a_Term p0.Pre), .sl 2 (List.map a_Term p0.Post), .sl 2 (List.map a_Instr p0.Code), .sl 2 (List.map a_Point p0.Points)]), (2, .ptr 11 0 0), (5, .cp [.sl 2 (List.map a_Term p0.Pre), .sl 2 (List.map a_Term p0.Post), .sl 2 (List.map a_Instr p0.Code), .sl 2 (List.map a_Point p0.Points)]), (6, .cp [.sl 2 (List.map a_Term p0.Pre), .sl 2 (List.map a_Term p0.Post), .sl 2 (List.map a_Instr p0.Code), .sl 2 (List.map a_Point p0.Points)]), (7, .cp [.sl 2 (List.map a_Term p0.Pre)]), (8, .sl 2 (List.map a_Term p0.Pre)), (9, .ow 7693), (10, .cp [.sl 2 (List.map a_Term p0.Pre), .sl 2 (List.map a_Term p0.Post), .sl 2 (List.map a_Instr p0.Code), .sl 2 (List.map a_Point p0.Points)]), (11, .cp [.sl 2 (List.map a_Term p0.Pre), .sl 2 (List.map a_Term p0.Post), .sl 2 (List.map a_Instr p0.Code), .sl 2 (List.map a_Point p0.Points)]), (12, .cp [.sl 2 (List.map a_Term p0.Post)]), (16, .cp [.sl 2 (List.map a_Term p0.Pre), .sl 2 (List.map a_Term p0.Post), .sl 2 (List.map a_Instr p0.Code), .sl 2 (List.map a_Point p0.Points)]), (17, .cp [.sl 2 (List.map a_Term p0.Pre), .sl 2 (List.map a_Term p0.Post), .sl 2 (List.map a_Instr p0.Code), .sl 2 (List.map a_Point p0.Points)]), (18, .cp [.sl 2 (List.map a_Instr p0.Code)])], [(11, .box [.snil, .snil, .snil, .snil]), (7693, .arr ⟨false, true⟩ 2 184 (List.map a_Term r9))]⟩ ?_ (fun hS7292_24 => ?_)
    · refine TZ_each [8, 10, 14, 17] (by kernel_rfl) rfl ?_
      refine ⟨?_, ?_, ?_, ?_⟩
      · refine ⟨_, rfl, ?_⟩
        refine TL_pure rfl rfl rfl rfl (op_load_one ag66 rfl rfl) ?_
        refine TL_nil ?_
        refine TZ_keepH [0, 2, 5, 6, 7, 8, 9, 10, 11, 12, 13, 16, 17, 18] [11, 7693] rfl rfl rfl rfl (by rw [hF]; rfl) ?_
        exact hS7292_16
      · refine ⟨_, rfl, ?_⟩
        refine TL_buildSlice 8173 (es := List.map a_Instr ([] : List Instr)) el24 z40 rfl rfl rfl rfl rfl rfl rfl rfl rfl ?_
        refine TL_nil ?_
        refine TZ_keepH [0, 2, 5, 6, 7, 8, 9, 10, 11, 12, 15, 16, 17, 18] [11, 7693, 8173] rfl rfl rfl rfl (by rw [hF]; rfl) ?_
        exact hS7292_18
      · refine ⟨_, rfl, ?_⟩
        refine TL_pure rfl rfl rfl rfl (op_load_one ag24 rfl rfl) ?_
        refine TL_nil ?_
        refine TZ_keepH [0, 2, 5, 6, 7, 8, 9, 10, 11, 12, 16, 17, 18, 19] [11, 7693] rfl rfl rfl rfl (by rw [hF]; rfl) ?_
        exact hS7292_21
      · refine ⟨_, rfl, ?_⟩
        refine TL_alloc 8733 z69 rfl rfl rfl rfl rfl rfl rfl ?_
        refine TL_nil ?_
        refine TZ_keepH [0, 2, 3, 5, 6, 7, 8, 9, 10, 11, 12, 16, 17, 18] [11, 7693, 8733] rfl rfl rfl rfl (by rw [hF]; rfl) ?_
        exact hS7292_23
    refine TZ_cut 5 [true, true, true, true, false, true, true, true, true, false, true, true, true, true, true, false, false, true, false] ⟨[(0, .cp [.sl 2 (List.map a_Term p0.Pre), .sl 2 (List.map a_Term p0.Post), .sl 2 (List.map a_Instr p0.Code), .sl 2 (List.map a_Point p0.Points)]), (2, .ptr 11 0 0), (3, .ptr 8733 0 0), (5, .cp [.sl 2 (List.map a_Term p0.Pre), .sl 2 (List.map a_Term p0.Post), .sl 2 (List.map a_Instr p0.Code), .sl 2 (List.map a_Point p0.Points)]), (6, .cp [.sl 2 (List.map a_Term p0.Pre), .sl 2 (List.map a_Term p0.Post), .sl 2 (List.map a_Instr p0.Code), .sl 2 (List.map a_Point p0.Points)]), (7, .cp [.sl 2 (List.map a_Term p0.Pre)]), (8, .sl 2 (List.map a_Term p0.Pre)), (10, .cp [.sl 2 (List.map a_Term p0.Pre), .sl 2 (List.map a_Term p0.Post), .sl 2 (List.map a_Instr p0.Code), .sl 2 (List.map a_Point p0.Points)]), (11, .cp [.sl 2 (List.map a_Term p0.Pre), .sl 2 (List.map a_Term p0.Post), .sl 2 (List.map a_Instr p0.Code), .sl 2 (List.map a_Point p0.Points)]), (12, .cp [.sl 2 (List.map a_Term p0.Post)]), (13, .sl 2 (List.map a_Term p0.Post)), (15, .ow 8173), (16, .cp [.sl 2 (List.map a_Term p0.Pre), .sl 2 (List.map a_Term p0.Post), .sl 2 (List.map a_Instr p0.Code), .sl 2 (List.map a_Point p0.Points)]), (17, .cp [.sl 2 (List.map a_Term p0.Pre), .sl 2 (List.map a_Term p0.Post), .sl 2 (List.map a_Instr p0.Code), .sl 2 (List.map a_Point p0.Points)]), (18, .cp [.sl 2 (List.map a_Instr p0.Code)]), (19, .sl 2 (List.map a_Instr p0.Code))], [(11, .box [.snil, .snil, .snil, .snil]), (8173, .arr ⟨false, false⟩ 2 40 (List.map a_Instr ([] : List Instr))), (8733, .box [.snil, .snil, .snil, .snil])]⟩ ?_ (fun hS7292_25 => ?_)
    · refine TZ_one 4 (by kernel_rfl) rfl ?_
      refine TL_callO [(1000, 7693)] (ACall.F (F := F) (c_spec_l02OwnAll p0.Pre r9 hr9)) Try.call104 rfl rfl rfl rfl rfl rfl rfl rfl rfl rfl rfl rfl rfl ?_
      refine TL_nil ?_
      refine TZ_one 9 (by kernel_rfl) rfl ?_
      refine TL_callO [(1000, 8093)] (ACall.F (F := F) (c_spec_l02OwnAll p0.Post r14 hr14)) Try.call104 rfl rfl rfl rfl rfl rfl rfl rfl rfl rfl rfl rfl rfl ?_
      refine TL_nil ?_
      refine TZ_one 15 (by kernel_rfl) rfl ?_
      refine TL_appendT (f := a_Instr) (a := ([] : List Instr)) (b := p0.Code) el24 z40 rfl rfl rfl rfl rfl rfl rfl (capI_spec hq20) rfl rfl rfl rfl rfl ?_
      refine TL_nil ?_
      refine TZ_pure 16 (by kernel_rfl) rfl rfl rfl rfl rfl (op_buildP pl69 z69 rfl rfl rfl rfl rfl) ?_
      refine TZ_one 18 (by kernel_rfl) rfl ?_
      refine TL_store_box sz69 rfl rfl rfl rfl rfl rfl rfl rfl rfl ?_
      refine TL_nil ?_
      refine TZ_done (by kernel_rfl) ?_
      refine T_keepH [0, 2, 3] [11, 7693, 8093, 8173, 8733] rfl rfl rfl rfl (by rw [hF]; rfl) ?_
      refine T_ren [(11, 11), (7693, 412), (8093, 812), (8173, 892), (8733, 1452)] rfl rfl rfl (by rw [hF]; rfl) ?_
      exact hj0 (r9, r14) hm
    refine TZ_cut 7 [true, true, true, true, false, true, true, true, true, false, true, true, true, true, false, false, false, false, false] ⟨[(0, .cp [.sl 2 (List.map a_Term p0.Pre), .sl 2 (List.map a_Term p0.Post), .sl 2 (List.map a_Instr p0.Code), .sl 2 (List.map a_Point p0.Points)]), (2, .ptr 11 0 0), (5, .cp [.sl 2 (List.map a_Term p0.Pre), .sl 2 (List.map a_Term p0.Post), .sl 2 (List.map a_Instr p0.Code), .sl 2 (List.map a_Point p0.Points)]), (6, .cp [.sl 2 (List.map a_Term p0.Pre), .sl 2 (List.map a_Term p0.Post), .sl 2 (List.map a_Instr p0.Code), .sl 2 (List.map a_Point p0.Points)]), (7, .cp [.sl 2 (List.map a_Term p0.Pre)]), (8, .sl 2 (List.map a_Term p0.Pre)), (10, .cp [.sl 2 (List.map a_Term p0.Pre), .sl 2 (List.map a_Term p0.Post), .sl 2 (List.map a_Instr p0.Code), .sl 2 (List.map a_Point p0.Points)]), (11, .cp [.sl 2 (List.map a_Term p0.Pre), .sl 2 (List.map a_Term p0.Post), .sl 2 (List.map a_Instr p0.Code), .sl 2 (List.map a_Point p0.Points)]), (12, .cp [.sl 2 (List.map a_Term p0.Post)]), (13, .sl 2 (List.map a_Term p0.Post)), (15, .ow 8173), (16, .cp [.sl 2 (List.map a_Term p0.Pre), .sl 2 (List.map a_Term p0.Post), .sl 2 (List.map a_Instr p0.Code), .sl 2 (List.map a_Point p0.Points)]), (17, .cp [.sl 2 (List.map a_Term p0.Pre), .sl 2 (List.map a_Term p0.Post), .sl 2 (List.map a_Instr p0.Code), .sl 2 (List.map a_Point p0.Points)]), (18, .cp [.sl 2 (List.map a_Instr p0.Code)])], [(11, .box [.snil, .snil, .snil, .snil]), (8173, .arr ⟨false, false⟩ 2 40 (List.map a_Instr ([] : List Instr)))]⟩ ?_ (fun hS7292_26 => ?_)
    · refine TZ_pure 14 (by kernel_rfl) rfl rfl rfl rfl rfl (op_load_one ag24 rfl rfl) ?_
      refine TZ_each [4, 17] (by kernel_rfl) rfl ?_
      refine ⟨?_, ?_⟩
      · refine ⟨_, rfl, ?_⟩
        refine TL_callO [(1000, 7693)] (ACall.F (F := F) (c_spec_l02OwnAll p0.Pre r9 hr9)) Try.call104 rfl rfl rfl rfl rfl rfl rfl rfl rfl rfl rfl rfl rfl ?_
        refine TL_nil ?_
        refine TZ_keepH [0, 2, 5, 6, 7, 8, 9, 10, 11, 12, 13, 15, 16, 17, 18, 19] [11, 7693, 8173] rfl rfl rfl rfl (by rw [hF]; rfl) ?_
        exact hS7292_11
      · refine ⟨_, rfl, ?_⟩
        refine TL_alloc 8733 z69 rfl rfl rfl rfl rfl rfl rfl ?_
        refine TL_nil ?_
        refine TZ_keepH [0, 2, 3, 5, 6, 7, 8, 10, 11, 12, 13, 15, 16, 17, 18, 19] [11, 8173, 8733] rfl rfl rfl rfl (by rw [hF]; rfl) ?_
        exact hS7292_25
    refine TZ_cut 6 [true, true, true, true, false, true, true, true, true, false, true, true, true, true, true, false, false, false, false] ⟨[(0, .cp [.sl 2 (List.map a_Term p0.Pre), .sl 2 (List.map a_Term p0.Post), .sl 2 (List.map a_Instr p0.Code), .sl 2 (List.map a_Point p0.Points)]), (2, .ptr 11 0 0), (5, .cp [.sl 2 (List.map a_Term p0.Pre), .sl 2 (List.map a_Term p0.Post), .sl 2 (List.map a_Instr p0.Code), .sl 2 (List.map a_Point p0.Points)]), (6, .cp [.sl 2 (List.map a_Term p0.Pre), .sl 2 (List.map a_Term p0.Post), .sl 2 (List.map a_Instr p0.Code), .sl 2 (List.map a_Point p0.Points)]), (7, .cp [.sl 2 (List.map a_Term p0.Pre)]), (8, .sl 2 (List.map a_Term p0.Pre)), (10, .cp [.sl 2 (List.map a_Term p0.Pre), .sl 2 (List.map a_Term p0.Post), .sl 2 (List.map a_Instr p0.Code), .sl 2 (List.map a_Point p0.Points)]), (11, .cp [.sl 2 (List.map a_Term p0.Pre), .sl 2 (List.map a_Term p0.Post), .sl 2 (List.map a_Instr p0.Code), .sl 2 (List.map a_Point p0.Points)]), (12, .cp [.sl 2 (List.map a_Term p0.Post)]), (13, .sl 2 (List.map a_Term p0.Post)), (15, .ow 8173), (16, .cp [.sl 2 (List.map a_Term p0.Pre), .sl 2 (List.map a_Term p0.Post), .sl 2 (List.map a_Instr p0.Code), .sl 2 (List.map a_Point p0.Points)]), (17, .cp [.sl 2 (List.map a_Term p0.Pre), .sl 2 (List.map a_Term p0.Post), .sl 2 (List.map a_Instr p0.Code), .sl 2 (List.map a_Point p0.Points)]), (18, .cp [.sl 2 (List.map a_Instr p0.Code)]), (19, .sl 2 (List.map a_Instr p0.Code))], [(11, .box [.snil, .snil, .snil, .snil]), (8173, .arr ⟨false, false⟩ 2 40 (List.map a_Instr ([] : List Instr)))]⟩ ?_ (fun hS7292_27 => ?_)
    · refine TZ_each [4, 17] (by kernel_rfl) rfl ?_
      refine ⟨?_, ?_⟩
      · refine ⟨_, rfl, ?_⟩
        refine TL_callO [(1000, 7693)] (ACall.F (F := F) (c_spec_l02OwnAll p0.Pre r9 hr9)) Try.call104 rfl rfl rfl rfl rfl rfl rfl rfl rfl rfl rfl rfl rfl ?_
        refine TL_nil ?_
        refine TZ_keepH [0, 2, 5, 6, 7, 8, 9, 10, 11, 12, 13, 15, 16, 17, 18, 19] [11, 7693, 8173] rfl rfl rfl rfl (by rw [hF]; rfl) ?_
        exact hS7292_11
      · refine ⟨_, rfl, ?_⟩
        refine TL_alloc 8733 z69 rfl rfl rfl rfl rfl rfl rfl ?_
        refine TL_nil ?_
        refine TZ_keepH [0, 2, 3, 5, 6, 7, 8, 10, 11, 12, 13, 15, 16, 17, 18, 19] [11, 8173, 8733] rfl rfl rfl rfl (by rw [hF]; rfl) ?_
        exact hS7292_25
    refine TZ_cut 6 [true, true, true, true, false, true, true, true, true, false, false, true, true, true, true, false, false, true, false] ⟨[(0, .cp [.sl 2 (List.map a_Term p0.Pre), .sl 2 (List.map a_Term p0.Post), .sl 2 (List.map a_Instr p0.Code), .sl 2 (List.map a_Point p0.Points)]), (2, .ptr 11 0 0), (3, .ptr 8733 0 0), (5, .cp [.sl 2 (List.map a_Term p0.Pre), .sl 2 (List.map a_Term p0.Post), .sl 2 (List.map a_Instr p0.Code), .sl 2 (List.map a_Point p0.Points)]), (6, .cp [.sl 2 (List.map a_Term p0.Pre), .sl 2 (List.map a_Term p0.Post), .sl 2 (List.map a_Instr p0.Code), .sl 2 (List.map a_Point p0.Points)]), (7, .cp [.sl 2 (List.map a_Term p0.Pre)]), (8, .sl 2 (List.map a_Term p0.Pre)), (10, .cp [.sl 2 (List.map a_Term p0.Pre), .sl 2 (List.map a_Term p0.Post), .sl 2 (List.map a_Instr p0.Code), .sl 2 (List.map a_Point p0.Points)]), (11, .cp [.sl 2 (List.map a_Term p0.Pre), .sl 2 (List.map a_Term p0.Post), .sl 2 (List.map a_Instr p0.Code), .sl 2 (List.map a_Point p0.Points)]), (12, .cp [.sl 2 (List.map a_Term p0.Post)]), (13, .sl 2 (List.map a_Term p0.Post)), (16, .cp [.sl 2 (List.map a_Term p0.Pre), .sl 2 (List.map a_Term p0.Post), .sl 2 (List.map a_Instr p0.Code), .sl 2 (List.map a_Point p0.Points)]), (17, .cp [.sl 2 (List.map a_Term p0.Pre), .sl 2 (List.map a_Term p0.Post), .sl 2 (List.map a_Instr p0.Code), .sl 2 (List.map a_Point p0.Points)]), (18, .cp [.sl 2 (List.map a_Instr p0.Code)]), (19, .sl 2 (List.map a_Instr p0.Code))], [(11, .box [.snil, .snil, .snil, .snil]), (8733, .box [.snil, .snil, .snil, .snil])]⟩ ?_ (fun hS7292_28 => ?_)
    · refine TZ_each [4, 10] (by kernel_rfl) rfl ?_
      refine ⟨?_, ?_⟩
      · refine ⟨_, rfl, ?_⟩
        refine TL_callO [(1000, 7693)] (ACall.F (F := F) (c_spec_l02OwnAll p0.Pre r9 hr9)) Try.call104 rfl rfl rfl rfl rfl rfl rfl rfl rfl rfl rfl rfl rfl ?_
        refine TL_nil ?_
        refine TZ_keepH [0, 2, 3, 5, 6, 7, 8, 9, 10, 11, 12, 13, 16, 17, 18, 19] [11, 7693, 8733] rfl rfl rfl rfl (by rw [hF]; rfl) ?_
        exact hS7292_12
      · refine ⟨_, rfl, ?_⟩
        refine TL_buildSlice 8173 (es := List.map a_Instr ([] : List Instr)) el24 z40 rfl rfl rfl rfl rfl rfl rfl rfl rfl ?_
        refine TL_nil ?_
        refine TZ_keepH [0, 2, 3, 5, 6, 7, 8, 10, 11, 12, 13, 15, 16, 17, 18, 19] [11, 8173, 8733] rfl rfl rfl rfl (by rw [hF]; rfl) ?_
        exact hS7292_25
    refine TZ_cut 7 [true, true, true, true, false, true, true, true, true, false, false, true, true, true, true, false, false, false, false] ⟨[(0, .cp [.sl 2 (List.map a_Term p0.Pre), .sl 2 (List.map a_Term p0.Post), .sl 2 (List.map a_Instr p0.Code), .sl 2 (List.map a_Point p0.Points)]), (2, .ptr 11 0 0), (5, .cp [.sl 2 (List.map a_Term p0.Pre), .sl 2 (List.map a_Term p0.Post), .sl 2 (List.map a_Instr p0.Code), .sl 2 (List.map a_Point p0.Points)]), (6, .cp [.sl 2 (List.map a_Term p0.Pre), .sl 2 (List.map a_Term p0.Post), .sl 2 (List.map a_Instr p0.Code), .sl 2 (List.map a_Point p0.Points)]), (7, .cp [.sl 2 (List.map a_Term p0.Pre)]), (8, .sl 2 (List.map a_Term p0.Pre)), (10, .cp [.sl 2 (List.map a_Term p0.Pre), .sl 2 (List.map a_Term p0.Post), .sl 2 (List.map a_Instr p0.Code), .sl 2 (List.map a_Point p0.Points)]), (11, .cp [.sl 2 (List.map a_Term p0.Pre), .sl 2 (List.map a_Term p0.Post), .sl 2 (List.map a_Instr p0.Code), .sl 2 (List.map a_Point p0.Points)]), (12, .cp [.sl 2 (List.map a_Term p0.Post)]), (13, .sl 2 (List.map a_Term p0.Post)), (16, .cp [.sl 2 (List.map a_Term p0.Pre), .sl 2 (List.map a_Term p0.Post), .sl 2 (List.map a_Instr p0.Code), .sl 2 (List.map a_Point p0.Points)]), (17, .cp [.sl 2 (List.map a_Term p0.Pre), .sl 2 (List.map a_Term p0.Post), .sl 2 (List.map a_Instr p0.Code), .sl 2 (List.map a_Point p0.Points)]), (18, .cp [.sl 2 (List.map a_Instr p0.Code)]), (19, .sl 2 (List.map a_Instr p0.Code))], [(11, .box [.snil, .snil, .snil, .snil])]⟩ ?_ (fun hS7292_29 => ?_)
    · refine TZ_each [4, 10, 17] (by kernel_rfl) rfl ?_
      refine ⟨?_, ?_, ?_⟩
      · refine ⟨_, rfl, ?_⟩
        refine TL_callO [(1000, 7693)] (ACall.F (F := F) (c_spec_l02OwnAll p0.Pre r9 hr9)) Try.call104 rfl rfl rfl rfl rfl rfl rfl rfl rfl rfl rfl rfl rfl ?_
        refine TL_nil ?_
        refine TZ_keepH [0, 2, 5, 6, 7, 8, 9, 10, 11, 12, 13, 16, 17, 18, 19] [11, 7693] rfl rfl rfl rfl (by rw [hF]; rfl) ?_
        exact hS7292_13
      · refine ⟨_, rfl, ?_⟩
        refine TL_buildSlice 8173 (es := List.map a_Instr ([] : List Instr)) el24 z40 rfl rfl rfl rfl rfl rfl rfl rfl rfl ?_
        refine TL_nil ?_
        refine TZ_keepH [0, 2, 5, 6, 7, 8, 10, 11, 12, 13, 15, 16, 17, 18, 19] [11, 8173] rfl rfl rfl rfl (by rw [hF]; rfl) ?_
        exact hS7292_27
      · refine ⟨_, rfl, ?_⟩
        refine TL_alloc 8733 z69 rfl rfl rfl rfl rfl rfl rfl ?_
        refine TL_nil ?_
        refine TZ_keepH [0, 2, 3, 5, 6, 7, 8, 10, 11, 12, 13, 16, 17, 18, 19] [11, 8733] rfl rfl rfl rfl (by rw [hF]; rfl) ?_
        exact hS7292_28
    refine TZ_cut 6 [true, true, true, true, false, true, true, true, true, false, true, true, true, true, false, false, false, true, false] ⟨[(0, .cp [.sl 2 (List.map a_Term p0.Pre), .sl 2 (List.map a_Term p0.Post), .sl 2 (List.map a_Instr p0.Code), .sl 2 (List.map a_Point p0.Points)]), (2, .ptr 11 0 0), (3, .ptr 8733 0 0), (5, .cp [.sl 2 (List.map a_Term p0.Pre), .sl 2 (List.map a_Term p0.Post), .sl 2 (List.map a_Instr p0.Code), .sl 2 (List.map a_Point p0.Points)]), (6, .cp [.sl 2 (List.map a_Term p0.Pre), .sl 2 (List.map a_Term p0.Post), .sl 2 (List.map a_Instr p0.Code), .sl 2 (List.map a_Point p0.Points)]), (7, .cp [.sl 2 (List.map a_Term p0.Pre)]), (8, .sl 2 (List.map a_Term p0.Pre)), (10, .cp [.sl 2 (List.map a_Term p0.Pre), .sl 2 (List.map a_Term p0.Post), .sl 2 (List.map a_Instr p0.Code), .sl 2 (List.map a_Point p0.Points)]), (11, .cp [.sl 2 (List.map a_Term p0.Pre), .sl 2 (List.map a_Term p0.Post), .sl 2 (List.map a_Instr p0.Code), .sl 2 (List.map a_Point p0.Points)]), (12, .cp [.sl 2 (List.map a_Term p0.Post)]), (13, .sl 2 (List.map a_Term p0.Post)), (15, .ow 8173), (16, .cp [.sl 2 (List.map a_Term p0.Pre), .sl 2 (List.map a_Term p0.Post), .sl 2 (List.map a_Instr p0.Code), .sl 2 (List.map a_Point p0.Points)]), (17, .cp [.sl 2 (List.map a_Term p0.Pre), .sl 2 (List.map a_Term p0.Post), .sl 2 (List.map a_Instr p0.Code), .sl 2 (List.map a_Point p0.Points)]), (18, .cp [.sl 2 (List.map a_Instr p0.Code)])], [(11, .box [.snil, .snil, .snil, .snil]), (8173, .arr ⟨false, false⟩ 2 40 (List.map a_Instr ([] : List Instr))), (8733, .box [.snil, .snil, .snil, .snil])]⟩ ?_ (fun hS7292_30 => ?_)
    · refine TZ_pure 14 (by kernel_rfl) rfl rfl rfl rfl rfl (op_load_one ag24 rfl rfl) ?_
      refine TZ_one 4 (by kernel_rfl) rfl ?_
      refine TL_callO [(1000, 7693)] (ACall.F (F := F) (c_spec_l02OwnAll p0.Pre r9 hr9)) Try.call104 rfl rfl rfl rfl rfl rfl rfl rfl rfl rfl rfl rfl rfl ?_
      refine TL_nil ?_
      refine TZ_one 9 (by kernel_rfl) rfl ?_
      refine TL_callO [(1000, 8093)] (ACall.F (F := F) (c_spec_l02OwnAll p0.Post r14 hr14)) Try.call104 rfl rfl rfl rfl rfl rfl rfl rfl rfl rfl rfl rfl rfl ?_
      refine TL_nil ?_
      refine TZ_one 15 (by kernel_rfl) rfl ?_
      refine TL_appendT (f := a_Instr) (a := ([] : List Instr)) (b := p0.Code) el24 z40 rfl rfl rfl rfl rfl rfl rfl (capI_spec hq20) rfl rfl rfl rfl rfl ?_
      refine TL_nil ?_
      refine TZ_pure 16 (by kernel_rfl) rfl rfl rfl rfl rfl (op_buildP pl69 z69 rfl rfl rfl rfl rfl) ?_
      refine TZ_one 18 (by kernel_rfl) rfl ?_
      refine TL_store_box sz69 rfl rfl rfl rfl rfl rfl rfl rfl rfl ?_
      refine TL_nil ?_
      refine TZ_done (by kernel_rfl) ?_
      refine T_keepH [0, 2, 3] [11, 7693, 8093, 8173, 8733] rfl rfl rfl rfl (by rw [hF]; rfl) ?_
      refine T_ren [(11, 11), (7693, 412), (8093, 812), (8173, 892), (8733, 1452)] rfl rfl rfl (by rw [hF]; rfl) ?_
      exact hj0 (r9, r14) hm
    refine TZ_cut 7 [true, true, true, true, false, true, true, true, true, false, false, true, true, true, false, false, false, true, false] ⟨[(0, .cp [.sl 2 (List.map a_Term p0.Pre), .sl 2 (List.map a_Term p0.Post), .sl 2 (List.map a_Instr p0.Code), .sl 2 (List.map a_Point p0.Points)]), (2, .ptr 11 0 0), (3, .ptr 8733 0 0), (5, .cp [.sl 2 (List.map a_Term p0.Pre), .sl 2 (List.map a_Term p0.Post), .sl 2 (List.map a_Instr p0.Code), .sl 2 (List.map a_Point p0.Points)]), (6, .cp [.sl 2 (List.map a_Term p0.Pre), .sl 2 (List.map a_Term p0.Post), .sl 2 (List.map a_Instr p0.Code), .sl 2 (List.map a_Point p0.Points)]), (7, .cp [.sl 2 (List.map a_Term p0.Pre)]), (8, .sl 2 (List.map a_Term p0.Pre)), (10, .cp [.sl 2 (List.map a_Term p0.Pre), .sl 2 (List.map a_Term p0.Post), .sl 2 (List.map a_Instr p0.Code), .sl 2 (List.map a_Point p0.Points)]), (11, .cp [.sl 2 (List.map a_Term p0.Pre), .sl 2 (List.map a_Term p0.Post), .sl 2 (List.map a_Instr p0.Code), .sl 2 (List.map a_Point p0.Points)]), (12, .cp [.sl 2 (List.map a_Term p0.Post)]), (13, .sl 2 (List.map a_Term p0.Post)), (16, .cp [.sl 2 (List.map a_Term p0.Pre), .sl 2 (List.map a_Term p0.Post), .sl 2 (List.map a_Instr p0.Code), .sl 2 (List.map a_Point p0.Points)]), (17, .cp [.sl 2 (List.map a_Term p0.Pre), .sl 2 (List.map a_Term p0.Post), .sl 2 (List.map a_Instr p0.Code), .sl 2 (List.map a_Point p0.Points)]), (18, .cp [.sl 2 (List.map a_Instr p0.Code)])], [(11, .box [.snil, .snil, .snil, .snil]), (8733, .box [.snil, .snil, .snil, .snil])]⟩ ?_ (fun hS7292_31 => ?_)
    · refine TZ_each [4, 10, 14] (by kernel_rfl) rfl ?_
      refine ⟨?_, ?_, ?_⟩
      · refine ⟨_, rfl, ?_⟩
        refine TL_callO [(1000, 7693)] (ACall.F (F := F) (c_spec_l02OwnAll p0.Pre r9 hr9)) Try.call104 rfl rfl rfl rfl rfl rfl rfl rfl rfl rfl rfl rfl rfl ?_
        refine TL_nil ?_
        refine TZ_keepH [0, 2, 3, 5, 6, 7, 8, 9, 10, 11, 12, 13, 16, 17, 18] [11, 7693, 8733] rfl rfl rfl rfl (by rw [hF]; rfl) ?_
        exact hS7292_15
      · refine ⟨_, rfl, ?_⟩
        refine TL_buildSlice 8173 (es := List.map a_Instr ([] : List Instr)) el24 z40 rfl rfl rfl rfl rfl rfl rfl rfl rfl ?_
        refine TL_nil ?_
        refine TZ_keepH [0, 2, 3, 5, 6, 7, 8, 10, 11, 12, 13, 15, 16, 17, 18] [11, 8173, 8733] rfl rfl rfl rfl (by rw [hF]; rfl) ?_
        exact hS7292_30
      · refine ⟨_, rfl, ?_⟩
        refine TL_pure rfl rfl rfl rfl (op_load_one ag24 rfl rfl) ?_
        refine TL_nil ?_
        refine TZ_keepH [0, 2, 3, 5, 6, 7, 8, 10, 11, 12, 13, 16, 17, 18, 19] [11, 8733] rfl rfl rfl rfl (by rw [hF]; rfl) ?_
        exact hS7292_28
    refine TZ_cut 8 [true, true, true, true, false, true, true, true, true, false, false, true, true, true, false, false, false, false, false] ⟨[(0, .cp [.sl 2 (List.map a_Term p0.Pre), .sl 2 (List.map a_Term p0.Post), .sl 2 (List.map a_Instr p0.Code), .sl 2 (List.map a_Point p0.Points)]), (2, .ptr 11 0 0), (5, .cp [.sl 2 (List.map a_Term p0.Pre), .sl 2 (List.map a_Term p0.Post), .sl 2 (List.map a_Instr p0.Code), .sl 2 (List.map a_Point p0.Points)]), (6, .cp [.sl 2 (List.map a_Term p0.Pre), .sl 2 (List.map a_Term p0.Post), .sl 2 (List.map a_Instr p0.Code), .sl 2 (List.map a_Point p0.Points)]), (7, .cp [.sl 2 (List.map a_Term p0.Pre)]), (8, .sl 2 (List.map a_Term p0.Pre)), (10, .cp [.sl 2 (List.map a_Term p0.Pre), .sl 2 (List.map a_Term p0.Post), .sl 2 (List.map a_Instr p0.Code), .sl 2 (List.map a_Point p0.Points)]), (11, .cp [.sl 2 (List.map a_Term p0.Pre), .sl 2 (List.map a_Term p0.Post), .sl 2 (List.map a_Instr p0.Code), .sl 2 (List.map a_Point p0.Points)]), (12, .cp [.sl 2 (List.map a_Term p0.Post)]), (13, .sl 2 (List.map a_Term p0.Post)), (16, .cp [.sl 2 (List.map a_Term p0.Pre), .sl 2 (List.map a_Term p0.Post), .sl 2 (List.map a_Instr p0.Code), .sl 2 (List.map a_Point p0.Points)]), (17, .cp [.sl 2 (List.map a_Term p0.Pre), .sl 2 (List.map a_Term p0.Post), .sl 2 (List.map a_Instr p0.Code), .sl 2 (List.map a_Point p0.Points)]), (18, .cp [.sl 2 (List.map a_Instr p0.Code)])], [(11, .box [.snil, .snil, .snil, .snil])]⟩ ?_ (fun hS7292_32 => ?_)
    · refine TZ_each [4, 10, 14, 17] (by kernel_rfl) rfl ?_
      refine ⟨?_, ?_, ?_, ?_⟩
      · refine ⟨_, rfl, ?_⟩
        refine TL_callO [(1000, 7693)] (ACall.F (F := F) (c_spec_l02OwnAll p0.Pre r9 hr9)) Try.call104 rfl rfl rfl rfl rfl rfl rfl rfl rfl rfl rfl rfl rfl ?_
        refine TL_nil ?_
        refine TZ_keepH [0, 2, 5, 6, 7, 8, 9, 10, 11, 12, 13, 16, 17, 18] [11, 7693] rfl rfl rfl rfl (by rw [hF]; rfl) ?_
        exact hS7292_16
      · refine ⟨_, rfl, ?_⟩
        refine TL_buildSlice 8173 (es := List.map a_Instr ([] : List Instr)) el24 z40 rfl rfl rfl rfl rfl rfl rfl rfl rfl ?_
        refine TL_nil ?_
        refine TZ_keepH [0, 2, 5, 6, 7, 8, 10, 11, 12, 13, 15, 16, 17, 18] [11, 8173] rfl rfl rfl rfl (by rw [hF]; rfl) ?_
        exact hS7292_26
      · refine ⟨_, rfl, ?_⟩
        refine TL_pure rfl rfl rfl rfl (op_load_one ag24 rfl rfl) ?_
        refine TL_nil ?_
        refine TZ_keepH [0, 2, 5, 6, 7, 8, 10, 11, 12, 13, 16, 17, 18, 19] [11] rfl rfl rfl rfl (by rw [hF]; rfl) ?_
        exact hS7292_29
      · refine ⟨_, rfl, ?_⟩
        refine TL_alloc 8733 z69 rfl rfl rfl rfl rfl rfl rfl ?_
        refine TL_nil ?_
        refine TZ_keepH [0, 2, 3, 5, 6, 7, 8, 10, 11, 12, 13, 16, 17, 18] [11, 8733] rfl rfl rfl rfl (by rw [hF]; rfl) ?_
        exact hS7292_31
    refine TZ_cut 6 [true, true, true, true, false, true, true, true, false, false, true, true, true, true, true, false, false, true, false] ⟨[(0, .cp [.sl 2 (List.map a_Term p0.Pre), .sl 2 (List.map a_Term p0.Post), .sl 2 (List.map a_Instr p0.Code), .sl 2 (List.map a_Point p0.Points)]), (2, .ptr 11 0 0), (3, .ptr 8733 0 0), (5, .cp [.sl 2 (List.map a_Term p0.Pre), .sl 2 (List.map a_Term p0.Post), .sl 2 (List.map a_Instr p0.Code), .sl 2 (List.map a_Point p0.Points)]), (6, .cp [.sl 2 (List.map a_Term p0.Pre), .sl 2 (List.map a_Term p0.Post), .sl 2 (List.map a_Instr p0.Code), .sl 2 (List.map a_Point p0.Points)]), (7, .cp [.sl 2 (List.map a_Term p0.Pre)]), (8, .sl 2 (List.map a_Term p0.Pre)), (10, .cp [.sl 2 (List.map a_Term p0.Pre), .sl 2 (List.map a_Term p0.Post), .sl 2 (List.map a_Instr p0.Code), .sl 2 (List.map a_Point p0.Points)]), (11, .cp [.sl 2 (List.map a_Term p0.Pre), .sl 2 (List.map a_Term p0.Post), .sl 2 (List.map a_Instr p0.Code), .sl 2 (List.map a_Point p0.Points)]), (12, .cp [.sl 2 (List.map a_Term p0.Post)]), (15, .ow 8173), (16, .cp [.sl 2 (List.map a_Term p0.Pre), .sl 2 (List.map a_Term p0.Post), .sl 2 (List.map a_Instr p0.Code), .sl 2 (List.map a_Point p0.Points)]), (17, .cp [.sl 2 (List.map a_Term p0.Pre), .sl 2 (List.map a_Term p0.Post), .sl 2 (List.map a_Instr p0.Code), .sl 2 (List.map a_Point p0.Points)]), (18, .cp [.sl 2 (List.map a_Instr p0.Code)]), (19, .sl 2 (List.map a_Instr p0.Code))], [(11, .box [.snil, .snil, .snil, .snil]), (8173, .arr ⟨false, false⟩ 2 40 (List.map a_Instr ([] : List Instr))), (8733, .box [.snil, .snil, .snil, .snil])]⟩ ?_ (fun hS7292_33 => ?_)
    · refine TZ_each [4, 8] (by kernel_rfl) rfl ?_
      refine ⟨?_, ?_⟩
      · refine ⟨_, rfl, ?_⟩
        refine TL_callO [(1000, 7693)] (ACall.F (F := F) (c_spec_l02OwnAll p0.Pre r9 hr9)) Try.call104 rfl rfl rfl rfl rfl rfl rfl rfl rfl rfl rfl rfl rfl ?_
        refine TL_nil ?_
        refine TZ_keepH [0, 2, 3, 5, 6, 7, 8, 9, 10, 11, 12, 15, 16, 17, 18, 19] [11, 7693, 8173, 8733] rfl rfl rfl rfl (by rw [hF]; rfl) ?_
        exact hS7292_17
      · refine ⟨_, rfl, ?_⟩
        refine TL_pure rfl rfl rfl rfl (op_load_one ag66 rfl rfl) ?_
        refine TL_nil ?_
        refine TZ_keepH [0, 2, 3, 5, 6, 7, 8, 10, 11, 12, 13, 15, 16, 17, 18, 19] [11, 8173, 8733] rfl rfl rfl rfl (by rw [hF]; rfl) ?_
        exact hS7292_25
    refine TZ_cut 8 [true, true, true, true, false, true, true, true, false, false, true, true, true, true, false, false, false, false, false] ⟨[(0, .cp [.sl 2 (List.map a_Term p0.Pre), .sl 2 (List.map a_Term p0.Post), .sl 2 (List.map a_Instr p0.Code), .sl 2 (List.map a_Point p0.Points)]), (2, .ptr 11 0 0), (5, .cp [.sl 2 (List.map a_Term p0.Pre), .sl 2 (List.map a_Term p0.Post), .sl 2 (List.map a_Instr p0.Code), .sl 2 (List.map a_Point p0.Points)]), (6, .cp [.sl 2 (List.map a_Term p0.Pre), .sl 2 (List.map a_Term p0.Post), .sl 2 (List.map a_Instr p0.Code), .sl 2 (List.map a_Point p0.Points)]), (7, .cp [.sl 2 (List.map a_Term p0.Pre)]), (8, .sl 2 (List.map a_Term p0.Pre)), (10, .cp [.sl 2 (List.map a_Term p0.Pre), .sl 2 (List.map a_Term p0.Post), .sl 2 (List.map a_Instr p0.Code), .sl 2 (List.map a_Point p0.Points)]), (11, .cp [.sl 2 (List.map a_Term p0.Pre), .sl 2 (List.map a_Term p0.Post), .sl 2 (List.map a_Instr p0.Code), .sl 2 (List.map a_Point p0.Points)]), (12, .cp [.sl 2 (List.map a_Term p0.Post)]), (15, .ow 8173), (16, .cp [.sl 2 (List.map a_Term p0.Pre), .sl 2 (List.map a_Term p0.Post), .sl 2 (List.map a_Instr p0.Code), .sl 2 (List.map a_Point p0.Points)]), (17, .cp [.sl 2 (List.map a_Term p0.Pre), .sl 2 (List.map a_Term p0.Post), .sl 2 (List.map a_Instr p0.Code), .sl 2 (List.map a_Point p0.Points)]), (18, .cp [.sl 2 (List.map a_Instr p0.Code)])], [(11, .box [.snil, .snil, .snil, .snil]), (8173, .arr ⟨false, false⟩ 2 40 (List.map a_Instr ([] : List Instr)))]⟩ ?_ (fun hS7292_34 => ?_)
    · refine TZ_pure 14 (by kernel_rfl) rfl rfl rfl rfl rfl (op_load_one ag24 rfl rfl) ?_
      refine TZ_each [4, 8, 17] (by kernel_rfl) rfl ?_
      refine ⟨?_, ?_, ?_⟩
      · refine ⟨_, rfl, ?_⟩
        refine TL_callO [(1000, 7693)] (ACall.F (F := F) (c_spec_l02OwnAll p0.Pre r9 hr9)) Try.call104 rfl rfl rfl rfl rfl rfl rfl rfl rfl rfl rfl rfl rfl ?_
        refine TL_nil ?_
        refine TZ_keepH [0, 2, 5, 6, 7, 8, 9, 10, 11, 12, 15, 16, 17, 18, 19] [11, 7693, 8173] rfl rfl rfl rfl (by rw [hF]; rfl) ?_
        exact hS7292_19
      · refine ⟨_, rfl, ?_⟩
        refine TL_pure rfl rfl rfl rfl (op_load_one ag66 rfl rfl) ?_
        refine TL_nil ?_
        refine TZ_keepH [0, 2, 5, 6, 7, 8, 10, 11, 12, 13, 15, 16, 17, 18, 19] [11, 8173] rfl rfl rfl rfl (by rw [hF]; rfl) ?_
        exact hS7292_27
      · refine ⟨_, rfl, ?_⟩
        refine TL_alloc 8733 z69 rfl rfl rfl rfl rfl rfl rfl ?_
        refine TL_nil ?_
        refine TZ_keepH [0, 2, 3, 5, 6, 7, 8, 10, 11, 12, 15, 16, 17, 18, 19] [11, 8173, 8733] rfl rfl rfl rfl (by rw [hF]; rfl) ?_
        exact hS7292_33
    refine TZ_cut 7 [true, true, true, true, false, true, true, true, false, false, true, true, true, true, true, false, false, false, false] ⟨[(0, .cp [.sl 2 (List.map a_Term p0.Pre), .sl 2 (List.map a_Term p0.Post), .sl 2 (List.map a_Instr p0.Code), .sl 2 (List.map a_Point p0.Points)]), (2, .ptr 11 0 0), (5, .cp [.sl 2 (List.map a_Term p0.Pre), .sl 2 (List.map a_Term p0.Post), .sl 2 (List.map a_Instr p0.Code), .sl 2 (List.map a_Point p0.Points)]), (6, .cp [.sl 2 (List.map a_Term p0.Pre), .sl 2 (List.map a_Term p0.Post), .sl 2 (List.map a_Instr p0.Code), .sl 2 (List.map a_Point p0.Points)]), (7, .cp [.sl 2 (List.map a_Term p0.Pre)]), (8, .sl 2 (List.map a_Term p0.Pre)), (10, .cp [.sl 2 (List.map a_Term p0.Pre), .sl 2 (List.map a_Term p0.Post), .sl 2 (List.map a_Instr p0.Code), .sl 2 (List.map a_Point p0.Points)]), (11, .cp [.sl 2 (List.map a_Term p0.Pre), .sl 2 (List.map a_Term p0.Post), .sl 2 (List.map a_Instr p0.Code), .sl 2 (List.map a_Point p0.Points)]), (12, .cp [.sl 2 (List.map a_Term p0.Post)]), (15, .ow 8173), (16, .cp [.sl 2 (List.map a_Term p0.Pre), .sl 2 (List.map a_Term p0.Post), .sl 2 (List.map a_Instr p0.Code), .sl 2 (List.map a_Point p0.Points)]), (17, .cp [.sl 2 (List.map a_Term p0.Pre), .sl 2 (List.map a_Term p0.Post), .sl 2 (List.map a_Instr p0.Code), .sl 2 (List.map a_Point p0.Points)]), (18, .cp [.sl 2 (List.map a_Instr p0.Code)]), (19, .sl 2 (List.map a_Instr p0.Code))], [(11, .box [.snil, .snil, .snil, .snil]), (8173, .arr ⟨false, false⟩ 2 40 (List.map a_Instr ([] : List Instr)))]⟩ ?_ (fun hS7292_35 => ?_)
    · refine TZ_each [4, 8, 17] (by kernel_rfl) rfl ?_
      refine ⟨?_, ?_, ?_⟩
      · refine ⟨_, rfl, ?_⟩
        refine TL_callO [(1000, 7693)] (ACall.F (F := F) (c_spec_l02OwnAll p0.Pre r9 hr9)) Try.call104 rfl rfl rfl rfl rfl rfl rfl rfl rfl rfl rfl rfl rfl ?_
        refine TL_nil ?_
        refine TZ_keepH [0, 2, 5, 6, 7, 8, 9, 10, 11, 12, 15, 16, 17, 18, 19] [11, 7693, 8173] rfl rfl rfl rfl (by rw [hF]; rfl) ?_
        exact hS7292_19
      · refine ⟨_, rfl, ?_⟩
        refine TL_pure rfl rfl rfl rfl (op_load_one ag66 rfl rfl) ?_
        refine TL_nil ?_
        refine TZ_keepH [0, 2, 5, 6, 7, 8, 10, 11, 12, 13, 15, 16, 17, 18, 19] [11, 8173] rfl rfl rfl rfl (by rw [hF]; rfl) ?_
        exact hS7292_27
      · refine ⟨_, rfl, ?_⟩
        refine TL_alloc 8733 z69 rfl rfl rfl rfl rfl rfl rfl ?_
        refine TL_nil ?_
        refine TZ_keepH [0, 2, 3, 5, 6, 7, 8, 10, 11, 12, 15, 16, 17, 18, 19] [11, 8173, 8733] rfl rfl rfl rfl (by rw [hF]; rfl) ?_
        exact hS7292_33
    refine TZ_cut 7 [true, true, true, true, false, true, true, true, false, false, false, true, true, true, true, false, false, true, false] ⟨[(0, .cp [.sl 2 (List.map a_Term p0.Pre), .sl 2 (List.map a_Term p0.Post), .sl 2 (List.map a_Instr p0.Code), .sl 2 (List.map a_Point p0.Points)]), (2, .ptr 11 0 0), (3, .ptr 8733 0 0), (5, .cp [.sl 2 (List.map a_Term p0.Pre), .sl 2 (List.map a_Term p0.Post), .sl 2 (List.map a_Instr p0.Code), .sl 2 (List.map a_Point p0.Points)]), (6, .cp [.sl 2 (List.map a_Term p0.Pre), .sl 2 (List.map a_Term p0.Post), .sl 2 (List.map a_Instr p0.Code), .sl 2 (List.map a_Point p0.Points)]), (7, .cp [.sl 2 (List.map a_Term p0.Pre)]), (8, .sl 2 (List.map a_Term p0.Pre)), (10, .cp [.sl 2 (List.map a_Term p0.Pre), .sl 2 (List.map a_Term p0.Post), .sl 2 (List.map a_Instr p0.Code), .sl 2 (List.map a_Point p0.Points)]), (11, .cp [.sl 2 (List.map a_Term p0.Pre), .sl 2 (List.map a_Term p0.Post), .sl 2 (List.map a_Instr p0.Code), .sl 2 (List.map a_Point p0.Points)]), (12, .cp [.sl 2 (List.map a_Term p0.Post)]), (16, .cp [.sl 2 (List.map a_Term p0.Pre), .sl 2 (List.map a_Term p0.Post), .sl 2 (List.map a_Instr p0.Code), .sl 2 (List.map a_Point p0.Points)]), (17, .cp [.sl 2 (List.map a_Term p0.Pre), .sl 2 (List.map a_Term p0.Post), .sl 2 (List.map a_Instr p0.Code), .sl 2 (List.map a_Point p0.Points)]), (18, .cp [.sl 2 (List.map a_Instr p0.Code)]), (19, .sl 2 (List.map a_Instr p0.Code))], [(11, .box [.snil, .snil, .snil, .snil]), (8733, .box [.snil, .snil, .snil, .snil])]⟩ ?_ (fun hS7292_36 => ?_)
    · refine TZ_each [4, 8, 10] (by kernel_rfl) rfl ?_
      refine ⟨?_, ?_, ?_⟩
      · refine ⟨_, rfl, ?_⟩
        refine TL_callO [(1000, 7693)] (ACall.F (F := F) (c_spec_l02OwnAll p0.Pre r9 hr9)) Try.call104 rfl rfl rfl rfl rfl rfl rfl rfl rfl rfl rfl rfl rfl ?_
        refine TL_nil ?_
        refine TZ_keepH [0, 2, 3, 5, 6, 7, 8, 9, 10, 11, 12, 16, 17, 18, 19] [11, 7693, 8733] rfl rfl rfl rfl (by rw [hF]; rfl) ?_
        exact hS7292_20
      · refine ⟨_, rfl, ?_⟩
        refine TL_pure rfl rfl rfl rfl (op_load_one ag66 rfl rfl) ?_
        refine TL_nil ?_
        refine TZ_keepH [0, 2, 3, 5, 6, 7, 8, 10, 11, 12, 13, 16, 17, 18, 19] [11, 8733] rfl rfl rfl rfl (by rw [hF]; rfl) ?_
        exact hS7292_28
      · refine ⟨_, rfl, ?_⟩
        refine TL_buildSlice 8173 (es := List.map a_Instr ([] : List Instr)) el24 z40 rfl rfl rfl rfl rfl rfl rfl rfl rfl ?_
        refine TL_nil ?_
        refine TZ_keepH [0, 2, 3, 5, 6, 7, 8, 10, 11, 12, 15, 16, 17, 18, 19] [11, 8173, 8733] rfl rfl rfl rfl (by rw [hF]; rfl) ?_
        exact hS7292_33
    refine TZ_cut 8 [true, true, true, true, false, true, true, true, false, false, false, true, true, true, true, false, false, false, false] ⟨[(0, .cp [.sl 2 (List.map a_Term p0.Pre), .sl 2 (List.map a_Term p0.Post), .sl 2 (List.map a_Instr p0.Code), .sl 2 (List.map a_Point p0.Points)]), (2, .ptr 11 0 0), (5, .cp [.sl 2 (List.map a_Term p0.Pre), .sl 2 (List.map a_Term p0.Post), .sl 2 (List.map a_Instr p0.Code), .sl 2 (List.map a_Point p0.Points)]), (6, .cp [.sl 2 (List.map a_Term p0.Pre), .sl 2 (List.map a_Term p0.Post), .sl 2 (List.map a_Instr p0.Code), .sl 2 (List.map a_Point p0.Points)]), (7, .cp [.sl 2 (List.map a_Term p0.Pre)]), (8, .sl 2 (List.map a_Term p0.Pre)), (10, .cp [.sl 2 (List.map a_Term p0.Pre), .sl 2 (List.map a_Term p0.Post), .sl 2 (List.map a_Instr p0.Code), .sl 2 (List.map a_Point p0.Points)]), (11, .cp [.sl 2 (List.map a_Term p0.Pre), .sl 2 (List.map a_Term p0.Post), .sl 2 (List.map a_Instr p0.Code), .sl 2 (List.map a_Point p0.Points)]), (12, .cp [.sl 2 (List.map a_Term p0.Post)]), (16, .cp [.sl 2 (List.map a_Term p0.Pre), .sl 2 (List.map a_Term p0.Post), .sl 2 (List.map a_Instr p0.Code), .sl 2 (List.map a_Point p0.Points)]), (17, .cp [.sl 2 (List.map a_Term p0.Pre), .sl 2 (List.map a_Term p0.Post), .sl 2 (List.map a_Instr p0.Code), .sl 2 (List.map a_Point p0.Points)]), (18, .cp [.sl 2 (List.map a_Instr p0.Code)]), (19, .sl 2 (List.map a_Instr p0.Code))], [(11, .box [.snil, .snil, .snil, .snil])]⟩ ?_ (fun hS7292_37 => ?_)
    · refine TZ_each [4, 8, 10, 17] (by kernel_rfl) rfl ?_
      refine ⟨?_, ?_, ?_, ?_⟩
      · refine ⟨_, rfl, ?_⟩
        refine TL_callO [(1000, 7693)] (ACall.F (F := F) (c_spec_l02OwnAll p0.Pre r9 hr9)) Try.call104 rfl rfl rfl rfl rfl rfl rfl rfl rfl rfl rfl rfl rfl ?_
        refine TL_nil ?_
        refine TZ_keepH [0, 2, 5, 6, 7, 8, 9, 10, 11, 12, 16, 17, 18, 19] [11, 7693] rfl rfl rfl rfl (by rw [hF]; rfl) ?_
        exact hS7292_21
      · refine ⟨_, rfl, ?_⟩
        refine TL_pure rfl rfl rfl rfl (op_load_one ag66 rfl rfl) ?_
        refine TL_nil ?_
        refine TZ_keepH [0, 2, 5, 6, 7, 8, 10, 11, 12, 13, 16, 17, 18, 19] [11] rfl rfl rfl rfl (by rw [hF]; rfl) ?_
        exact hS7292_29
      · refine ⟨_, rfl, ?_⟩
        refine TL_buildSlice 8173 (es := List.map a_Instr ([] : List Instr)) el24 z40 rfl rfl rfl rfl rfl rfl rfl rfl rfl ?_
        refine TL_nil ?_
        refine TZ_keepH [0, 2, 5, 6, 7, 8, 10, 11, 12, 15, 16, 17, 18, 19] [11, 8173] rfl rfl rfl rfl (by rw [hF]; rfl) ?_
        exact hS7292_35
      · refine ⟨_, rfl, ?_⟩
        refine TL_alloc 8733 z69 rfl rfl rfl rfl rfl rfl rfl ?_
        refine TL_nil ?_
        refine TZ_keepH [0, 2, 3, 5, 6, 7, 8, 10, 11, 12, 16, 17, 18, 19] [11, 8733] rfl rfl rfl rfl (by rw [hF]; rfl) ?_
        exact hS7292_36
    refine TZ_cut 7 [true, true, true, true, false, true, true, true, false, false, true, true, true, true, false, false, false, true, false] ⟨[(0, .cp [.sl 2 (List.map a_Term p0.Pre), .sl 2 (List.map a_Term p0.Post), .sl 2 (List.map a_Instr p0.Code), .sl 2 (List.map a_Point p0.Points)]), (2, .ptr 11 0 0), (3, .ptr 8733 0 0), (5, .cp [.sl 2 (List.map a_Term p0.Pre), .sl 2 (List.map a_Term p0.Post), .sl 2 (List.map a_Instr p0.Code), .sl 2 (List.map a_Point p0.Points)]), (6, .cp [.sl 2 (List.map a_Term p0.Pre), .sl 2 (List.map a_Term p0.Post), .sl 2 (List.map a_Instr p0.Code), .sl 2 (List.map a_Point p0.Points)]), (7, .cp [.sl 2 (List.map a_Term p0.Pre)]), (8, .sl 2 (List.map a_Term p0.Pre)), (10, .cp [.sl 2 (List.map a_Term p0.Pre), .sl 2 (List.map a_Term p0.Post), .sl 2 (List.map a_Instr p0.Code), .sl 2 (List.map a_Point p0.Points)]), (11, .cp [.sl 2 (List.map a_Term p0.Pre), .sl 2 (List.map a_Term p0.Post), .sl 2 (List.map a_Instr p0.Code), .sl 2 (List.map a_Point p0.Points)]), (12, .cp [.sl 2 (List.map a_Term p0.Post)]), (15, .ow 8173), (16, .cp [.sl 2 (List.map a_Term p0.Pre), .sl 2 (List.map a_Term p0.Post), .sl 2 (List.map a_Instr p0.Code), .sl 2 (List.map a_Point p0.Points)]), (17, .cp [.sl 2 (List.map a_Term p0.Pre), .sl 2 (List.map a_Term p0.Post), .sl 2 (List.map a_Instr p0.Code), .sl 2 (List.map a_Point p0.Points)]), (18, .cp [.sl 2 (List.map a_Instr p0.Code)])], [(11, .box [.snil, .snil, .snil, .snil]), (8173, .arr ⟨false, false⟩ 2 40 (List.map a_Instr ([] : List Instr))), (8733, .box [.snil, .snil, .snil, .snil])]⟩ ?_ (fun hS7292_38 => ?_)
    · refine TZ_pure 14 (by kernel_rfl) rfl rfl rfl rfl rfl (op_load_one ag24 rfl rfl) ?_
      refine TZ_each [4, 8] (by kernel_rfl) rfl ?_
      refine ⟨?_, ?_⟩
      · refine ⟨_, rfl, ?_⟩
        refine TL_callO [(1000, 7693)] (ACall.F (F := F) (c_spec_l02OwnAll p0.Pre r9 hr9)) Try.call104 rfl rfl rfl rfl rfl rfl rfl rfl rfl rfl rfl rfl rfl ?_
        refine TL_nil ?_
        refine TZ_keepH [0, 2, 3, 5, 6, 7, 8, 9, 10, 11, 12, 15, 16, 17, 18, 19] [11, 7693, 8173, 8733] rfl rfl rfl rfl (by rw [hF]; rfl) ?_
        exact hS7292_17
      · refine ⟨_, rfl, ?_⟩
        refine TL_pure rfl rfl rfl rfl (op_load_one ag66 rfl rfl) ?_
        refine TL_nil ?_
        refine TZ_keepH [0, 2, 3, 5, 6, 7, 8, 10, 11, 12, 13, 15, 16, 17, 18, 19] [11, 8173, 8733] rfl rfl rfl rfl (by rw [hF]; rfl) ?_
        exact hS7292_25
    refine TZ_cut 8 [true, true, true, true, false, true, true, true, false, false, false, true, true, true, false, false, false, true, false] ⟨[(0, .cp [.sl 2 (List.map a_Term p0.Pre), .sl 2 (List.map a_Term p0.Post), .sl 2 (List.map a_Instr p0.Code), .sl 2 (List.map a_Point p0.Points)]), (2, .ptr 11 0 0), (3, .ptr 8733 0 0), (5, .cp [.sl 2 (List.map a_Term p0.Pre), .sl 2 (List.map a_Term p0.Post), .sl 2 (List.map a_Instr p0.Code), .sl 2 (List.map a_Point p0.Points)]), (6, .cp [.sl 2 (List.map a_Term p0.Pre), .sl 2 (List.map a_Term p0.Post), .sl 2 (List.map a_Instr p0.Code), .sl 2 (List.map a_Point p0.Points)]), (7, .cp [.sl 2 (List.map a_Term p0.Pre)]), (8, .sl 2 (List.map a_Term p0.Pre)), (10, .cp [.sl 2 (List.map a_Term p0.Pre), .sl 2 (List.map a_Term p0.Post), .sl 2 (List.map a_Instr p0.Code), .sl 2 (List.map a_Point p0.Points)]), (11, .cp [.sl 2 (List.map a_Term p0.Pre), .sl 2 (List.map a_Term p0.Post), .sl 2 (List.map a_Instr p0.Code), .sl 2 (List.map a_Point p0.Points)]), (12, .cp [.sl 2 (List.map a_Term p0.Post)]), (16, .cp [.sl 2 (List.map a_Term p0.Pre), .sl 2 (List.map a_Term p0.Post), .sl 2 (List.map a_Instr p0.Code), .sl 2 (List.map a_Point p0.Points)]), (17, .cp [.sl 2 (List.map a_Term p0.Pre), .sl 2 (List.map a_Term p0.Post), .sl 2 (List.map a_Instr p0.Code), .sl 2 (List.map a_Point p0.Points)]), (18, .cp [.sl 2 (List.map a_Instr p0.Code)])], [(11, .box [.snil, .snil, .snil, .snil]), (8733, .box [.snil, .snil, .snil, .snil])]⟩ ?_ (fun hS7292_39 => ?_)
    · refine TZ_each [4, 8, 10, 14] (by kernel_rfl) rfl ?_
      refine ⟨?_, ?_, ?_, ?_⟩
      · refine ⟨_, rfl, ?_⟩
        refine TL_callO [(1000, 7693)] (ACall.F (F := F) (c_spec_l02OwnAll p0.Pre r9 hr9)) Try.call104 rfl rfl rfl rfl rfl rfl rfl rfl rfl rfl rfl rfl rfl ?_
        refine TL_nil ?_
        refine TZ_keepH [0, 2, 3, 5, 6, 7, 8, 9, 10, 11, 12, 16, 17, 18] [11, 7693, 8733] rfl rfl rfl rfl (by rw [hF]; rfl) ?_
        exact hS7292_23
      · refine ⟨_, rfl, ?_⟩
        refine TL_pure rfl rfl rfl rfl (op_load_one ag66 rfl rfl) ?_
        refine TL_nil ?_
        refine TZ_keepH [0, 2, 3, 5, 6, 7, 8, 10, 11, 12, 13, 16, 17, 18] [11, 8733] rfl rfl rfl rfl (by rw [hF]; rfl) ?_
        exact hS7292_31
      · refine ⟨_, rfl, ?_⟩
        refine TL_buildSlice 8173 (es := List.map a_Instr ([] : List Instr)) el24 z40 rfl rfl rfl rfl rfl rfl rfl rfl rfl ?_
        refine TL_nil ?_
        refine TZ_keepH [0, 2, 3, 5, 6, 7, 8, 10, 11, 12, 15, 16, 17, 18] [11, 8173, 8733] rfl rfl rfl rfl (by rw [hF]; rfl) ?_
        exact hS7292_38
      · refine ⟨_, rfl, ?_⟩
        refine TL_pure rfl rfl rfl rfl (op_load_one ag24 rfl rfl) ?_
        refine TL_nil ?_
        refine TZ_keepH [0, 2, 3, 5, 6, 7, 8, 10, 11, 12, 16, 17, 18, 19] [11, 8733] rfl rfl rfl rfl (by rw [hF]; rfl) ?_
        exact hS7292_36
    refine TZ_cut 9 [true, true, true, true, false, true, true, true, false, false, false, true, true, true, false, false, false, false, false] ⟨[(0, .cp [.sl 2 (List.map a_Term p0.Pre), .sl 2 (List.map a_Term p0.Post), .sl 2 (List.map a_Instr p0.Code), .sl 2 (List.map a_Point p0.Points)]), (2, .ptr 11 0 0), (5, .cp [.sl 2 (List.map a_Term p0.Pre), .sl 2 (List.map a_Term p0.Post), .sl 2 (List.map a_Instr p0.Code), .sl 2 (List.map a_Point p0.Points)]), (6, .cp [.sl 2 (List.map a_Term p0.Pre), .sl 2 (List.map a_Term p0.Post), .sl 2 (List.map a_Instr p0.Code), .sl 2 (List.map a_Point p0.Points)]), (7, .cp [.sl 2 (List.map a_Term p0.Pre)]), (8, .sl 2 (List.map a_Term p0.Pre)), (10, .cp [.sl 2 (List.map a_Term p0.Pre), .sl 2 (List.map a_Term p0.Post), .sl 2 (List.map a_Instr p0.Code), .sl 2 (List.map a_Point p0.Points)]), (11, .cp [.sl 2 (List.map a_Term p0.Pre), .sl 2 (List.map a_Term p0.Post), .sl 2 (List.map a_Instr p0.Code), .sl 2 (List.map a_Point p0.Points)]), (12, .cp [.sl 2 (List.map a_Term p0.Post)]), (16, .cp [.sl 2 (List.map a_Term p0.Pre), .sl 2 (List.map a_Term p0.Post), .sl 2 (List.map a_Instr p0.Code), .sl 2 (List.map a_Point p0.Points)]), (17, .cp [.sl 2 (List.map a_Term p0.Pre), .sl 2 (List.map a_Term p0.Post), .sl 2 (List.map a_Instr p0.Code), .sl 2 (List.map a_Point p0.Points)]), (18, .cp [.sl 2 (List.map a_Instr p0.Code)])], [(11, .box [.snil, .snil, .snil, .snil])]⟩ ?_ (fun hS7292_40 => ?_)
    · refine TZ_each [4, 8, 10, 14, 17] (by kernel_rfl) rfl ?_
      refine ⟨?_, ?_, ?_, ?_, ?_⟩
      · refine ⟨_, rfl, ?_⟩
        refine TL_callO [(1000, 7693)] (ACall.F (F := F) (c_spec_l02OwnAll p0.Pre r9 hr9)) Try.call104 rfl rfl rfl rfl rfl rfl rfl rfl rfl rfl rfl rfl rfl ?_
        refine TL_nil ?_
        refine TZ_keepH [0, 2, 5, 6, 7, 8, 9, 10, 11, 12, 16, 17, 18] [11, 7693] rfl rfl rfl rfl (by rw [hF]; rfl) ?_
        exact hS7292_24
      · refine ⟨_, rfl, ?_⟩
        refine TL_pure rfl rfl rfl rfl (op_load_one ag66 rfl rfl) ?_
        refine TL_nil ?_
        refine TZ_keepH [0, 2, 5, 6, 7, 8, 10, 11, 12, 13, 16, 17, 18] [11] rfl rfl rfl rfl (by rw [hF]; rfl) ?_
        exact hS7292_32
      · refine ⟨_, rfl, ?_⟩
        refine TL_buildSlice 8173 (es := List.map a_Instr ([] : List Instr)) el24 z40 rfl rfl rfl rfl rfl rfl rfl rfl rfl ?_
        refine TL_nil ?_
        refine TZ_keepH [0, 2, 5, 6, 7, 8, 10, 11, 12, 15, 16, 17, 18] [11, 8173] rfl rfl rfl rfl (by rw [hF]; rfl) ?_
        exact hS7292_34
      · refine ⟨_, rfl, ?_⟩
        refine TL_pure rfl rfl rfl rfl (op_load_one ag24 rfl rfl) ?_
        refine TL_nil ?_
        refine TZ_keepH [0, 2, 5, 6, 7, 8, 10, 11, 12, 16, 17, 18, 19] [11] rfl rfl rfl rfl (by rw [hF]; rfl) ?_
        exact hS7292_37
      · refine ⟨_, rfl, ?_⟩
        refine TL_alloc 8733 z69 rfl rfl rfl rfl rfl rfl rfl ?_
        refine TL_nil ?_
        refine TZ_keepH [0, 2, 3, 5, 6, 7, 8, 10, 11, 12, 16, 17, 18] [11, 8733] rfl rfl rfl rfl (by rw [hF]; rfl) ?_
        exact hS7292_39
    refine TZ_cut 6 [true, true, true, false, false, true, true, true, true, false, true, true, true, true, true, false, false, true, false] ⟨[(0, .cp [.sl 2 (List.map a_Term p0.Pre), .sl 2 (List.map a_Term p0.Post), .sl 2 (List.map a_Instr p0.Code), .sl 2 (List.map a_Point p0.Points)]), (2, .ptr 11 0 0), (3, .ptr 8733 0 0), (5, .cp [.sl 2 (List.map a_Term p0.Pre), .sl 2 (List.map a_Term p0.Post), .sl 2 (List.map a_Instr p0.Code), .sl 2 (List.map a_Point p0.Points)]), (6, .cp [.sl 2 (List.map a_Term p0.Pre), .sl 2 (List.map a_Term p0.Post), .sl 2 (List.map a_Instr p0.Code), .sl 2 (List.map a_Point p0.Points)]), (7, .cp [.sl 2 (List.map a_Term p0.Pre)]), (10, .cp [.sl 2 (List.map a_Term p0.Pre), .sl 2 (List.map a_Term p0.Post), .sl 2 (List.map a_Instr p0.Code), .sl 2 (List.map a_Point p0.Points)]), (11, .cp [.sl 2 (List.map a_Term p0.Pre), .sl 2 (List.map a_Term p0.Post), .sl 2 (List.map a_Instr p0.Code), .sl 2 (List.map a_Point p0.Points)]), (12, .cp [.sl 2 (List.map a_Term p0.Post)]), (13, .sl 2 (List.map a_Term p0.Post)), (15, .ow 8173), (16, .cp [.sl 2 (List.map a_Term p0.Pre), .sl 2 (List.map a_Term p0.Post), .sl 2 (List.map a_Instr p0.Code), .sl 2 (List.map a_Point p0.Points)]), (17, .cp [.sl 2 (List.map a_Term p0.Pre), .sl 2 (List.map a_Term p0.Post), .sl 2 (List.map a_Instr p0.Code), .sl 2 (List.map a_Point p0.Points)]), (18, .cp [.sl 2 (List.map a_Instr p0.Code)]), (19, .sl 2 (List.map a_Instr p0.Code))], [(11, .box [.snil, .snil, .snil, .snil]), (8173, .arr ⟨false, false⟩ 2 40 (List.map a_Instr ([] : List Instr))), (8733, .box [.snil, .snil, .snil, .snil])]⟩ ?_ (fun hS7292_41 => ?_)
    · refine TZ_one 3 (by kernel_rfl) rfl ?_
      refine TL_pure rfl rfl rfl rfl (op_load_one ag66 rfl rfl) ?_
      refine TL_nil ?_
      refine TZ_one 4 (by kernel_rfl) rfl ?_
      refine TL_callO [(1000, 7693)] (ACall.F (F := F) (c_spec_l02OwnAll p0.Pre r9 hr9)) Try.call104 rfl rfl rfl rfl rfl rfl rfl rfl rfl rfl rfl rfl rfl ?_
      refine TL_nil ?_
      refine TZ_one 9 (by kernel_rfl) rfl ?_
      refine TL_callO [(1000, 8093)] (ACall.F (F := F) (c_spec_l02OwnAll p0.Post r14 hr14)) Try.call104 rfl rfl rfl rfl rfl rfl rfl rfl rfl rfl rfl rfl rfl ?_
      refine TL_nil ?_
      refine TZ_one 15 (by kernel_rfl) rfl ?_
      refine TL_appendT (f := a_Instr) (a := ([] : List Instr)) (b := p0.Code) el24 z40 rfl rfl rfl rfl rfl rfl rfl (capI_spec hq20) rfl rfl rfl rfl rfl ?_
      refine TL_nil ?_
      refine TZ_pure 16 (by kernel_rfl) rfl rfl rfl rfl rfl (op_buildP pl69 z69 rfl rfl rfl rfl rfl) ?_
      refine TZ_one 18 (by kernel_rfl) rfl ?_
      refine TL_store_box sz69 rfl rfl rfl rfl rfl rfl rfl rfl rfl ?_
      refine TL_nil ?_
      refine TZ_done (by kernel_rfl) ?_
      refine T_keepH [0, 2, 3] [11, 7693, 8093, 8173, 8733] rfl rfl rfl rfl (by rw [hF]; rfl) ?_
      refine T_ren [(11, 11), (7693, 412), (8093, 812), (8173, 892), (8733, 1452)] rfl rfl rfl (by rw [hF]; rfl) ?_
      exact hj0 (r9, r14) hm
    refine TZ_cut 8 [true, true, true, false, false, true, true, true, true, false, true, true, true, true, false, false, false, false, false] ⟨[(0, .cp [.sl 2 (List.map a_Term p0.Pre), .sl 2 (List.map a_Term p0.Post), .sl 2 (List.map a_Instr p0.Code), .sl 2 (List.map a_Point p0.Points)]), (2, .ptr 11 0 0), (5, .cp [.sl 2 (List.map a_Term p0.Pre), .sl 2 (List.map a_Term p0.Post), .sl 2 (List.map a_Instr p0.Code), .sl 2 (List.map a_Point p0.Points)]), (6, .cp [.sl 2 (List.map a_Term p0.Pre), .sl 2 (List.map a_Term p0.Post), .sl 2 (List.map a_Instr p0.Code), .sl 2 (List.map a_Point p0.Points)]), (7, .cp [.sl 2 (List.map a_Term p0.Pre)]), (10, .cp [.sl 2 (List.map a_Term p0.Pre), .sl 2 (List.map a_Term p0.Post), .sl 2 (List.map a_Instr p0.Code), .sl 2 (List.map a_Point p0.Points)]), (11, .cp [.sl 2 (List.map a_Term p0.Pre), .sl 2 (List.map a_Term p0.Post), .sl 2 (List.map a_Instr p0.Code), .sl 2 (List.map a_Point p0.Points)]), (12, .cp [.sl 2 (List.map a_Term p0.Post)]), (13, .sl 2 (List.map a_Term p0.Post)), (15, .ow 8173), (16, .cp [.sl 2 (List.map a_Term p0.Pre), .sl 2 (List.map a_Term p0.Post), .sl 2 (List.map a_Instr p0.Code), .sl 2 (List.map a_Point p0.Points)]), (17, .cp [.sl 2 (List.map a_Term p0.Pre), .sl 2 (List.map a_Term p0.Post), .sl 2 (List.map a_Instr p0.Code), .sl 2 (List.map a_Point p0.Points)]), (18, .cp [.sl 2 (List.map a_Instr p0.Code)])], [(11, .box [.snil, .snil, .snil, .snil]), (8173, .arr ⟨false, false⟩ 2 40 (List.map a_Instr ([] : List Instr)))]⟩ ?_ (fun hS7292_42 => ?_)
    · refine TZ_pure 14 (by kernel_rfl) rfl rfl rfl rfl rfl (op_load_one ag24 rfl rfl) ?_
      refine TZ_each [3, 17] (by kernel_rfl) rfl ?_
      refine ⟨?_, ?_⟩
      · refine ⟨_, rfl, ?_⟩
        refine TL_pure rfl rfl rfl rfl (op_load_one ag66 rfl rfl) ?_
        refine TL_nil ?_
        refine TZ_keepH [0, 2, 5, 6, 7, 8, 10, 11, 12, 13, 15, 16, 17, 18, 19] [11, 8173] rfl rfl rfl rfl (by rw [hF]; rfl) ?_
        exact hS7292_27
      · refine ⟨_, rfl, ?_⟩
        refine TL_alloc 8733 z69 rfl rfl rfl rfl rfl rfl rfl ?_
        refine TL_nil ?_
        refine TZ_keepH [0, 2, 3, 5, 6, 7, 10, 11, 12, 13, 15, 16, 17, 18, 19] [11, 8173, 8733] rfl rfl rfl rfl (by rw [hF]; rfl) ?_
        exact hS7292_41
    refine TZ_cut 7 [true, true, true, false, false, true, true, true, true, false, true, true, true, true, true, false, false, false, false] ⟨[(0, .cp [.sl 2 (List.map a_Term p0.Pre), .sl 2 (List.map a_Term p0.Post), .sl 2 (List.map a_Instr p0.Code), .sl 2 (List.map a_Point p0.Points)]), (2, .ptr 11 0 0), (5, .cp [.sl 2 (List.map a_Term p0.Pre), .sl 2 (List.map a_Term p0.Post), .sl 2 (List.map a_Instr p0.Code), .sl 2 (List.map a_Point p0.Points)]), (6, .cp [.sl 2 (List.map a_Term p0.Pre), .sl 2 (List.map a_Term p0.Post), .sl 2 (List.map a_Instr p0.Code), .sl 2 (List.map a_Point p0.Points)]), (7, .cp [.sl 2 (List.map a_Term p0.Pre)]), (10, .cp [.sl 2 (List.map a_Term p0.Pre), .sl 2 (List.map a_Term p0.Post), .sl 2 (List.map a_Instr p0.Code), .sl 2 (List.map a_Point p0.Points)]), (11, .cp [.sl 2 (List.map a_Term p0.Pre), .sl 2 (List.map a_Term p0.Post), .sl 2 (List.map a_Instr p0.Code), .sl 2 (List.map a_Point p0.Points)]), (12, .cp [.sl 2 (List.map a_Term p0.Post)]), (13, .sl 2 (List.map a_Term p0.Post)), (15, .ow 8173), (16, .cp [.sl 2 (List.map a_Term p0.Pre), .sl 2 (List.map a_Term p0.Post), .sl 2 (List.map a_Instr p0.Code), .sl 2 (List.map a_Point p0.Points)]), (17, .cp [.sl 2 (List.map a_Term p0.Pre), .sl 2 (List.map a_Term p0.Post), .sl 2 (List.map a_Instr p0.Code), .sl 2 (List.map a_Point p0.Points)]), (18, .cp [.sl 2 (List.map a_Instr p0.Code)]), (19, .sl 2 (List.map a_Instr p0.Code))], [(11, .box [.snil, .snil, .snil, .snil]), (8173, .arr ⟨false, false⟩ 2 40 (List.map a_Instr ([] : List Instr)))]⟩ ?_ (fun hS7292_43 => ?_)
    · refine TZ_each [3, 17] (by kernel_rfl) rfl ?_
      refine ⟨?_, ?_⟩
      · refine ⟨_, rfl, ?_⟩
        refine TL_pure rfl rfl rfl rfl (op_load_one ag66 rfl rfl) ?_
        refine TL_nil ?_
        refine TZ_keepH [0, 2, 5, 6, 7, 8, 10, 11, 12, 13, 15, 16, 17, 18, 19] [11, 8173] rfl rfl rfl rfl (by rw [hF]; rfl) ?_
        exact hS7292_27
      · refine ⟨_, rfl, ?_⟩
        refine TL_alloc 8733 z69 rfl rfl rfl rfl rfl rfl rfl ?_
        refine TL_nil ?_
        refine TZ_keepH [0, 2, 3, 5, 6, 7, 10, 11, 12, 13, 15, 16, 17, 18, 19] [11, 8173, 8733] rfl rfl rfl rfl (by rw [hF]; rfl) ?_
        exact hS7292_41
    refine TZ_cut 7 [true, true, true, false, false, true, true, true, true, false, false, true, true, true, true, false, false, true, false] ⟨[(0, .cp [.sl 2 (List.map a_Term p0.Pre), .sl 2 (List.map a_Term p0.Post), .sl 2 (List.map a_Instr p0.Code), .sl 2 (List.map a_Point p0.Points)]), (2, .ptr 11 0 0), (3, .ptr 8733 0 0), (5, .cp [.sl 2 (List.map a_Term p0.Pre), .sl 2 (List.map a_Term p0.Post), .sl 2 (List.map a_Instr p0.Code), .sl 2 (List.map a_Point p0.Points)]), (6, .cp [.sl 2 (List.map a_Term p0.Pre), .sl 2 (List.map a_Term p0.Post), .sl 2 (List.map a_Instr p0.Code), .sl 2 (List.map a_Point p0.Points)]), (7, .cp [.sl 2 (List.map a_Term p0.Pre)]), (10, .cp [.sl 2 (List.map a_Term p0.Pre), .sl 2 (List.map a_Term p0.Post), .sl 2 (List.map a_Instr p0.Code), .sl 2 (List.map a_Point p0.Points)]), (11, .cp [.sl 2 (List.map a_Term p0.Pre), .sl 2 (List.map a_Term p0.Post), .sl 2 (List.map a_Instr p0.Code), .sl 2 (List.map a_Point p0.Points)]), (12, .cp [.sl 2 (List.map a_Term p0.Post)]), (13, .sl 2 (List.map a_Term p0.Post)), (16, .cp [.sl 2 (List.map a_Term p0.Pre), .sl 2 (List.map a_Term p0.Post), .sl 2 (List.map a_Instr p0.Code), .sl 2 (List.map a_Point p0.Points)]), (17, .cp [.sl 2 (List.map a_Term p0.Pre), .sl 2 (List.map a_Term p0.Post), .sl 2 (List.map a_Instr p0.Code), .sl 2 (List.map a_Point p0.Points)]), (18, .cp [.sl 2 (List.map a_Instr p0.Code)]), (19, .sl 2 (List.map a_Instr p0.Code))], [(11, .box [.snil, .snil, .snil, .snil]), (8733, .box [.snil, .snil, .snil, .snil])]⟩ ?_ (fun hS7292_44 => ?_)
    · refine TZ_each [3, 10] (by kernel_rfl) rfl ?_
      refine ⟨?_, ?_⟩
      · refine ⟨_, rfl, ?_⟩
        refine TL_pure rfl rfl rfl rfl (op_load_one ag66 rfl rfl) ?_
        refine TL_nil ?_
        refine TZ_keepH [0, 2, 3, 5, 6, 7, 8, 10, 11, 12, 13, 16, 17, 18, 19] [11, 8733] rfl rfl rfl rfl (by rw [hF]; rfl) ?_
        exact hS7292_28
      · refine ⟨_, rfl, ?_⟩
        refine TL_buildSlice 8173 (es := List.map a_Instr ([] : List Instr)) el24 z40 rfl rfl rfl rfl rfl rfl rfl rfl rfl ?_
        refine TL_nil ?_
        refine TZ_keepH [0, 2, 3, 5, 6, 7, 10, 11, 12, 13, 15, 16, 17, 18, 19] [11, 8173, 8733] rfl rfl rfl rfl (by rw [hF]; rfl) ?_
        exact hS7292_41
    refine TZ_cut 8 [true, true, true, false, false, true, true, true, true, false, false, true, true, true, true, false, false, false, false] ⟨[(0, .cp [.sl 2 (List.map a_Term p0.Pre), .sl 2 (List.map a_Term p0.Post), .sl 2 (List.map a_Instr p0.Code), .sl 2 (List.map a_Point p0.Points)]), (2, .ptr 11 0 0), (5, .cp [.sl 2 (List.map a_Term p0.Pre), .sl 2 (List.map a_Term p0.Post), .sl 2 (List.map a_Instr p0.Code), .sl 2 (List.map a_Point p0.Points)]), (6, .cp [.sl 2 (List.map a_Term p0.Pre), .sl 2 (List.map a_Term p0.Post), .sl 2 (List.map a_Instr p0.Code), .sl 2 (List.map a_Point p0.Points)]), (7, .cp [.sl 2 (List.map a_Term p0.Pre)]), (10, .cp [.sl 2 (List.map a_Term p0.Pre), .sl 2 (List.map a_Term p0.Post), .sl 2 (List.map a_Instr p0.Code), .sl 2 (List.map a_Point p0.Points)]), (11, .cp [.sl 2 (List.map a_Term p0.Pre), .sl 2 (List.map a_Term p0.Post), .sl 2 (List.map a_Instr p0.Code), .sl 2 (List.map a_Point p0.Points)]), (12, .cp [.sl 2 (List.map a_Term p0.Post)]), (13, .sl 2 (List.map a_Term p0.Post)), (16, .cp [.sl 2 (List.map a_Term p0.Pre), .sl 2 (List.map a_Term p0.Post), .sl 2 (List.map a_Instr p0.Code), .sl 2 (List.map a_Point p0.Points)]), (17, .cp [.sl 2 (List.map a_Term p0.Pre), .sl 2 (List.map a_Term p0.Post), .sl 2 (List.map a_Instr p0.Code), .sl 2 (List.map a_Point p0.Points)]), (18, .cp [.sl 2 (List.map a_Instr p0.Code)]), (19, .sl 2 (List.map a_Instr p0.Code))], [(11, .box [.snil, .snil, .snil, .snil])]⟩ ?_ (fun hS7292_45 => ?_)
    · refine TZ_each [3, 10, 17] (by kernel_rfl) rfl ?_
      refine ⟨?_, ?_, ?_⟩
      · refine ⟨_, rfl, ?_⟩
        refine TL_pure rfl rfl rfl rfl (op_load_one ag66 rfl rfl) ?_
        refine TL_nil ?_
        refine TZ_keepH [0, 2, 5, 6, 7, 8, 10, 11, 12, 13, 16, 17, 18, 19] [11] rfl rfl rfl rfl (by rw [hF]; rfl) ?_
        exact hS7292_29
      · refine ⟨_, rfl, ?_⟩
        refine TL_buildSlice 8173 (es := List.map a_Instr ([] : List Instr)) el24 z40 rfl rfl rfl rfl rfl rfl rfl rfl rfl ?_
        refine TL_nil ?_
        refine TZ_keepH [0, 2, 5, 6, 7, 10, 11, 12, 13, 15, 16, 17, 18, 19] [11, 8173] rfl rfl rfl rfl (by rw [hF]; rfl) ?_
        exact hS7292_43
      · refine ⟨_, rfl, ?_⟩
        refine TL_alloc 8733 z69 rfl rfl rfl rfl rfl rfl rfl ?_
        refine TL_nil ?_
        refine TZ_keepH [0, 2, 3, 5, 6, 7, 10, 11, 12, 13, 16, 17, 18, 19] [11, 8733] rfl rfl rfl rfl (by rw [hF]; rfl) ?_
        exact hS7292_44
    refine TZ_cut 7 [true, true, true, false, false, true, true, true, true, false, true, true, true, true, false, false, false, true, false] ⟨[(0, .cp [.sl 2 (List.map a_Term p0.Pre), .sl 2 (List.map a_Term p0.Post), .sl 2 (List.map a_Instr p0.Code), .sl 2 (List.map a_Point p0.Points)]), (2, .ptr 11 0 0), (3, .ptr 8733 0 0), (5, .cp [.sl 2 (List.map a_Term p0.Pre), .sl 2 (List.map a_Term p0.Post), .sl 2 (List.map a_Instr p0.Code), .sl 2 (List.map a_Point p0.Points)]), (6, .cp [.sl 2 (List.map a_Term p0.Pre), .sl 2 (List.map a_Term p0.Post), .sl 2 (List.map a_Instr p0.Code), .sl 2 (List.map a_Point p0.Points)]), (7, .cp [.sl 2 (List.map a_Term p0.Pre)]), (10, .cp [.sl 2 (List.map a_Term p0.Pre), .sl 2 (List.map a_Term p0.Post), .sl 2 (List.map a_Instr p0.Code), .sl 2 (List.map a_Point p0.Points)]), (11, .cp [.sl 2 (List.map a_Term p0.Pre), .sl 2 (List.map a_Term p0.Post), .sl 2 (List.map a_Instr p0.Code), .sl 2 (List.map a_Point p0.Points)]), (12, .cp [.sl 2 (List.map a_Term p0.Post)]), (13, .sl 2 (List.map a_Term p0.Post)), (15, .ow 8173), (16, .cp [.sl 2 (List.map a_Term p0.Pre), .sl 2 (List.map a_Term p0.Post), .sl 2 (List.map a_Instr p0.Code), .sl 2 (List.map a_Point p0.Points)]), (17, .cp [.sl 2 (List.map a_Term p0.Pre), .sl 2 (List.map a_Term p0.Post), .sl 2 (List.map a_Instr p0.Code), .sl 2 (List.map a_Point p0.Points)]), (18, .cp [.sl 2 (List.map a_Instr p0.Code)])], [(11, .box [.snil, .snil, .snil, .snil]), (8173, .arr ⟨false, false⟩ 2 40 (List.map a_Instr ([] : List Instr))), (8733, .box [.snil, .snil, .snil, .snil])]⟩ ?_ (fun hS7292_46 => ?_)
    · refine TZ_pure 14 (by kernel_rfl) rfl rfl rfl rfl rfl (op_load_one ag24 rfl rfl) ?_
      refine TZ_one 3 (by kernel_rfl) rfl ?_
      refine TL_pure rfl rfl rfl rfl (op_load_one ag66 rfl rfl) ?_
      refine TL_nil ?_
      refine TZ_one 4 (by kernel_rfl) rfl ?_
      refine TL_callO [(1000, 7693)] (ACall.F (F := F) (c_spec_l02OwnAll p0.Pre r9 hr9)) Try.call104 rfl rfl rfl rfl rfl rfl rfl rfl rfl rfl rfl rfl rfl ?_
      refine TL_nil ?_
      refine TZ_one 9 (by kernel_rfl) rfl ?_
      refine TL_callO [(1000, 8093)] (ACall.F (F := F) (c_spec_l02OwnAll p0.Post r14 hr14)) Try.call104 rfl rfl rfl rfl rfl rfl rfl rfl rfl rfl rfl rfl rfl ?_
      refine TL_nil ?_
      refine TZ_one 15 (by kernel_rfl) rfl ?_
      refine TL_appendT (f := a_Instr) (a := ([] : List Instr)) (b := p0.Code) el24 z40 rfl rfl rfl rfl rfl rfl rfl (capI_spec hq20) rfl rfl rfl rfl rfl ?_
      refine TL_nil ?_
      refine TZ_pure 16 (by kernel_rfl) rfl rfl rfl rfl rfl (op_buildP pl69 z69 rfl rfl rfl rfl rfl) ?_
      refine TZ_one 18 (by kernel_rfl) rfl ?_
      refine TL_store_box sz69 rfl rfl rfl rfl rfl rfl rfl rfl rfl ?_
      refine TL_nil ?_
      refine TZ_done (by kernel_rfl) ?_
      refine T_keepH [0, 2, 3] [11, 7693, 8093, 8173, 8733] rfl rfl rfl rfl (by rw [hF]; rfl) ?_
      refine T_ren [(11, 11), (7693, 412), (8093, 812), (8173, 892), (8733, 1452)] rfl rfl rfl (by rw [hF]; rfl) ?_
      exact hj0 (r9, r14) hm
    refine TZ_cut 8 [true, true, true, false, false, true, true, true, true, false, false, true, true, true, false, false, false, true, false] ⟨[(0, .cp [.sl 2 (List.map a_Term p0.Pre), .sl 2 (List.map a_Term p0.Post), .sl 2 (List.map a_Instr p0.Code), .sl 2 (List.map a_Point p0.Points)]), (2, .ptr 11 0 0), (3, .ptr 8733 0 0), (5, .cp [.sl 2 (List.map a_Term p0.Pre), .sl 2 (List.map a_Term p0.Post), .sl 2 (List.map a_Instr p0.Code), .sl 2 (List.map a_Point p0.Points)]), (6, .cp [.sl 2 (List.map a_Term p0.Pre), .sl 2 (List.map a_Term p0.Post), .sl 2 (List.map a_Instr p0.Code), .sl 2 (List.map a_Point p0.Points)]), (7, .cp [.sl 2 (List.map a_Term p0.Pre)]), (10, .cp [.sl 2 (List.map a_Term p0.Pre), .sl 2 (List.map a_Term p0.Post), .sl 2 (List.map a_Instr p0.Code), .sl 2 (List.map a_Point p0.Points)]), (11, .cp [.sl 2 (List.map a_Term p0.Pre), .sl 2 (List.map a_Term p0.Post), .sl 2 (List.map a_Instr p0.Code), .sl 2 (List.map a_Point p0.Points)]), (12, .cp [.sl 2 (List.map a_Term p0.Post)]), (13, .sl 2 (List.map a_Term p0.Post)), (16, .cp [.sl 2 (List.map a_Term p0.Pre), .sl 2 (List.map a_Term p0.Post), .sl 2 (List.map a_Instr p0.Code), .sl 2 (List.map a_Point p0.Points)]), (17, .cp [.sl 2 (List.map a_Term p0.Pre), .sl 2 (List.map a_Term p0.Post), .sl 2 (List.map a_Instr p0.Code), .sl 2 (List.map a_Point p0.Points)]), (18, .cp [.sl 2 (List.map a_Instr p0.Code)])], [(11, .box [.snil, .snil, .snil, .snil]), (8733, .box [.snil, .snil, .snil, .snil])]⟩ ?_ (fun hS7292_47 => ?_)
    · refine TZ_each [3, 10, 14] (by kernel_rfl) rfl ?_
      refine ⟨?_, ?_, ?_⟩
      · refine ⟨_, rfl, ?_⟩
        refine TL_pure rfl rfl rfl rfl (op_load_one ag66 rfl rfl) ?_
        refine TL_nil ?_
        refine TZ_keepH [0, 2, 3, 5, 6, 7, 8, 10, 11, 12, 13, 16, 17, 18] [11, 8733] rfl rfl rfl rfl (by rw [hF]; rfl) ?_
        exact hS7292_31
      · refine ⟨_, rfl, ?_⟩
        refine TL_buildSlice 8173 (es := List.map a_Instr ([] : List Instr)) el24 z40 rfl rfl rfl rfl rfl rfl rfl rfl rfl ?_
        refine TL_nil ?_
        refine TZ_keepH [0, 2, 3, 5, 6, 7, 10, 11, 12, 13, 15, 16, 17, 18] [11, 8173, 8733] rfl rfl rfl rfl (by rw [hF]; rfl) ?_
        exact hS7292_46
      · refine ⟨_, rfl, ?_⟩
        refine TL_pure rfl rfl rfl rfl (op_load_one ag24 rfl rfl) ?_
        refine TL_nil ?_
        refine TZ_keepH [0, 2, 3, 5, 6, 7, 10, 11, 12, 13, 16, 17, 18, 19] [11, 8733] rfl rfl rfl rfl (by rw [hF]; rfl) ?_
        exact hS7292_44
    refine TZ_cut 9 [true, true, true, false, false, true, true, true, true, false, false, true, true, true, false, false, false, false, false] ⟨[(0, .cp [.sl 2 (List.map a_Term p0.Pre), .sl 2 (List.map a_Term p0.Post), .sl 2 (List.map a_Instr p0.Code), .sl 2 (List.map a_Point p0.Points)]), (2, .ptr 11 0 0), (5, .cp [.sl 2 (List.map a_Term p0.Pre), .sl 2 (List.map a_Term p0.Post), .sl 2 (List.map a_Instr p0.Code), .sl 2 (List.map a_Point p0.Points)]), (6, .cp [.sl 2 (List.map a_Term p0.Pre), .sl 2 (List.map a_Term p0.Post), .sl 2 (List.map a_Instr p0.Code), .sl 2 (List.map a_Point p0.Points)]), (7, .cp [.sl 2 (List.map a_Term p0.Pre)]), (10, .cp [.sl 2 (List.map a_Term p0.Pre), .sl 2 (List.map a_Term p0.Post), .sl 2 (List.map a_Instr p0.Code), .sl 2 (List.map a_Point p0.Points)]), (11, .cp [.sl 2 (List.map a_Term p0.Pre), .sl 2 (List.map a_Term p0.Post), .sl 2 (List.map a_Instr p0.Code), .sl 2 (List.map a_Point p0.Points)]), (12, .cp [.sl 2 (List.map a_Term p0.Post)]), (13, .sl 2 (List.map a_Term p0.Post)), (16, .cp [.sl 2 (List.map a_Term p0.Pre), .sl 2 (List.map a_Term p0.Post), .sl 2 (List.map a_Instr p0.Code), .sl 2 (List.map a_Point p0.Points)]), (17, .cp [.sl 2 (List.map a_Term p0.Pre), .sl 2 (List.map a_Term p0.Post), .sl 2 (List.map a_Instr p0.Code), .sl 2 (List.map a_Point p0.Points)]), (18, .cp [.sl 2 (List.map a_Instr p0.Code)])], [(11, .box [.snil, .snil, .snil, .snil])]⟩ ?_ (fun hS7292_48 => ?_)
    · refine TZ_each [3, 10, 14, 17] (by kernel_rfl) rfl ?_
      refine ⟨?_, ?_, ?_, ?_⟩
      · refine ⟨_, rfl, ?_⟩
        refine TL_pure rfl rfl rfl rfl (op_load_one ag66 rfl rfl) ?_
        refine TL_nil ?_
        refine TZ_keepH [0, 2, 5, 6, 7, 8, 10, 11, 12, 13, 16, 17, 18] [11] rfl rfl rfl rfl (by rw [hF]; rfl) ?_
        exact hS7292_32
      · refine ⟨_, rfl, ?_⟩
        refine TL_buildSlice 8173 (es := List.map a_Instr ([] : List Instr)) el24 z40 rfl rfl rfl rfl rfl rfl rfl rfl rfl ?_
        refine TL_nil ?_
        refine TZ_keepH [0, 2, 5, 6, 7, 10, 11, 12, 13, 15, 16, 17, 18] [11, 8173] rfl rfl rfl rfl (by rw [hF]; rfl) ?_
        exact hS7292_42
      · refine ⟨_, rfl, ?_⟩
        refine TL_pure rfl rfl rfl rfl (op_load_one ag24 rfl rfl) ?_
        refine TL_nil ?_
        refine TZ_keepH [0, 2, 5, 6, 7, 10, 11, 12, 13, 16, 17, 18, 19] [11] rfl rfl rfl rfl (by rw [hF]; rfl) ?_
        exact hS7292_45
      · refine ⟨_, rfl, ?_⟩
        refine TL_alloc 8733 z69 rfl rfl rfl rfl rfl rfl rfl ?_
        refine TL_nil ?_
        refine TZ_keepH [0, 2, 3, 5, 6, 7, 10, 11, 12, 13, 16, 17, 18] [11, 8733] rfl rfl rfl rfl (by rw [hF]; rfl) ?_
        exact hS7292_47
    refine TZ_cut 7 [true, true, true, false, false, true, true, true, false, false, true, true, true, true, true, false, false, true, false] ⟨[(0, .cp [.sl 2 (List.map a_Term p0.Pre), .sl 2 (List.map a_Term p0.Post), .sl 2 (List.map a_Instr p0.Code), .sl 2 (List.map a_Point p0.Points)]), (2, .ptr 11 0 0), (3, .ptr 8733 0 0), (5, .cp [.sl 2 (List.map a_Term p0.Pre), .sl 2 (List.map a_Term p0.Post), .sl 2 (List.map a_Instr p0.Code), .sl 2 (List.map a_Point p0.Points)]), (6, .cp [.sl 2 (List.map a_Term p0.Pre), .sl 2 (List.map a_Term p0.Post), .sl 2 (List.map a_Instr p0.Code), .sl 2 (List.map a_Point p0.Points)]), (7, .cp [.sl 2 (List.map a_Term p0.Pre)]), (10, .cp [.sl 2 (List.map a_Term p0.Pre), .sl 2 (List.map a_Term p0.Post), .sl 2 (List.map a_Instr p0.Code), .sl 2 (List.map a_Point p0.Points)]), (11, .cp [.sl 2 (List.map a_Term p0.Pre), .sl 2 (List.map a_Term p0.Post), .sl 2 (List.map a_Instr p0.Code), .sl 2 (List.map a_Point p0.Points)]), (12, .cp [.sl 2 (List.map a_Term p0.Post)]), (15, .ow 8173), (16, .cp [.sl 2 (List.map a_Term p0.Pre), .sl 2 (List.map a_Term p0.Post), .sl 2 (List.map a_Instr p0.Code), .sl 2 (List.map a_Point p0.Points)]), (17, .cp [.sl 2 (List.map a_Term p0.Pre), .sl 2 (List.map a_Term p0.Post), .sl 2 (List.map a_Instr p0.Code), .sl 2 (List.map a_Point p0.Points)]), (18, .cp [.sl 2 (List.map a_Instr p0.Code)]), (19, .sl 2 (List.map a_Instr p0.Code))], [(11, .box [.snil, .snil, .snil, .snil]), (8173, .arr ⟨false, false⟩ 2 40 (List.map a_Instr ([] : List Instr))), (8733, .box [.snil, .snil, .snil, .snil])]⟩ ?_ (fun hS7292_49 => ?_)
    · refine TZ_each [3, 8] (by kernel_rfl) rfl ?_
      refine ⟨?_, ?_⟩
      · refine ⟨_, rfl, ?_⟩
        refine TL_pure rfl rfl rfl rfl (op_load_one ag66 rfl rfl) ?_
        refine TL_nil ?_
        refine TZ_keepH [0, 2, 3, 5, 6, 7, 8, 10, 11, 12, 15, 16, 17, 18, 19] [11, 8173, 8733] rfl rfl rfl rfl (by rw [hF]; rfl) ?_
        exact hS7292_33
      · refine ⟨_, rfl, ?_⟩
        refine TL_pure rfl rfl rfl rfl (op_load_one ag66 rfl rfl) ?_
        refine TL_nil ?_
        refine TZ_keepH [0, 2, 3, 5, 6, 7, 10, 11, 12, 13, 15, 16, 17, 18, 19] [11, 8173, 8733] rfl rfl rfl rfl (by rw [hF]; rfl) ?_
        exact hS7292_41
    refine TZ_cut 9 [true, true, true, false, false, true, true, true, false, false, true, true, true, true, false, false, false, false, false] ⟨[(0, .cp [.sl 2 (List.map a_Term p0.Pre), .sl 2 (List.map a_Term p0.Post), .sl 2 (List.map a_Instr p0.Code), .sl 2 (List.map a_Point p0.Points)]), (2, .ptr 11 0 0), (5, .cp [.sl 2 (List.map a_Term p0.Pre), .sl 2 (List.map a_Term p0.Post), .sl 2 (List.map a_Instr p0.Code), .sl 2 (List.map a_Point p0.Points)]), (6, .cp [.sl 2 (List.map a_Term p0.Pre), .sl 2 (List.map a_Term p0.Post), .sl 2 (List.map a_Instr p0.Code), .sl 2 (List.map a_Point p0.Points)]), (7, .cp [.sl 2 (List.map a_Term p0.Pre)]), (10, .cp [.sl 2 (List.map a_Term p0.Pre), .sl 2 (List.map a_Term p0.Post), .sl 2 (List.map a_Instr p0.Code), .sl 2 (List.map a_Point p0.Points)]), (11, .cp [.sl 2 (List.map a_Term p0.Pre), .sl 2 (List.map a_Term p0.Post), .sl 2 (List.map a_Instr p0.Code), .sl 2 (List.map a_Point p0.Points)]), (12, .cp [.sl 2 (List.map a_Term p0.Post)]), (15, .ow 8173), (16, .cp [.sl 2 (List.map a_Term p0.Pre), .sl 2 (List.map a_Term p0.Post), .sl 2 (List.map a_Instr p0.Code), .sl 2 (List.map a_Point p0.Points)]), (17, .cp [.sl 2 (List.map a_Term p0.Pre), .sl 2 (List.map a_Term p0.Post), .sl 2 (List.map a_Instr p0.Code), .sl 2 (List.map a_Point p0.Points)]), (18, .cp [.sl 2 (List.map a_Instr p0.Code)])], [(11, .box [.snil, .snil, .snil, .snil]), (8173, .arr ⟨false, false⟩ 2 40 (List.map a_Instr ([] : List Instr)))]⟩ ?_ (fun hS7292_50 => ?_)
    · refine TZ_pure 14 (by kernel_rfl) rfl rfl rfl rfl rfl (op_load_one ag24 rfl rfl) ?_
      refine TZ_each [3, 8, 17] (by kernel_rfl) rfl ?_
      refine ⟨?_, ?_, ?_⟩
      · refine ⟨_, rfl, ?_⟩
        refine TL_pure rfl rfl rfl rfl (op_load_one ag66 rfl rfl) ?_
        refine TL_nil ?_
        refine TZ_keepH [0, 2, 5, 6, 7, 8, 10, 11, 12, 15, 16, 17, 18, 19] [11, 8173] rfl rfl rfl rfl (by rw [hF]; rfl) ?_
        exact hS7292_35
      · refine ⟨_, rfl, ?_⟩
        refine TL_pure rfl rfl rfl rfl (op_load_one ag66 rfl rfl) ?_
        refine TL_nil ?_
        refine TZ_keepH [0, 2, 5, 6, 7, 10, 11, 12, 13, 15, 16, 17, 18, 19] [11, 8173] rfl rfl rfl rfl (by rw [hF]; rfl) ?_
        exact hS7292_43
      · refine ⟨_, rfl, ?_⟩
        refine TL_alloc 8733 z69 rfl rfl rfl rfl rfl rfl rfl ?_
        refine TL_nil ?_
        refine TZ_keepH [0, 2, 3, 5, 6, 7, 10, 11, 12, 15, 16, 17, 18, 19] [11, 8173, 8733] rfl rfl rfl rfl (by rw [hF]; rfl) ?_
        exact hS7292_49
    refine TZ_cut 8 [true, true, true, false, false, true, true, true, false, false, true, true, true, true, true, false, false, false, false] ⟨[(0, .cp [.sl 2 (List.map a_Term p0.Pre), .sl 2 (List.map a_Term p0.Post), .sl 2 (List.map a_Instr p0.Code), .sl 2 (List.map a_Point p0.Points)]), (2, .ptr 11 0 0), (5, .cp [.sl 2 (List.map a_Term p0.Pre), .sl 2 (List.map a_Term p0.Post), .sl 2 (List.map a_Instr p0.Code), .sl 2 (List.map a_Point p0.Points)]), (6, .cp [.sl 2 (List.map a_Term p0.Pre), .sl 2 (List.map a_Term p0.Post), .sl 2 (List.map a_Instr p0.Code), .sl 2 (List.map a_Point p0.Points)]), (7, .cp [.sl 2 (List.map a_Term p0.Pre)]), (10, .cp [.sl 2 (List.map a_Term p0.Pre), .sl 2 (List.map a_Term p0.Post), .sl 2 (List.map a_Instr p0.Code), .sl 2 (List.map a_Point p0.Points)]), (11, .cp [.sl 2 (List.map a_Term p0.Pre), .sl 2 (List.map a_Term p0.Post), .sl 2 (List.map a_Instr p0.Code), .sl 2 (List.map a_Point p0.Points)]), (12, .cp [.sl 2 (List.map a_Term p0.Post)]), (15, .ow 8173), (16, .cp [.sl 2 (List.map a_Term p0.Pre), .sl 2 (List.map a_Term p0.Post), .sl 2 (List.map a_Instr p0.Code), .sl 2 (List.map a_Point p0.Points)]), (17, .cp [.sl 2 (List.map a_Term p0.Pre), .sl 2 (List.map a_Term p0.Post), .sl 2 (List.map a_Instr p0.Code), .sl 2 (List.map a_Point p0.Points)]), (18, .cp [.sl 2 (List.map a_Instr p0.Code)]), (19, .sl 2 (List.map a_Instr p0.Code))], [(11, .box [.snil, .snil, .snil, .snil]), (8173, .arr ⟨false, false⟩ 2 40 (List.map a_Instr ([] : List Instr)))]⟩ ?_ (fun hS7292_51 => ?_)
    · refine TZ_each [3, 8, 17] (by kernel_rfl) rfl ?_
      refine ⟨?_, ?_, ?_⟩
      · refine ⟨_, rfl, ?_⟩
        refine TL_pure rfl rfl rfl rfl (op_load_one ag66 rfl rfl) ?_
        refine TL_nil ?_
        refine TZ_keepH [0, 2, 5, 6, 7, 8, 10, 11, 12, 15, 16, 17, 18, 19] [11, 8173] rfl rfl rfl rfl (by rw [hF]; rfl) ?_
        exact hS7292_35
      · refine ⟨_, rfl, ?_⟩
        refine TL_pure rfl rfl rfl rfl (op_load_one ag66 rfl rfl) ?_
        refine TL_nil ?_
        refine TZ_keepH [0, 2, 5, 6, 7, 10, 11, 12, 13, 15, 16, 17, 18, 19] [11, 8173] rfl rfl rfl rfl (by rw [hF]; rfl) ?_
        exact hS7292_43
      · refine ⟨_, rfl, ?_⟩
        refine TL_alloc 8733 z69 rfl rfl rfl rfl rfl rfl rfl ?_
        refine TL_nil ?_
        refine TZ_keepH [0, 2, 3, 5, 6, 7, 10, 11, 12, 15, 16, 17, 18, 19] [11, 8173, 8733] rfl rfl rfl rfl (by rw [hF]; rfl) ?_
        exact hS7292_49
    refine TZ_cut 8 [true, true, true, false, false, true, true, true, false, false, false, true, true, true, true, false, false, true, false] ⟨[(0, .cp [.sl 2 (List.map a_Term p0.Pre), .sl 2 (List.map a_Term p0.Post), .sl 2 (List.map a_Instr p0.Code), .sl 2 (List.map a_Point p0.Points)]), (2, .ptr 11 0 0), (3, .ptr 8733 0 0), (5, .cp [.sl 2 (List.map a_Term p0.Pre), .sl 2 (List.map a_Term p0.Post), .sl 2 (List.map a_Instr p0.Code), .sl 2 (List.map a_Point p0.Points)]), (6, .cp [.sl 2 (List.map a_Term p0.Pre), .sl 2 (List.map a_Term p0.Post), .sl 2 (List.map a_Instr p0.Code), .sl 2 (List.map a_Point p0.Points)]), (7, .cp [.sl 2 (List.map a_Term p0.Pre)]), (10, .cp [.sl 2 (List.map a_Term p0.Pre), .sl 2 (List.map a_Term p0.Post), .sl 2 (List.map a_Instr p0.Code), .sl 2 (List.map a_Point p0.Points)]), (11, .cp [.sl 2 (List.map a_Term p0.Pre), .sl 2 (List.map a_Term p0.Post), .sl 2 (List.map a_Instr p0.Code), .sl 2 (List.map a_Point p0.Points)]), (12, .cp [.sl 2 (List.map a_Term p0.Post)]), (16, .cp [.sl 2 (List.map a_Term p0.Pre), .sl 2 (List.map a_Term p0.Post), .sl 2 (List.map a_Instr p0.Code), .sl 2 (List.map a_Point p0.Points)]), (17, .cp [.sl 2 (List.map a_Term p0.Pre), .sl 2 (List.map a_Term p0.Post), .sl 2 (List.map a_Instr p0.Code), .sl 2 (List.map a_Point p0.Points)]), (18, .cp [.sl 2 (List.map a_Instr p0.Code)]), (19, .sl 2 (List.map a_Instr p0.Code))], [(11, .box [.snil, .snil, .snil, .snil]), (8733, .box [.snil, .snil, .snil, .snil])]⟩ ?_ (fun hS7292_52 => ?_)
    · refine TZ_each [3, 8, 10] (by kernel_rfl) rfl ?_
      refine ⟨?_, ?_, ?_⟩
      · refine ⟨_, rfl, ?_⟩
        refine TL_pure rfl rfl rfl rfl (op_load_one ag66 rfl rfl) ?_
        refine TL_nil ?_
        refine TZ_keepH [0, 2, 3, 5, 6, 7, 8, 10, 11, 12, 16, 17, 18, 19] [11, 8733] rfl rfl rfl rfl (by rw [hF]; rfl) ?_
        exact hS7292_36
      · refine ⟨_, rfl, ?_⟩
        refine TL_pure rfl rfl rfl rfl (op_load_one ag66 rfl rfl) ?_
        refine TL_nil ?_
        refine TZ_keepH [0, 2, 3, 5, 6, 7, 10, 11, 12, 13, 16, 17, 18, 19] [11, 8733] rfl rfl rfl rfl (by rw [hF]; rfl) ?_
        exact hS7292_44
      · refine ⟨_, rfl, ?_⟩
        refine TL_buildSlice 8173 (es := List.map a_Instr ([] : List Instr)) el24 z40 rfl rfl rfl rfl rfl rfl rfl rfl rfl ?_
        refine TL_nil ?_
        refine TZ_keepH [0, 2, 3, 5, 6, 7, 10, 11, 12, 15, 16, 17, 18, 19] [11, 8173, 8733] rfl rfl rfl rfl (by rw [hF]; rfl) ?_
        exact hS7292_49
    refine TZ_cut 9 [true, true, true, false, false, true, true, true, false, false, false, true, true, true, true, false, false, false, false] ⟨[(0, .cp [.sl 2 (List.map a_Term p0.Pre), .sl 2 (List.map a_Term p0.Post), .sl 2 (List.map a_Instr p0.Code), .sl 2 (List.map a_Point p0.Points)]), (2, .ptr 11 0 0), (5, .cp [.sl 2 (List.map a_Term p0.Pre), .sl 2 (List.map a_Term p0.Post), .sl 2 (List.map a_Instr p0.Code), .sl 2 (List.map a_Point p0.Points)]), (6, .cp [.sl 2 (List.map a_Term p0.Pre), .sl 2 (List.map a_Term p0.Post), .sl 2 (List.map a_Instr p0.Code), .sl 2 (List.map a_Point p0.Points)]), (7, .cp [.sl 2 (List.map a_Term p0.Pre)]), (10, .cp [.sl 2 (List.map a_Term p0.Pre), .sl 2 (List.map a_Term p0.Post), .sl 2 (List.map a_Instr p0.Code), .sl 2 (List.map a_Point p0.Points)]), (11, .cp [.sl 2 (List.map a_Term p0.Pre), .sl 2 (List.map a_Term p0.Post), .sl 2 (List.map a_Instr p0.Code), .sl 2 (List.map a_Point p0.Points)]), (12, .cp [.sl 2 (List.map a_Term p0.Post)]), (16, .cp [.sl 2 (List.map a_Term p0.Pre), .sl 2 (List.map a_Term p0.Post), .sl 2 (List.map a_Instr p0.Code), .sl 2 (List.map a_Point p0.Points)]), (17, .cp [.sl 2 (List.map a_Term p0.Pre), .sl 2 (List.map a_Term p0.Post), .sl 2 (List.map a_Instr p0.Code), .sl 2 (List.map a_Point p0.Points)]), (18, .cp [.sl 2 (List.map a_Instr p0.Code)]), (19, .sl 2 (List.map a_Instr p0.Code))], [(11, .box [.snil, .snil, .snil, .snil])]⟩ ?_ (fun hS7292_53 => ?_)
    · refine TZ_each [3, 8, 10, 17] (by kernel_rfl) rfl ?_
      refine ⟨?_, ?_, ?_, ?_⟩
      · refine ⟨_, rfl, ?_⟩
        refine TL_pure rfl rfl rfl rfl (op_load_one ag66 rfl rfl) ?_
        refine TL_nil ?_
        refine TZ_keepH [0, 2, 5, 6, 7, 8, 10, 11, 12, 16, 17, 18, 19] [11] rfl rfl rfl rfl (by rw [hF]; rfl) ?_
        exact hS7292_37
      · refine ⟨_, rfl, ?_⟩
        refine TL_pure rfl rfl rfl rfl (op_load_one ag66 rfl rfl) ?_
        refine TL_nil ?_
        refine TZ_keepH [0, 2, 5, 6, 7, 10, 11, 12, 13, 16, 17, 18, 19] [11] rfl rfl rfl rfl (by rw [hF]; rfl) ?_
        exact hS7292_45
      · refine ⟨_, rfl, ?_⟩
        refine TL_buildSlice 8173 (es := List.map a_Instr ([] : List Instr)) el24 z40 rfl rfl rfl rfl rfl rfl rfl rfl rfl ?_
        refine TL_nil ?_
        refine TZ_keepH [0, 2, 5, 6, 7, 10, 11, 12, 15, 16, 17, 18, 19] [11, 8173] rfl rfl rfl rfl (by rw [hF]; rfl) ?_
        exact hS7292_51
      · refine ⟨_, rfl, ?_⟩
        refine TL_alloc 8733 z69 rfl rfl rfl rfl rfl rfl rfl ?_
        refine TL_nil ?_
        refine TZ_keepH [0, 2, 3, 5, 6, 7, 10, 11, 12, 16, 17, 18, 19] [11, 8733] rfl rfl rfl rfl (by rw [hF]; rfl) ?_
        exact hS7292_52
    refine TZ_cut 8 [true, true, true, false, false, true, true, true, false, false, true, true, true, true, false, false, false, true, false] ⟨[(0, .cp [.sl 2 (List.map a_Term p0.Pre), .sl 2 (List.map a_Term p0.Post), .sl 2 (List.map a_Instr p0.Code), .sl 2 (List.map a_Point p0.Points)]), (2, .ptr 11 0 0), (3, .ptr 8733 0 0), (5, .cp [.sl 2 (List.map a_Term p0.Pre), .sl 2 (List.map a_Term p0.Post), .sl 2 (List.map a_Instr p0.Code), .sl 2 (List.map a_Point p0.Points)]), (6, .cp [.sl 2 (List.map a_Term p0.Pre), .sl 2 (List.map a_Term p0.Post), .sl 2 (List.map a_Instr p0.Code), .sl 2 (List.map a_Point p0.Points)]), (7, .cp [.sl 2 (List.map a_Term p0.Pre)]), (10, .cp [.sl 2 (List.map a_Term p0.Pre), .sl 2 (List.map a_Term p0.Post), .sl 2 (List.map a_Instr p0.Code), .sl 2 (List.map a_Point p0.Points)]), (11, .cp [.sl 2 (List.map a_Term p0.Pre), .sl 2 (List.map a_Term p0.Post), .sl 2 (List.map a_Instr p0.Code), .sl 2 (List.map a_Point p0.Points)]), (12, .cp [.sl 2 (List.map a_Term p0.Post)]), (15, .ow 8173), (16, .cp [.sl 2 (List.map a_Term p0.Pre), .sl 2 (List.map a_Term p0.Post), .sl 2 (List.map a_Instr p0.Code), .sl 2 (List.map a_Point p0.Points)]), (17, .cp [.sl 2 (List.map a_Term p0.Pre), .sl 2 (List.map a_Term p0.Post), .sl 2 (List.map a_Instr p0.Code), .sl 2 (List.map a_Point p0.Points)]), (18, .cp [.sl 2 (List.map a_Instr p0.Code)])], [(11, .box [.snil, .snil, .snil, .snil]), (8173, .arr ⟨false, false⟩ 2 40 (List.map a_Instr ([] : List Instr))), (8733, .box [.snil, .snil, .snil, .snil])]⟩ ?_ (fun hS7292_54 => ?_)
    · refine TZ_pure 14 (by kernel_rfl) rfl rfl rfl rfl rfl (op_load_one ag24 rfl rfl) ?_
      refine TZ_each [3, 8] (by kernel_rfl) rfl ?_
      refine ⟨?_, ?_⟩
      · refine ⟨_, rfl, ?_⟩
        refine TL_pure rfl rfl rfl rfl (op_load_one ag66 rfl rfl) ?_
        refine TL_nil ?_
        refine TZ_keepH [0, 2, 3, 5, 6, 7, 8, 10, 11, 12, 15, 16, 17, 18, 19] [11, 8173, 8733] rfl rfl rfl rfl (by rw [hF]; rfl) ?_
        exact hS7292_33
      · refine ⟨_, rfl, ?_⟩
        refine TL_pure rfl rfl rfl rfl (op_load_one ag66 rfl rfl) ?_
        refine TL_nil ?_
        refine TZ_keepH [0, 2, 3, 5, 6, 7, 10, 11, 12, 13, 15, 16, 17, 18, 19] [11, 8173, 8733] rfl rfl rfl rfl (by rw [hF]; rfl) ?_
        exact hS7292_41
    refine TZ_cut 9 [true, true, true, false, false, true, true, true, false, false, false, true, true, true, false, false, false, true, false] ⟨[(0, .cp [.sl 2 (List.map a_Term p0.Pre), .sl 2 (List.map a_Term p0.Post), .sl 2 (List.map a_Instr p0.Code), .sl 2 (List.map a_Point p0.Points)]), (2, .ptr 11 0 0), (3, .ptr 8733 0 0), (5, .cp [.sl 2 (List.map a_Term p0.Pre), .sl 2 (List.map a_Term p0.Post), .sl 2 (List.map a_Instr p0.Code), .sl 2 (List.map a_Point p0.Points)]), (6, .cp [.sl 2 (List.map a_Term p0.Pre), .sl 2 (List.map a_Term p0.Post), .sl 2 (List.map a_Instr p0.Code), .sl 2 (List.map a_Point p0.Points)]), (7, .cp [.sl 2 (List.map a_Term p0.Pre)]), (10, .cp [.sl 2 (List.map a_Term p0.Pre), .sl 2 (List.map a_Term p0.Post), .sl 2 (List.map a_Instr p0.Code), .sl 2 (List.map a_Point p0.Points)]), (11, .cp [.sl 2 (List.map a_Term p0.Pre), .sl 2 (List.map a_Term p0.Post), .sl 2 (List.map a_Instr p0.Code), .sl 2 (List.map a_Point p0.Points)]), (12, .cp [.sl 2 (List.map a_Term p0.Post)]), (16, .cp [.sl 2 (List.map a_Term p0.Pre), .sl 2 (List.map a_Term p0.Post), .sl 2 (List.map a_Instr p0.Code), .sl 2 (List.map a_Point p0.Points)]), (17, .cp [.sl 2 (List.map a_Term p0.Pre), .sl 2 (List.map a_Term p0.Post), .sl 2 (List.map a_Instr p0.Code), .sl 2 (List.map a_Point p0.Points)]), (18, .cp [.sl 2 (List.map a_Instr p0.Code)])], [(11, .box [.snil, .snil, .snil, .snil]), (8733, .box [.snil, .snil, .snil, .snil])]⟩ ?_ (fun hS7292_55 => ?_)
    · refine TZ_each [3, 8, 10, 14] (by kernel_rfl) rfl ?_
      refine ⟨?_, ?_, ?_, ?_⟩
      · refine ⟨_, rfl, ?_⟩
        refine TL_pure rfl rfl rfl rfl (op_load_one ag66 rfl rfl) ?_
        refine TL_nil ?_
        refine TZ_keepH [0, 2, 3, 5, 6, 7, 8, 10, 11, 12, 16, 17, 18] [11, 8733] rfl rfl rfl rfl (by rw [hF]; rfl) ?_
        exact hS7292_39
      · refine ⟨_, rfl, ?_⟩
        refine TL_pure rfl rfl rfl rfl (op_load_one ag66 rfl rfl) ?_
        refine TL_nil ?_
        refine TZ_keepH [0, 2, 3, 5, 6, 7, 10, 11, 12, 13, 16, 17, 18] [11, 8733] rfl rfl rfl rfl (by rw [hF]; rfl) ?_
        exact hS7292_47
      · refine ⟨_, rfl, ?_⟩
        refine TL_buildSlice 8173 (es := List.map a_Instr ([] : List Instr)) el24 z40 rfl rfl rfl rfl rfl rfl rfl rfl rfl ?_
        refine TL_nil ?_
        refine TZ_keepH [0, 2, 3, 5, 6, 7, 10, 11, 12, 15, 16, 17, 18] [11, 8173, 8733] rfl rfl rfl rfl (by rw [hF]; rfl) ?_
        exact hS7292_54
      · refine ⟨_, rfl, ?_⟩
        refine TL_pure rfl rfl rfl rfl (op_load_one ag24 rfl rfl) ?_
        refine TL_nil ?_
        refine TZ_keepH [0, 2, 3, 5, 6, 7, 10, 11, 12, 16, 17, 18, 19] [11, 8733] rfl rfl rfl rfl (by rw [hF]; rfl) ?_
        exact hS7292_52
    refine TZ_each [3, 8, 10, 14, 17] (by kernel_rfl) rfl ?_
    refine ⟨?_, ?_, ?_, ?_, ?_⟩
    · refine ⟨_, rfl, ?_⟩
      refine TL_pure rfl rfl rfl rfl (op_load_one ag66 rfl rfl) ?_
      refine TL_nil ?_
      refine TZ_keepH [0, 2, 5, 6, 7, 8, 10, 11, 12, 16, 17, 18] [11] rfl rfl rfl rfl (by rw [hF]; rfl) ?_
      exact hS7292_40
    · refine ⟨_, rfl, ?_⟩
      refine TL_pure rfl rfl rfl rfl (op_load_one ag66 rfl rfl) ?_
      refine TL_nil ?_
      refine TZ_keepH [0, 2, 5, 6, 7, 10, 11, 12, 13, 16, 17, 18] [11] rfl rfl rfl rfl (by rw [hF]; rfl) ?_
      exact hS7292_48
    · refine ⟨_, rfl, ?_⟩
      refine TL_buildSlice 8173 (es := List.map a_Instr ([] : List Instr)) el24 z40 rfl rfl rfl rfl rfl rfl rfl rfl rfl ?_
      refine TL_nil ?_
      refine TZ_keepH [0, 2, 5, 6, 7, 10, 11, 12, 15, 16, 17, 18] [11, 8173] rfl rfl rfl rfl (by rw [hF]; rfl) ?_
      exact hS7292_50
    · refine ⟨_, rfl, ?_⟩
      refine TL_pure rfl rfl rfl rfl (op_load_one ag24 rfl rfl) ?_
      refine TL_nil ?_
      refine TZ_keepH [0, 2, 5, 6, 7, 10, 11, 12, 16, 17, 18, 19] [11] rfl rfl rfl rfl (by rw [hF]; rfl) ?_
      exact hS7292_53
    · refine ⟨_, rfl, ?_⟩
      refine TL_alloc 8733 z69 rfl rfl rfl rfl rfl rfl rfl ?_
      refine TL_nil ?_
      refine TZ_keepH [0, 2, 3, 5, 6, 7, 10, 11, 12, 16, 17, 18] [11, 8733] rfl rfl rfl rfl (by rw [hF]; rfl) ?_
      exact hS7292_55
end Go.Mod
