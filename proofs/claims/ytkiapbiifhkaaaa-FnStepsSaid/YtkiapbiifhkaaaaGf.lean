import Derived.Test.YtkiapbiifhkaaaaGe
namespace Go.Mod
open Go Go.AM Go.Proofs
set_option linter.unusedVariables false
set_option linter.unusedSimpArgs false
set_option maxRecDepth 100000
set_option maxHeartbeats 8000000
theorem c_impl_RunCode (p0 : List Instr) (p1 : State) (p2 : Int) (out : State × (List Int) × Int × Bool) (hm : m_impl_RunCode p0 p1 p2 = some out) : ACall Try.prog 15 [.sl 2 (List.map a_Instr p0), .agg [.sl 1 (List.map a_i64 p1.Vars), .sl 1 (List.map a_i64 p1.Cells)], .int .i64 p2] [] (.tup [.agg [.ow 1000, .ow 1001], .ow 1002, .int .i64 out.2.2.1, .bool out.2.2.2]) [(1000, .arr ⟨false, true⟩ 1 2 (List.map a_i64 out.1.Vars)), (1001, .arr ⟨false, true⟩ 1 2 (List.map a_i64 out.1.Cells)), (1002, .arr ⟨false, true⟩ 1 2 (List.map a_i64 out.2.1))] := by
  refine ACall.intro Try.func15 rfl Try.ntmps15 rfl (fun F hF => ?_)
  unfold m_impl_RunCode at hm
  refine T_seq ?_
  refine T_region ?_
  refine TL_box 11 rfl rfl rfl rfl rfl rfl rfl ?_
  refine TL_alloc 12 z28 rfl rfl rfl rfl rfl rfl rfl ?_
  refine TL_pure rfl rfl rfl rfl (op_assign rfl) ?_
  refine TL_pure rfl rfl rfl rfl (op_assign rfl) ?_
  refine TL_pure rfl rfl rfl rfl (op_assign rfl) ?_
  refine TL_nil ?_
  refine T_seq ?_
  refine T_region ?_
  refine TL_pure rfl rfl rfl rfl (op_move rfl) ?_
  refine TL_pure rfl rfl rfl rfl (op_load_agg ag28 sz28 rfl rfl rfl) ?_
  refine TL_pure rfl rfl rfl rfl (op_move rfl) ?_
  obtain ⟨r16, hr16, hm⟩ := bindS hm
  rcases Bool.eq_false_or_eq_true r16.2 with hq | hq
  · replace hm := condT hq hm
    refine TLE_call [] [(1000, 13), (1001, 14), (1002, 15), (1003, 16), (1004, 17), (1005, 18)] [] (by have hc := c_impl_ran p0 p1 p2 r16 hr16; rw [hq] at hc; exact hc) (fun _ => rfl) Try.call66 rfl rfl rfl rfl rfl trivial rfl rfl rfl rfl rfl rfl rfl rfl rfl rfl rfl ?_
    refine TL_pure rfl rfl rfl rfl (op_move rfl) ?_
    refine TL_pure rfl rfl rfl rfl (op_extract rfl rfl) ?_
    refine TL_pure rfl rfl rfl rfl (op_extract rfl rfl) ?_
    refine TL_pure rfl rfl rfl rfl (op_assign rfl) ?_
    refine TL_pure rfl rfl rfl rfl (op_assign rfl) ?_
    refine TL_nil ?_
    refine T_seq ?_
    refine T_seq ?_
    refine T_region ?_
    refine TL_pure rfl rfl rfl rfl (op_move rfl) ?_
    refine TL_pure rfl rfl rfl rfl (op_not rfl) ?_
    refine TL_nil ?_
    refine T_cond_false rfl ?_
    refine T_skip ?_
    refine T_seq ?_
    refine T_drawZ [13] mix (by kernel_rfl) rfl ?_
    refine TZ_pure 0 (by kernel_rfl) rfl rfl rfl rfl rfl (op_move rfl) ?_
    refine TZ_pure 1 (by kernel_rfl) rfl rfl rfl rfl rfl (op_nilCheck rfl rfl) ?_
    refine TZ_pure 2 (by kernel_rfl) rfl rfl rfl rfl rfl (op_fieldAddr fa107_0 rfl rfl) ?_
    refine TZ_pure 3 (by kernel_rfl) rfl rfl rfl rfl rfl (op_fieldAddr fa35_0 rfl rfl) ?_
    refine TZ_pure 4 (by kernel_rfl) rfl rfl rfl rfl rfl (op_load_agg ag28 sz28 rfl rfl rfl) ?_
    refine TZ_pure 5 (by kernel_rfl) rfl rfl rfl rfl rfl (op_move rfl) ?_
    refine TZ_pure 6 (by kernel_rfl) rfl rfl rfl rfl rfl (op_nilCheck rfl rfl) ?_
    refine TZ_pure 7 (by kernel_rfl) rfl rfl rfl rfl rfl (op_fieldAddr fa107_1 rfl rfl) ?_
    refine TZ_pure 9 (by kernel_rfl) rfl rfl rfl rfl rfl (op_move rfl) ?_
    refine TZ_pure 10 (by kernel_rfl) rfl rfl rfl rfl rfl (op_nilCheck rfl rfl) ?_
    refine TZ_pure 11 (by kernel_rfl) rfl rfl rfl rfl rfl (op_fieldAddr fa107_3 rfl rfl) ?_
    refine TZ_cut 4 [true, true, true, true, true, true, true, true, true, true, true, true, true, false, false, false, false] ⟨[(0, .sl 2 (List.map a_Instr p0)), (1, .agg [.sl 1 (List.map a_i64 p1.Vars), .sl 1 (List.map a_i64 p1.Cells)]), (2, .int .i64 p2), (4, .ptr 11 0 0), (6, .ptr 12 0 0), (7, .snil), (8, .int .i64 (0 : Int)), (9, .bool false), (10, .ptr 13 0 0), (11, .bool true), (12, .tup [.ptr 13 0 0, .bool true]), (13, .sl 2 (List.map a_Instr p0)), (14, .agg [.sl 1 (List.map a_i64 p1.Vars), .sl 1 (List.map a_i64 p1.Cells)]), (15, .int .i64 p2), (16, .tup [.ptr 13 0 0, .bool true]), (17, .ptr 13 0 0), (18, .bool true), (19, .bool true), (20, .bool false), (22, .ptr 13 0 0), (23, .ptr 13 0 0), (24, .ptr 13 0 0), (25, .ptr 13 0 0), (26, .agg [.ow 14, .ow 15]), (27, .ptr 13 0 0), (28, .ptr 13 0 0), (29, .ptr 13 0 4), (30, .ow 17), (31, .ptr 13 0 0), (32, .ptr 13 0 0), (33, .ptr 13 0 6), (34, .int .i64 r16.1.out)], [(11, .box [.sl 1 (List.map a_i64 p1.Vars), .sl 1 (List.map a_i64 p1.Cells)]), (12, .box [.snil, .snil]), (13, .box [.ow 14, .ow 15, .ow 16, .int .i64 r16.1.config.At, .ow 17, .ow 18, .int .i64 r16.1.out]), (14, .arr ⟨false, true⟩ 1 2 (List.map a_i64 r16.1.config.State.Vars)), (15, .arr ⟨false, true⟩ 1 2 (List.map a_i64 r16.1.config.State.Cells)), (16, .arr ⟨false, true⟩ 1 2 (List.map a_i64 r16.1.config.Stack)), (17, .arr ⟨false, true⟩ 1 2 (List.map a_i64 r16.1.events)), (18, .arr ⟨false, true⟩ 1 2 (List.map a_i64 r16.1.counts))]⟩ ?_ (fun hS68_0 => ?_)
    · refine TZ_one 13 (by kernel_rfl) rfl ?_
      refine TL_store_box sz28 rfl rfl rfl rfl rfl rfl rfl rfl rfl ?_
      refine TL_nil ?_
      refine TZ_pure 14 (by kernel_rfl) rfl rfl rfl rfl rfl (op_assign rfl) ?_
      refine TZ_pure 15 (by kernel_rfl) rfl rfl rfl rfl rfl (op_assign rfl) ?_
      refine TZ_pure 16 (by kernel_rfl) rfl rfl rfl rfl rfl (op_assign rfl) ?_
      refine TZ_done (by kernel_rfl) ?_
      refine T_keepH [6, 7, 8, 9] [12, 14, 15, 17] rfl rfl rfl rfl (by rw [hF]; rfl) ?_
      refine T_ren [(12, 12), (14, 1000), (15, 1001), (17, 1002)] rfl rfl rfl (by rw [hF]; rfl) ?_
      refine T_ret ?_
      obtain rfl := someI hm
      refine ⟨[_, _, _, _], [1000, 1001, 1002], ⟨⟨_, _, rfl, rfl, .inr ⟨ag28, _, _, sz28, rfl, rfl⟩⟩, rfl, rfl, rfl, trivial⟩, ?_, rfl, rfl, rfl, rfl⟩
      rfl
    refine TZ_cut 4 [true, true, true, true, true, true, true, true, true, true, true, true, false, true, false, false, false] ⟨[(0, .sl 2 (List.map a_Instr p0)), (1, .agg [.sl 1 (List.map a_i64 p1.Vars), .sl 1 (List.map a_i64 p1.Cells)]), (2, .int .i64 p2), (4, .ptr 11 0 0), (6, .ptr 12 0 0), (7, .snil), (8, .int .i64 (0 : Int)), (9, .bool false), (10, .ptr 13 0 0), (11, .bool true), (12, .tup [.ptr 13 0 0, .bool true]), (13, .sl 2 (List.map a_Instr p0)), (14, .agg [.sl 1 (List.map a_i64 p1.Vars), .sl 1 (List.map a_i64 p1.Cells)]), (15, .int .i64 p2), (16, .tup [.ptr 13 0 0, .bool true]), (17, .ptr 13 0 0), (18, .bool true), (19, .bool true), (20, .bool false), (22, .ptr 13 0 0), (23, .ptr 13 0 0), (24, .ptr 13 0 0), (25, .ptr 13 0 0), (26, .agg [.ow 14, .ow 15]), (27, .ptr 13 0 0), (28, .ptr 13 0 0), (29, .ptr 13 0 4), (30, .ow 17), (31, .ptr 13 0 0), (32, .ptr 13 0 0), (33, .ptr 13 0 6)], [(11, .box [.sl 1 (List.map a_i64 p1.Vars), .sl 1 (List.map a_i64 p1.Cells)]), (12, .box [.ow 14, .ow 15]), (13, .box [.ow 14, .ow 15, .ow 16, .int .i64 r16.1.config.At, .ow 17, .ow 18, .int .i64 r16.1.out]), (14, .arr ⟨false, true⟩ 1 2 (List.map a_i64 r16.1.config.State.Vars)), (15, .arr ⟨false, true⟩ 1 2 (List.map a_i64 r16.1.config.State.Cells)), (16, .arr ⟨false, true⟩ 1 2 (List.map a_i64 r16.1.config.Stack)), (17, .arr ⟨false, true⟩ 1 2 (List.map a_i64 r16.1.events)), (18, .arr ⟨false, true⟩ 1 2 (List.map a_i64 r16.1.counts))]⟩ ?_ (fun hS68_1 => ?_)
    · refine TZ_pure 12 (by kernel_rfl) rfl rfl rfl rfl rfl (op_load_one ag2 rfl rfl) ?_
      refine TZ_pure 14 (by kernel_rfl) rfl rfl rfl rfl rfl (op_assign rfl) ?_
      refine TZ_pure 15 (by kernel_rfl) rfl rfl rfl rfl rfl (op_assign rfl) ?_
      refine TZ_pure 16 (by kernel_rfl) rfl rfl rfl rfl rfl (op_assign rfl) ?_
      refine TZ_done (by kernel_rfl) ?_
      refine T_keepH [6, 7, 8, 9] [12, 14, 15, 17] rfl rfl rfl rfl (by rw [hF]; rfl) ?_
      refine T_ren [(12, 12), (14, 1000), (15, 1001), (17, 1002)] rfl rfl rfl (by rw [hF]; rfl) ?_
      refine T_ret ?_
      obtain rfl := someI hm
      refine ⟨[_, _, _, _], [1000, 1001, 1002], ⟨⟨_, _, rfl, rfl, .inr ⟨ag28, _, _, sz28, rfl, rfl⟩⟩, rfl, rfl, rfl, trivial⟩, ?_, rfl, rfl, rfl, rfl⟩
      rfl
    refine TZ_cut 5 [true, true, true, true, true, true, true, true, true, true, true, true, false, false, false, false, false] ⟨[(0, .sl 2 (List.map a_Instr p0)), (1, .agg [.sl 1 (List.map a_i64 p1.Vars), .sl 1 (List.map a_i64 p1.Cells)]), (2, .int .i64 p2), (4, .ptr 11 0 0), (6, .ptr 12 0 0), (7, .snil), (8, .int .i64 (0 : Int)), (9, .bool false), (10, .ptr 13 0 0), (11, .bool true), (12, .tup [.ptr 13 0 0, .bool true]), (13, .sl 2 (List.map a_Instr p0)), (14, .agg [.sl 1 (List.map a_i64 p1.Vars), .sl 1 (List.map a_i64 p1.Cells)]), (15, .int .i64 p2), (16, .tup [.ptr 13 0 0, .bool true]), (17, .ptr 13 0 0), (18, .bool true), (19, .bool true), (20, .bool false), (22, .ptr 13 0 0), (23, .ptr 13 0 0), (24, .ptr 13 0 0), (25, .ptr 13 0 0), (26, .agg [.ow 14, .ow 15]), (27, .ptr 13 0 0), (28, .ptr 13 0 0), (29, .ptr 13 0 4), (30, .ow 17), (31, .ptr 13 0 0), (32, .ptr 13 0 0), (33, .ptr 13 0 6)], [(11, .box [.sl 1 (List.map a_i64 p1.Vars), .sl 1 (List.map a_i64 p1.Cells)]), (12, .box [.snil, .snil]), (13, .box [.ow 14, .ow 15, .ow 16, .int .i64 r16.1.config.At, .ow 17, .ow 18, .int .i64 r16.1.out]), (14, .arr ⟨false, true⟩ 1 2 (List.map a_i64 r16.1.config.State.Vars)), (15, .arr ⟨false, true⟩ 1 2 (List.map a_i64 r16.1.config.State.Cells)), (16, .arr ⟨false, true⟩ 1 2 (List.map a_i64 r16.1.config.Stack)), (17, .arr ⟨false, true⟩ 1 2 (List.map a_i64 r16.1.events)), (18, .arr ⟨false, true⟩ 1 2 (List.map a_i64 r16.1.counts))]⟩ ?_ (fun hS68_2 => ?_)
    · refine TZ_each [12, 13] (by kernel_rfl) rfl ?_
      refine ⟨?_, ?_⟩
      · refine ⟨_, rfl, ?_⟩
        refine TL_pure rfl rfl rfl rfl (op_load_one ag2 rfl rfl) ?_
        refine TL_nil ?_
        refine TZ_keepH [0, 1, 2, 4, 6, 7, 8, 9, 10, 11, 12, 13, 14, 15, 16, 17, 18, 19, 20, 22, 23, 24, 25, 26, 27, 28, 29, 30, 31, 32, 33, 34] [11, 12, 13, 14, 15, 16, 17, 18] rfl rfl rfl rfl (by rw [hF]; rfl) ?_
        exact hS68_0
      · refine ⟨_, rfl, ?_⟩
        refine TL_store_box sz28 rfl rfl rfl rfl rfl rfl rfl rfl rfl ?_
        refine TL_nil ?_
        refine TZ_keepH [0, 1, 2, 4, 6, 7, 8, 9, 10, 11, 12, 13, 14, 15, 16, 17, 18, 19, 20, 22, 23, 24, 25, 26, 27, 28, 29, 30, 31, 32, 33] [11, 12, 13, 14, 15, 16, 17, 18] rfl rfl rfl rfl (by rw [hF]; rfl) ?_
        exact hS68_1
    refine TZ_cut 4 [true, true, true, true, true, true, true, true, false, true, true, true, true, true, false, false, false] ⟨[(0, .sl 2 (List.map a_Instr p0)), (1, .agg [.sl 1 (List.map a_i64 p1.Vars), .sl 1 (List.map a_i64 p1.Cells)]), (2, .int .i64 p2), (4, .ptr 11 0 0), (6, .ptr 12 0 0), (7, .snil), (8, .int .i64 (0 : Int)), (9, .bool false), (10, .ptr 13 0 0), (11, .bool true), (12, .tup [.ptr 13 0 0, .bool true]), (13, .sl 2 (List.map a_Instr p0)), (14, .agg [.sl 1 (List.map a_i64 p1.Vars), .sl 1 (List.map a_i64 p1.Cells)]), (15, .int .i64 p2), (16, .tup [.ptr 13 0 0, .bool true]), (17, .ptr 13 0 0), (18, .bool true), (19, .bool true), (20, .bool false), (22, .ptr 13 0 0), (23, .ptr 13 0 0), (24, .ptr 13 0 0), (25, .ptr 13 0 0), (26, .agg [.ow 14, .ow 15]), (27, .ptr 13 0 0), (28, .ptr 13 0 0), (29, .ptr 13 0 4), (31, .ptr 13 0 0), (32, .ptr 13 0 0), (33, .ptr 13 0 6), (34, .int .i64 r16.1.out)], [(11, .box [.sl 1 (List.map a_i64 p1.Vars), .sl 1 (List.map a_i64 p1.Cells)]), (12, .box [.ow 14, .ow 15]), (13, .box [.ow 14, .ow 15, .ow 16, .int .i64 r16.1.config.At, .ow 17, .ow 18, .int .i64 r16.1.out]), (14, .arr ⟨false, true⟩ 1 2 (List.map a_i64 r16.1.config.State.Vars)), (15, .arr ⟨false, true⟩ 1 2 (List.map a_i64 r16.1.config.State.Cells)), (16, .arr ⟨false, true⟩ 1 2 (List.map a_i64 r16.1.config.Stack)), (17, .arr ⟨false, true⟩ 1 2 (List.map a_i64 r16.1.events)), (18, .arr ⟨false, true⟩ 1 2 (List.map a_i64 r16.1.counts))]⟩ ?_ (fun hS68_3 => ?_)
    · refine TZ_pure 8 (by kernel_rfl) rfl rfl rfl rfl rfl (op_load_one ag26 rfl rfl) ?_
      refine TZ_pure 14 (by kernel_rfl) rfl rfl rfl rfl rfl (op_assign rfl) ?_
      refine TZ_pure 15 (by kernel_rfl) rfl rfl rfl rfl rfl (op_assign rfl) ?_
      refine TZ_pure 16 (by kernel_rfl) rfl rfl rfl rfl rfl (op_assign rfl) ?_
      refine TZ_done (by kernel_rfl) ?_
      refine T_keepH [6, 7, 8, 9] [12, 14, 15, 17] rfl rfl rfl rfl (by rw [hF]; rfl) ?_
      refine T_ren [(12, 12), (14, 1000), (15, 1001), (17, 1002)] rfl rfl rfl (by rw [hF]; rfl) ?_
      refine T_ret ?_
      obtain rfl := someI hm
      refine ⟨[_, _, _, _], [1000, 1001, 1002], ⟨⟨_, _, rfl, rfl, .inr ⟨ag28, _, _, sz28, rfl, rfl⟩⟩, rfl, rfl, rfl, trivial⟩, ?_, rfl, rfl, rfl, rfl⟩
      rfl
    refine TZ_cut 5 [true, true, true, true, true, true, true, true, false, true, true, true, true, false, false, false, false] ⟨[(0, .sl 2 (List.map a_Instr p0)), (1, .agg [.sl 1 (List.map a_i64 p1.Vars), .sl 1 (List.map a_i64 p1.Cells)]), (2, .int .i64 p2), (4, .ptr 11 0 0), (6, .ptr 12 0 0), (7, .snil), (8, .int .i64 (0 : Int)), (9, .bool false), (10, .ptr 13 0 0), (11, .bool true), (12, .tup [.ptr 13 0 0, .bool true]), (13, .sl 2 (List.map a_Instr p0)), (14, .agg [.sl 1 (List.map a_i64 p1.Vars), .sl 1 (List.map a_i64 p1.Cells)]), (15, .int .i64 p2), (16, .tup [.ptr 13 0 0, .bool true]), (17, .ptr 13 0 0), (18, .bool true), (19, .bool true), (20, .bool false), (22, .ptr 13 0 0), (23, .ptr 13 0 0), (24, .ptr 13 0 0), (25, .ptr 13 0 0), (26, .agg [.ow 14, .ow 15]), (27, .ptr 13 0 0), (28, .ptr 13 0 0), (29, .ptr 13 0 4), (31, .ptr 13 0 0), (32, .ptr 13 0 0), (33, .ptr 13 0 6), (34, .int .i64 r16.1.out)], [(11, .box [.sl 1 (List.map a_i64 p1.Vars), .sl 1 (List.map a_i64 p1.Cells)]), (12, .box [.snil, .snil]), (13, .box [.ow 14, .ow 15, .ow 16, .int .i64 r16.1.config.At, .ow 17, .ow 18, .int .i64 r16.1.out]), (14, .arr ⟨false, true⟩ 1 2 (List.map a_i64 r16.1.config.State.Vars)), (15, .arr ⟨false, true⟩ 1 2 (List.map a_i64 r16.1.config.State.Cells)), (16, .arr ⟨false, true⟩ 1 2 (List.map a_i64 r16.1.config.Stack)), (17, .arr ⟨false, true⟩ 1 2 (List.map a_i64 r16.1.events)), (18, .arr ⟨false, true⟩ 1 2 (List.map a_i64 r16.1.counts))]⟩ ?_ (fun hS68_4 => ?_)
    · refine TZ_each [8, 13] (by kernel_rfl) rfl ?_
      refine ⟨?_, ?_⟩
      · refine ⟨_, rfl, ?_⟩
        refine TL_pure rfl rfl rfl rfl (op_load_one ag26 rfl rfl) ?_
        refine TL_nil ?_
        refine TZ_keepH [0, 1, 2, 4, 6, 7, 8, 9, 10, 11, 12, 13, 14, 15, 16, 17, 18, 19, 20, 22, 23, 24, 25, 26, 27, 28, 29, 30, 31, 32, 33, 34] [11, 12, 13, 14, 15, 16, 17, 18] rfl rfl rfl rfl (by rw [hF]; rfl) ?_
        exact hS68_0
      · refine ⟨_, rfl, ?_⟩
        refine TL_store_box sz28 rfl rfl rfl rfl rfl rfl rfl rfl rfl ?_
        refine TL_nil ?_
        refine TZ_keepH [0, 1, 2, 4, 6, 7, 8, 9, 10, 11, 12, 13, 14, 15, 16, 17, 18, 19, 20, 22, 23, 24, 25, 26, 27, 28, 29, 31, 32, 33, 34] [11, 12, 13, 14, 15, 16, 17, 18] rfl rfl rfl rfl (by rw [hF]; rfl) ?_
        exact hS68_3
    refine TZ_cut 5 [true, true, true, true, true, true, true, true, false, true, true, true, false, true, false, false, false] ⟨[(0, .sl 2 (List.map a_Instr p0)), (1, .agg [.sl 1 (List.map a_i64 p1.Vars), .sl 1 (List.map a_i64 p1.Cells)]), (2, .int .i64 p2), (4, .ptr 11 0 0), (6, .ptr 12 0 0), (7, .snil), (8, .int .i64 (0 : Int)), (9, .bool false), (10, .ptr 13 0 0), (11, .bool true), (12, .tup [.ptr 13 0 0, .bool true]), (13, .sl 2 (List.map a_Instr p0)), (14, .agg [.sl 1 (List.map a_i64 p1.Vars), .sl 1 (List.map a_i64 p1.Cells)]), (15, .int .i64 p2), (16, .tup [.ptr 13 0 0, .bool true]), (17, .ptr 13 0 0), (18, .bool true), (19, .bool true), (20, .bool false), (22, .ptr 13 0 0), (23, .ptr 13 0 0), (24, .ptr 13 0 0), (25, .ptr 13 0 0), (26, .agg [.ow 14, .ow 15]), (27, .ptr 13 0 0), (28, .ptr 13 0 0), (29, .ptr 13 0 4), (31, .ptr 13 0 0), (32, .ptr 13 0 0), (33, .ptr 13 0 6)], [(11, .box [.sl 1 (List.map a_i64 p1.Vars), .sl 1 (List.map a_i64 p1.Cells)]), (12, .box [.ow 14, .ow 15]), (13, .box [.ow 14, .ow 15, .ow 16, .int .i64 r16.1.config.At, .ow 17, .ow 18, .int .i64 r16.1.out]), (14, .arr ⟨false, true⟩ 1 2 (List.map a_i64 r16.1.config.State.Vars)), (15, .arr ⟨false, true⟩ 1 2 (List.map a_i64 r16.1.config.State.Cells)), (16, .arr ⟨false, true⟩ 1 2 (List.map a_i64 r16.1.config.Stack)), (17, .arr ⟨false, true⟩ 1 2 (List.map a_i64 r16.1.events)), (18, .arr ⟨false, true⟩ 1 2 (List.map a_i64 r16.1.counts))]⟩ ?_ (fun hS68_5 => ?_)
    · refine TZ_pure 8 (by kernel_rfl) rfl rfl rfl rfl rfl (op_load_one ag26 rfl rfl) ?_
      refine TZ_pure 12 (by kernel_rfl) rfl rfl rfl rfl rfl (op_load_one ag2 rfl rfl) ?_
      refine TZ_pure 14 (by kernel_rfl) rfl rfl rfl rfl rfl (op_assign rfl) ?_
      refine TZ_pure 15 (by kernel_rfl) rfl rfl rfl rfl rfl (op_assign rfl) ?_
      refine TZ_pure 16 (by kernel_rfl) rfl rfl rfl rfl rfl (op_assign rfl) ?_
      refine TZ_done (by kernel_rfl) ?_
      refine T_keepH [6, 7, 8, 9] [12, 14, 15, 17] rfl rfl rfl rfl (by rw [hF]; rfl) ?_
      refine T_ren [(12, 12), (14, 1000), (15, 1001), (17, 1002)] rfl rfl rfl (by rw [hF]; rfl) ?_
      refine T_ret ?_
      obtain rfl := someI hm
      refine ⟨[_, _, _, _], [1000, 1001, 1002], ⟨⟨_, _, rfl, rfl, .inr ⟨ag28, _, _, sz28, rfl, rfl⟩⟩, rfl, rfl, rfl, trivial⟩, ?_, rfl, rfl, rfl, rfl⟩
      rfl
    refine TZ_each [8, 12, 13] (by kernel_rfl) rfl ?_
    refine ⟨?_, ?_, ?_⟩
    · refine ⟨_, rfl, ?_⟩
      refine TL_pure rfl rfl rfl rfl (op_load_one ag26 rfl rfl) ?_
      refine TL_nil ?_
      refine TZ_keepH [0, 1, 2, 4, 6, 7, 8, 9, 10, 11, 12, 13, 14, 15, 16, 17, 18, 19, 20, 22, 23, 24, 25, 26, 27, 28, 29, 30, 31, 32, 33] [11, 12, 13, 14, 15, 16, 17, 18] rfl rfl rfl rfl (by rw [hF]; rfl) ?_
      exact hS68_2
    · refine ⟨_, rfl, ?_⟩
      refine TL_pure rfl rfl rfl rfl (op_load_one ag2 rfl rfl) ?_
      refine TL_nil ?_
      refine TZ_keepH [0, 1, 2, 4, 6, 7, 8, 9, 10, 11, 12, 13, 14, 15, 16, 17, 18, 19, 20, 22, 23, 24, 25, 26, 27, 28, 29, 31, 32, 33, 34] [11, 12, 13, 14, 15, 16, 17, 18] rfl rfl rfl rfl (by rw [hF]; rfl) ?_
      exact hS68_4
    · refine ⟨_, rfl, ?_⟩
      refine TL_store_box sz28 rfl rfl rfl rfl rfl rfl rfl rfl rfl ?_
      refine TL_nil ?_
      refine TZ_keepH [0, 1, 2, 4, 6, 7, 8, 9, 10, 11, 12, 13, 14, 15, 16, 17, 18, 19, 20, 22, 23, 24, 25, 26, 27, 28, 29, 31, 32, 33] [11, 12, 13, 14, 15, 16, 17, 18] rfl rfl rfl rfl (by rw [hF]; rfl) ?_
      exact hS68_5
  · replace hm := condF hq hm
    refine TLE_call [] [] [] (by have hc := c_impl_ran p0 p1 p2 r16 hr16; rw [hq] at hc; exact hc) (fun _ => rfl) Try.call66 rfl rfl rfl rfl rfl trivial rfl rfl rfl rfl rfl rfl rfl rfl rfl rfl rfl ?_
    refine TL_pure rfl rfl rfl rfl (op_move rfl) ?_
    refine TL_pure rfl rfl rfl rfl (op_extract rfl rfl) ?_
    refine TL_pure rfl rfl rfl rfl (op_extract rfl rfl) ?_
    refine TL_pure rfl rfl rfl rfl (op_assign rfl) ?_
    refine TL_pure rfl rfl rfl rfl (op_assign rfl) ?_
    refine TL_nil ?_
    refine T_seq ?_
    refine T_seq ?_
    refine T_region ?_
    refine TL_pure rfl rfl rfl rfl (op_move rfl) ?_
    refine TL_pure rfl rfl rfl rfl (op_not rfl) ?_
    refine TL_nil ?_
    refine T_cond_true rfl ?_
    refine T_seq ?_
    refine T_region ?_
    refine TL_pure rfl rfl rfl rfl (op_buildP pl28 z28 rfl rfl rfl rfl rfl) ?_
    refine TL_store_box sz28 rfl rfl rfl rfl rfl rfl rfl rfl rfl ?_
    refine TL_pure rfl rfl rfl rfl (op_assign rfl) ?_
    refine TL_pure rfl rfl rfl rfl (op_assign rfl) ?_
    refine TL_pure rfl rfl rfl rfl (op_assign rfl) ?_
    refine TL_nil ?_
    refine T_ownNil 7 1429 ⟨false, true⟩ 2 rfl rfl (sz := 1) rfl rfl rfl ?_
    refine T_ownNilBox 12 0 1430 ⟨false, true⟩ 2 rfl rfl rfl (sz := 1) rfl rfl rfl rfl ?_
    refine T_ownNilBox 12 1 1431 ⟨false, true⟩ 2 rfl rfl rfl (sz := 1) rfl rfl rfl rfl ?_
    refine T_keepH [6, 7, 8, 9] [12, 1429, 1430, 1431] rfl rfl rfl rfl (by rw [hF]; rfl) ?_
    refine T_ren [(12, 12), (1429, 1002), (1430, 1000), (1431, 1001)] rfl rfl rfl (by rw [hF]; rfl) ?_
    refine T_keepH [6, 7, 8, 9] [12, 1000, 1001, 1002] rfl rfl rfl rfl (by rw [hF]; rfl) ?_
    refine T_ret ?_
    obtain rfl := someI hm
    refine ⟨[_, _, _, _], [1000, 1001, 1002], ⟨⟨_, _, rfl, rfl, .inr ⟨ag28, _, _, sz28, rfl, rfl⟩⟩, rfl, rfl, rfl, trivial⟩, ?_, rfl, rfl, rfl, rfl⟩
    rfl
theorem c_impl_CountCode (p0 : List Instr) (p1 : State) (p2 : Int) (out : (List Int) × Bool) (hm : m_impl_CountCode p0 p1 p2 = some out) : ACall Try.prog 16 [.sl 2 (List.map a_Instr p0), .agg [.sl 1 (List.map a_i64 p1.Vars), .sl 1 (List.map a_i64 p1.Cells)], .int .i64 p2] [] (.tup [.ow 1000, .bool out.2]) [(1000, .arr ⟨false, true⟩ 1 2 (List.map a_i64 out.1))] := by
  refine ACall.intro Try.func16 rfl Try.ntmps16 rfl (fun F hF => ?_)
  unfold m_impl_CountCode at hm
  refine T_seq ?_
  refine T_region ?_
  refine TL_box 11 rfl rfl rfl rfl rfl rfl rfl ?_
  refine TL_pure rfl rfl rfl rfl (op_assign rfl) ?_
  refine TL_pure rfl rfl rfl rfl (op_assign rfl) ?_
  refine TL_nil ?_
  refine T_seq ?_
  refine T_region ?_
  refine TL_pure rfl rfl rfl rfl (op_move rfl) ?_
  refine TL_pure rfl rfl rfl rfl (op_load_agg ag28 sz28 rfl rfl rfl) ?_
  refine TL_pure rfl rfl rfl rfl (op_move rfl) ?_
  obtain ⟨r14, hr14, hm⟩ := bindS hm
  rcases Bool.eq_false_or_eq_true r14.2 with hq | hq
  · replace hm := condT hq hm
    refine TLE_call [] [(1000, 12), (1001, 13), (1002, 14), (1003, 15), (1004, 16), (1005, 17)] [] (by have hc := c_impl_ran p0 p1 p2 r14 hr14; rw [hq] at hc; exact hc) (fun _ => rfl) Try.call66 rfl rfl rfl rfl rfl trivial rfl rfl rfl rfl rfl rfl rfl rfl rfl rfl rfl ?_
    refine TL_pure rfl rfl rfl rfl (op_move rfl) ?_
    refine TL_pure rfl rfl rfl rfl (op_extract rfl rfl) ?_
    refine TL_pure rfl rfl rfl rfl (op_extract rfl rfl) ?_
    refine TL_pure rfl rfl rfl rfl (op_assign rfl) ?_
    refine TL_pure rfl rfl rfl rfl (op_assign rfl) ?_
    refine TL_nil ?_
    refine T_seq ?_
    refine T_seq ?_
    refine T_region ?_
    refine TL_pure rfl rfl rfl rfl (op_move rfl) ?_
    refine TL_pure rfl rfl rfl rfl (op_not rfl) ?_
    refine TL_nil ?_
    refine T_cond_false rfl ?_
    refine T_skip ?_
    refine T_seq ?_
    refine T_region ?_
    refine TL_pure rfl rfl rfl rfl (op_move rfl) ?_
    refine TL_pure rfl rfl rfl rfl (op_nilCheck rfl rfl) ?_
    refine TL_pure rfl rfl rfl rfl (op_fieldAddr fa107_2 rfl rfl) ?_
    refine TL_pure rfl rfl rfl rfl (op_load_one ag26 rfl rfl) ?_
    refine TL_pure rfl rfl rfl rfl (op_assign rfl) ?_
    refine TL_pure rfl rfl rfl rfl (op_assign rfl) ?_
    refine TL_nil ?_
    refine T_keepH [6, 7] [17] rfl rfl rfl rfl (by rw [hF]; rfl) ?_
    refine T_ren [(17, 1000)] rfl rfl rfl (by rw [hF]; rfl) ?_
    refine T_ret ?_
    obtain rfl := someI hm
    refine ⟨[_, _], [1000], ⟨rfl, rfl, trivial⟩, ?_, rfl, rfl, rfl, rfl⟩
    rfl
  · replace hm := condF hq hm
    refine TLE_call [] [] [] (by have hc := c_impl_ran p0 p1 p2 r14 hr14; rw [hq] at hc; exact hc) (fun _ => rfl) Try.call66 rfl rfl rfl rfl rfl trivial rfl rfl rfl rfl rfl rfl rfl rfl rfl rfl rfl ?_
    refine TL_pure rfl rfl rfl rfl (op_move rfl) ?_
    refine TL_pure rfl rfl rfl rfl (op_extract rfl rfl) ?_
    refine TL_pure rfl rfl rfl rfl (op_extract rfl rfl) ?_
    refine TL_pure rfl rfl rfl rfl (op_assign rfl) ?_
    refine TL_pure rfl rfl rfl rfl (op_assign rfl) ?_
    refine TL_nil ?_
    refine T_seq ?_
    refine T_seq ?_
    refine T_region ?_
    refine TL_pure rfl rfl rfl rfl (op_move rfl) ?_
    refine TL_pure rfl rfl rfl rfl (op_not rfl) ?_
    refine TL_nil ?_
    refine T_cond_true rfl ?_
    refine T_seq ?_
    refine T_region ?_
    refine TL_pure rfl rfl rfl rfl (op_assign rfl) ?_
    refine TL_pure rfl rfl rfl rfl (op_assign rfl) ?_
    refine TL_nil ?_
    refine T_ownNil 6 68 ⟨false, true⟩ 2 rfl rfl (sz := 1) rfl rfl rfl ?_
    refine T_keepH [6, 7] [68] rfl rfl rfl rfl (by rw [hF]; rfl) ?_
    refine T_ren [(68, 1000)] rfl rfl rfl (by rw [hF]; rfl) ?_
    refine T_ret ?_
    obtain rfl := someI hm
    refine ⟨[_, _], [1000], ⟨rfl, rfl, trivial⟩, ?_, rfl, rfl, rfl, rfl⟩
    rfl
theorem c_impl_ValidConfig (p0 : List Instr) (p1 : Config) (out : Bool) (hm : m_impl_ValidConfig p0 p1 = some out) : ACall Try.prog 18 [.sl 2 (List.map a_Instr p0), .agg [.sl 1 (List.map a_i64 p1.State.Vars), .sl 1 (List.map a_i64 p1.State.Cells), .sl 1 (List.map a_i64 p1.Stack), .int .i64 p1.At]] [] (.bool out) [] := by
  refine ACall.intro Try.func18 rfl Try.ntmps18 rfl (fun F hF => ?_)
  unfold m_impl_ValidConfig at hm
  refine T_seq ?_
  refine T_region ?_
  refine TL_box 11 rfl rfl rfl rfl rfl rfl rfl ?_
  refine TL_pure rfl rfl rfl rfl (op_assign rfl) ?_
  refine TL_nil ?_
  refine T_seq ?_
  refine T_region ?_
  refine TL_pure rfl rfl rfl rfl (op_move rfl) ?_
  obtain ⟨r6, hr6, hm⟩ := bindS hm
  refine TL_callF (c_impl_ValidCode p0 r6 hr6) Try.call69 rfl rfl rfl rfl rfl ?_
  refine TL_pure rfl rfl rfl rfl (op_move rfl) ?_
  refine TL_split 7 rfl rfl rfl (fun hq => ?_) (fun hq => ?_)
  · replace hm := condT hq hm
    refine TL_want rfl rfl ?_
    refine TL_pure rfl rfl rfl rfl (op_fieldAddr fa35_0 rfl rfl) ?_
    refine TL_want rfl rfl ?_
    refine TL_pure rfl rfl rfl rfl (op_load_agg ag28 sz28 rfl rfl rfl) ?_
    refine TL_want rfl rfl ?_
    obtain ⟨r10, hr10, hm⟩ := bindS hm
    refine TL_callF (c_impl_ValidState p1.State r10 hr10) Try.call70 rfl rfl rfl rfl rfl ?_
    refine TL_pure rfl rfl rfl rfl (op_pick_true rfl rfl) ?_
    refine TL_pure rfl rfl rfl rfl (op_move rfl) ?_
    refine TL_join 5 (fun _ : Unit => ⟨[(3, .ptr 11 0 0), (17, .bool (r10 && (decide ((p1.Stack.length : Int) ≤ (6 : Int)))))], [(11, .box [.sl 1 (List.map a_i64 p1.State.Vars), .sl 1 (List.map a_i64 p1.State.Cells), .sl 1 (List.map a_i64 p1.Stack), .int .i64 p1.At])]⟩) (fun _ => True) (fun _ _ => ?_) (fun hjj => ?_)
    · refine TL_pure rfl rfl rfl rfl (op_move rfl) ?_
      refine TL_split 18 rfl rfl rfl (fun hq => ?_) (fun hq => ?_)
      · replace hm := condT hq hm
        refine TL_want rfl rfl ?_
        refine TL_pure rfl rfl rfl rfl (op_fieldAddr fa35_1 rfl rfl) ?_
        refine TL_want rfl rfl ?_
        refine TL_pure rfl rfl rfl rfl (op_load_one ag26 rfl rfl) ?_
        refine TL_want rfl rfl ?_
        obtain ⟨r21, hr21, hm⟩ := bindS hm
        refine TL_callF (c_impl_allWithin p1.Stack (-10000000000000000 : Int) (10000000000000000 : Int) r21 hr21) Try.call71 rfl rfl rfl rfl rfl ?_
        refine TL_pure rfl rfl rfl rfl (op_pick_true rfl rfl) ?_
        refine TL_pure rfl rfl rfl rfl (op_move rfl) ?_
        refine TL_split 23 rfl rfl rfl (fun hq => ?_) (fun hq => ?_)
        · replace hm := condT hq hm
          refine TL_want rfl rfl ?_
          refine TL_pure rfl rfl rfl rfl (op_fieldAddr fa35_2 rfl rfl) ?_
          refine TL_want rfl rfl ?_
          refine TL_pure rfl rfl rfl rfl (op_load_one ag2 rfl rfl) ?_
          refine TL_want rfl rfl ?_
          obtain ⟨r26, hr26, hm⟩ := bindS hm
          refine TL_callF (c_impl_within p1.At (0 : Int) (80 : Int) r26 hr26) Try.call72 rfl rfl rfl rfl rfl ?_
          refine TL_pure rfl rfl rfl rfl (op_pick_true rfl rfl) ?_
          refine TL_pure rfl rfl rfl rfl (op_assign rfl) ?_
          refine TL_nil ?_
          refine T_keepH [4] [] rfl rfl rfl rfl (by rw [hF]; rfl) ?_
          refine T_ret ?_
          obtain rfl := someI hm
          refine ⟨[_], [], ⟨rfl, trivial⟩, ?_, rfl, rfl, rfl, rfl⟩
          rfl
        · replace hm := condF hq hm
          refine TL_pass rfl rfl rfl rfl rfl rfl rfl ?_
          refine TL_pass rfl rfl rfl rfl rfl rfl rfl ?_
          refine TL_pass rfl rfl rfl rfl rfl rfl rfl ?_
          refine TL_pure rfl rfl rfl rfl (op_pick_false rfl rfl) ?_
          refine TL_pure rfl rfl rfl rfl (op_assign rfl) ?_
          refine TL_nil ?_
          refine T_keepH [4] [] rfl rfl rfl rfl (by rw [hF]; rfl) ?_
          refine T_ret ?_
          obtain rfl := someI hm
          refine ⟨[_], [], ⟨rfl, trivial⟩, ?_, rfl, rfl, rfl, rfl⟩
          rfl
      · replace hm := condF hq hm
        refine TL_pass rfl rfl rfl rfl rfl rfl rfl ?_
        refine TL_pass rfl rfl rfl rfl rfl rfl rfl ?_
        refine TL_pass rfl rfl rfl rfl rfl rfl rfl ?_
        refine TL_pure rfl rfl rfl rfl (op_pick_false rfl rfl) ?_
        refine TL_pure rfl rfl rfl rfl (op_move rfl) ?_
        refine TL_pass rfl rfl rfl rfl rfl rfl rfl ?_
        refine TL_pass rfl rfl rfl rfl rfl rfl rfl ?_
        refine TL_pass rfl rfl rfl rfl rfl rfl rfl ?_
        refine TL_pure rfl rfl rfl rfl (op_pick_false rfl rfl) ?_
        refine TL_pure rfl rfl rfl rfl (op_assign rfl) ?_
        refine TL_nil ?_
        refine T_keepH [4] [] rfl rfl rfl rfl (by rw [hF]; rfl) ?_
        refine T_ret ?_
        obtain rfl := someI hm
        refine ⟨[_], [], ⟨rfl, trivial⟩, ?_, rfl, rfl, rfl, rfl⟩
        rfl
    · refine TL_split 12 rfl rfl rfl (fun hq => ?_) (fun hq => ?_)
      · refine TL_want rfl rfl ?_
        refine TL_pure rfl rfl rfl rfl (op_fieldAddr fa35_1 rfl rfl) ?_
        refine TL_want rfl rfl ?_
        refine TL_pure rfl rfl rfl rfl (op_load_one ag26 rfl rfl) ?_
        refine TL_want rfl rfl ?_
        refine TL_pure rfl rfl rfl rfl (op_lenT Try.underlying26 rfl (List.length_map _)) ?_
        refine TL_fact (fun _ _ _ hr => RelP.slLen (i := 14) rfl hr) (fun hlen15 => ?_)
        rw [List.length_map] at hlen15
        refine TL_want rfl rfl ?_
        refine TL_pure rfl rfl rfl rfl (op_leq rfl rfl) ?_
        refine TL_pure rfl rfl rfl rfl (op_pick_true rfl rfl) ?_
        refine TL_keepH [3, 17] [11] rfl rfl rfl rfl (by rw [hF]; rfl) ?_
        exact TL_cast _ (by first | (rw [hq, Bool.true_and]; done) | (rw [hq]; rfl)) (hjj () trivial)
      · refine TL_pass rfl rfl rfl rfl rfl rfl rfl ?_
        refine TL_pass rfl rfl rfl rfl rfl rfl rfl ?_
        refine TL_pass rfl rfl rfl rfl rfl rfl rfl ?_
        refine TL_pass rfl rfl rfl rfl rfl rfl rfl ?_
        refine TL_pure rfl rfl rfl rfl (op_pick_false rfl rfl) ?_
        refine TL_keepH [3, 17] [11] rfl rfl rfl rfl (by rw [hF]; rfl) ?_
        exact TL_cast _ (by first | (rw [hq, Bool.false_and]; done) | (rw [hq]; rfl)) (hjj () trivial)
  · replace hm := condF hq hm
    refine TL_pass rfl rfl rfl rfl rfl rfl rfl ?_
    refine TL_pass rfl rfl rfl rfl rfl rfl rfl ?_
    refine TL_pass rfl rfl rfl rfl rfl rfl rfl ?_
    refine TL_pure rfl rfl rfl rfl (op_pick_false rfl rfl) ?_
    refine TL_pure rfl rfl rfl rfl (op_move rfl) ?_
    refine TL_pass rfl rfl rfl rfl rfl rfl rfl ?_
    refine TL_pass rfl rfl rfl rfl rfl rfl rfl ?_
    refine TL_pass rfl rfl rfl rfl rfl rfl rfl ?_
    refine TL_pass rfl rfl rfl rfl rfl rfl rfl ?_
    refine TL_pure rfl rfl rfl rfl (op_pick_false rfl rfl) ?_
    refine TL_pure rfl rfl rfl rfl (op_move rfl) ?_
    refine TL_pass rfl rfl rfl rfl rfl rfl rfl ?_
    refine TL_pass rfl rfl rfl rfl rfl rfl rfl ?_
    refine TL_pass rfl rfl rfl rfl rfl rfl rfl ?_
    refine TL_pure rfl rfl rfl rfl (op_pick_false rfl rfl) ?_
    refine TL_pure rfl rfl rfl rfl (op_move rfl) ?_
    refine TL_pass rfl rfl rfl rfl rfl rfl rfl ?_
    refine TL_pass rfl rfl rfl rfl rfl rfl rfl ?_
    refine TL_pass rfl rfl rfl rfl rfl rfl rfl ?_
    refine TL_pure rfl rfl rfl rfl (op_pick_false rfl rfl) ?_
    refine TL_pure rfl rfl rfl rfl (op_assign rfl) ?_
    refine TL_nil ?_
    refine T_keepH [4] [] rfl rfl rfl rfl (by rw [hF]; rfl) ?_
    refine T_ret ?_
    obtain rfl := someI hm
    refine ⟨[_], [], ⟨rfl, trivial⟩, ?_, rfl, rfl, rfl, rfl⟩
    rfl
theorem c_impl_Config_own (p0 : Config) (out : Config) (hm : m_impl_Config_own p0 = some out) : ACall Try.prog 67 [.agg [.sl 1 (List.map a_i64 p0.State.Vars), .sl 1 (List.map a_i64 p0.State.Cells), .sl 1 (List.map a_i64 p0.Stack), .int .i64 p0.At]] [] (.agg [.ow 1000, .ow 1001, .ow 1002, .int .i64 out.At]) [(1000, .arr ⟨false, true⟩ 1 2 (List.map a_i64 out.State.Vars)), (1001, .arr ⟨false, true⟩ 1 2 (List.map a_i64 out.State.Cells)), (1002, .arr ⟨false, true⟩ 1 2 (List.map a_i64 out.Stack))] := by
  refine ACall.intro Try.func67 rfl Try.ntmps67 rfl (fun F hF => ?_)
  unfold m_impl_Config_own at hm
  refine T_seq ?_
  refine T_region ?_
  refine TL_box 11 rfl rfl rfl rfl rfl rfl rfl ?_
  refine TL_alloc 12 z35 rfl rfl rfl rfl rfl rfl rfl ?_
  refine TL_nil ?_
  refine T_seq ?_
  refine T_drawZ [9] mix (by kernel_rfl) rfl ?_
  obtain ⟨r5, hr5, hm⟩ := bindS hm
  obtain ⟨r8, hr8, hm⟩ := bindS hm
  refine TZ_pure 0 (by kernel_rfl) rfl rfl rfl rfl rfl (op_fieldAddr fa35_0 rfl rfl) ?_
  refine TZ_pure 1 (by kernel_rfl) rfl rfl rfl rfl rfl (op_load_agg ag28 sz28 rfl rfl rfl) ?_
  refine TZ_pure 3 (by kernel_rfl) rfl rfl rfl rfl rfl (op_fieldAddr fa35_1 rfl rfl) ?_
  refine TZ_pure 4 (by kernel_rfl) rfl rfl rfl rfl rfl (op_load_one ag26 rfl rfl) ?_
  refine TZ_pure 6 (by kernel_rfl) rfl rfl rfl rfl rfl (op_fieldAddr fa35_2 rfl rfl) ?_
  refine TZ_pure 7 (by kernel_rfl) rfl rfl rfl rfl rfl (op_load_one ag2 rfl rfl) ?_
  refine TZ_one 2 (by kernel_rfl) rfl ?_
  refine TL_callO [(1000, 16), (1001, 17)] (c_impl_State_own p0.State r5 hr5) Try.call123 rfl rfl rfl rfl rfl rfl rfl rfl rfl rfl rfl rfl rfl ?_
  refine TL_nil ?_
  refine TZ_one 5 (by kernel_rfl) rfl ?_
  refine TL_callO [(1000, 18)] (c_impl_copyInts p0.Stack r8 hr8) Try.call124 rfl rfl rfl rfl rfl rfl rfl rfl rfl rfl rfl rfl rfl ?_
  refine TL_nil ?_
  refine TZ_pure 8 (by kernel_rfl) rfl rfl rfl rfl rfl (op_buildP pl35 z35 rfl rfl rfl rfl rfl) ?_
  refine TZ_one 9 (by kernel_rfl) rfl ?_
  refine TL_store_box sz35 rfl rfl rfl rfl rfl rfl rfl rfl rfl ?_
  refine TL_nil ?_
  refine TZ_done (by kernel_rfl) ?_
  refine T_keepH [2] [12, 16, 17, 18] rfl rfl rfl rfl (by rw [hF]; rfl) ?_
  refine T_ren [(12, 12), (16, 1000), (17, 1001), (18, 1002)] rfl rfl rfl (by rw [hF]; rfl) ?_
  refine T_ret ?_
  obtain rfl := someI hm
  refine ⟨[_], [1000, 1001, 1002], ⟨⟨_, _, rfl, rfl, .inr ⟨ag35, _, _, sz35, rfl, rfl⟩⟩, trivial⟩, ?_, rfl, rfl, rfl, rfl⟩
  rfl
theorem c_impl_Config_step (p0 : Config) (p1 : List Instr) (out : Int × Int × Config) (hm : m_impl_Config_step p0 p1 = some out) : ACall Try.prog 68 [.ptr 0 0 0, .sl 2 (List.map a_Instr p1)] [(0, .box [.ow 1, .ow 2, .ow 3, .int .i64 p0.At]), (1, .arr ⟨false, true⟩ 1 2 (List.map a_i64 p0.State.Vars)), (2, .arr ⟨false, true⟩ 1 2 (List.map a_i64 p0.State.Cells)), (3, .arr ⟨false, true⟩ 1 2 (List.map a_i64 p0.Stack))] (.tup [.int .i64 out.1, .int .i64 out.2.1]) [(0, .box [.ow 1, .ow 2, .ow 3, .int .i64 out.2.2.At]), (1, .arr ⟨false, true⟩ 1 2 (List.map a_i64 out.2.2.State.Vars)), (2, .arr ⟨false, true⟩ 1 2 (List.map a_i64 out.2.2.State.Cells)), (3, .arr ⟨false, true⟩ 1 2 (List.map a_i64 out.2.2.Stack))] := by
  refine ACall.intro Try.func68 rfl Try.ntmps68 rfl (fun F hF => ?_)
  unfold m_impl_Config_step at hm
  refine T_seq ?_
  refine T_region ?_
  refine TL_pure rfl rfl rfl rfl (op_assign rfl) ?_
  refine TL_pure rfl rfl rfl rfl (op_assign rfl) ?_
  refine TL_nil ?_
  refine T_seq ?_
  refine T_seq ?_
  refine T_region ?_
  refine TL_pure rfl rfl rfl rfl (op_move rfl) ?_
  refine TL_pure rfl rfl rfl rfl (op_nilCheck rfl rfl) ?_
  refine TL_pure rfl rfl rfl rfl (op_fieldAddr fa35_2 rfl rfl) ?_
  refine TL_pure rfl rfl rfl rfl (op_load_one ag2 rfl rfl) ?_
  refine TL_pure rfl rfl rfl rfl (op_move rfl) ?_
  refine TL_pure rfl rfl rfl rfl (op_lenT Try.underlying24 rfl (List.length_map _)) ?_
  refine TL_fact (fun _ _ _ hr => RelP.slLen (i := 20) rfl hr) (fun hlen21 => ?_)
  rw [List.length_map] at hlen21
  obtain ⟨r22, hr22, hm⟩ := bindS hm
  refine TL_callF (c_impl_isIndex p0.At (p1.length : Int) r22 hr22) Try.call92 rfl rfl rfl rfl rfl ?_
  refine TL_pure rfl rfl rfl rfl (op_not rfl) ?_
  refine TL_nil ?_
  refine T_cond rfl (fun hq => ?_) (fun hq => ?_)
  · replace hm := condT hq hm
    refine T_seq ?_
    refine T_region ?_
    refine TL_pure rfl rfl rfl rfl (op_assign rfl) ?_
    refine TL_pure rfl rfl rfl rfl (op_assign rfl) ?_
    refine TL_nil ?_
    refine T_keepH [4, 5] [0, 1, 2, 3] rfl rfl rfl rfl (by rw [hF]; rfl) ?_
    refine T_ret ?_
    obtain rfl := someI hm
    refine ⟨[_, _], [0, 1, 2, 3], ⟨rfl, rfl, trivial⟩, ?_, rfl, rfl, rfl, rfl⟩
    rfl
  · replace hm := condF hq hm
    refine T_skip ?_
    refine T_seq ?_
    refine T_region ?_
    refine TL_pure rfl rfl rfl rfl (op_move rfl) ?_
    refine TL_pure rfl rfl rfl rfl (op_move rfl) ?_
    refine TL_pure rfl rfl rfl rfl (op_nilCheck rfl rfl) ?_
    refine TL_pure rfl rfl rfl rfl (op_fieldAddr fa35_2 rfl rfl) ?_
    refine TL_pure rfl rfl rfl rfl (op_load_one ag2 rfl rfl) ?_
    obtain ⟨x29, hx29, hm⟩ := bindS hm
    refine TL_pure rfl rfl rfl rfl (op_indexT el24 rfl rfl hx29 rfl) ?_
    refine TL_pure rfl rfl rfl rfl (op_load_agg ag40 sz40 rfl rfl rfl) ?_
    refine TL_alloc 11 z40 rfl rfl rfl rfl rfl rfl rfl ?_
    refine TL_store_box sz40 rfl rfl rfl rfl rfl rfl rfl rfl rfl ?_
    refine TL_nil ?_
    refine T_seq ?_
    refine T_region ?_
    refine TL_pure rfl rfl rfl rfl (op_load_agg ag40 sz40 rfl rfl rfl) ?_
    obtain ⟨r33, hr33, hm⟩ := bindS hm
    refine TL_callF (c_impl_Instr_moves x29 r33 hr33) Try.call125 rfl rfl rfl rfl rfl ?_
    refine TL_pure rfl rfl rfl rfl (op_move rfl) ?_
    refine TL_pure rfl rfl rfl rfl (op_extract rfl rfl) ?_
    refine TL_pure rfl rfl rfl rfl (op_extract rfl rfl) ?_
    refine TL_pure rfl rfl rfl rfl (op_assign rfl) ?_
    refine TL_pure rfl rfl rfl rfl (op_assign rfl) ?_
    refine TL_nil ?_
    refine T_seq ?_
    refine T_region ?_
    refine TL_pure rfl rfl rfl rfl (op_move rfl) ?_
    refine TL_pure rfl rfl rfl rfl (op_nilCheck rfl rfl) ?_
    refine TL_pure rfl rfl rfl rfl (op_fieldAddr fa35_1 rfl rfl) ?_
    refine TL_pure rfl rfl rfl rfl (op_load_one ag26 rfl rfl) ?_
    refine TL_pure rfl rfl rfl rfl (op_lenO Try.underlying26 rfl rfl (List.length_map _)) ?_
    refine TL_fact (fun _ _ _ hr => RelP.owLen (id := 3) rfl hr) (fun hlen40 => ?_)
    rw [List.length_map] at hlen40
    refine TL_pure rfl rfl rfl rfl (op_move rfl) ?_
    refine TL_pure rfl rfl rfl rfl (op_subW rfl rfl) ?_
    refine TL_pure rfl rfl rfl rfl (op_assign rfl) ?_
    refine TL_nil ?_
    refine T_join (fun (j0 : Unit) => ⟨[(0, .ptr 0 0 0), (6, .ptr 11 0 0), (8, .int .i64 r33.2), (9, .int .i64 (w64 ((p0.Stack.length : Int) - r33.1)))], [(0, .box [.ow 1, .ow 2, .ow 3, .int .i64 p0.At]), (1, .arr ⟨false, true⟩ 1 2 (List.map a_i64 p0.State.Vars)), (2, .arr ⟨false, true⟩ 1 2 (List.map a_i64 p0.State.Cells)), (3, .arr ⟨false, true⟩ 1 2 (List.map a_i64 p0.Stack)), (11, .box [.int .i64 x29.Op, .int .i64 x29.Arg])]⟩) (fun j0 => m_impl_Config_step_J0 p0 x29 r33 j0 = some out) (fun j0 hm => ?_) (fun hj0 => ?_)
    · unfold m_impl_Config_step_J0 at hm
      refine T_seq ?_
      refine T_drawZ [] mix (by kernel_rfl) rfl ?_
      obtain ⟨y60, hy60, hm⟩ := bindS hm
      refine TZ_pure 0 (by kernel_rfl) rfl rfl rfl rfl rfl (op_move rfl) ?_
      refine TZ_pure 1 (by kernel_rfl) rfl rfl rfl rfl rfl (op_nilCheck rfl rfl) ?_
      refine TZ_pure 2 (by kernel_rfl) rfl rfl rfl rfl rfl (op_fieldAddr fa35_1 rfl rfl) ?_
      refine TZ_pure 3 (by kernel_rfl) rfl rfl rfl rfl rfl (op_load_one ag26 rfl rfl) ?_
      refine TZ_pure 4 (by kernel_rfl) rfl rfl rfl rfl rfl (op_move rfl) ?_
      refine TZ_pure 5 (by kernel_rfl) rfl rfl rfl rfl rfl (op_win el26 rfl rfl ⟨⟨_, rfl⟩, rfl⟩ hy60) ?_
      refine TZ_pure 6 (by kernel_rfl) rfl rfl rfl rfl rfl (op_move rfl) ?_
      refine TZ_pure 7 (by kernel_rfl) rfl rfl rfl rfl rfl (op_nilCheck rfl rfl) ?_
      refine TZ_pure 8 (by kernel_rfl) rfl rfl rfl rfl rfl (op_fieldAddr fa35_2 rfl rfl) ?_
      refine TZ_pure 9 (by kernel_rfl) rfl rfl rfl rfl rfl (op_load_one ag2 rfl rfl) ?_
      refine TZ_pure 10 (by kernel_rfl) rfl rfl rfl rfl rfl (op_addW rfl rfl) ?_
      refine TZ_pure 11 (by kernel_rfl) rfl rfl rfl rfl rfl (op_assign rfl) ?_
      refine TZ_pure 12 (by kernel_rfl) rfl rfl rfl rfl rfl (op_assign rfl) ?_
      refine TZ_pure 13 (by kernel_rfl) rfl rfl rfl rfl rfl (op_assign rfl) ?_
      refine TZ_done (by kernel_rfl) ?_
      refine T_seq ?_
      refine T_region ?_
      refine TL_pure rfl rfl rfl rfl (op_assign rfl) ?_
      refine TL_nil ?_
      refine T_seq ?_
      refine T_region ?_
      refine TL_pure rfl rfl rfl rfl (op_assign rfl) ?_
      refine TL_nil ?_
      refine T_join (fun (j2 : (List Int) × (List Int) × Int × Int × Int × Bool) => ⟨[(0, .ptr 0 0 0), (8, .int .i64 r33.2), (9, .int .i64 (w64 ((p0.Stack.length : Int) - r33.1))), (11, .int .i64 j2.2.2.1), (12, .int .i64 j2.2.2.2.1), (13, .int .i64 j2.2.2.2.2.1), (14, .bool j2.2.2.2.2.2)], [(0, .box [.ow 1, .ow 2, .ow 3, .int .i64 p0.At]), (1, .arr ⟨false, true⟩ 1 2 (List.map a_i64 j2.1)), (2, .arr ⟨false, true⟩ 1 2 (List.map a_i64 j2.2.1)), (3, .arr ⟨false, true⟩ 1 2 (List.map a_i64 p0.Stack))]⟩) (fun j2 => m_impl_Config_step_J2 p0 r33 j2 = some out) (fun j2 hm => ?_) (fun hj2 => ?_)
      · unfold m_impl_Config_step_J2 at hm
        refine T_seq ?_
        refine T_seq ?_
        refine T_region ?_
        refine TL_pure rfl rfl rfl rfl (op_move rfl) ?_
        refine TL_pure rfl rfl rfl rfl (op_not rfl) ?_
        refine TL_nil ?_
        refine T_cond rfl (fun hq => ?_) (fun hq => ?_)
        · replace hm := condT hq hm
          refine T_seq ?_
          refine T_region ?_
          refine TL_pure rfl rfl rfl rfl (op_assign rfl) ?_
          refine TL_pure rfl rfl rfl rfl (op_assign rfl) ?_
          refine TL_nil ?_
          refine T_keepH [4, 5] [0, 1, 2, 3] rfl rfl rfl rfl (by rw [hF]; rfl) ?_
          refine T_ret ?_
          obtain rfl := someI hm
          refine ⟨[_, _], [0, 1, 2, 3], ⟨rfl, rfl, trivial⟩, ?_, rfl, rfl, rfl, rfl⟩
          rfl
        · replace hm := condF hq hm
          refine T_skip ?_
          refine T_seq ?_
          refine T_region ?_
          refine TL_pure rfl rfl rfl rfl (op_move rfl) ?_
          refine TL_pure rfl rfl rfl rfl (op_move rfl) ?_
          refine TL_pure rfl rfl rfl rfl (op_nilCheck rfl rfl) ?_
          refine TL_pure rfl rfl rfl rfl (op_fieldAddr fa35_1 rfl rfl) ?_
          refine TL_pure rfl rfl rfl rfl (op_load_one ag26 rfl rfl) ?_
          refine TL_pure rfl rfl rfl rfl (op_move rfl) ?_
          obtain ⟨y190, hy190, hm⟩ := bindS hm
          refine TL_take (f := a_i64) (a := p0.Stack) (b := y190) el26 rfl rfl ⟨rfl, ⟨_, rfl⟩⟩ hy190 rfl rfl rfl rfl rfl ?_
          refine TL_pure rfl rfl rfl rfl (op_nilCheck rfl rfl) ?_
          refine TL_pure rfl rfl rfl rfl (op_fieldAddr fa35_1 rfl rfl) ?_
          refine TL_store_box sz26 rfl rfl rfl rfl rfl rfl rfl rfl rfl ?_
          refine TL_nil ?_
          refine T_join (fun (j3 : List Int) => ⟨[(0, .ptr 0 0 0), (11, .int .i64 j2.2.2.1), (12, .int .i64 j2.2.2.2.1)], [(0, .box [.ow 1, .ow 2, .ow 3, .int .i64 p0.At]), (1, .arr ⟨false, true⟩ 1 2 (List.map a_i64 j2.1)), (2, .arr ⟨false, true⟩ 1 2 (List.map a_i64 j2.2.1)), (3, .arr ⟨false, true⟩ 1 2 (List.map a_i64 j3))]⟩) (fun j3 => m_impl_Config_step_J3 j2 j3 = some out) (fun j3 hm => ?_) (fun hj3 => ?_)
          · unfold m_impl_Config_step_J3 at hm
            refine T_seq ?_
            refine T_region ?_
            refine TL_pure rfl rfl rfl rfl (op_move rfl) ?_
            refine TL_pure rfl rfl rfl rfl (op_move rfl) ?_
            refine TL_pure rfl rfl rfl rfl (op_nilCheck rfl rfl) ?_
            refine TL_pure rfl rfl rfl rfl (op_fieldAddr fa35_2 rfl rfl) ?_
            refine TL_store_box sz2 rfl rfl rfl rfl rfl rfl rfl rfl rfl ?_
            refine TL_nil ?_
            refine T_seq ?_
            refine T_region ?_
            refine TL_pure rfl rfl rfl rfl (op_move rfl) ?_
            refine TL_pure rfl rfl rfl rfl (op_assign rfl) ?_
            refine TL_pure rfl rfl rfl rfl (op_assign rfl) ?_
            refine TL_nil ?_
            refine T_keepH [4, 5] [0, 1, 2, 3] rfl rfl rfl rfl (by rw [hF]; rfl) ?_
            refine T_ret ?_
            obtain rfl := someI hm
            refine ⟨[_, _], [0, 1, 2, 3], ⟨rfl, rfl, trivial⟩, ?_, rfl, rfl, rfl, rfl⟩
            rfl
          · refine T_seq ?_
            refine T_region ?_
            refine TL_pure rfl rfl rfl rfl (op_move rfl) ?_
            refine TL_pure rfl rfl rfl rfl (op_gtr rfl rfl) ?_
            refine TL_nil ?_
            refine T_cond rfl (fun hq => ?_) (fun hq => ?_)
            · replace hm := condT hq hm
              refine T_region ?_
              refine TL_pure rfl rfl rfl rfl (op_move rfl) ?_
              refine TL_pure rfl rfl rfl rfl (op_move rfl) ?_
              refine TL_pure rfl rfl rfl rfl (op_nilCheck rfl rfl) ?_
              refine TL_pure rfl rfl rfl rfl (op_fieldAddr fa35_1 rfl rfl) ?_
              refine TL_pure rfl rfl rfl rfl (op_load_one ag26 rfl rfl) ?_
              refine TL_pure rfl rfl rfl rfl (op_move rfl) ?_
              refine TL_buildSlice 13 (es := List.map a_i64 [j2.2.2.2.2.1]) el26 z2 rfl rfl rfl rfl rfl rfl rfl rfl rfl ?_
              refine TL_deepen 13 (p' := false) (List.map a_i64 [j2.2.2.2.2.1]) (by rw [hF]; rfl) rfl (ElR.map (f := a_i64) (g := a_i64) (fun _ => ⟨⟨rfl, rfl⟩, trivial⟩) [j2.2.2.2.2.1]) rfl rfl rfl ?_
              obtain ⟨q202, hq202, hm⟩ := bindS hm
              refine TL_appendDT (f := a_i64) (a := y190) (b := [j2.2.2.2.2.1]) el26 z2 rfl rfl rfl rfl rfl rfl rfl rfl (by rw [hF]; rfl) (capI_spec hq202) rfl rfl rfl rfl rfl ?_
              refine TL_pure rfl rfl rfl rfl (op_nilCheck rfl rfl) ?_
              refine TL_pure rfl rfl rfl rfl (op_fieldAddr fa35_1 rfl rfl) ?_
              refine TL_store_box sz26 rfl rfl rfl rfl rfl rfl rfl rfl rfl ?_
              refine TL_nil ?_
              refine T_keepH [0, 11, 12] [0, 1, 2, 3] rfl rfl rfl rfl (by rw [hF]; rfl) ?_
              exact hj3 (y190 ++ [j2.2.2.2.2.1]) hm
            · replace hm := condF hq hm
              refine T_skip ?_
              refine T_keepH [0, 11, 12] [0, 1, 2, 3] rfl rfl rfl rfl (by rw [hF]; rfl) ?_
              exact hj3 y190 hm
      · refine T_seq ?_
        refine T_region ?_
        refine TL_pure rfl rfl rfl rfl (op_fieldAddr fa40_0 rfl rfl) ?_
        refine TL_pure rfl rfl rfl rfl (op_load_one ag2 rfl rfl) ?_
        refine TL_nil ?_
        refine T_block ?_
        refine T_seq ?_
        refine T_region ?_
        refine TL_pure rfl rfl rfl rfl (op_eql rfl rfl) ?_
        refine TL_pure rfl rfl rfl rfl (op_assign rfl) ?_
        refine TL_nil ?_
        refine T_cond rfl (fun hq => ?_) (fun hq => ?_)
        · replace hm := condT hq hm
          refine T_seq ?_
          refine T_region ?_
          refine TL_pure rfl rfl rfl rfl (op_assign rfl) ?_
          refine TL_pure rfl rfl rfl rfl (op_assign rfl) ?_
          refine TL_nil ?_
          refine T_keepH [4, 5] [0, 1, 2, 3] rfl rfl rfl rfl (by rw [hF]; rfl) ?_
          refine T_ret ?_
          obtain rfl := someI hm
          refine ⟨[_, _], [0, 1, 2, 3], ⟨rfl, rfl, trivial⟩, ?_, rfl, rfl, rfl, rfl⟩
          rfl
        · replace hm := condF hq hm
          refine T_seq ?_
          refine T_region ?_
          refine TL_pure rfl rfl rfl rfl (op_eql rfl rfl) ?_
          refine TL_pure rfl rfl rfl rfl (op_assign rfl) ?_
          refine TL_nil ?_
          refine T_cond rfl (fun hq => ?_) (fun hq => ?_)
          · replace hm := condT hq hm
            refine T_region ?_
            refine TL_pure rfl rfl rfl rfl (op_fieldAddr fa40_1 rfl rfl) ?_
            refine TL_pure rfl rfl rfl rfl (op_load_one ag2 rfl rfl) ?_
            refine TL_pure rfl rfl rfl rfl (op_assign rfl) ?_
            refine TL_nil ?_
            refine T_keepH [0, 8, 9, 11, 12, 13, 14] [0, 1, 2, 3] rfl rfl rfl rfl (by rw [hF]; rfl) ?_
            exact hj2 (p0.State.Vars, p0.State.Cells, (w64 (p0.At + (1 : Int))), (-1 : Int), x29.Arg, true) hm
          · replace hm := condF hq hm
            refine T_seq ?_
            refine T_region ?_
            refine TL_pure rfl rfl rfl rfl (op_eql rfl rfl) ?_
            refine TL_pure rfl rfl rfl rfl (op_assign rfl) ?_
            refine TL_nil ?_
            refine T_cond rfl (fun hq => ?_) (fun hq => ?_)
            · replace hm := condT hq hm
              refine T_drawZ [] mix (by kernel_rfl) rfl ?_
              obtain ⟨x83, hx83, hm⟩ := bindS hm
              refine TZ_pure 0 (by kernel_rfl) rfl rfl rfl rfl rfl (op_move rfl) ?_
              refine TZ_pure 1 (by kernel_rfl) rfl rfl rfl rfl rfl (op_nilCheck rfl rfl) ?_
              refine TZ_pure 2 (by kernel_rfl) rfl rfl rfl rfl rfl (op_fieldAddr fa35_0 rfl rfl) ?_
              refine TZ_pure 3 (by kernel_rfl) rfl rfl rfl rfl rfl (op_fieldAddr fa28_0 rfl rfl) ?_
              refine TZ_pure 4 (by kernel_rfl) rfl rfl rfl rfl rfl (op_load_one ag26 rfl rfl) ?_
              refine TZ_pure 5 (by kernel_rfl) rfl rfl rfl rfl rfl (op_fieldAddr fa40_1 rfl rfl) ?_
              refine TZ_pure 6 (by kernel_rfl) rfl rfl rfl rfl rfl (op_load_one ag2 rfl rfl) ?_
              refine TZ_pure 7 (by kernel_rfl) rfl rfl rfl rfl rfl (op_indexO el26 rfl rfl rfl hx83) ?_
              refine TZ_pure 8 (by kernel_rfl) rfl rfl rfl rfl rfl (op_loadD1 ag2 rfl rfl ((getI_spec hx83).2) rfl rfl rfl rfl) ?_
              refine TZ_pure 9 (by kernel_rfl) rfl rfl rfl rfl rfl (op_assign rfl) ?_
              refine TZ_done (by kernel_rfl) ?_
              refine T_keepH [0, 8, 9, 11, 12, 13, 14] [0, 1, 2, 3] rfl rfl rfl rfl (by rw [hF]; rfl) ?_
              exact hj2 (p0.State.Vars, p0.State.Cells, (w64 (p0.At + (1 : Int))), (-1 : Int), x83, true) hm
            · replace hm := condF hq hm
              refine T_seq ?_
              refine T_region ?_
              refine TL_pure rfl rfl rfl rfl (op_eql rfl rfl) ?_
              refine TL_pure rfl rfl rfl rfl (op_assign rfl) ?_
              refine TL_nil ?_
              refine T_cond rfl (fun hq => ?_) (fun hq => ?_)
              · replace hm := condT hq hm
                refine T_seq ?_
                refine T_seq ?_
                refine T_region ?_
                refine TL_pure rfl rfl rfl rfl (op_move rfl) ?_
                obtain ⟨e88, he88, hm⟩ := bindS hm
                refine TL_pure rfl rfl rfl rfl (op_index_win (m := 0) el26 rfl rfl rfl rfl (by simpa using (List.getElem?_eq_some_iff.1 he88).1)) ?_
                refine TL_pure rfl rfl rfl rfl (op_loadD1 ag2 rfl rfl (he88) rfl rfl rfl rfl) ?_
                obtain ⟨r90, hr90, hm⟩ := bindS hm
                refine TL_callF (c_impl_isInt e88 r90 hr90) Try.call126 rfl rfl rfl rfl rfl ?_
                refine TL_pure rfl rfl rfl rfl (op_not rfl) ?_
                refine TL_nil ?_
                refine T_cond rfl (fun hq => ?_) (fun hq => ?_)
                · replace hm := condT hq hm
                  refine T_seq ?_
                  refine T_region ?_
                  refine TL_pure rfl rfl rfl rfl (op_assign rfl) ?_
                  refine TL_pure rfl rfl rfl rfl (op_assign rfl) ?_
                  refine TL_nil ?_
                  refine T_keepH [4, 5] [0, 1, 2, 3] rfl rfl rfl rfl (by rw [hF]; rfl) ?_
                  refine T_ret ?_
                  obtain rfl := someI hm
                  refine ⟨[_, _], [0, 1, 2, 3], ⟨rfl, rfl, trivial⟩, ?_, rfl, rfl, rfl, rfl⟩
                  rfl
                · replace hm := condF hq hm
                  refine T_skip ?_
                  refine T_drawZ [11] mix (by kernel_rfl) rfl ?_
                  obtain ⟨x102, hx102, hm⟩ := bindS hm
                  refine TZ_pure 0 (by kernel_rfl) rfl rfl rfl rfl rfl (op_move rfl) ?_
                  refine TZ_pure 1 (by kernel_rfl) rfl rfl rfl rfl rfl (op_nilCheck rfl rfl) ?_
                  refine TZ_pure 2 (by kernel_rfl) rfl rfl rfl rfl rfl (op_fieldAddr fa35_0 rfl rfl) ?_
                  refine TZ_pure 3 (by kernel_rfl) rfl rfl rfl rfl rfl (op_fieldAddr fa28_0 rfl rfl) ?_
                  refine TZ_pure 4 (by kernel_rfl) rfl rfl rfl rfl rfl (op_load_one ag26 rfl rfl) ?_
                  refine TZ_pure 5 (by kernel_rfl) rfl rfl rfl rfl rfl (op_fieldAddr fa40_1 rfl rfl) ?_
                  refine TZ_pure 6 (by kernel_rfl) rfl rfl rfl rfl rfl (op_load_one ag2 rfl rfl) ?_
                  refine TZ_pure 7 (by kernel_rfl) rfl rfl rfl rfl rfl (op_move rfl) ?_
                  refine TZ_pure 8 (by kernel_rfl) rfl rfl rfl rfl rfl (op_index_win (m := 0) el26 rfl rfl rfl rfl (by simpa using (List.getElem?_eq_some_iff.1 he88).1)) ?_
                  refine TZ_pure 9 (by kernel_rfl) rfl rfl rfl rfl rfl (op_loadD1 ag2 rfl rfl (he88) rfl rfl rfl rfl) ?_
                  refine TZ_pure 10 (by kernel_rfl) rfl rfl rfl rfl rfl (op_indexO el26 rfl rfl rfl hx102) ?_
                  refine TZ_one 11 (by kernel_rfl) rfl ?_
                  refine TL_storeFT sz2 rfl rfl ((getI_spec hx102).2) (v' := e88) rfl rfl rfl rfl rfl rfl rfl rfl rfl ?_
                  refine TL_nil ?_
                  refine TZ_done (by kernel_rfl) ?_
                  refine T_keepH [0, 8, 9, 11, 12, 13, 14] [0, 1, 2, 3] rfl rfl rfl rfl (by rw [hF]; rfl) ?_
                  exact hj2 ((p0.State.Vars.set ((x29.Arg).toNat) e88), p0.State.Cells, (w64 (p0.At + (1 : Int))), (-1 : Int), (0 : Int), true) hm
              · replace hm := condF hq hm
                refine T_seq ?_
                refine T_region ?_
                refine TL_pure rfl rfl rfl rfl (op_eql rfl rfl) ?_
                refine TL_pure rfl rfl rfl rfl (op_assign rfl) ?_
                refine TL_nil ?_
                refine T_cond rfl (fun hq => ?_) (fun hq => ?_)
                · replace hm := condT hq hm
                  refine T_seq ?_
                  refine T_drawZ [] mix (by kernel_rfl) rfl ?_
                  obtain ⟨e106, he106, hm⟩ := bindS hm
                  obtain ⟨e109, he109, hm⟩ := bindS hm
                  refine TZ_pure 0 (by kernel_rfl) rfl rfl rfl rfl rfl (op_move rfl) ?_
                  refine TZ_pure 1 (by kernel_rfl) rfl rfl rfl rfl rfl (op_index_win (m := 0) el26 rfl rfl rfl rfl (by simpa using (List.getElem?_eq_some_iff.1 he106).1)) ?_
                  refine TZ_pure 2 (by kernel_rfl) rfl rfl rfl rfl rfl (op_loadD1 ag2 rfl rfl (he106) rfl rfl rfl rfl) ?_
                  refine TZ_pure 3 (by kernel_rfl) rfl rfl rfl rfl rfl (op_move rfl) ?_
                  refine TZ_pure 4 (by kernel_rfl) rfl rfl rfl rfl rfl (op_index_win (m := 1) el26 rfl rfl rfl rfl (by simpa using (List.getElem?_eq_some_iff.1 he109).1)) ?_
                  refine TZ_pure 5 (by kernel_rfl) rfl rfl rfl rfl rfl (op_loadD1 ag2 rfl rfl (he109) rfl rfl rfl rfl) ?_
                  refine TZ_pure 6 (by kernel_rfl) rfl rfl rfl rfl rfl (op_addW rfl rfl) ?_
                  refine TZ_pure 7 (by kernel_rfl) rfl rfl rfl rfl rfl (op_assign rfl) ?_
                  refine TZ_done (by kernel_rfl) ?_
                  refine T_region ?_
                  refine TL_pure rfl rfl rfl rfl (op_move rfl) ?_
                  obtain ⟨r113, hr113, hm⟩ := bindS hm
                  refine TL_callF (c_impl_isWide (w64 (e106 + e109)) r113 hr113) Try.call127 rfl rfl rfl rfl rfl ?_
                  refine TL_pure rfl rfl rfl rfl (op_assign rfl) ?_
                  refine TL_nil ?_
                  refine T_keepH [0, 8, 9, 11, 12, 13, 14] [0, 1, 2, 3] rfl rfl rfl rfl (by rw [hF]; rfl) ?_
                  exact hj2 (p0.State.Vars, p0.State.Cells, (w64 (p0.At + (1 : Int))), (-1 : Int), (w64 (e106 + e109)), r113) hm
                · replace hm := condF hq hm
                  refine T_seq ?_
                  refine T_region ?_
                  refine TL_pure rfl rfl rfl rfl (op_eql rfl rfl) ?_
                  refine TL_pure rfl rfl rfl rfl (op_assign rfl) ?_
                  refine TL_nil ?_
                  refine T_cond rfl (fun hq => ?_) (fun hq => ?_)
                  · replace hm := condT hq hm
                    refine T_drawZ [] mix (by kernel_rfl) rfl ?_
                    obtain ⟨e118, he118, hm⟩ := bindS hm
                    obtain ⟨r122, hr122, hm⟩ := bindS hm
                    refine TZ_pure 0 (by kernel_rfl) rfl rfl rfl rfl rfl (op_move rfl) ?_
                    refine TZ_pure 1 (by kernel_rfl) rfl rfl rfl rfl rfl (op_index_win (m := 0) el26 rfl rfl rfl rfl (by simpa using (List.getElem?_eq_some_iff.1 he118).1)) ?_
                    refine TZ_pure 2 (by kernel_rfl) rfl rfl rfl rfl rfl (op_loadD1 ag2 rfl rfl (he118) rfl rfl rfl rfl) ?_
                    refine TZ_pure 3 (by kernel_rfl) rfl rfl rfl rfl rfl (op_fieldAddr fa40_1 rfl rfl) ?_
                    refine TZ_pure 4 (by kernel_rfl) rfl rfl rfl rfl rfl (op_load_one ag2 rfl rfl) ?_
                    refine TZ_one 5 (by kernel_rfl) rfl ?_
                    refine TL_callF (c_impl_scaled e118 x29.Arg r122 hr122) Try.call128 rfl rfl rfl rfl rfl ?_
                    refine TL_nil ?_
                    refine TZ_pure 6 (by kernel_rfl) rfl rfl rfl rfl rfl (op_move rfl) ?_
                    refine TZ_pure 7 (by kernel_rfl) rfl rfl rfl rfl rfl (op_extract rfl rfl) ?_
                    refine TZ_pure 8 (by kernel_rfl) rfl rfl rfl rfl rfl (op_extract rfl rfl) ?_
                    refine TZ_pure 9 (by kernel_rfl) rfl rfl rfl rfl rfl (op_assign rfl) ?_
                    refine TZ_pure 10 (by kernel_rfl) rfl rfl rfl rfl rfl (op_assign rfl) ?_
                    refine TZ_done (by kernel_rfl) ?_
                    refine T_keepH [0, 8, 9, 11, 12, 13, 14] [0, 1, 2, 3] rfl rfl rfl rfl (by rw [hF]; rfl) ?_
                    exact hj2 (p0.State.Vars, p0.State.Cells, (w64 (p0.At + (1 : Int))), (-1 : Int), r122.1, r122.2) hm
                  · replace hm := condF hq hm
                    refine T_seq ?_
                    refine T_region ?_
                    refine TL_pure rfl rfl rfl rfl (op_eql rfl rfl) ?_
                    refine TL_pure rfl rfl rfl rfl (op_assign rfl) ?_
                    refine TL_nil ?_
                    refine T_cond rfl (fun hq => ?_) (fun hq => ?_)
                    · replace hm := condT hq hm
                      refine T_region ?_
                      refine TL_pure rfl rfl rfl rfl (op_fieldAddr fa40_1 rfl rfl) ?_
                      refine TL_pure rfl rfl rfl rfl (op_load_one ag2 rfl rfl) ?_
                      refine TL_pure rfl rfl rfl rfl (op_assign rfl) ?_
                      refine TL_nil ?_
                      refine T_keepH [0, 8, 9, 11, 12, 13, 14] [0, 1, 2, 3] rfl rfl rfl rfl (by rw [hF]; rfl) ?_
                      exact hj2 (p0.State.Vars, p0.State.Cells, x29.Arg, (-1 : Int), (0 : Int), true) hm
                    · replace hm := condF hq hm
                      refine T_seq ?_
                      refine T_region ?_
                      refine TL_pure rfl rfl rfl rfl (op_eql rfl rfl) ?_
                      refine TL_pure rfl rfl rfl rfl (op_assign rfl) ?_
                      refine TL_nil ?_
                      refine T_cond rfl (fun hq => ?_) (fun hq => ?_)
                      · replace hm := condT hq hm
                        refine T_seq ?_
                        refine T_region ?_
                        refine TL_pure rfl rfl rfl rfl (op_move rfl) ?_
                        obtain ⟨e132, he132, hm⟩ := bindS hm
                        refine TL_pure rfl rfl rfl rfl (op_index_win (m := 0) el26 rfl rfl rfl rfl (by simpa using (List.getElem?_eq_some_iff.1 he132).1)) ?_
                        refine TL_pure rfl rfl rfl rfl (op_loadD1 ag2 rfl rfl (he132) rfl rfl rfl rfl) ?_
                        refine TL_pure rfl rfl rfl rfl (op_lss rfl rfl) ?_
                        refine TL_nil ?_
                        refine T_cond rfl (fun hq => ?_) (fun hq => ?_)
                        · replace hm := condT hq hm
                          refine T_region ?_
                          refine TL_pure rfl rfl rfl rfl (op_fieldAddr fa40_1 rfl rfl) ?_
                          refine TL_pure rfl rfl rfl rfl (op_load_one ag2 rfl rfl) ?_
                          refine TL_pure rfl rfl rfl rfl (op_assign rfl) ?_
                          refine TL_nil ?_
                          refine T_keepH [0, 8, 9, 11, 12, 13, 14] [0, 1, 2, 3] rfl rfl rfl rfl (by rw [hF]; rfl) ?_
                          exact hj2 (p0.State.Vars, p0.State.Cells, x29.Arg, (-1 : Int), (0 : Int), true) hm
                        · replace hm := condF hq hm
                          refine T_skip ?_
                          refine T_keepH [0, 8, 9, 11, 12, 13, 14] [0, 1, 2, 3] rfl rfl rfl rfl (by rw [hF]; rfl) ?_
                          exact hj2 (p0.State.Vars, p0.State.Cells, (w64 (p0.At + (1 : Int))), (-1 : Int), (0 : Int), true) hm
                      · replace hm := condF hq hm
                        refine T_join (fun (j1 : Bool) => ⟨[(0, .ptr 0 0 0), (6, .ptr 11 0 0), (8, .int .i64 r33.2), (9, .int .i64 (w64 ((p0.Stack.length : Int) - r33.1))), (10, .win 3 (((w64 ((p0.Stack.length : Int) - r33.1))).toNat)), (11, .int .i64 (w64 (p0.At + (1 : Int)))), (12, .int .i64 (-1 : Int)), (13, .int .i64 (0 : Int)), (14, .bool true), (67, .int .i64 x29.Op), (137, .bool j1)], [(0, .box [.ow 1, .ow 2, .ow 3, .int .i64 p0.At]), (1, .arr ⟨false, true⟩ 1 2 (List.map a_i64 p0.State.Vars)), (2, .arr ⟨false, true⟩ 1 2 (List.map a_i64 p0.State.Cells)), (3, .arr ⟨false, true⟩ 1 2 (List.map a_i64 p0.Stack)), (11, .box [.int .i64 x29.Op, .int .i64 x29.Arg])]⟩) (fun j1 => m_impl_Config_step_J1 p0 x29 r33 j1 = some out) (fun j1 hm => ?_) (fun hj1 => ?_)
                        · unfold m_impl_Config_step_J1 at hm
                          refine T_cond rfl (fun hq => ?_) (fun hq => ?_)
                          · replace hm := condT hq hm
                            refine T_seq ?_
                            refine T_region ?_
                            refine TL_pure rfl rfl rfl rfl (op_move rfl) ?_
                            obtain ⟨e141, he141, hm⟩ := bindS hm
                            refine TL_pure rfl rfl rfl rfl (op_index_win (m := 0) el26 rfl rfl rfl rfl (by simpa using (List.getElem?_eq_some_iff.1 he141).1)) ?_
                            refine TL_pure rfl rfl rfl rfl (op_loadD1 ag2 rfl rfl (he141) rfl rfl rfl rfl) ?_
                            refine TL_pure rfl rfl rfl rfl (op_assign rfl) ?_
                            refine TL_nil ?_
                            refine T_seq ?_
                            refine T_seq ?_
                            refine T_region ?_
                            refine TL_pure rfl rfl rfl rfl (op_move rfl) ?_
                            obtain ⟨r144, hr144, hm⟩ := bindS hm
                            refine TL_callF (c_impl_within e141 (0 : Int) (7 : Int) r144 hr144) Try.call72 rfl rfl rfl rfl rfl ?_
                            refine TL_pure rfl rfl rfl rfl (op_not rfl) ?_
                            refine TL_nil ?_
                            refine T_cond rfl (fun hq => ?_) (fun hq => ?_)
                            · replace hm := condT hq hm
                              refine T_seq ?_
                              refine T_region ?_
                              refine TL_pure rfl rfl rfl rfl (op_assign rfl) ?_
                              refine TL_pure rfl rfl rfl rfl (op_assign rfl) ?_
                              refine TL_nil ?_
                              refine T_keepH [4, 5] [0, 1, 2, 3] rfl rfl rfl rfl (by rw [hF]; rfl) ?_
                              refine T_ret ?_
                              obtain rfl := someI hm
                              refine ⟨[_, _], [0, 1, 2, 3], ⟨rfl, rfl, trivial⟩, ?_, rfl, rfl, rfl, rfl⟩
                              rfl
                            · replace hm := condF hq hm
                              refine T_skip ?_
                              refine T_seq ?_
                              refine T_region ?_
                              refine TL_pure rfl rfl rfl rfl (op_fieldAddr fa40_0 rfl rfl) ?_
                              refine TL_pure rfl rfl rfl rfl (op_load_one ag2 rfl rfl) ?_
                              refine TL_pure rfl rfl rfl rfl (op_eql rfl rfl) ?_
                              refine TL_nil ?_
                              refine T_cond rfl (fun hq => ?_) (fun hq => ?_)
                              · replace hm := condT hq hm
                                refine T_region ?_
                                refine TL_pure rfl rfl rfl rfl (op_move rfl) ?_
                                refine TL_pure rfl rfl rfl rfl (op_nilCheck rfl rfl) ?_
                                refine TL_pure rfl rfl rfl rfl (op_fieldAddr fa35_0 rfl rfl) ?_
                                refine TL_pure rfl rfl rfl rfl (op_fieldAddr fa28_1 rfl rfl) ?_
                                refine TL_pure rfl rfl rfl rfl (op_load_one ag26 rfl rfl) ?_
                                refine TL_pure rfl rfl rfl rfl (op_move rfl) ?_
                                obtain ⟨x155, hx155, hm⟩ := bindS hm
                                refine TL_pure rfl rfl rfl rfl (op_indexO el26 rfl rfl rfl hx155) ?_
                                refine TL_pure rfl rfl rfl rfl (op_loadD1 ag2 rfl rfl ((getI_spec hx155).2) rfl rfl rfl rfl) ?_
                                refine TL_pure rfl rfl rfl rfl (op_assign rfl) ?_
                                refine TL_nil ?_
                                refine T_keepH [0, 8, 9, 11, 12, 13, 14] [0, 1, 2, 3] rfl rfl rfl rfl (by rw [hF]; rfl) ?_
                                exact hj2 (p0.State.Vars, p0.State.Cells, (w64 (p0.At + (1 : Int))), (-1 : Int), x155, true) hm
                              · replace hm := condF hq hm
                                refine T_seq ?_
                                refine T_region ?_
                                refine TL_pure rfl rfl rfl rfl (op_move rfl) ?_
                                obtain ⟨e158, he158, hm⟩ := bindS hm
                                refine TL_pure rfl rfl rfl rfl (op_index_win (m := 1) el26 rfl rfl rfl rfl (by simpa using (List.getElem?_eq_some_iff.1 he158).1)) ?_
                                refine TL_pure rfl rfl rfl rfl (op_loadD1 ag2 rfl rfl (he158) rfl rfl rfl rfl) ?_
                                obtain ⟨r160, hr160, hm⟩ := bindS hm
                                refine TL_callF (c_impl_isInt e158 r160 hr160) Try.call126 rfl rfl rfl rfl rfl ?_
                                refine TL_pure rfl rfl rfl rfl (op_not rfl) ?_
                                refine TL_nil ?_
                                refine T_cond rfl (fun hq => ?_) (fun hq => ?_)
                                · replace hm := condT hq hm
                                  refine T_seq ?_
                                  refine T_region ?_
                                  refine TL_pure rfl rfl rfl rfl (op_assign rfl) ?_
                                  refine TL_pure rfl rfl rfl rfl (op_assign rfl) ?_
                                  refine TL_nil ?_
                                  refine T_keepH [4, 5] [0, 1, 2, 3] rfl rfl rfl rfl (by rw [hF]; rfl) ?_
                                  refine T_ret ?_
                                  obtain rfl := someI hm
                                  refine ⟨[_, _], [0, 1, 2, 3], ⟨rfl, rfl, trivial⟩, ?_, rfl, rfl, rfl, rfl⟩
                                  rfl
                                · replace hm := condF hq hm
                                  refine T_drawZ [10] mix (by kernel_rfl) rfl ?_
                                  obtain ⟨x171, hx171, hm⟩ := bindS hm
                                  refine TZ_pure 0 (by kernel_rfl) rfl rfl rfl rfl rfl (op_move rfl) ?_
                                  refine TZ_pure 1 (by kernel_rfl) rfl rfl rfl rfl rfl (op_nilCheck rfl rfl) ?_
                                  refine TZ_pure 2 (by kernel_rfl) rfl rfl rfl rfl rfl (op_fieldAddr fa35_0 rfl rfl) ?_
                                  refine TZ_pure 3 (by kernel_rfl) rfl rfl rfl rfl rfl (op_fieldAddr fa28_1 rfl rfl) ?_
                                  refine TZ_pure 4 (by kernel_rfl) rfl rfl rfl rfl rfl (op_load_one ag26 rfl rfl) ?_
                                  refine TZ_pure 5 (by kernel_rfl) rfl rfl rfl rfl rfl (op_move rfl) ?_
                                  refine TZ_pure 6 (by kernel_rfl) rfl rfl rfl rfl rfl (op_move rfl) ?_
                                  refine TZ_pure 7 (by kernel_rfl) rfl rfl rfl rfl rfl (op_index_win (m := 1) el26 rfl rfl rfl rfl (by simpa using (List.getElem?_eq_some_iff.1 he158).1)) ?_
                                  refine TZ_pure 8 (by kernel_rfl) rfl rfl rfl rfl rfl (op_loadD1 ag2 rfl rfl (he158) rfl rfl rfl rfl) ?_
                                  refine TZ_pure 9 (by kernel_rfl) rfl rfl rfl rfl rfl (op_indexO el26 rfl rfl rfl hx171) ?_
                                  refine TZ_one 10 (by kernel_rfl) rfl ?_
                                  refine TL_storeFT sz2 rfl rfl ((getI_spec hx171).2) (v' := e158) rfl rfl rfl rfl rfl rfl rfl rfl rfl ?_
                                  refine TL_nil ?_
                                  refine TZ_done (by kernel_rfl) ?_
                                  refine T_keepH [0, 8, 9, 11, 12, 13, 14] [0, 1, 2, 3] rfl rfl rfl rfl (by rw [hF]; rfl) ?_
                                  exact hj2 (p0.State.Vars, (p0.State.Cells.set ((e141).toNat) e158), (w64 (p0.At + (1 : Int))), (-1 : Int), (0 : Int), true) hm
                          · replace hm := condF hq hm
                            refine T_seq ?_
                            refine T_region ?_
                            refine TL_pure rfl rfl rfl rfl (op_eql rfl rfl) ?_
                            refine TL_pure rfl rfl rfl rfl (op_assign rfl) ?_
                            refine TL_nil ?_
                            refine T_cond rfl (fun hq => ?_) (fun hq => ?_)
                            · replace hm := condT hq hm
                              refine T_region ?_
                              refine TL_pure rfl rfl rfl rfl (op_fieldAddr fa40_1 rfl rfl) ?_
                              refine TL_pure rfl rfl rfl rfl (op_load_one ag2 rfl rfl) ?_
                              refine TL_pure rfl rfl rfl rfl (op_assign rfl) ?_
                              refine TL_nil ?_
                              refine T_keepH [0, 8, 9, 11, 12, 13, 14] [0, 1, 2, 3] rfl rfl rfl rfl (by rw [hF]; rfl) ?_
                              exact hj2 (p0.State.Vars, p0.State.Cells, (w64 (p0.At + (1 : Int))), x29.Arg, (0 : Int), true) hm
                            · replace hm := condF hq hm
                              refine T_seq ?_
                              refine T_region ?_
                              refine TL_pure rfl rfl rfl rfl (op_eql rfl rfl) ?_
                              refine TL_pure rfl rfl rfl rfl (op_assign rfl) ?_
                              refine TL_nil ?_
                              refine T_cond rfl (fun hq => ?_) (fun hq => ?_)
                              · replace hm := condT hq hm
                                refine T_seq ?_
                                refine T_region ?_
                                refine TL_pure rfl rfl rfl rfl (op_move rfl) ?_
                                obtain ⟨e179, he179, hm⟩ := bindS hm
                                refine TL_pure rfl rfl rfl rfl (op_index_win (m := 0) el26 rfl rfl rfl rfl (by simpa using (List.getElem?_eq_some_iff.1 he179).1)) ?_
                                refine TL_pure rfl rfl rfl rfl (op_loadD1 ag2 rfl rfl (he179) rfl rfl rfl rfl) ?_
                                refine TL_pure rfl rfl rfl rfl (op_lss rfl rfl) ?_
                                refine TL_nil ?_
                                refine T_cond rfl (fun hq => ?_) (fun hq => ?_)
                                · replace hm := condT hq hm
                                  refine T_seq ?_
                                  refine T_region ?_
                                  refine TL_pure rfl rfl rfl rfl (op_assign rfl) ?_
                                  refine TL_pure rfl rfl rfl rfl (op_assign rfl) ?_
                                  refine TL_nil ?_
                                  refine T_keepH [4, 5] [0, 1, 2, 3] rfl rfl rfl rfl (by rw [hF]; rfl) ?_
                                  refine T_ret ?_
                                  obtain rfl := someI hm
                                  refine ⟨[_, _], [0, 1, 2, 3], ⟨rfl, rfl, trivial⟩, ?_, rfl, rfl, rfl, rfl⟩
                                  rfl
                                · replace hm := condF hq hm
                                  refine T_skip ?_
                                  refine T_keepH [0, 8, 9, 11, 12, 13, 14] [0, 1, 2, 3] rfl rfl rfl rfl (by rw [hF]; rfl) ?_
                                  exact hj2 (p0.State.Vars, p0.State.Cells, (w64 (p0.At + (1 : Int))), (-1 : Int), (0 : Int), true) hm
                              · replace hm := condF hq hm
                                refine T_skip ?_
                                refine T_keepH [0, 8, 9, 11, 12, 13, 14] [0, 1, 2, 3] rfl rfl rfl rfl (by rw [hF]; rfl) ?_
                                exact hj2 (p0.State.Vars, p0.State.Cells, (w64 (p0.At + (1 : Int))), (-1 : Int), (0 : Int), true) hm
                        · refine T_seq ?_
                          refine T_region ?_
                          refine TL_pure rfl rfl rfl rfl (op_eql rfl rfl) ?_
                          refine TL_pure rfl rfl rfl rfl (op_assign rfl) ?_
                          refine TL_nil ?_
                          refine T_cond rfl (fun hq => ?_) (fun hq => ?_)
                          · replace hm := condT hq hm
                            refine T_skip ?_
                            refine T_keepH [0, 6, 8, 9, 10, 11, 12, 13, 14, 67, 137] [0, 1, 2, 3, 11] rfl rfl rfl rfl (by rw [hF]; rfl) ?_
                            exact hj1 (decide (x29.Op = (7 : Int))) hm
                          · replace hm := condF hq hm
                            refine T_region ?_
                            refine TL_pure rfl rfl rfl rfl (op_eql rfl rfl) ?_
                            refine TL_pure rfl rfl rfl rfl (op_assign rfl) ?_
                            refine TL_nil ?_
                            refine T_keepH [0, 6, 8, 9, 10, 11, 12, 13, 14, 67, 137] [0, 1, 2, 3, 11] rfl rfl rfl rfl (by rw [hF]; rfl) ?_
                            exact hj1 (decide (x29.Op = (8 : Int))) hm
    · refine T_seq ?_
      refine T_region ?_
      refine TL_pure rfl rfl rfl rfl (op_move rfl) ?_
      refine TL_pure rfl rfl rfl rfl (op_lss rfl rfl) ?_
      refine TL_pure rfl rfl rfl rfl (op_move rfl) ?_
      refine TL_split 45 rfl rfl rfl (fun hq => ?_) (fun hq => ?_)
      · replace hm := condT hq hm
        refine TL_pass rfl rfl rfl rfl rfl rfl rfl ?_
        refine TL_pass rfl rfl rfl rfl rfl rfl rfl ?_
        refine TL_pass rfl rfl rfl rfl rfl rfl rfl ?_
        refine TL_pass2 rfl rfl rfl rfl rfl rfl ?_
        refine TL_pass2 rfl rfl rfl rfl rfl rfl ?_
        refine TL_pass2 rfl rfl rfl rfl rfl rfl ?_
        refine TL_pass2 rfl rfl rfl rfl rfl rfl ?_
        refine TL_pass rfl rfl rfl rfl rfl rfl rfl ?_
        refine TL_pure rfl rfl rfl rfl (op_pick_true rfl rfl) ?_
        refine TL_nil ?_
        refine T_cond_true rfl ?_
        refine T_seq ?_
        refine T_region ?_
        refine TL_pure rfl rfl rfl rfl (op_assign rfl) ?_
        refine TL_pure rfl rfl rfl rfl (op_assign rfl) ?_
        refine TL_nil ?_
        refine T_keepH [4, 5] [0, 1, 2, 3] rfl rfl rfl rfl (by rw [hF]; rfl) ?_
        refine T_ret ?_
        obtain rfl := someI hm
        refine ⟨[_, _], [0, 1, 2, 3], ⟨rfl, rfl, trivial⟩, ?_, rfl, rfl, rfl, rfl⟩
        rfl
      · replace hm := condF hq hm
        refine TL_want rfl rfl ?_
        refine TL_pure rfl rfl rfl rfl (op_move rfl) ?_
        refine TL_want rfl rfl ?_
        refine TL_pure rfl rfl rfl rfl (op_gtr rfl rfl) ?_
        refine TL_want rfl rfl ?_
        refine TL_pure rfl rfl rfl rfl (op_move rfl) ?_
        refine TL_split 48 rfl rfl rfl (fun hq => ?_) (fun hq => ?_)
        · replace hm := condT hq hm
          refine TL_want rfl rfl ?_
          refine TL_pure rfl rfl rfl rfl (op_move rfl) ?_
          refine TL_want rfl rfl ?_
          refine TL_pure rfl rfl rfl rfl (op_move rfl) ?_
          refine TL_want rfl rfl ?_
          refine TL_pure rfl rfl rfl rfl (op_addW rfl rfl) ?_
          refine TL_want rfl rfl ?_
          refine TL_pure rfl rfl rfl rfl (op_gtr rfl rfl) ?_
          refine TL_want rfl rfl ?_
          refine TL_pure rfl rfl rfl rfl (op_pick_true rfl rfl) ?_
          refine TL_pure rfl rfl rfl rfl (op_pick_false rfl rfl) ?_
          refine TL_nil ?_
          refine T_cond rfl (fun hq => ?_) (fun hq => ?_)
          · replace hm := condT hq hm
            refine T_seq ?_
            refine T_region ?_
            refine TL_pure rfl rfl rfl rfl (op_assign rfl) ?_
            refine TL_pure rfl rfl rfl rfl (op_assign rfl) ?_
            refine TL_nil ?_
            refine T_keepH [4, 5] [0, 1, 2, 3] rfl rfl rfl rfl (by rw [hF]; rfl) ?_
            refine T_ret ?_
            obtain rfl := someI hm
            refine ⟨[_, _], [0, 1, 2, 3], ⟨rfl, rfl, trivial⟩, ?_, rfl, rfl, rfl, rfl⟩
            rfl
          · replace hm := condF hq hm
            refine T_skip ?_
            refine T_keepH [0, 6, 8, 9] [0, 1, 2, 3, 11] rfl rfl rfl rfl (by rw [hF]; rfl) ?_
            exact hj0 () hm
        · replace hm := condF hq hm
          refine TL_pass rfl rfl rfl rfl rfl rfl rfl ?_
          refine TL_pass rfl rfl rfl rfl rfl rfl rfl ?_
          refine TL_pass rfl rfl rfl rfl rfl rfl rfl ?_
          refine TL_pass rfl rfl rfl rfl rfl rfl rfl ?_
          refine TL_want rfl rfl ?_
          refine TL_pure rfl rfl rfl rfl (op_pick_false rfl rfl) ?_
          refine TL_pure rfl rfl rfl rfl (op_pick_false rfl rfl) ?_
          refine TL_nil ?_
          refine T_cond_false rfl ?_
          refine T_skip ?_
          refine T_keepH [0, 6, 8, 9] [0, 1, 2, 3, 11] rfl rfl rfl rfl (by rw [hF]; rfl) ?_
          exact hj0 () hm
theorem c_impl_StepCode (p0 : List Instr) (p1 : Config) (out : Config × Int × Bool) (hm : m_impl_StepCode p0 p1 = some out) : ACall Try.prog 17 [.sl 2 (List.map a_Instr p0), .agg [.sl 1 (List.map a_i64 p1.State.Vars), .sl 1 (List.map a_i64 p1.State.Cells), .sl 1 (List.map a_i64 p1.Stack), .int .i64 p1.At]] [] (.tup [.agg [.ow 1000, .ow 1001, .ow 1002, .int .i64 out.1.At], .int .i64 out.2.1, .bool out.2.2]) [(1000, .arr ⟨false, true⟩ 1 2 (List.map a_i64 out.1.State.Vars)), (1001, .arr ⟨false, true⟩ 1 2 (List.map a_i64 out.1.State.Cells)), (1002, .arr ⟨false, true⟩ 1 2 (List.map a_i64 out.1.Stack))] := by
  refine ACall.intro Try.func17 rfl Try.ntmps17 rfl (fun F hF => ?_)
  unfold m_impl_StepCode at hm
  refine T_seq ?_
  refine T_region ?_
  refine TL_box 11 rfl rfl rfl rfl rfl rfl rfl ?_
  refine TL_alloc 12 z35 rfl rfl rfl rfl rfl rfl rfl ?_
  refine TL_pure rfl rfl rfl rfl (op_assign rfl) ?_
  refine TL_pure rfl rfl rfl rfl (op_assign rfl) ?_
  refine TL_nil ?_
  refine T_seq ?_
  refine T_seq ?_
  refine T_region ?_
  refine TL_pure rfl rfl rfl rfl (op_move rfl) ?_
  refine TL_pure rfl rfl rfl rfl (op_load_agg ag35 sz35 rfl rfl rfl) ?_
  obtain ⟨r12, hr12, hm⟩ := bindS hm
  refine TL_callF (c_impl_ValidConfig p0 p1 r12 hr12) Try.call18 rfl rfl rfl rfl rfl ?_
  refine TL_pure rfl rfl rfl rfl (op_not rfl) ?_
  refine TL_nil ?_
  refine T_cond rfl (fun hq => ?_) (fun hq => ?_)
  · replace hm := condT hq hm
    refine T_seq ?_
    refine T_region ?_
    refine TL_pure rfl rfl rfl rfl (op_buildP pl35 z35 rfl rfl rfl rfl rfl) ?_
    refine TL_store_box sz35 rfl rfl rfl rfl rfl rfl rfl rfl rfl ?_
    refine TL_pure rfl rfl rfl rfl (op_assign rfl) ?_
    refine TL_pure rfl rfl rfl rfl (op_assign rfl) ?_
    refine TL_nil ?_
    refine T_ownNilBox 12 0 13 ⟨false, true⟩ 2 rfl rfl rfl (sz := 1) rfl rfl rfl rfl ?_
    refine T_ownNilBox 12 1 14 ⟨false, true⟩ 2 rfl rfl rfl (sz := 1) rfl rfl rfl rfl ?_
    refine T_ownNilBox 12 2 15 ⟨false, true⟩ 2 rfl rfl rfl (sz := 1) rfl rfl rfl rfl ?_
    refine T_keepH [4, 5, 6] [12, 13, 14, 15] rfl rfl rfl rfl (by rw [hF]; rfl) ?_
    refine T_ren [(12, 12), (13, 1000), (14, 1001), (15, 1002)] rfl rfl rfl (by rw [hF]; rfl) ?_
    refine T_ret ?_
    obtain rfl := someI hm
    refine ⟨[_, _, _], [1000, 1001, 1002], ⟨⟨_, _, rfl, rfl, .inr ⟨ag35, _, _, sz35, rfl, rfl⟩⟩, rfl, rfl, trivial⟩, ?_, rfl, rfl, rfl, rfl⟩
    rfl
  · replace hm := condF hq hm
    refine T_skip ?_
    refine T_seq ?_
    refine T_region ?_
    refine TL_pure rfl rfl rfl rfl (op_load_agg ag35 sz35 rfl rfl rfl) ?_
    obtain ⟨r16, hr16, hm⟩ := bindS hm
    refine TL_callO [(1000, 16), (1001, 17), (1002, 18)] (c_impl_Config_own p1 r16 hr16) Try.call67 rfl rfl rfl rfl rfl rfl rfl rfl rfl rfl rfl rfl rfl ?_
    refine TL_alloc 19 z35 rfl rfl rfl rfl rfl rfl rfl ?_
    refine TL_store_box sz35 rfl rfl rfl rfl rfl rfl rfl rfl rfl ?_
    refine TL_nil ?_
    refine T_seq ?_
    refine T_region ?_
    refine TL_pure rfl rfl rfl rfl (op_move rfl) ?_
    obtain ⟨r19, hr19, hm⟩ := bindS hm
    refine TL_call [(0, 19), (1, 16), (2, 17), (3, 18)] [] [16, 17, 18] (c_impl_Config_step r16 p0 r19 hr19) Try.call68 rfl rfl rfl rfl rfl ⟨rfl, rfl, rfl, rfl, trivial⟩ rfl rfl rfl rfl rfl rfl rfl rfl rfl rfl rfl ?_
    refine TL_pure rfl rfl rfl rfl (op_move rfl) ?_
    refine TL_pure rfl rfl rfl rfl (op_extract rfl rfl) ?_
    refine TL_pure rfl rfl rfl rfl (op_extract rfl rfl) ?_
    refine TL_pure rfl rfl rfl rfl (op_assign rfl) ?_
    refine TL_pure rfl rfl rfl rfl (op_assign rfl) ?_
    refine TL_nil ?_
    refine T_seq ?_
    refine T_region ?_
    refine TL_pure rfl rfl rfl rfl (op_load_agg ag35 sz35 rfl rfl rfl) ?_
    refine TL_pure rfl rfl rfl rfl (op_move rfl) ?_
    refine TL_store_box sz35 rfl rfl rfl rfl rfl rfl rfl rfl rfl ?_
    refine TL_pure rfl rfl rfl rfl (op_assign rfl) ?_
    refine TL_pure rfl rfl rfl rfl (op_assign rfl) ?_
    refine TL_nil ?_
    refine T_keepH [4, 5, 6] [12, 16, 17, 18] rfl rfl rfl rfl (by rw [hF]; rfl) ?_
    refine T_ren [(12, 12), (16, 1000), (17, 1001), (18, 1002)] rfl rfl rfl (by rw [hF]; rfl) ?_
    refine T_ret ?_
    obtain rfl := someI hm
    refine ⟨[_, _, _], [1000, 1001, 1002], ⟨⟨_, _, rfl, rfl, .inr ⟨ag35, _, _, sz35, rfl, rfl⟩⟩, rfl, rfl, trivial⟩, ?_, rfl, rfl, rfl, rfl⟩
    rfl
theorem c_laws_r8Same (p0 : List Int) (p1 : List Int) (out : Bool) (hm : m_laws_r8Same p0 p1 = some out) : ACall Try.prog 19 [.sl 1 (List.map a_i64 p0), .sl 1 (List.map a_i64 p1)] [] (.bool out) [] := by
  refine ACall.intro Try.func19 rfl Try.ntmps19 rfl (fun F hF => ?_)
  unfold m_laws_r8Same at hm
  refine T_seq ?_
  refine T_region ?_
  refine TL_pure rfl rfl rfl rfl (op_assign rfl) ?_
  refine TL_nil ?_
  refine T_seq ?_
  refine T_seq ?_
  refine T_region ?_
  refine TL_pure rfl rfl rfl rfl (op_move rfl) ?_
  refine TL_pure rfl rfl rfl rfl (op_lenT Try.underlying26 rfl (List.length_map _)) ?_
  refine TL_fact (fun _ _ _ hr => RelP.slLen (i := 6) rfl hr) (fun hlen7 => ?_)
  rw [List.length_map] at hlen7
  refine TL_pure rfl rfl rfl rfl (op_move rfl) ?_
  refine TL_pure rfl rfl rfl rfl (op_lenT Try.underlying26 rfl (List.length_map _)) ?_
  refine TL_fact (fun _ _ _ hr => RelP.slLen (i := 8) rfl hr) (fun hlen9 => ?_)
  rw [List.length_map] at hlen9
  refine TL_pure rfl rfl rfl rfl (op_neq rfl rfl) ?_
  refine TL_nil ?_
  refine T_cond rfl (fun hq => ?_) (fun hq => ?_)
  · replace hm := condT hq hm
    refine T_seq ?_
    refine T_region ?_
    refine TL_pure rfl rfl rfl rfl (op_assign rfl) ?_
    refine TL_nil ?_
    refine T_keepH [4] [] rfl rfl rfl rfl (by rw [hF]; rfl) ?_
    refine T_ret ?_
    obtain rfl := someI hm
    refine ⟨[_], [], ⟨rfl, trivial⟩, ?_, rfl, rfl, rfl, rfl⟩
    rfl
  · replace hm := condF hq hm
    refine T_skip ?_
    refine T_seq ?_
    refine T_seq ?_
    refine T_region ?_
    refine TL_pure rfl rfl rfl rfl (op_assign rfl) ?_
    refine TL_nil ?_
    refine T_block ?_
    refine T_keepH [0, 1, 5] [] rfl rfl rfl rfl (by rw [hF]; rfl) ?_
    refine T_loop ?_
    obtain ⟨u0, hl0, hm⟩ := bindS hm
    refine TR_iter2 (m_laws_r8Same_L0 p0 p1) (fun (s0 : Int) => ⟨[(0, .sl 1 (List.map a_i64 p0)), (1, .sl 1 (List.map a_i64 p1)), (5, .int .i64 s0)], []⟩) (fun u0 => match u0 with | .inl u0 => .exit 0 | .inr u0 => .ret) (fun u0 => match u0 with | .inl u0 => ⟨[], []⟩ | .inr u0 => ⟨[(4, .bool u0)], []⟩) (fun u0 => m_laws_r8Same_A0 u0 = some out) hl0 hm (fun u0 hm => ?_) (fun hx0 s0 c0 hm hc0 => ?_)
    · rcases u0 with u0 | u0
      · unfold m_laws_r8Same_A0 at hm
        refine T_seq ?_
        refine T_region ?_
        refine TL_pure rfl rfl rfl rfl (op_assign rfl) ?_
        refine TL_nil ?_
        refine T_keepH [4] [] rfl rfl rfl rfl (by rw [hF]; rfl) ?_
        refine T_ret ?_
        obtain rfl := someI hm
        refine ⟨[_], [], ⟨rfl, trivial⟩, ?_, rfl, rfl, rfl, rfl⟩
        rfl
      · unfold m_laws_r8Same_A0 at hm
        obtain rfl := someI hm
        refine ⟨[_], [], ⟨rfl, trivial⟩, ?_, rfl, rfl, rfl, rfl⟩
        rfl
    · unfold m_laws_r8Same_L0 at hm
      refine T_seq ?_
      refine T_seq ?_
      refine T_region ?_
      refine TL_pure rfl rfl rfl rfl (op_move rfl) ?_
      refine TL_pure rfl rfl rfl rfl (op_move rfl) ?_
      refine TL_pure rfl rfl rfl rfl (op_lenT Try.underlying26 rfl (List.length_map _)) ?_
      refine TL_pure rfl rfl rfl rfl (op_lss rfl rfl) ?_
      refine TL_nil ?_
      refine T_cond rfl (fun hq => ?_) (fun hq => ?_)
      · replace hm := condT hq hm
        refine T_skip ?_
        refine T_seq ?_
        refine T_block ?_
        refine T_seq ?_
        refine T_drawZ [] mix (by kernel_rfl) rfl ?_
        obtain ⟨x19, hx19, hm⟩ := bindS hm
        obtain ⟨x23, hx23, hm⟩ := bindS hm
        refine TZ_pure 0 (by kernel_rfl) rfl rfl rfl rfl rfl (op_move rfl) ?_
        refine TZ_pure 1 (by kernel_rfl) rfl rfl rfl rfl rfl (op_move rfl) ?_
        refine TZ_pure 2 (by kernel_rfl) rfl rfl rfl rfl rfl (op_indexT el26 rfl rfl hx19 rfl) ?_
        refine TZ_pure 3 (by kernel_rfl) rfl rfl rfl rfl rfl (op_load_one ag2 rfl rfl) ?_
        refine TZ_pure 4 (by kernel_rfl) rfl rfl rfl rfl rfl (op_move rfl) ?_
        refine TZ_pure 5 (by kernel_rfl) rfl rfl rfl rfl rfl (op_move rfl) ?_
        refine TZ_pure 6 (by kernel_rfl) rfl rfl rfl rfl rfl (op_indexT el26 rfl rfl hx23 rfl) ?_
        refine TZ_pure 7 (by kernel_rfl) rfl rfl rfl rfl rfl (op_load_one ag2 rfl rfl) ?_
        refine TZ_pure 8 (by kernel_rfl) rfl rfl rfl rfl rfl (op_neq rfl rfl) ?_
        refine TZ_done (by kernel_rfl) ?_
        refine T_cond rfl (fun hq => ?_) (fun hq => ?_)
        · replace hm := condT hq hm
          refine T_seq ?_
          refine T_region ?_
          refine TL_pure rfl rfl rfl rfl (op_assign rfl) ?_
          refine TL_nil ?_
          refine T_keepH [4] [] rfl rfl rfl rfl (by rw [hF]; rfl) ?_
          refine T_ret ?_
          obtain rfl := someI hm
          have hn := CtlOK_out hc0
          exact hx0 (.inr false) hn
        · replace hm := condF hq hm
          refine T_skip ?_
          refine T_region ?_
          refine TL_pure rfl rfl rfl rfl (op_move rfl) ?_
          refine TL_pure rfl rfl rfl rfl (op_addW rfl rfl) ?_
          refine TL_pure rfl rfl rfl rfl (op_assign rfl) ?_
          refine TL_nil ?_
          refine TR_keepH [0, 1, 5] [] rfl rfl rfl rfl (by rw [hF]; rfl) ?_
          obtain rfl := someI hm
          have hn := CtlOK_next hc0
          exact hn _ rfl
      · replace hm := condF hq hm
        refine T_keepH [] [] rfl rfl rfl rfl (by rw [hF]; rfl) ?_
        refine T_exit ?_
        obtain rfl := someI hm
        have hn := CtlOK_out hc0
        exact hx0 (.inl ()) hn
theorem c_laws_r8States (p0 : State) (p1 : State) (out : Bool) (hm : m_laws_r8States p0 p1 = some out) : ACall Try.prog 20 [.agg [.sl 1 (List.map a_i64 p0.Vars), .sl 1 (List.map a_i64 p0.Cells)], .agg [.sl 1 (List.map a_i64 p1.Vars), .sl 1 (List.map a_i64 p1.Cells)]] [] (.bool out) [] := by
  refine ACall.intro Try.func20 rfl Try.ntmps20 rfl (fun F hF => ?_)
  unfold m_laws_r8States at hm
  refine T_seq ?_
  refine T_region ?_
  refine TL_box 11 rfl rfl rfl rfl rfl rfl rfl ?_
  refine TL_box 12 rfl rfl rfl rfl rfl rfl rfl ?_
  refine TL_pure rfl rfl rfl rfl (op_assign rfl) ?_
  refine TL_nil ?_
  refine T_seq ?_
  refine T_region ?_
  refine TL_pure rfl rfl rfl rfl (op_fieldAddr fa28_0 rfl rfl) ?_
  refine TL_pure rfl rfl rfl rfl (op_load_one ag26 rfl rfl) ?_
  refine TL_pure rfl rfl rfl rfl (op_fieldAddr fa28_0 rfl rfl) ?_
  refine TL_pure rfl rfl rfl rfl (op_load_one ag26 rfl rfl) ?_
  obtain ⟨r9, hr9, hm⟩ := bindS hm
  refine TL_callF (c_laws_r8Same p0.Vars p1.Vars r9 hr9) Try.call19 rfl rfl rfl rfl rfl ?_
  refine TL_pure rfl rfl rfl rfl (op_move rfl) ?_
  refine TL_split 10 rfl rfl rfl (fun hq => ?_) (fun hq => ?_)
  · replace hm := condT hq hm
    refine TL_want rfl rfl ?_
    refine TL_pure rfl rfl rfl rfl (op_fieldAddr fa28_1 rfl rfl) ?_
    refine TL_want rfl rfl ?_
    refine TL_pure rfl rfl rfl rfl (op_load_one ag26 rfl rfl) ?_
    refine TL_want rfl rfl ?_
    refine TL_pure rfl rfl rfl rfl (op_fieldAddr fa28_1 rfl rfl) ?_
    refine TL_want rfl rfl ?_
    refine TL_pure rfl rfl rfl rfl (op_load_one ag26 rfl rfl) ?_
    refine TL_want rfl rfl ?_
    obtain ⟨r15, hr15, hm⟩ := bindS hm
    refine TL_callF (c_laws_r8Same p0.Cells p1.Cells r15 hr15) Try.call19 rfl rfl rfl rfl rfl ?_
    refine TL_pure rfl rfl rfl rfl (op_pick_true rfl rfl) ?_
    refine TL_pure rfl rfl rfl rfl (op_assign rfl) ?_
    refine TL_nil ?_
    refine T_keepH [4] [] rfl rfl rfl rfl (by rw [hF]; rfl) ?_
    refine T_ret ?_
    obtain rfl := someI hm
    refine ⟨[_], [], ⟨rfl, trivial⟩, ?_, rfl, rfl, rfl, rfl⟩
    rfl
  · replace hm := condF hq hm
    refine TL_pass rfl rfl rfl rfl rfl rfl rfl ?_
    refine TL_pass rfl rfl rfl rfl rfl rfl rfl ?_
    refine TL_pass rfl rfl rfl rfl rfl rfl rfl ?_
    refine TL_pass rfl rfl rfl rfl rfl rfl rfl ?_
    refine TL_pass rfl rfl rfl rfl rfl rfl rfl ?_
    refine TL_pure rfl rfl rfl rfl (op_pick_false rfl rfl) ?_
    refine TL_pure rfl rfl rfl rfl (op_assign rfl) ?_
    refine TL_nil ?_
    refine T_keepH [4] [] rfl rfl rfl rfl (by rw [hF]; rfl) ?_
    refine T_ret ?_
    obtain rfl := someI hm
    refine ⟨[_], [], ⟨rfl, trivial⟩, ?_, rfl, rfl, rfl, rfl⟩
    rfl
theorem c_laws_FnSteps (p0 : List Int) (p1 : List Int) (out : Bool) (hm : m_laws_FnSteps p0 p1 = some out) : ACall Try.prog 3 [.sl 1 (List.map a_u8 p0), .sl 1 (List.map a_u8 p1)] [] (.bool out) [] := by
  refine ACall.intro Try.func3 rfl Try.ntmps3 rfl (fun F hF => ?_)
  unfold m_laws_FnSteps at hm
  refine T_seq ?_
  refine T_region ?_
  refine TL_pure rfl rfl rfl rfl (op_assign rfl) ?_
  refine TL_nil ?_
  refine T_seq ?_
  refine T_seq ?_
  refine T_region ?_
  refine TL_pure rfl rfl rfl rfl (op_move rfl) ?_
  refine TL_pure rfl rfl rfl rfl (op_move rfl) ?_
  obtain ⟨r23, hr23, hm⟩ := bindS hm
  refine TL_callF (c_laws_r8Long p0 p1 r23 hr23) Try.call12 rfl rfl rfl rfl rfl ?_
  refine TL_nil ?_
  refine T_cond rfl (fun hq => ?_) (fun hq => ?_)
  · replace hm := condT hq hm
    refine T_seq ?_
    refine T_region ?_
    refine TL_pure rfl rfl rfl rfl (op_assign rfl) ?_
    refine TL_nil ?_
    refine T_keepH [4] [] rfl rfl rfl rfl (by rw [hF]; rfl) ?_
    refine T_ret ?_
    obtain rfl := someI hm
    refine ⟨[_], [], ⟨rfl, trivial⟩, ?_, rfl, rfl, rfl, rfl⟩
    rfl
  · replace hm := condF hq hm
    refine T_skip ?_
    refine T_seq ?_
    refine T_region ?_
    refine TL_pure rfl rfl rfl rfl (op_move rfl) ?_
    obtain ⟨r25, hr25, hm⟩ := bindS hm
    refine TL_callO [(1000, 11)] (c_spec_R8Code p0 r25 hr25) Try.call13 rfl rfl rfl rfl rfl rfl rfl rfl rfl rfl rfl rfl rfl ?_
    refine TL_pure rfl rfl rfl rfl (op_assign rfl) ?_
    refine TL_nil ?_
    refine T_seq ?_
    refine T_region ?_
    refine TL_pure rfl rfl rfl rfl (op_move rfl) ?_
    obtain ⟨r27, hr27, hm⟩ := bindS hm
    refine TL_callO [(1000, 12), (1001, 13)] (c_spec_R8State p1 r27 hr27) Try.call14 rfl rfl rfl rfl rfl rfl rfl rfl rfl rfl rfl rfl rfl ?_
    refine TL_alloc 14 z28 rfl rfl rfl rfl rfl rfl rfl ?_
    refine TL_store_box sz28 rfl rfl rfl rfl rfl rfl rfl rfl rfl ?_
    refine TL_nil ?_
    refine T_seq ?_
    refine T_region ?_
    refine TL_pure rfl rfl rfl rfl (op_move rfl) ?_
    refine TL_pure rfl rfl rfl rfl (op_load_agg ag28 sz28 rfl rfl rfl) ?_
    obtain ⟨r31, hr31, hm⟩ := bindS hm
    refine TL_callO [(1000, 15), (1001, 16), (1002, 17)] (c_impl_RunCode r25 r27 (60 : Int) r31 hr31) Try.call15 rfl rfl rfl rfl rfl rfl rfl rfl rfl rfl rfl rfl rfl ?_
    refine TL_pure rfl rfl rfl rfl (op_move rfl) ?_
    refine TL_pure rfl rfl rfl rfl (op_extract rfl rfl) ?_
    refine TL_pure rfl rfl rfl rfl (op_extract rfl rfl) ?_
    refine TL_pure rfl rfl rfl rfl (op_extract rfl rfl) ?_
    refine TL_pure rfl rfl rfl rfl (op_extract rfl rfl) ?_
    refine TL_alloc 18 z28 rfl rfl rfl rfl rfl rfl rfl ?_
    refine TL_store_box sz28 rfl rfl rfl rfl rfl rfl rfl rfl rfl ?_
    refine TL_pure rfl rfl rfl rfl (op_assign rfl) ?_
    refine TL_pure rfl rfl rfl rfl (op_assign rfl) ?_
    refine TL_pure rfl rfl rfl rfl (op_assign rfl) ?_
    refine TL_nil ?_
    refine T_seq ?_
    refine T_region ?_
    refine TL_pure rfl rfl rfl rfl (op_move rfl) ?_
    refine TL_pure rfl rfl rfl rfl (op_load_agg ag28 sz28 rfl rfl rfl) ?_
    obtain ⟨r39, hr39, hm⟩ := bindS hm
    refine TL_callO [(1000, 19)] (c_impl_CountCode r25 r27 (60 : Int) r39 hr39) Try.call16 rfl rfl rfl rfl rfl rfl rfl rfl rfl rfl rfl rfl rfl ?_
    refine TL_pure rfl rfl rfl rfl (op_move rfl) ?_
    refine TL_pure rfl rfl rfl rfl (op_extract rfl rfl) ?_
    refine TL_pure rfl rfl rfl rfl (op_extract rfl rfl) ?_
    refine TL_pure rfl rfl rfl rfl (op_assign rfl) ?_
    refine TL_pure rfl rfl rfl rfl (op_assign rfl) ?_
    refine TL_nil ?_
    refine T_seq ?_
    refine T_seq ?_
    refine T_region ?_
    refine TL_pure rfl rfl rfl rfl (op_move rfl) ?_
    refine TL_pure rfl rfl rfl rfl (op_not rfl) ?_
    refine TL_pure rfl rfl rfl rfl (op_move rfl) ?_
    refine TL_join 3 (fun _ : Unit => ⟨[(5, .ow 11), (6, .ptr 14 0 0), (7, .ptr 18 0 0), (8, .ow 17), (9, .int .i64 r31.2.2.1), (11, .ow 19), (47, .bool ((!r31.2.2.2) || (!r39.2)))], [(11, .arr ⟨false, true⟩ 2 40 (List.map a_Instr r25)), (12, .arr ⟨false, true⟩ 1 2 (List.map a_i64 r27.Vars)), (13, .arr ⟨false, true⟩ 1 2 (List.map a_i64 r27.Cells)), (14, .box [.ow 12, .ow 13]), (15, .arr ⟨false, true⟩ 1 2 (List.map a_i64 r31.1.Vars)), (16, .arr ⟨false, true⟩ 1 2 (List.map a_i64 r31.1.Cells)), (17, .arr ⟨false, true⟩ 1 2 (List.map a_i64 r31.2.1)), (18, .box [.ow 15, .ow 16]), (19, .arr ⟨false, true⟩ 1 2 (List.map a_i64 r39.1))]⟩) (fun _ => True) (fun _ _ => ?_) (fun hjj => ?_)
    · refine TL_pure rfl rfl rfl rfl (op_move rfl) ?_
      refine TL_join 6 (fun _ : Unit => ⟨[(5, .ow 11), (6, .ptr 14 0 0), (7, .ptr 18 0 0), (8, .ow 17), (9, .int .i64 r31.2.2.1), (11, .ow 19), (54, .bool (((!r31.2.2.2) || (!r39.2)) || (!decide ((r39.1.length : Int) = (r25.length : Int)))))], [(11, .arr ⟨false, true⟩ 2 40 (List.map a_Instr r25)), (12, .arr ⟨false, true⟩ 1 2 (List.map a_i64 r27.Vars)), (13, .arr ⟨false, true⟩ 1 2 (List.map a_i64 r27.Cells)), (14, .box [.ow 12, .ow 13]), (15, .arr ⟨false, true⟩ 1 2 (List.map a_i64 r31.1.Vars)), (16, .arr ⟨false, true⟩ 1 2 (List.map a_i64 r31.1.Cells)), (17, .arr ⟨false, true⟩ 1 2 (List.map a_i64 r31.2.1)), (18, .box [.ow 15, .ow 16]), (19, .arr ⟨false, true⟩ 1 2 (List.map a_i64 r39.1))]⟩) (fun _ => True) (fun _ _ => ?_) (fun hjj => ?_)
      · refine TL_nil ?_
        refine T_cond rfl (fun hq => ?_) (fun hq => ?_)
        · replace hm := condT hq hm
          refine T_seq ?_
          refine T_region ?_
          refine TL_pure rfl rfl rfl rfl (op_assign rfl) ?_
          refine TL_nil ?_
          refine T_keepH [4] [] rfl rfl rfl rfl (by rw [hF]; rfl) ?_
          refine T_ret ?_
          obtain rfl := someI hm
          refine ⟨[_], [], ⟨rfl, trivial⟩, ?_, rfl, rfl, rfl, rfl⟩
          rfl
        · replace hm := condF hq hm
          refine T_skip ?_
          refine T_seq ?_
          refine T_region ?_
          refine TL_pure rfl rfl rfl rfl (op_load_agg ag28 sz28 rfl rfl rfl) ?_
          refine TL_pure rfl rfl rfl rfl (op_buildP pl35 z35 rfl rfl rfl rfl rfl) ?_
          refine TL_alloc 20 z35 rfl rfl rfl rfl rfl rfl rfl ?_
          refine TL_store_box sz35 rfl rfl rfl rfl rfl rfl rfl rfl rfl ?_
          refine TL_nil ?_
          refine T_seq ?_
          refine T_region ?_
          refine TL_buildSlice 21 (es := List.map a_i64 ([] : List Int)) el26 z2 rfl rfl rfl rfl rfl rfl rfl rfl rfl ?_
          refine TL_pure rfl rfl rfl rfl (op_assign rfl) ?_
          refine TL_nil ?_
          refine T_seq ?_
          refine T_region ?_
          refine TL_pure rfl rfl rfl rfl (op_move rfl) ?_
          refine TL_pure rfl rfl rfl rfl (op_lenO Try.underlying24 rfl rfl (List.length_map _)) ?_
          refine TL_fact (fun _ _ _ hr => RelP.owLen (id := 11) rfl hr) (fun hlen59 => ?_)
          rw [List.length_map] at hlen59
          obtain ⟨k60, hk60, hm⟩ := bindS hm
          refine TL_make 22 (n := k60) el26 z2 rfl rfl rfl rfl rfl rfl (makeI_spec hk60).1 (makeI_spec hk60).1 (makeI_spec hk60).2 rfl rfl rfl rfl ?_
          refine TL_nils 22 (List.map a_i64 (List.replicate k60 (0 : Int))) (by rw [hF]; rfl) rfl (ElR.rep (z := .int .i64 (0 : Int)) (g := a_i64) (x := (0 : Int)) ⟨⟨rfl, rfl⟩, trivial⟩ k60) rfl ?_
          refine TL_pure rfl rfl rfl rfl (op_assign rfl) ?_
          refine TL_nil ?_
          refine T_seq ?_
          refine T_region ?_
          refine TL_pure rfl rfl rfl rfl (op_assign rfl) ?_
          refine TL_nil ?_
          refine T_seq ?_
          refine T_seq ?_
          refine T_region ?_
          refine TL_pure rfl rfl rfl rfl (op_assign rfl) ?_
          refine TL_nil ?_
          refine T_block ?_
          refine T_ownNilBox 20 2 38 ⟨false, true⟩ 2 rfl rfl rfl (sz := 1) rfl rfl rfl rfl ?_
          refine T_keepH [5, 7, 8, 9, 11, 13, 14, 15, 16, 17] [11, 12, 13, 15, 16, 17, 18, 19, 20, 21, 22, 38] rfl rfl rfl rfl (by rw [hF]; rfl) ?_
          refine T_ren [(11, 11), (12, 12), (13, 13), (15, 15), (16, 16), (17, 17), (18, 18), (19, 19), (20, 20), (21, 21), (22, 22), (38, 70009)] rfl rfl rfl (by rw [hF]; rfl) ?_
          refine T_loop ?_
          obtain ⟨u0, hl0, hm⟩ := bindS hm
          refine TR_iter2 (m_laws_FnSteps_L0 r25) (fun (s0 : (List Int) × (List Int) × (List Int) × Int × (List Int) × (List Int) × Int) => ⟨[(5, .ow 11), (7, .ptr 18 0 0), (8, .ow 17), (9, .int .i64 r31.2.2.1), (11, .ow 19), (13, .ptr 20 0 0), (14, .ow 21), (15, .ow 22), (16, .int .i64 (1 : Int)), (17, .int .i64 s0.2.2.2.2.2.2)], [(11, .arr ⟨false, true⟩ 2 40 (List.map a_Instr r25)), (12, .arr ⟨false, true⟩ 1 2 (List.map a_i64 s0.1)), (13, .arr ⟨false, true⟩ 1 2 (List.map a_i64 s0.2.1)), (15, .arr ⟨false, true⟩ 1 2 (List.map a_i64 r31.1.Vars)), (16, .arr ⟨false, true⟩ 1 2 (List.map a_i64 r31.1.Cells)), (17, .arr ⟨false, true⟩ 1 2 (List.map a_i64 r31.2.1)), (18, .box [.ow 15, .ow 16]), (19, .arr ⟨false, true⟩ 1 2 (List.map a_i64 r39.1)), (20, .box [.ow 12, .ow 13, .ow 70009, .int .i64 s0.2.2.2.1]), (21, .arr ⟨false, false⟩ 1 2 (List.map a_i64 s0.2.2.2.2.1)), (22, .arr ⟨false, false⟩ 1 2 (List.map a_i64 s0.2.2.2.2.2.1)), (70009, .arr ⟨false, true⟩ 1 2 (List.map a_i64 s0.2.2.1))]⟩) (fun u0 => match u0 with | .inl u0 => .exit 0 | .inr u0 => .ret) (fun u0 => match u0 with | .inl u0 => ⟨[(7, .ptr 18 0 0), (8, .ow 17), (9, .int .i64 r31.2.2.1), (11, .ow 19), (13, .ptr 20 0 0), (14, .ow 21), (15, .ow 22), (16, .int .i64 u0.2.2.2.2.2.2)], [(12, .arr ⟨false, true⟩ 1 2 (List.map a_i64 u0.1)), (13, .arr ⟨false, true⟩ 1 2 (List.map a_i64 u0.2.1)), (15, .arr ⟨false, true⟩ 1 2 (List.map a_i64 r31.1.Vars)), (16, .arr ⟨false, true⟩ 1 2 (List.map a_i64 r31.1.Cells)), (17, .arr ⟨false, true⟩ 1 2 (List.map a_i64 r31.2.1)), (18, .box [.ow 15, .ow 16]), (19, .arr ⟨false, true⟩ 1 2 (List.map a_i64 r39.1)), (20, .box [.ow 12, .ow 13, .ow 70009, .int .i64 u0.2.2.2.1]), (21, .arr ⟨false, false⟩ 1 2 (List.map a_i64 u0.2.2.2.2.1)), (22, .arr ⟨false, false⟩ 1 2 (List.map a_i64 u0.2.2.2.2.2.1)), (70009, .arr ⟨false, true⟩ 1 2 (List.map a_i64 u0.2.2.1))]⟩ | .inr u0 => ⟨[(4, .bool u0)], []⟩) (fun u0 => m_laws_FnSteps_A0 r31 r39 u0 = some out) hl0 hm (fun u0 hm => ?_) (fun hx0 s0 c0 hm hc0 => ?_)
          · rcases u0 with u0 | u0
            · unfold m_laws_FnSteps_A0 at hm
              refine T_join (fun (j0 : Int) => ⟨[(7, .ptr 18 0 0), (8, .ow 17), (9, .int .i64 r31.2.2.1), (11, .ow 19), (13, .ptr 20 0 0), (14, .ow 21), (15, .ow 22), (16, .int .i64 j0)], [(12, .arr ⟨false, true⟩ 1 2 (List.map a_i64 u0.1)), (13, .arr ⟨false, true⟩ 1 2 (List.map a_i64 u0.2.1)), (15, .arr ⟨false, true⟩ 1 2 (List.map a_i64 r31.1.Vars)), (16, .arr ⟨false, true⟩ 1 2 (List.map a_i64 r31.1.Cells)), (17, .arr ⟨false, true⟩ 1 2 (List.map a_i64 r31.2.1)), (18, .box [.ow 15, .ow 16]), (19, .arr ⟨false, true⟩ 1 2 (List.map a_i64 r39.1)), (20, .box [.ow 12, .ow 13, .ow 70009, .int .i64 u0.2.2.2.1]), (21, .arr ⟨false, false⟩ 1 2 (List.map a_i64 u0.2.2.2.2.1)), (22, .arr ⟨false, false⟩ 1 2 (List.map a_i64 u0.2.2.2.2.2.1)), (70009, .arr ⟨false, true⟩ 1 2 (List.map a_i64 u0.2.2.1))]⟩) (fun j0 => m_laws_FnSteps_J0 r31 r39 u0 j0 = some out) (fun j0 hm => ?_) (fun hj0 => ?_)
              · unfold m_laws_FnSteps_J0 at hm
                refine T_seq ?_
                refine T_region ?_
                refine TL_pure rfl rfl rfl rfl (op_move rfl) ?_
                refine TL_pure rfl rfl rfl rfl (op_move rfl) ?_
                refine TL_pure rfl rfl rfl rfl (op_eql rfl rfl) ?_
                refine TL_pure rfl rfl rfl rfl (op_move rfl) ?_
                refine TL_split 122 rfl rfl rfl (fun hq => ?_) (fun hq => ?_)
                · replace hm := condT hq hm
                  refine TL_want rfl rfl ?_
                  refine TL_pure rfl rfl rfl rfl (op_move rfl) ?_
                  refine TL_want rfl rfl ?_
                  refine TL_pure rfl rfl rfl rfl (op_move rfl) ?_
                  refine TL_want rfl rfl ?_
                  obtain ⟨r125, hr125, hm⟩ := bindS hm
                  refine TL_callF (c_laws_r8Same r31.2.1 u0.2.2.2.2.1 r125 hr125) Try.call19 rfl rfl rfl rfl rfl ?_
                  refine TL_pure rfl rfl rfl rfl (op_pick_true rfl rfl) ?_
                  refine TL_pure rfl rfl rfl rfl (op_move rfl) ?_
                  refine TL_split 127 rfl rfl rfl (fun hq => ?_) (fun hq => ?_)
                  · replace hm := condT hq hm
                    refine TL_want rfl rfl ?_
                    refine TL_pure rfl rfl rfl rfl (op_move rfl) ?_
                    refine TL_want rfl rfl ?_
                    refine TL_pure rfl rfl rfl rfl (op_move rfl) ?_
                    refine TL_want rfl rfl ?_
                    obtain ⟨r130, hr130, hm⟩ := bindS hm
                    refine TL_callF (c_laws_r8Same r39.1 u0.2.2.2.2.2.1 r130 hr130) Try.call19 rfl rfl rfl rfl rfl ?_
                    refine TL_pure rfl rfl rfl rfl (op_pick_true rfl rfl) ?_
                    refine TL_pure rfl rfl rfl rfl (op_move rfl) ?_
                    refine TL_split 132 rfl rfl rfl (fun hq => ?_) (fun hq => ?_)
                    · replace hm := condT hq hm
                      refine TL_want rfl rfl ?_
                      refine TL_pure rfl rfl rfl rfl (op_load_agg ag28 sz28 rfl rfl rfl) ?_
                      refine TL_want rfl rfl ?_
                      refine TL_pure rfl rfl rfl rfl (op_fieldAddr fa35_0 rfl rfl) ?_
                      refine TL_want rfl rfl ?_
                      refine TL_pure rfl rfl rfl rfl (op_load_agg ag28 sz28 rfl rfl rfl) ?_
                      refine TL_want rfl rfl ?_
                      obtain ⟨r136, hr136, hm⟩ := bindS hm
                      refine TL_callF (c_laws_r8States r31.1 (State.mk u0.1 u0.2.1) r136 hr136) Try.call20 rfl rfl rfl rfl rfl ?_
                      refine TL_pure rfl rfl rfl rfl (op_pick_true rfl rfl) ?_
                      refine TL_pure rfl rfl rfl rfl (op_assign rfl) ?_
                      refine TL_nil ?_
                      refine T_keepH [4] [] rfl rfl rfl rfl (by rw [hF]; rfl) ?_
                      refine T_ret ?_
                      obtain rfl := someI hm
                      refine ⟨[_], [], ⟨rfl, trivial⟩, ?_, rfl, rfl, rfl, rfl⟩
                      rfl
                    · replace hm := condF hq hm
                      refine TL_pass rfl rfl rfl rfl rfl rfl rfl ?_
                      refine TL_pass rfl rfl rfl rfl rfl rfl rfl ?_
                      refine TL_pass rfl rfl rfl rfl rfl rfl rfl ?_
                      refine TL_pass rfl rfl rfl rfl rfl rfl rfl ?_
                      refine TL_pure rfl rfl rfl rfl (op_pick_false rfl rfl) ?_
                      refine TL_pure rfl rfl rfl rfl (op_assign rfl) ?_
                      refine TL_nil ?_
                      refine T_keepH [4] [] rfl rfl rfl rfl (by rw [hF]; rfl) ?_
                      refine T_ret ?_
                      obtain rfl := someI hm
                      refine ⟨[_], [], ⟨rfl, trivial⟩, ?_, rfl, rfl, rfl, rfl⟩
                      rfl
                  · replace hm := condF hq hm
                    refine TL_pass rfl rfl rfl rfl rfl rfl rfl ?_
                    refine TL_pass rfl rfl rfl rfl rfl rfl rfl ?_
                    refine TL_pass rfl rfl rfl rfl rfl rfl rfl ?_
                    refine TL_pure rfl rfl rfl rfl (op_pick_false rfl rfl) ?_
                    refine TL_pure rfl rfl rfl rfl (op_move rfl) ?_
                    refine TL_pass rfl rfl rfl rfl rfl rfl rfl ?_
                    refine TL_pass rfl rfl rfl rfl rfl rfl rfl ?_
                    refine TL_pass rfl rfl rfl rfl rfl rfl rfl ?_
                    refine TL_pass rfl rfl rfl rfl rfl rfl rfl ?_
                    refine TL_pure rfl rfl rfl rfl (op_pick_false rfl rfl) ?_
                    refine TL_pure rfl rfl rfl rfl (op_assign rfl) ?_
                    refine TL_nil ?_
                    refine T_keepH [4] [] rfl rfl rfl rfl (by rw [hF]; rfl) ?_
                    refine T_ret ?_
                    obtain rfl := someI hm
                    refine ⟨[_], [], ⟨rfl, trivial⟩, ?_, rfl, rfl, rfl, rfl⟩
                    rfl
                · replace hm := condF hq hm
                  refine TL_pass rfl rfl rfl rfl rfl rfl rfl ?_
                  refine TL_pass rfl rfl rfl rfl rfl rfl rfl ?_
                  refine TL_pass rfl rfl rfl rfl rfl rfl rfl ?_
                  refine TL_pure rfl rfl rfl rfl (op_pick_false rfl rfl) ?_
                  refine TL_pure rfl rfl rfl rfl (op_move rfl) ?_
                  refine TL_pass rfl rfl rfl rfl rfl rfl rfl ?_
                  refine TL_pass rfl rfl rfl rfl rfl rfl rfl ?_
                  refine TL_pass rfl rfl rfl rfl rfl rfl rfl ?_
                  refine TL_pure rfl rfl rfl rfl (op_pick_false rfl rfl) ?_
                  refine TL_pure rfl rfl rfl rfl (op_move rfl) ?_
                  refine TL_pass rfl rfl rfl rfl rfl rfl rfl ?_
                  refine TL_pass rfl rfl rfl rfl rfl rfl rfl ?_
                  refine TL_pass rfl rfl rfl rfl rfl rfl rfl ?_
                  refine TL_pass rfl rfl rfl rfl rfl rfl rfl ?_
                  refine TL_pure rfl rfl rfl rfl (op_pick_false rfl rfl) ?_
                  refine TL_pure rfl rfl rfl rfl (op_assign rfl) ?_
                  refine TL_nil ?_
                  refine T_keepH [4] [] rfl rfl rfl rfl (by rw [hF]; rfl) ?_
                  refine T_ret ?_
                  obtain rfl := someI hm
                  refine ⟨[_], [], ⟨rfl, trivial⟩, ?_, rfl, rfl, rfl, rfl⟩
                  rfl
              · refine T_seq ?_
                refine T_region ?_
                refine TL_pure rfl rfl rfl rfl (op_move rfl) ?_
                refine TL_pure rfl rfl rfl rfl (op_eql rfl rfl) ?_
                refine TL_nil ?_
                refine T_cond rfl (fun hq => ?_) (fun hq => ?_)
                · replace hm := condT hq hm
                  refine T_region ?_
                  refine TL_pure rfl rfl rfl rfl (op_assign rfl) ?_
                  refine TL_nil ?_
                  refine T_keepH [7, 8, 9, 11, 13, 14, 15, 16] [12, 13, 15, 16, 17, 18, 19, 20, 21, 22, 70009] rfl rfl rfl rfl (by rw [hF]; rfl) ?_
                  exact hj0 (0 : Int) hm
                · replace hm := condF hq hm
                  refine T_skip ?_
                  refine T_keepH [7, 8, 9, 11, 13, 14, 15, 16] [12, 13, 15, 16, 17, 18, 19, 20, 21, 22, 70009] rfl rfl rfl rfl (by rw [hF]; rfl) ?_
                  exact hj0 u0.2.2.2.2.2.2 hm
            · unfold m_laws_FnSteps_A0 at hm
              obtain rfl := someI hm
              refine ⟨[_], [], ⟨rfl, trivial⟩, ?_, rfl, rfl, rfl, rfl⟩
              rfl
          · unfold m_laws_FnSteps_L0 at hm
            refine T_seq ?_
            refine T_seq ?_
            refine T_region ?_
            refine TL_pure rfl rfl rfl rfl (op_move rfl) ?_
            refine TL_pure rfl rfl rfl rfl (op_lss rfl rfl) ?_
            refine TL_nil ?_
            refine T_cond rfl (fun hq => ?_) (fun hq => ?_)
            · replace hm := condT hq hm
              refine T_skip ?_
              refine T_seq ?_
              refine T_block ?_
              refine T_seq ?_
              refine T_region ?_
              refine TL_pure rfl rfl rfl rfl (op_move rfl) ?_
              refine TL_pure rfl rfl rfl rfl (op_load_agg ag35 sz35 rfl rfl rfl) ?_
              obtain ⟨r68, hr68, hm⟩ := bindS hm
              refine TL_callO [(1000, 33), (1001, 34), (1002, 35)] (c_impl_StepCode r25 (Config.mk (State.mk s0.1 s0.2.1) s0.2.2.1 s0.2.2.2.1) r68 hr68) Try.call17 rfl rfl rfl rfl rfl rfl rfl rfl rfl rfl rfl rfl rfl ?_
              refine TL_pure rfl rfl rfl rfl (op_move rfl) ?_
              refine TL_pure rfl rfl rfl rfl (op_extract rfl rfl) ?_
              refine TL_pure rfl rfl rfl rfl (op_extract rfl rfl) ?_
              refine TL_pure rfl rfl rfl rfl (op_extract rfl rfl) ?_
              refine TL_alloc 36 z35 rfl rfl rfl rfl rfl rfl rfl ?_
              refine TL_store_box sz35 rfl rfl rfl rfl rfl rfl rfl rfl rfl ?_
              refine TL_pure rfl rfl rfl rfl (op_assign rfl) ?_
              refine TL_pure rfl rfl rfl rfl (op_assign rfl) ?_
              refine TL_nil ?_
              refine T_seq ?_
              refine T_seq ?_
              refine T_region ?_
              refine TL_pure rfl rfl rfl rfl (op_move rfl) ?_
              refine TL_pure rfl rfl rfl rfl (op_not rfl) ?_
              refine TL_nil ?_
              refine T_cond rfl (fun hq => ?_) (fun hq => ?_)
              · replace hm := condT hq hm
                refine T_seq ?_
                refine T_region ?_
                refine TL_pure rfl rfl rfl rfl (op_assign rfl) ?_
                refine TL_nil ?_
                refine T_keepH [4] [] rfl rfl rfl rfl (by rw [hF]; rfl) ?_
                refine T_ret ?_
                obtain rfl := someI hm
                have hn := CtlOK_out hc0
                exact hx0 (.inr false) hn
              · replace hm := condF hq hm
                refine T_skip ?_
                refine T_seq ?_
                refine T_seq ?_
                refine T_region ?_
                refine TL_pure rfl rfl rfl rfl (op_move rfl) ?_
                refine TL_pure rfl rfl rfl rfl (op_neq rfl rfl) ?_
                refine TL_nil ?_
                refine T_cond rfl (fun hq => ?_) (fun hq => ?_)
                · replace hm := condT hq hm
                  refine T_seq ?_
                  refine T_region ?_
                  refine TL_pure rfl rfl rfl rfl (op_move rfl) ?_
                  refine TL_pure rfl rfl rfl rfl (op_assign rfl) ?_
                  refine TL_nil ?_
                  refine T_keepH [7, 8, 9, 11, 13, 14, 15, 16] [12, 13, 15, 16, 17, 18, 19, 20, 21, 22, 70009] rfl rfl rfl rfl (by rw [hF]; rfl) ?_
                  refine T_exit ?_
                  obtain rfl := someI hm
                  have hn := CtlOK_out hc0
                  exact hx0 (.inl (s0.1, s0.2.1, s0.2.2.1, s0.2.2.2.1, s0.2.2.2.2.1, s0.2.2.2.2.2.1, r68.2.1)) hn
                · replace hm := condF hq hm
                  refine T_skip ?_
                  refine T_seq ?_
                  refine T_seq ?_
                  refine T_region ?_
                  refine TL_pure rfl rfl rfl rfl (op_fieldAddr fa35_2 rfl rfl) ?_
                  refine TL_pure rfl rfl rfl rfl (op_load_one ag2 rfl rfl) ?_
                  refine TL_pure rfl rfl rfl rfl (op_lss rfl rfl) ?_
                  refine TL_pure rfl rfl rfl rfl (op_move rfl) ?_
                  refine TL_join 6 (fun _ : Unit => ⟨[(5, .ow 11), (7, .ptr 18 0 0), (8, .ow 17), (9, .int .i64 r31.2.2.1), (11, .ow 19), (13, .ptr 20 0 0), (14, .ow 21), (15, .ow 22), (16, .int .i64 (1 : Int)), (17, .int .i64 s0.2.2.2.2.2.2), (18, .ptr 36 0 0), (86, .bool ((decide (s0.2.2.2.1 < (0 : Int))) || (decide ((r25.length : Int) ≤ s0.2.2.2.1))))], [(11, .arr ⟨false, true⟩ 2 40 (List.map a_Instr r25)), (12, .arr ⟨false, true⟩ 1 2 (List.map a_i64 s0.1)), (13, .arr ⟨false, true⟩ 1 2 (List.map a_i64 s0.2.1)), (15, .arr ⟨false, true⟩ 1 2 (List.map a_i64 r31.1.Vars)), (16, .arr ⟨false, true⟩ 1 2 (List.map a_i64 r31.1.Cells)), (17, .arr ⟨false, true⟩ 1 2 (List.map a_i64 r31.2.1)), (18, .box [.ow 15, .ow 16]), (19, .arr ⟨false, true⟩ 1 2 (List.map a_i64 r39.1)), (20, .box [.ow 12, .ow 13, .ow 70009, .int .i64 s0.2.2.2.1]), (21, .arr ⟨false, false⟩ 1 2 (List.map a_i64 s0.2.2.2.2.1)), (22, .arr ⟨false, false⟩ 1 2 (List.map a_i64 s0.2.2.2.2.2.1)), (33, .arr ⟨false, true⟩ 1 2 (List.map a_i64 r68.1.State.Vars)), (34, .arr ⟨false, true⟩ 1 2 (List.map a_i64 r68.1.State.Cells)), (35, .arr ⟨false, true⟩ 1 2 (List.map a_i64 r68.1.Stack)), (36, .box [.ow 33, .ow 34, .ow 35, .int .i64 r68.1.At]), (70009, .arr ⟨false, true⟩ 1 2 (List.map a_i64 s0.2.2.1))]⟩) (fun _ => True) (fun _ _ => ?_) (fun hjj => ?_)
                  · refine TL_pure rfl rfl rfl rfl (op_move rfl) ?_
                    refine TL_split 87 rfl rfl rfl (fun hq => ?_) (fun hq => ?_)
                    · replace hm := condT hq hm
                      refine TL_pass rfl rfl rfl rfl rfl rfl rfl ?_
                      refine TL_pass rfl rfl rfl rfl rfl rfl rfl ?_
                      refine TL_pass rfl rfl rfl rfl rfl rfl rfl ?_
                      refine TL_pass rfl rfl rfl rfl rfl rfl rfl ?_
                      refine TL_pure rfl rfl rfl rfl (op_pick_true rfl rfl) ?_
                      refine TL_nil ?_
                      refine T_cond_true rfl ?_
                      refine T_seq ?_
                      refine T_region ?_
                      refine TL_pure rfl rfl rfl rfl (op_assign rfl) ?_
                      refine TL_nil ?_
                      refine T_keepH [4] [] rfl rfl rfl rfl (by rw [hF]; rfl) ?_
                      refine T_ret ?_
                      obtain rfl := someI hm
                      have hn := CtlOK_out hc0
                      exact hx0 (.inr false) hn
                    · replace hm := condF hq hm
                      refine TL_want rfl rfl ?_
                      refine TL_pure rfl rfl rfl rfl (op_move rfl) ?_
                      refine TL_want rfl rfl ?_
                      refine TL_pure rfl rfl rfl rfl (op_load_agg ag35 sz35 rfl rfl rfl) ?_
                      refine TL_want rfl rfl ?_
                      obtain ⟨r90, hr90, hm⟩ := bindS hm
                      refine TL_callF (c_impl_ValidConfig r25 r68.1 r90 hr90) Try.call18 rfl rfl rfl rfl rfl ?_
                      refine TL_want rfl rfl ?_
                      refine TL_pure rfl rfl rfl rfl (op_not rfl) ?_
                      refine TL_pure rfl rfl rfl rfl (op_pick_false rfl rfl) ?_
                      refine TL_nil ?_
                      refine T_cond rfl (fun hq => ?_) (fun hq => ?_)
                      · replace hm := condT hq hm
                        refine T_seq ?_
                        refine T_region ?_
                        refine TL_pure rfl rfl rfl rfl (op_assign rfl) ?_
                        refine TL_nil ?_
                        refine T_keepH [4] [] rfl rfl rfl rfl (by rw [hF]; rfl) ?_
                        refine T_ret ?_
                        obtain rfl := someI hm
                        have hn := CtlOK_out hc0
                        exact hx0 (.inr false) hn
                      · replace hm := condF hq hm
                        refine T_skip ?_
                        refine T_seq ?_
                        refine T_region ?_
                        refine TL_pure rfl rfl rfl rfl (op_move rfl) ?_
                        refine TL_pure rfl rfl rfl rfl (op_fieldAddr fa35_2 rfl rfl) ?_
                        refine TL_pure rfl rfl rfl rfl (op_load_one ag2 rfl rfl) ?_
                        obtain ⟨x96, hx96, hm⟩ := bindS hm
                        refine TL_pure rfl rfl rfl rfl (op_indexO el26 rfl rfl rfl hx96) ?_
                        refine TL_pure rfl rfl rfl rfl (op_loadT1 ag2 rfl rfl ((getI_spec hx96).2) rfl rfl) ?_
                        refine TL_pure rfl rfl rfl rfl (op_addW rfl rfl) ?_
                        refine TL_pure rfl rfl rfl rfl (op_indexO el26 rfl rfl rfl hx96) ?_
                        refine TL_storeT sz2 rfl rfl ((getI_spec hx96).2) (v' := (w64 (x96 + (1 : Int)))) rfl rfl rfl rfl rfl rfl rfl rfl rfl rfl ?_
                        refine TL_nil ?_
                        refine T_seq ?_
                        refine T_seq ?_
                        refine T_region ?_
                        refine TL_pure rfl rfl rfl rfl (op_move rfl) ?_
                        refine TL_pure rfl rfl rfl rfl (op_fieldAddr fa35_2 rfl rfl) ?_
                        refine TL_pure rfl rfl rfl rfl (op_load_one ag2 rfl rfl) ?_
                        obtain ⟨x103, hx103, hm⟩ := bindS hm
                        refine TL_pure rfl rfl rfl rfl (op_indexO el24 rfl rfl rfl hx103) ?_
                        refine TL_pure rfl rfl rfl rfl (op_fieldAddr fa40_0 rfl rfl) ?_
                        refine TL_pure rfl rfl rfl rfl (op_loadD1 ag2 rfl rfl ((getI_spec hx103).2) rfl rfl rfl rfl) ?_
                        refine TL_pure rfl rfl rfl rfl (op_eql rfl rfl) ?_
                        refine TL_nil ?_
                        refine T_cond rfl (fun hq => ?_) (fun hq => ?_)
                        · replace hm := condT hq hm
                          refine T_region ?_
                          refine TL_pure rfl rfl rfl rfl (op_move rfl) ?_
                          refine TL_pure rfl rfl rfl rfl (op_move rfl) ?_
                          refine TL_pure rfl rfl rfl rfl (op_fieldAddr fa35_2 rfl rfl) ?_
                          refine TL_pure rfl rfl rfl rfl (op_load_one ag2 rfl rfl) ?_
                          refine TL_pure rfl rfl rfl rfl (op_indexO el24 rfl rfl rfl hx103) ?_
                          refine TL_pure rfl rfl rfl rfl (op_fieldAddr fa40_1 rfl rfl) ?_
                          refine TL_pure rfl rfl rfl rfl (op_loadD1 ag2 rfl rfl ((getI_spec hx103).2) rfl rfl rfl rfl) ?_
                          refine TL_buildSlice 37 (es := List.map a_i64 [x103.Arg]) el26 z2 rfl rfl rfl rfl rfl rfl rfl rfl rfl ?_
                          obtain ⟨q115, hq115, hm⟩ := bindS hm
                          refine TL_appendT (f := a_i64) (a := s0.2.2.2.2.1) (b := [x103.Arg]) el26 z2 rfl rfl rfl rfl rfl rfl rfl (capI_spec hq115) rfl rfl rfl rfl rfl ?_
                          refine TL_pure rfl rfl rfl rfl (op_assign rfl) ?_
                          refine TL_nil ?_
                          refine T_region ?_
                          refine TL_pure rfl rfl rfl rfl (op_load_agg ag35 sz35 rfl rfl rfl) ?_
                          refine TL_store_box sz35 rfl rfl rfl rfl rfl rfl rfl rfl rfl ?_
                          refine TL_nil ?_
                          refine T_region ?_
                          refine TL_pure rfl rfl rfl rfl (op_move rfl) ?_
                          refine TL_pure rfl rfl rfl rfl (op_addW rfl rfl) ?_
                          refine TL_pure rfl rfl rfl rfl (op_assign rfl) ?_
                          refine TL_nil ?_
                          refine TR_keepH [5, 7, 8, 9, 11, 13, 14, 15, 16, 17] [11, 15, 16, 17, 18, 19, 20, 21, 22, 33, 34, 35] rfl rfl rfl rfl (by rw [hF]; rfl) ?_
                          refine TR_ren [(11, 11), (15, 15), (16, 16), (17, 17), (18, 18), (19, 19), (20, 20), (21, 21), (22, 22), (33, 12), (34, 13), (35, 70009)] rfl rfl rfl (by rw [hF]; rfl) ?_
                          refine TR_keepH [5, 7, 8, 9, 11, 13, 14, 15, 16, 17] [11, 12, 13, 15, 16, 17, 18, 19, 20, 21, 22, 70009] rfl rfl rfl rfl (by rw [hF]; rfl) ?_
                          obtain rfl := someI hm
                          have hn := CtlOK_next hc0
                          exact hn _ rfl
                        · replace hm := condF hq hm
                          refine T_skip ?_
                          refine T_region ?_
                          refine TL_pure rfl rfl rfl rfl (op_load_agg ag35 sz35 rfl rfl rfl) ?_
                          refine TL_store_box sz35 rfl rfl rfl rfl rfl rfl rfl rfl rfl ?_
                          refine TL_nil ?_
                          refine T_region ?_
                          refine TL_pure rfl rfl rfl rfl (op_move rfl) ?_
                          refine TL_pure rfl rfl rfl rfl (op_addW rfl rfl) ?_
                          refine TL_pure rfl rfl rfl rfl (op_assign rfl) ?_
                          refine TL_nil ?_
                          refine TR_keepH [5, 7, 8, 9, 11, 13, 14, 15, 16, 17] [11, 15, 16, 17, 18, 19, 20, 21, 22, 33, 34, 35] rfl rfl rfl rfl (by rw [hF]; rfl) ?_
                          refine TR_ren [(11, 11), (15, 15), (16, 16), (17, 17), (18, 18), (19, 19), (20, 20), (21, 21), (22, 22), (33, 12), (34, 13), (35, 70009)] rfl rfl rfl (by rw [hF]; rfl) ?_
                          refine TR_keepH [5, 7, 8, 9, 11, 13, 14, 15, 16, 17] [11, 12, 13, 15, 16, 17, 18, 19, 20, 21, 22, 70009] rfl rfl rfl rfl (by rw [hF]; rfl) ?_
                          obtain rfl := someI hm
                          have hn := CtlOK_next hc0
                          exact hn _ rfl
                  · refine TL_split 80 rfl rfl rfl (fun hq => ?_) (fun hq => ?_)
                    · refine TL_pass rfl rfl rfl rfl rfl rfl rfl ?_
                      refine TL_pass rfl rfl rfl rfl rfl rfl rfl ?_
                      refine TL_pass rfl rfl rfl rfl rfl rfl rfl ?_
                      refine TL_pass rfl rfl rfl rfl rfl rfl rfl ?_
                      refine TL_pass rfl rfl rfl rfl rfl rfl rfl ?_
                      refine TL_pure rfl rfl rfl rfl (op_pick_true rfl rfl) ?_
                      refine TL_keepH [5, 7, 8, 9, 11, 13, 14, 15, 16, 17, 18, 86] [11, 12, 13, 15, 16, 17, 18, 19, 20, 21, 22, 33, 34, 35, 36, 70009] rfl rfl rfl rfl (by rw [hF]; rfl) ?_
                      exact TL_cast _ (by first | (rw [hq, Bool.true_or]; done) | (rw [hq]; rfl)) (hjj () trivial)
                    · refine TL_want rfl rfl ?_
                      refine TL_pure rfl rfl rfl rfl (op_fieldAddr fa35_2 rfl rfl) ?_
                      refine TL_want rfl rfl ?_
                      refine TL_pure rfl rfl rfl rfl (op_load_one ag2 rfl rfl) ?_
                      refine TL_want rfl rfl ?_
                      refine TL_pure rfl rfl rfl rfl (op_move rfl) ?_
                      refine TL_want rfl rfl ?_
                      refine TL_pure rfl rfl rfl rfl (op_lenO Try.underlying24 rfl rfl (List.length_map _)) ?_
                      refine TL_want rfl rfl ?_
                      refine TL_pure rfl rfl rfl rfl (op_geq rfl rfl) ?_
                      refine TL_pure rfl rfl rfl rfl (op_pick_false rfl rfl) ?_
                      refine TL_keepH [5, 7, 8, 9, 11, 13, 14, 15, 16, 17, 18, 86] [11, 12, 13, 15, 16, 17, 18, 19, 20, 21, 22, 33, 34, 35, 36, 70009] rfl rfl rfl rfl (by rw [hF]; rfl) ?_
                      exact TL_cast _ (by first | (rw [hq, Bool.false_or]; done) | (rw [hq]; rfl)) (hjj () trivial)
            · replace hm := condF hq hm
              refine T_keepH [7, 8, 9, 11, 13, 14, 15, 16] [12, 13, 15, 16, 17, 18, 19, 20, 21, 22, 70009] rfl rfl rfl rfl (by rw [hF]; rfl) ?_
              refine T_exit ?_
              obtain rfl := someI hm
              have hn := CtlOK_out hc0
              exact hx0 (.inl (s0.1, s0.2.1, s0.2.2.1, s0.2.2.2.1, s0.2.2.2.2.1, s0.2.2.2.2.2.1, (1 : Int))) hn
      · refine TL_split 48 rfl rfl rfl (fun hq => ?_) (fun hq => ?_)
        · refine TL_pass rfl rfl rfl rfl rfl rfl rfl ?_
          refine TL_pass rfl rfl rfl rfl rfl rfl rfl ?_
          refine TL_pass rfl rfl rfl rfl rfl rfl rfl ?_
          refine TL_pass rfl rfl rfl rfl rfl rfl rfl ?_
          refine TL_pass rfl rfl rfl rfl rfl rfl rfl ?_
          refine TL_pure rfl rfl rfl rfl (op_pick_true rfl rfl) ?_
          refine TL_keepH [5, 6, 7, 8, 9, 11, 54] [11, 12, 13, 14, 15, 16, 17, 18, 19] rfl rfl rfl rfl (by rw [hF]; rfl) ?_
          exact TL_cast _ (by first | (rw [hq, Bool.true_or]; done) | (rw [hq]; rfl)) (hjj () trivial)
        · refine TL_want rfl rfl ?_
          refine TL_pure rfl rfl rfl rfl (op_move rfl) ?_
          refine TL_want rfl rfl ?_
          refine TL_pure rfl rfl rfl rfl (op_lenO Try.underlying26 rfl rfl (List.length_map _)) ?_
          refine TL_fact (fun _ _ _ hr => RelP.owLen (id := 19) rfl hr) (fun hlen50 => ?_)
          rw [List.length_map] at hlen50
          refine TL_want rfl rfl ?_
          refine TL_pure rfl rfl rfl rfl (op_move rfl) ?_
          refine TL_want rfl rfl ?_
          refine TL_pure rfl rfl rfl rfl (op_lenO Try.underlying24 rfl rfl (List.length_map _)) ?_
          refine TL_fact (fun _ _ _ hr => RelP.owLen (id := 11) rfl hr) (fun hlen52 => ?_)
          rw [List.length_map] at hlen52
          refine TL_want rfl rfl ?_
          refine TL_pure rfl rfl rfl rfl (op_neq rfl rfl) ?_
          refine TL_pure rfl rfl rfl rfl (op_pick_false rfl rfl) ?_
          refine TL_keepH [5, 6, 7, 8, 9, 11, 54] [11, 12, 13, 14, 15, 16, 17, 18, 19] rfl rfl rfl rfl (by rw [hF]; rfl) ?_
          exact TL_cast _ (by first | (rw [hq, Bool.false_or]; done) | (rw [hq]; rfl)) (hjj () trivial)
    · refine TL_split 44 rfl rfl rfl (fun hq => ?_) (fun hq => ?_)
      · refine TL_pass rfl rfl rfl rfl rfl rfl rfl ?_
        refine TL_pass rfl rfl rfl rfl rfl rfl rfl ?_
        refine TL_pure rfl rfl rfl rfl (op_pick_true rfl rfl) ?_
        refine TL_keepH [5, 6, 7, 8, 9, 11, 47] [11, 12, 13, 14, 15, 16, 17, 18, 19] rfl rfl rfl rfl (by rw [hF]; rfl) ?_
        exact TL_cast _ (by first | (rw [hq, Bool.true_or]; done) | (rw [hq]; rfl)) (hjj () trivial)
      · refine TL_want rfl rfl ?_
        refine TL_pure rfl rfl rfl rfl (op_move rfl) ?_
        refine TL_want rfl rfl ?_
        refine TL_pure rfl rfl rfl rfl (op_not rfl) ?_
        refine TL_pure rfl rfl rfl rfl (op_pick_false rfl rfl) ?_
        refine TL_keepH [5, 6, 7, 8, 9, 11, 47] [11, 12, 13, 14, 15, 16, 17, 18, 19] rfl rfl rfl rfl (by rw [hF]; rfl) ?_
        exact TL_cast _ (by first | (rw [hq, Bool.false_or]; done) | (rw [hq]; rfl)) (hjj () trivial)
end Go.Mod
