import Derived.Test.YtagnekdlhllndaaGf
namespace Go.Mod
open Go Go.AM Go.Proofs
set_option linter.unusedVariables false
set_option linter.unusedSimpArgs false
set_option maxRecDepth 100000
set_option maxHeartbeats 8000000
theorem c_impl_started (p0 : Program) (p1 : State) (p2 : Int) (out : running × Bool) (hm : m_impl_started p0 p1 p2 = some out) : ACall Try.prog 45 [.agg [.sl 2 (List.map a_Term p0.Pre), .sl 8 (List.map a_Stmt p0.Body), .sl 2 (List.map a_Term p0.Post)], .agg [.sl 1 (List.map a_i64 p1.Vars), .sl 1 (List.map a_i64 p1.Cells)], .int .i64 p2] [] (bif out.2 then .tup [.ptr 1000 0 0, .bool true] else .tup [.nilp, .bool false]) (bif out.2 then [(1000, .box [.ow 1001, .ow 1002, .ow 1003, .int .i64 out.1.fuel, .int .i64 out.1.steps, .int .i64 out.1.out]), (1001, .arr ⟨false, true⟩ 1 2 (List.map a_i64 out.1.state.Vars)), (1002, .arr ⟨false, true⟩ 1 2 (List.map a_i64 out.1.state.Cells)), (1003, .arr ⟨false, true⟩ 1 2 (List.map a_i64 out.1.events))] else []) := by
  refine ACall.intro Try.func45 rfl Try.ntmps45 rfl (fun F hF => ?_)
  unfold m_impl_started at hm
  refine T_seq ?_
  refine T_region ?_
  refine TL_box 11 rfl rfl rfl rfl rfl rfl rfl ?_
  refine TL_box 12 rfl rfl rfl rfl rfl rfl rfl ?_
  refine TL_pure rfl rfl rfl rfl (op_assign rfl) ?_
  refine TL_pure rfl rfl rfl rfl (op_assign rfl) ?_
  refine TL_nil ?_
  refine T_seq ?_
  refine T_seq ?_
  refine T_region ?_
  refine TL_pure rfl rfl rfl rfl (op_load_agg ag27 sz27 rfl rfl rfl) ?_
  obtain ⟨r12, hr12, hm⟩ := bindS hm
  refine TL_callF (c_impl_ValidProgram p0 r12 hr12) Try.call19 rfl rfl rfl rfl rfl ?_
  refine TL_pure rfl rfl rfl rfl (op_not rfl) ?_
  refine TL_pure rfl rfl rfl rfl (op_move rfl) ?_
  refine TL_split 14 rfl rfl rfl (fun hq => ?_) (fun hq => ?_)
  · replace hm := condT hq hm
    refine TL_pass rfl rfl rfl rfl rfl rfl rfl ?_
    refine TL_pass rfl rfl rfl rfl rfl rfl rfl ?_
    refine TL_pass rfl rfl rfl rfl rfl rfl rfl ?_
    refine TL_pure rfl rfl rfl rfl (op_pick_true rfl rfl) ?_
    refine TL_pure rfl rfl rfl rfl (op_move rfl) ?_
    refine TL_pass rfl rfl rfl rfl rfl rfl rfl ?_
    refine TL_pass rfl rfl rfl rfl rfl rfl rfl ?_
    refine TL_pass rfl rfl rfl rfl rfl rfl rfl ?_
    refine TL_pure rfl rfl rfl rfl (op_pick_true rfl rfl) ?_
    refine TL_nil ?_
    refine T_cond_true rfl ?_
    refine T_seq ?_
    refine T_region ?_
    refine TL_pure rfl rfl rfl rfl (op_assign rfl) ?_
    refine TL_pure rfl rfl rfl rfl (op_assign rfl) ?_
    refine TL_nil ?_
    refine T_keepH [6, 7] [] rfl rfl rfl rfl (by rw [hF]; rfl) ?_
    refine T_ret ?_
    obtain rfl := someI hm
    refine ⟨[_, _], [], ⟨rfl, rfl, trivial⟩, ?_, rfl, rfl, rfl, rfl⟩
    rfl
  · replace hm := condF hq hm
    refine TL_want rfl rfl ?_
    refine TL_pure rfl rfl rfl rfl (op_load_agg ag31 sz31 rfl rfl rfl) ?_
    refine TL_want rfl rfl ?_
    obtain ⟨r16, hr16, hm⟩ := bindS hm
    refine TL_callF (c_impl_ValidState p1 r16 hr16) Try.call20 rfl rfl rfl rfl rfl ?_
    refine TL_want rfl rfl ?_
    refine TL_pure rfl rfl rfl rfl (op_not rfl) ?_
    refine TL_pure rfl rfl rfl rfl (op_pick_false rfl rfl) ?_
    refine TL_pure rfl rfl rfl rfl (op_move rfl) ?_
    refine TL_split 19 rfl rfl rfl (fun hq => ?_) (fun hq => ?_)
    · replace hm := condT hq hm
      refine TL_pass rfl rfl rfl rfl rfl rfl rfl ?_
      refine TL_pass rfl rfl rfl rfl rfl rfl rfl ?_
      refine TL_pass rfl rfl rfl rfl rfl rfl rfl ?_
      refine TL_pure rfl rfl rfl rfl (op_pick_true rfl rfl) ?_
      refine TL_nil ?_
      refine T_cond_true rfl ?_
      refine T_seq ?_
      refine T_region ?_
      refine TL_pure rfl rfl rfl rfl (op_assign rfl) ?_
      refine TL_pure rfl rfl rfl rfl (op_assign rfl) ?_
      refine TL_nil ?_
      refine T_keepH [6, 7] [] rfl rfl rfl rfl (by rw [hF]; rfl) ?_
      refine T_ret ?_
      obtain rfl := someI hm
      refine ⟨[_, _], [], ⟨rfl, rfl, trivial⟩, ?_, rfl, rfl, rfl, rfl⟩
      rfl
    · replace hm := condF hq hm
      refine TL_want rfl rfl ?_
      refine TL_pure rfl rfl rfl rfl (op_move rfl) ?_
      refine TL_want rfl rfl ?_
      obtain ⟨r21, hr21, hm⟩ := bindS hm
      refine TL_callF (c_impl_within p2 (0 : Int) (2000 : Int) r21 hr21) Try.call84 rfl rfl rfl rfl rfl ?_
      refine TL_want rfl rfl ?_
      refine TL_pure rfl rfl rfl rfl (op_not rfl) ?_
      refine TL_pure rfl rfl rfl rfl (op_pick_false rfl rfl) ?_
      refine TL_nil ?_
      refine T_cond rfl (fun hq => ?_) (fun hq => ?_)
      · replace hm := condT hq hm
        refine T_seq ?_
        refine T_region ?_
        refine TL_pure rfl rfl rfl rfl (op_assign rfl) ?_
        refine TL_pure rfl rfl rfl rfl (op_assign rfl) ?_
        refine TL_nil ?_
        refine T_keepH [6, 7] [] rfl rfl rfl rfl (by rw [hF]; rfl) ?_
        refine T_ret ?_
        obtain rfl := someI hm
        refine ⟨[_, _], [], ⟨rfl, rfl, trivial⟩, ?_, rfl, rfl, rfl, rfl⟩
        rfl
      · replace hm := condF hq hm
        refine T_skip ?_
        refine T_seq ?_
        refine T_region ?_
        refine TL_pure rfl rfl rfl rfl (op_fieldAddr fa27_1 rfl rfl) ?_
        refine TL_pure rfl rfl rfl rfl (op_load_one ag25 rfl rfl) ?_
        obtain ⟨r27, hr27, hm⟩ := bindS hm
        refine TL_callT (c_impl_treeOf p0.Body r27 hr27) Try.call55 rfl rfl rfl rfl rfl ?_
        refine TL_pure rfl rfl rfl rfl (op_move rfl) ?_
        refine TL_pure rfl rfl rfl rfl (op_extract rfl rfl) ?_
        refine TL_pure rfl rfl rfl rfl (op_extract rfl rfl) ?_
        refine TL_pure rfl rfl rfl rfl (op_assign rfl) ?_
        refine TL_pure rfl rfl rfl rfl (op_assign rfl) ?_
        refine TL_nil ?_
        refine T_seq ?_
        refine T_region ?_
        refine TL_pure rfl rfl rfl rfl (op_load_agg ag31 sz31 rfl rfl rfl) ?_
        obtain ⟨r31, hr31, hm⟩ := bindS hm
        refine TL_callO [(1000, 13), (1001, 14)] (c_impl_State_own p1 r31 hr31) Try.call85 rfl rfl rfl rfl rfl rfl rfl rfl rfl rfl rfl rfl rfl ?_
        refine TL_pure rfl rfl rfl rfl (op_move rfl) ?_
        refine TL_pure rfl rfl rfl rfl (op_buildP pl73 z73 rfl rfl rfl rfl rfl) ?_
        refine TL_box 15 rfl rfl rfl rfl rfl rfl rfl ?_
        refine TL_pure rfl rfl rfl rfl (op_assign rfl) ?_
        refine TL_nil ?_
        refine T_seq ?_
        refine T_region ?_
        refine TL_pure rfl rfl rfl rfl (op_move rfl) ?_
        refine TL_pure rfl rfl rfl rfl (op_move rfl) ?_
        refine TL_ownNilBox 15 2 16 ⟨false, true⟩ 2 rfl rfl rfl (sz := 1) rfl rfl rfl rfl ?_
        refine TL_pin 13 (k' := ⟨true, true⟩) (by rw [hF]; rfl) rfl rfl rfl ?_
        refine TL_pin 14 (k' := ⟨true, true⟩) (by rw [hF]; rfl) rfl rfl rfl ?_
        obtain ⟨r37, hr37, hm⟩ := bindS hm
        refine TL_call [(0, 15), (1, 13), (2, 14), (3, 16)] [] [16] (c_impl_running_run 1000 (running.mk r31 ([] : List Int) p2 (0 : Int) (0 : Int)) r27.1 r37 hr37) Try.call86 rfl rfl rfl rfl rfl ⟨rfl, rfl, rfl, rfl, trivial⟩ rfl rfl rfl rfl rfl rfl rfl rfl rfl rfl rfl ?_
        refine TL_nil ?_
        refine T_seq ?_
        refine T_region ?_
        refine TL_pure rfl rfl rfl rfl (op_move rfl) ?_
        refine TL_pure rfl rfl rfl rfl (op_assign rfl) ?_
        refine TL_pure rfl rfl rfl rfl (op_assign rfl) ?_
        refine TL_nil ?_
        refine T_keepH [6, 7] [13, 14, 15, 16] rfl rfl rfl rfl (by rw [hF]; rfl) ?_
        refine T_pin 13 (k' := ⟨false, true⟩) (by rw [hF]; rfl) rfl rfl rfl ?_
        refine T_pin 14 (k' := ⟨false, true⟩) (by rw [hF]; rfl) rfl rfl rfl ?_
        refine T_ren [(13, 1001), (14, 1002), (15, 1000), (16, 1003)] rfl rfl rfl (by rw [hF]; rfl) ?_
        refine T_keepH [6, 7] [1000, 1001, 1002, 1003] rfl rfl rfl rfl (by rw [hF]; rfl) ?_
        refine T_ret ?_
        obtain rfl := someI hm
        refine ⟨[_, _], [1000, 1001, 1002, 1003], ⟨rfl, rfl, trivial⟩, ?_, rfl, rfl, rfl, rfl⟩
        rfl
theorem c_impl_RunProgram (p0 : Program) (p1 : State) (p2 : Int) (out : State × (List Int) × Int × Bool) (hm : m_impl_RunProgram p0 p1 p2 = some out) : ACall Try.prog 13 [.agg [.sl 2 (List.map a_Term p0.Pre), .sl 8 (List.map a_Stmt p0.Body), .sl 2 (List.map a_Term p0.Post)], .agg [.sl 1 (List.map a_i64 p1.Vars), .sl 1 (List.map a_i64 p1.Cells)], .int .i64 p2] [] (.tup [.agg [.ow 1000, .ow 1001], .ow 1002, .int .i64 out.2.2.1, .bool out.2.2.2]) [(1000, .arr ⟨false, true⟩ 1 2 (List.map a_i64 out.1.Vars)), (1001, .arr ⟨false, true⟩ 1 2 (List.map a_i64 out.1.Cells)), (1002, .arr ⟨false, true⟩ 1 2 (List.map a_i64 out.2.1))] := by
  refine ACall.intro Try.func13 rfl Try.ntmps13 rfl (fun F hF => ?_)
  unfold m_impl_RunProgram at hm
  refine T_seq ?_
  refine T_region ?_
  refine TL_box 11 rfl rfl rfl rfl rfl rfl rfl ?_
  refine TL_box 12 rfl rfl rfl rfl rfl rfl rfl ?_
  refine TL_alloc 13 z31 rfl rfl rfl rfl rfl rfl rfl ?_
  refine TL_pure rfl rfl rfl rfl (op_assign rfl) ?_
  refine TL_pure rfl rfl rfl rfl (op_assign rfl) ?_
  refine TL_pure rfl rfl rfl rfl (op_assign rfl) ?_
  refine TL_nil ?_
  refine T_seq ?_
  refine T_region ?_
  refine TL_pure rfl rfl rfl rfl (op_load_agg ag27 sz27 rfl rfl rfl) ?_
  refine TL_pure rfl rfl rfl rfl (op_load_agg ag31 sz31 rfl rfl rfl) ?_
  refine TL_pure rfl rfl rfl rfl (op_move rfl) ?_
  obtain ⟨r16, hr16, hm⟩ := bindS hm
  rcases Bool.eq_false_or_eq_true r16.2 with hq | hq
  · replace hm := condT hq hm
    refine TLE_call [] [(1000, 14), (1001, 15), (1002, 16), (1003, 17)] [] (by have hc := c_impl_started p0 p1 p2 r16 hr16; rw [hq] at hc; exact hc) (fun _ => rfl) Try.call45 rfl rfl rfl rfl rfl trivial rfl rfl rfl rfl rfl rfl rfl rfl rfl rfl rfl ?_
    refine TL_pure rfl rfl rfl rfl (op_move rfl) ?_
    refine TL_pure rfl rfl rfl rfl (op_extract rfl rfl) ?_
    refine TL_pure rfl rfl rfl rfl (op_extract rfl rfl) ?_
    refine TL_pure rfl rfl rfl rfl (op_assign rfl) ?_
    refine TL_pure rfl rfl rfl rfl (op_assign rfl) ?_
    refine TL_nil ?_
    refine T_seq ?_
    refine T_seq ?_
    refine T_region ?_
    refine TL_pure rfl rfl rfl rfl (op_move rfl) ?_
    refine TL_pure rfl rfl rfl rfl (op_not rfl) ?_
    refine TL_nil ?_
    refine T_cond_false rfl ?_
    refine T_skip ?_
    refine T_seq ?_
    refine T_drawZ [12] mix (by kernel_rfl) rfl ?_
    refine TZ_pure 0 (by kernel_rfl) rfl rfl rfl rfl rfl (op_move rfl) ?_
    refine TZ_pure 1 (by kernel_rfl) rfl rfl rfl rfl rfl (op_nilCheck rfl rfl) ?_
    refine TZ_pure 2 (by kernel_rfl) rfl rfl rfl rfl rfl (op_fieldAddr fa73_0 rfl rfl) ?_
    refine TZ_pure 3 (by kernel_rfl) rfl rfl rfl rfl rfl (op_load_agg ag31 sz31 rfl rfl rfl) ?_
    refine TZ_pure 4 (by kernel_rfl) rfl rfl rfl rfl rfl (op_move rfl) ?_
    refine TZ_pure 5 (by kernel_rfl) rfl rfl rfl rfl rfl (op_nilCheck rfl rfl) ?_
    refine TZ_pure 6 (by kernel_rfl) rfl rfl rfl rfl rfl (op_fieldAddr fa73_1 rfl rfl) ?_
    refine TZ_pure 8 (by kernel_rfl) rfl rfl rfl rfl rfl (op_move rfl) ?_
    refine TZ_pure 9 (by kernel_rfl) rfl rfl rfl rfl rfl (op_nilCheck rfl rfl) ?_
    refine TZ_pure 10 (by kernel_rfl) rfl rfl rfl rfl rfl (op_fieldAddr fa73_4 rfl rfl) ?_
    refine TZ_cut 4 [true, true, true, true, true, true, true, true, true, true, true, true, false, false, false, false] ⟨[(0, .agg [.sl 2 (List.map a_Term p0.Pre), .sl 8 (List.map a_Stmt p0.Body), .sl 2 (List.map a_Term p0.Post)]), (1, .agg [.sl 1 (List.map a_i64 p1.Vars), .sl 1 (List.map a_i64 p1.Cells)]), (2, .int .i64 p2), (3, .ptr 11 0 0), (4, .ptr 12 0 0), (6, .ptr 13 0 0), (7, .snil), (8, .int .i64 (0 : Int)), (9, .bool false), (10, .ptr 14 0 0), (11, .bool true), (12, .tup [.ptr 14 0 0, .bool true]), (13, .agg [.sl 2 (List.map a_Term p0.Pre), .sl 8 (List.map a_Stmt p0.Body), .sl 2 (List.map a_Term p0.Post)]), (14, .agg [.sl 1 (List.map a_i64 p1.Vars), .sl 1 (List.map a_i64 p1.Cells)]), (15, .int .i64 p2), (16, .tup [.ptr 14 0 0, .bool true]), (17, .ptr 14 0 0), (18, .bool true), (19, .bool true), (20, .bool false), (22, .ptr 14 0 0), (23, .ptr 14 0 0), (24, .ptr 14 0 0), (25, .agg [.ow 15, .ow 16]), (26, .ptr 14 0 0), (27, .ptr 14 0 0), (28, .ptr 14 0 2), (29, .ow 17), (30, .ptr 14 0 0), (31, .ptr 14 0 0), (32, .ptr 14 0 5), (33, .int .i64 r16.1.out)], [(11, .box [.sl 2 (List.map a_Term p0.Pre), .sl 8 (List.map a_Stmt p0.Body), .sl 2 (List.map a_Term p0.Post)]), (12, .box [.sl 1 (List.map a_i64 p1.Vars), .sl 1 (List.map a_i64 p1.Cells)]), (13, .box [.snil, .snil]), (14, .box [.ow 15, .ow 16, .ow 17, .int .i64 r16.1.fuel, .int .i64 r16.1.steps, .int .i64 r16.1.out]), (15, .arr ⟨false, true⟩ 1 2 (List.map a_i64 r16.1.state.Vars)), (16, .arr ⟨false, true⟩ 1 2 (List.map a_i64 r16.1.state.Cells)), (17, .arr ⟨false, true⟩ 1 2 (List.map a_i64 r16.1.events))]⟩ ?_ (fun hS67_0 => ?_)
    · refine TZ_one 12 (by kernel_rfl) rfl ?_
      refine TL_store_box sz31 rfl rfl rfl rfl rfl rfl rfl rfl rfl ?_
      refine TL_nil ?_
      refine TZ_pure 13 (by kernel_rfl) rfl rfl rfl rfl rfl (op_assign rfl) ?_
      refine TZ_pure 14 (by kernel_rfl) rfl rfl rfl rfl rfl (op_assign rfl) ?_
      refine TZ_pure 15 (by kernel_rfl) rfl rfl rfl rfl rfl (op_assign rfl) ?_
      refine TZ_done (by kernel_rfl) ?_
      refine T_keepH [6, 7, 8, 9] [13, 15, 16, 17] rfl rfl rfl rfl (by rw [hF]; rfl) ?_
      refine T_ren [(13, 13), (15, 1000), (16, 1001), (17, 1002)] rfl rfl rfl (by rw [hF]; rfl) ?_
      refine T_ret ?_
      obtain rfl := someI hm
      refine ⟨[_, _, _, _], [1000, 1001, 1002], ⟨⟨_, _, rfl, rfl, .inr ⟨ag31, _, _, sz31, rfl, rfl⟩⟩, rfl, rfl, rfl, trivial⟩, ?_, rfl, rfl, rfl, rfl⟩
      rfl
    refine TZ_cut 4 [true, true, true, true, true, true, true, true, true, true, true, false, true, false, false, false] ⟨[(0, .agg [.sl 2 (List.map a_Term p0.Pre), .sl 8 (List.map a_Stmt p0.Body), .sl 2 (List.map a_Term p0.Post)]), (1, .agg [.sl 1 (List.map a_i64 p1.Vars), .sl 1 (List.map a_i64 p1.Cells)]), (2, .int .i64 p2), (3, .ptr 11 0 0), (4, .ptr 12 0 0), (6, .ptr 13 0 0), (7, .snil), (8, .int .i64 (0 : Int)), (9, .bool false), (10, .ptr 14 0 0), (11, .bool true), (12, .tup [.ptr 14 0 0, .bool true]), (13, .agg [.sl 2 (List.map a_Term p0.Pre), .sl 8 (List.map a_Stmt p0.Body), .sl 2 (List.map a_Term p0.Post)]), (14, .agg [.sl 1 (List.map a_i64 p1.Vars), .sl 1 (List.map a_i64 p1.Cells)]), (15, .int .i64 p2), (16, .tup [.ptr 14 0 0, .bool true]), (17, .ptr 14 0 0), (18, .bool true), (19, .bool true), (20, .bool false), (22, .ptr 14 0 0), (23, .ptr 14 0 0), (24, .ptr 14 0 0), (25, .agg [.ow 15, .ow 16]), (26, .ptr 14 0 0), (27, .ptr 14 0 0), (28, .ptr 14 0 2), (29, .ow 17), (30, .ptr 14 0 0), (31, .ptr 14 0 0), (32, .ptr 14 0 5)], [(11, .box [.sl 2 (List.map a_Term p0.Pre), .sl 8 (List.map a_Stmt p0.Body), .sl 2 (List.map a_Term p0.Post)]), (12, .box [.sl 1 (List.map a_i64 p1.Vars), .sl 1 (List.map a_i64 p1.Cells)]), (13, .box [.ow 15, .ow 16]), (14, .box [.ow 15, .ow 16, .ow 17, .int .i64 r16.1.fuel, .int .i64 r16.1.steps, .int .i64 r16.1.out]), (15, .arr ⟨false, true⟩ 1 2 (List.map a_i64 r16.1.state.Vars)), (16, .arr ⟨false, true⟩ 1 2 (List.map a_i64 r16.1.state.Cells)), (17, .arr ⟨false, true⟩ 1 2 (List.map a_i64 r16.1.events))]⟩ ?_ (fun hS67_1 => ?_)
    · refine TZ_pure 11 (by kernel_rfl) rfl rfl rfl rfl rfl (op_load_one ag2 rfl rfl) ?_
      refine TZ_pure 13 (by kernel_rfl) rfl rfl rfl rfl rfl (op_assign rfl) ?_
      refine TZ_pure 14 (by kernel_rfl) rfl rfl rfl rfl rfl (op_assign rfl) ?_
      refine TZ_pure 15 (by kernel_rfl) rfl rfl rfl rfl rfl (op_assign rfl) ?_
      refine TZ_done (by kernel_rfl) ?_
      refine T_keepH [6, 7, 8, 9] [13, 15, 16, 17] rfl rfl rfl rfl (by rw [hF]; rfl) ?_
      refine T_ren [(13, 13), (15, 1000), (16, 1001), (17, 1002)] rfl rfl rfl (by rw [hF]; rfl) ?_
      refine T_ret ?_
      obtain rfl := someI hm
      refine ⟨[_, _, _, _], [1000, 1001, 1002], ⟨⟨_, _, rfl, rfl, .inr ⟨ag31, _, _, sz31, rfl, rfl⟩⟩, rfl, rfl, rfl, trivial⟩, ?_, rfl, rfl, rfl, rfl⟩
      rfl
    refine TZ_cut 5 [true, true, true, true, true, true, true, true, true, true, true, false, false, false, false, false] ⟨[(0, .agg [.sl 2 (List.map a_Term p0.Pre), .sl 8 (List.map a_Stmt p0.Body), .sl 2 (List.map a_Term p0.Post)]), (1, .agg [.sl 1 (List.map a_i64 p1.Vars), .sl 1 (List.map a_i64 p1.Cells)]), (2, .int .i64 p2), (3, .ptr 11 0 0), (4, .ptr 12 0 0), (6, .ptr 13 0 0), (7, .snil), (8, .int .i64 (0 : Int)), (9, .bool false), (10, .ptr 14 0 0), (11, .bool true), (12, .tup [.ptr 14 0 0, .bool true]), (13, .agg [.sl 2 (List.map a_Term p0.Pre), .sl 8 (List.map a_Stmt p0.Body), .sl 2 (List.map a_Term p0.Post)]), (14, .agg [.sl 1 (List.map a_i64 p1.Vars), .sl 1 (List.map a_i64 p1.Cells)]), (15, .int .i64 p2), (16, .tup [.ptr 14 0 0, .bool true]), (17, .ptr 14 0 0), (18, .bool true), (19, .bool true), (20, .bool false), (22, .ptr 14 0 0), (23, .ptr 14 0 0), (24, .ptr 14 0 0), (25, .agg [.ow 15, .ow 16]), (26, .ptr 14 0 0), (27, .ptr 14 0 0), (28, .ptr 14 0 2), (29, .ow 17), (30, .ptr 14 0 0), (31, .ptr 14 0 0), (32, .ptr 14 0 5)], [(11, .box [.sl 2 (List.map a_Term p0.Pre), .sl 8 (List.map a_Stmt p0.Body), .sl 2 (List.map a_Term p0.Post)]), (12, .box [.sl 1 (List.map a_i64 p1.Vars), .sl 1 (List.map a_i64 p1.Cells)]), (13, .box [.snil, .snil]), (14, .box [.ow 15, .ow 16, .ow 17, .int .i64 r16.1.fuel, .int .i64 r16.1.steps, .int .i64 r16.1.out]), (15, .arr ⟨false, true⟩ 1 2 (List.map a_i64 r16.1.state.Vars)), (16, .arr ⟨false, true⟩ 1 2 (List.map a_i64 r16.1.state.Cells)), (17, .arr ⟨false, true⟩ 1 2 (List.map a_i64 r16.1.events))]⟩ ?_ (fun hS67_2 => ?_)
    · refine TZ_each [11, 12] (by kernel_rfl) rfl ?_
      refine ⟨?_, ?_⟩
      · refine ⟨_, rfl, ?_⟩
        refine TL_pure rfl rfl rfl rfl (op_load_one ag2 rfl rfl) ?_
        refine TL_nil ?_
        refine TZ_keepH [0, 1, 2, 3, 4, 6, 7, 8, 9, 10, 11, 12, 13, 14, 15, 16, 17, 18, 19, 20, 22, 23, 24, 25, 26, 27, 28, 29, 30, 31, 32, 33] [11, 12, 13, 14, 15, 16, 17] rfl rfl rfl rfl (by rw [hF]; rfl) ?_
        exact hS67_0
      · refine ⟨_, rfl, ?_⟩
        refine TL_store_box sz31 rfl rfl rfl rfl rfl rfl rfl rfl rfl ?_
        refine TL_nil ?_
        refine TZ_keepH [0, 1, 2, 3, 4, 6, 7, 8, 9, 10, 11, 12, 13, 14, 15, 16, 17, 18, 19, 20, 22, 23, 24, 25, 26, 27, 28, 29, 30, 31, 32] [11, 12, 13, 14, 15, 16, 17] rfl rfl rfl rfl (by rw [hF]; rfl) ?_
        exact hS67_1
    refine TZ_cut 4 [true, true, true, true, true, true, true, false, true, true, true, true, true, false, false, false] ⟨[(0, .agg [.sl 2 (List.map a_Term p0.Pre), .sl 8 (List.map a_Stmt p0.Body), .sl 2 (List.map a_Term p0.Post)]), (1, .agg [.sl 1 (List.map a_i64 p1.Vars), .sl 1 (List.map a_i64 p1.Cells)]), (2, .int .i64 p2), (3, .ptr 11 0 0), (4, .ptr 12 0 0), (6, .ptr 13 0 0), (7, .snil), (8, .int .i64 (0 : Int)), (9, .bool false), (10, .ptr 14 0 0), (11, .bool true), (12, .tup [.ptr 14 0 0, .bool true]), (13, .agg [.sl 2 (List.map a_Term p0.Pre), .sl 8 (List.map a_Stmt p0.Body), .sl 2 (List.map a_Term p0.Post)]), (14, .agg [.sl 1 (List.map a_i64 p1.Vars), .sl 1 (List.map a_i64 p1.Cells)]), (15, .int .i64 p2), (16, .tup [.ptr 14 0 0, .bool true]), (17, .ptr 14 0 0), (18, .bool true), (19, .bool true), (20, .bool false), (22, .ptr 14 0 0), (23, .ptr 14 0 0), (24, .ptr 14 0 0), (25, .agg [.ow 15, .ow 16]), (26, .ptr 14 0 0), (27, .ptr 14 0 0), (28, .ptr 14 0 2), (30, .ptr 14 0 0), (31, .ptr 14 0 0), (32, .ptr 14 0 5), (33, .int .i64 r16.1.out)], [(11, .box [.sl 2 (List.map a_Term p0.Pre), .sl 8 (List.map a_Stmt p0.Body), .sl 2 (List.map a_Term p0.Post)]), (12, .box [.sl 1 (List.map a_i64 p1.Vars), .sl 1 (List.map a_i64 p1.Cells)]), (13, .box [.ow 15, .ow 16]), (14, .box [.ow 15, .ow 16, .ow 17, .int .i64 r16.1.fuel, .int .i64 r16.1.steps, .int .i64 r16.1.out]), (15, .arr ⟨false, true⟩ 1 2 (List.map a_i64 r16.1.state.Vars)), (16, .arr ⟨false, true⟩ 1 2 (List.map a_i64 r16.1.state.Cells)), (17, .arr ⟨false, true⟩ 1 2 (List.map a_i64 r16.1.events))]⟩ ?_ (fun hS67_3 => ?_)
    · refine TZ_pure 7 (by kernel_rfl) rfl rfl rfl rfl rfl (op_load_one ag29 rfl rfl) ?_
      refine TZ_pure 13 (by kernel_rfl) rfl rfl rfl rfl rfl (op_assign rfl) ?_
      refine TZ_pure 14 (by kernel_rfl) rfl rfl rfl rfl rfl (op_assign rfl) ?_
      refine TZ_pure 15 (by kernel_rfl) rfl rfl rfl rfl rfl (op_assign rfl) ?_
      refine TZ_done (by kernel_rfl) ?_
      refine T_keepH [6, 7, 8, 9] [13, 15, 16, 17] rfl rfl rfl rfl (by rw [hF]; rfl) ?_
      refine T_ren [(13, 13), (15, 1000), (16, 1001), (17, 1002)] rfl rfl rfl (by rw [hF]; rfl) ?_
      refine T_ret ?_
      obtain rfl := someI hm
      refine ⟨[_, _, _, _], [1000, 1001, 1002], ⟨⟨_, _, rfl, rfl, .inr ⟨ag31, _, _, sz31, rfl, rfl⟩⟩, rfl, rfl, rfl, trivial⟩, ?_, rfl, rfl, rfl, rfl⟩
      rfl
    refine TZ_cut 5 [true, true, true, true, true, true, true, false, true, true, true, true, false, false, false, false] ⟨[(0, .agg [.sl 2 (List.map a_Term p0.Pre), .sl 8 (List.map a_Stmt p0.Body), .sl 2 (List.map a_Term p0.Post)]), (1, .agg [.sl 1 (List.map a_i64 p1.Vars), .sl 1 (List.map a_i64 p1.Cells)]), (2, .int .i64 p2), (3, .ptr 11 0 0), (4, .ptr 12 0 0), (6, .ptr 13 0 0), (7, .snil), (8, .int .i64 (0 : Int)), (9, .bool false), (10, .ptr 14 0 0), (11, .bool true), (12, .tup [.ptr 14 0 0, .bool true]), (13, .agg [.sl 2 (List.map a_Term p0.Pre), .sl 8 (List.map a_Stmt p0.Body), .sl 2 (List.map a_Term p0.Post)]), (14, .agg [.sl 1 (List.map a_i64 p1.Vars), .sl 1 (List.map a_i64 p1.Cells)]), (15, .int .i64 p2), (16, .tup [.ptr 14 0 0, .bool true]), (17, .ptr 14 0 0), (18, .bool true), (19, .bool true), (20, .bool false), (22, .ptr 14 0 0), (23, .ptr 14 0 0), (24, .ptr 14 0 0), (25, .agg [.ow 15, .ow 16]), (26, .ptr 14 0 0), (27, .ptr 14 0 0), (28, .ptr 14 0 2), (30, .ptr 14 0 0), (31, .ptr 14 0 0), (32, .ptr 14 0 5), (33, .int .i64 r16.1.out)], [(11, .box [.sl 2 (List.map a_Term p0.Pre), .sl 8 (List.map a_Stmt p0.Body), .sl 2 (List.map a_Term p0.Post)]), (12, .box [.sl 1 (List.map a_i64 p1.Vars), .sl 1 (List.map a_i64 p1.Cells)]), (13, .box [.snil, .snil]), (14, .box [.ow 15, .ow 16, .ow 17, .int .i64 r16.1.fuel, .int .i64 r16.1.steps, .int .i64 r16.1.out]), (15, .arr ⟨false, true⟩ 1 2 (List.map a_i64 r16.1.state.Vars)), (16, .arr ⟨false, true⟩ 1 2 (List.map a_i64 r16.1.state.Cells)), (17, .arr ⟨false, true⟩ 1 2 (List.map a_i64 r16.1.events))]⟩ ?_ (fun hS67_4 => ?_)
    · refine TZ_each [7, 12] (by kernel_rfl) rfl ?_
      refine ⟨?_, ?_⟩
      · refine ⟨_, rfl, ?_⟩
        refine TL_pure rfl rfl rfl rfl (op_load_one ag29 rfl rfl) ?_
        refine TL_nil ?_
        refine TZ_keepH [0, 1, 2, 3, 4, 6, 7, 8, 9, 10, 11, 12, 13, 14, 15, 16, 17, 18, 19, 20, 22, 23, 24, 25, 26, 27, 28, 29, 30, 31, 32, 33] [11, 12, 13, 14, 15, 16, 17] rfl rfl rfl rfl (by rw [hF]; rfl) ?_
        exact hS67_0
      · refine ⟨_, rfl, ?_⟩
        refine TL_store_box sz31 rfl rfl rfl rfl rfl rfl rfl rfl rfl ?_
        refine TL_nil ?_
        refine TZ_keepH [0, 1, 2, 3, 4, 6, 7, 8, 9, 10, 11, 12, 13, 14, 15, 16, 17, 18, 19, 20, 22, 23, 24, 25, 26, 27, 28, 30, 31, 32, 33] [11, 12, 13, 14, 15, 16, 17] rfl rfl rfl rfl (by rw [hF]; rfl) ?_
        exact hS67_3
    refine TZ_cut 5 [true, true, true, true, true, true, true, false, true, true, true, false, true, false, false, false] ⟨[(0, .agg [.sl 2 (List.map a_Term p0.Pre), .sl 8 (List.map a_Stmt p0.Body), .sl 2 (List.map a_Term p0.Post)]), (1, .agg [.sl 1 (List.map a_i64 p1.Vars), .sl 1 (List.map a_i64 p1.Cells)]), (2, .int .i64 p2), (3, .ptr 11 0 0), (4, .ptr 12 0 0), (6, .ptr 13 0 0), (7, .snil), (8, .int .i64 (0 : Int)), (9, .bool false), (10, .ptr 14 0 0), (11, .bool true), (12, .tup [.ptr 14 0 0, .bool true]), (13, .agg [.sl 2 (List.map a_Term p0.Pre), .sl 8 (List.map a_Stmt p0.Body), .sl 2 (List.map a_Term p0.Post)]), (14, .agg [.sl 1 (List.map a_i64 p1.Vars), .sl 1 (List.map a_i64 p1.Cells)]), (15, .int .i64 p2), (16, .tup [.ptr 14 0 0, .bool true]), (17, .ptr 14 0 0), (18, .bool true), (19, .bool true), (20, .bool false), (22, .ptr 14 0 0), (23, .ptr 14 0 0), (24, .ptr 14 0 0), (25, .agg [.ow 15, .ow 16]), (26, .ptr 14 0 0), (27, .ptr 14 0 0), (28, .ptr 14 0 2), (30, .ptr 14 0 0), (31, .ptr 14 0 0), (32, .ptr 14 0 5)], [(11, .box [.sl 2 (List.map a_Term p0.Pre), .sl 8 (List.map a_Stmt p0.Body), .sl 2 (List.map a_Term p0.Post)]), (12, .box [.sl 1 (List.map a_i64 p1.Vars), .sl 1 (List.map a_i64 p1.Cells)]), (13, .box [.ow 15, .ow 16]), (14, .box [.ow 15, .ow 16, .ow 17, .int .i64 r16.1.fuel, .int .i64 r16.1.steps, .int .i64 r16.1.out]), (15, .arr ⟨false, true⟩ 1 2 (List.map a_i64 r16.1.state.Vars)), (16, .arr ⟨false, true⟩ 1 2 (List.map a_i64 r16.1.state.Cells)), (17, .arr ⟨false, true⟩ 1 2 (List.map a_i64 r16.1.events))]⟩ ?_ (fun hS67_5 => ?_)
    · refine TZ_pure 7 (by kernel_rfl) rfl rfl rfl rfl rfl (op_load_one ag29 rfl rfl) ?_
      refine TZ_pure 11 (by kernel_rfl) rfl rfl rfl rfl rfl (op_load_one ag2 rfl rfl) ?_
      refine TZ_pure 13 (by kernel_rfl) rfl rfl rfl rfl rfl (op_assign rfl) ?_
      refine TZ_pure 14 (by kernel_rfl) rfl rfl rfl rfl rfl (op_assign rfl) ?_
      refine TZ_pure 15 (by kernel_rfl) rfl rfl rfl rfl rfl (op_assign rfl) ?_
      refine TZ_done (by kernel_rfl) ?_
      refine T_keepH [6, 7, 8, 9] [13, 15, 16, 17] rfl rfl rfl rfl (by rw [hF]; rfl) ?_
      refine T_ren [(13, 13), (15, 1000), (16, 1001), (17, 1002)] rfl rfl rfl (by rw [hF]; rfl) ?_
      refine T_ret ?_
      obtain rfl := someI hm
      refine ⟨[_, _, _, _], [1000, 1001, 1002], ⟨⟨_, _, rfl, rfl, .inr ⟨ag31, _, _, sz31, rfl, rfl⟩⟩, rfl, rfl, rfl, trivial⟩, ?_, rfl, rfl, rfl, rfl⟩
      rfl
    refine TZ_each [7, 11, 12] (by kernel_rfl) rfl ?_
    refine ⟨?_, ?_, ?_⟩
    · refine ⟨_, rfl, ?_⟩
      refine TL_pure rfl rfl rfl rfl (op_load_one ag29 rfl rfl) ?_
      refine TL_nil ?_
      refine TZ_keepH [0, 1, 2, 3, 4, 6, 7, 8, 9, 10, 11, 12, 13, 14, 15, 16, 17, 18, 19, 20, 22, 23, 24, 25, 26, 27, 28, 29, 30, 31, 32] [11, 12, 13, 14, 15, 16, 17] rfl rfl rfl rfl (by rw [hF]; rfl) ?_
      exact hS67_2
    · refine ⟨_, rfl, ?_⟩
      refine TL_pure rfl rfl rfl rfl (op_load_one ag2 rfl rfl) ?_
      refine TL_nil ?_
      refine TZ_keepH [0, 1, 2, 3, 4, 6, 7, 8, 9, 10, 11, 12, 13, 14, 15, 16, 17, 18, 19, 20, 22, 23, 24, 25, 26, 27, 28, 30, 31, 32, 33] [11, 12, 13, 14, 15, 16, 17] rfl rfl rfl rfl (by rw [hF]; rfl) ?_
      exact hS67_4
    · refine ⟨_, rfl, ?_⟩
      refine TL_store_box sz31 rfl rfl rfl rfl rfl rfl rfl rfl rfl ?_
      refine TL_nil ?_
      refine TZ_keepH [0, 1, 2, 3, 4, 6, 7, 8, 9, 10, 11, 12, 13, 14, 15, 16, 17, 18, 19, 20, 22, 23, 24, 25, 26, 27, 28, 30, 31, 32] [11, 12, 13, 14, 15, 16, 17] rfl rfl rfl rfl (by rw [hF]; rfl) ?_
      exact hS67_5
  · replace hm := condF hq hm
    refine TLE_call [] [] [] (by have hc := c_impl_started p0 p1 p2 r16 hr16; rw [hq] at hc; exact hc) (fun _ => rfl) Try.call45 rfl rfl rfl rfl rfl trivial rfl rfl rfl rfl rfl rfl rfl rfl rfl rfl rfl ?_
    refine TL_pure rfl rfl rfl rfl (op_move rfl) ?_
    refine TL_pure rfl rfl rfl rfl (op_extract rfl rfl) ?_
    refine TL_pure rfl rfl rfl rfl (op_extract rfl rfl) ?_
    refine TL_pure rfl rfl rfl rfl (op_assign rfl) ?_
    refine TL_pure rfl rfl rfl rfl (op_assign rfl) ?_
    refine TL_nil ?_
    refine T_seq ?_
    refine T_seq ?_
    refine T_region ?_
    refine TL_pure rfl rfl rfl rfl (op_move rfl) ?_
    refine TL_pure rfl rfl rfl rfl (op_not rfl) ?_
    refine TL_nil ?_
    refine T_cond_true rfl ?_
    refine T_seq ?_
    refine T_region ?_
    refine TL_pure rfl rfl rfl rfl (op_buildP pl31 z31 rfl rfl rfl rfl rfl) ?_
    refine TL_store_box sz31 rfl rfl rfl rfl rfl rfl rfl rfl rfl ?_
    refine TL_pure rfl rfl rfl rfl (op_assign rfl) ?_
    refine TL_pure rfl rfl rfl rfl (op_assign rfl) ?_
    refine TL_pure rfl rfl rfl rfl (op_assign rfl) ?_
    refine TL_nil ?_
    refine T_ownNil 7 1348 ⟨false, true⟩ 2 rfl rfl (sz := 1) rfl rfl rfl ?_
    refine T_ownNilBox 13 0 1349 ⟨false, true⟩ 2 rfl rfl rfl (sz := 1) rfl rfl rfl rfl ?_
    refine T_ownNilBox 13 1 1350 ⟨false, true⟩ 2 rfl rfl rfl (sz := 1) rfl rfl rfl rfl ?_
    refine T_keepH [6, 7, 8, 9] [13, 1348, 1349, 1350] rfl rfl rfl rfl (by rw [hF]; rfl) ?_
    refine T_ren [(13, 13), (1348, 1002), (1349, 1000), (1350, 1001)] rfl rfl rfl (by rw [hF]; rfl) ?_
    refine T_keepH [6, 7, 8, 9] [13, 1000, 1001, 1002] rfl rfl rfl rfl (by rw [hF]; rfl) ?_
    refine T_ret ?_
    obtain rfl := someI hm
    refine ⟨[_, _, _, _], [1000, 1001, 1002], ⟨⟨_, _, rfl, rfl, .inr ⟨ag31, _, _, sz31, rfl, rfl⟩⟩, rfl, rfl, rfl, trivial⟩, ?_, rfl, rfl, rfl, rfl⟩
    rfl
theorem c_impl_StepsOf (p0 : Program) (p1 : State) (p2 : Int) (out : Int × Bool) (hm : m_impl_StepsOf p0 p1 p2 = some out) : ACall Try.prog 14 [.agg [.sl 2 (List.map a_Term p0.Pre), .sl 8 (List.map a_Stmt p0.Body), .sl 2 (List.map a_Term p0.Post)], .agg [.sl 1 (List.map a_i64 p1.Vars), .sl 1 (List.map a_i64 p1.Cells)], .int .i64 p2] [] (.tup [.int .i64 out.1, .bool out.2]) [] := by
  refine ACall.intro Try.func14 rfl Try.ntmps14 rfl (fun F hF => ?_)
  unfold m_impl_StepsOf at hm
  refine T_seq ?_
  refine T_region ?_
  refine TL_box 11 rfl rfl rfl rfl rfl rfl rfl ?_
  refine TL_box 12 rfl rfl rfl rfl rfl rfl rfl ?_
  refine TL_pure rfl rfl rfl rfl (op_assign rfl) ?_
  refine TL_pure rfl rfl rfl rfl (op_assign rfl) ?_
  refine TL_nil ?_
  refine T_seq ?_
  refine T_region ?_
  refine TL_pure rfl rfl rfl rfl (op_load_agg ag27 sz27 rfl rfl rfl) ?_
  refine TL_pure rfl rfl rfl rfl (op_load_agg ag31 sz31 rfl rfl rfl) ?_
  refine TL_pure rfl rfl rfl rfl (op_move rfl) ?_
  obtain ⟨r14, hr14, hm⟩ := bindS hm
  rcases Bool.eq_false_or_eq_true r14.2 with hq | hq
  · replace hm := condT hq hm
    refine TLE_call [] [(1000, 13), (1001, 14), (1002, 15), (1003, 16)] [] (by have hc := c_impl_started p0 p1 p2 r14 hr14; rw [hq] at hc; exact hc) (fun _ => rfl) Try.call45 rfl rfl rfl rfl rfl trivial rfl rfl rfl rfl rfl rfl rfl rfl rfl rfl rfl ?_
    refine TL_pure rfl rfl rfl rfl (op_move rfl) ?_
    refine TL_pure rfl rfl rfl rfl (op_extract rfl rfl) ?_
    refine TL_pure rfl rfl rfl rfl (op_extract rfl rfl) ?_
    refine TL_pure rfl rfl rfl rfl (op_assign rfl) ?_
    refine TL_pure rfl rfl rfl rfl (op_assign rfl) ?_
    refine TL_nil ?_
    refine T_seq ?_
    refine T_seq ?_
    refine T_region ?_
    refine TL_pure rfl rfl rfl rfl (op_move rfl) ?_
    refine TL_pure rfl rfl rfl rfl (op_not rfl) ?_
    refine TL_nil ?_
    refine T_cond_false rfl ?_
    refine T_skip ?_
    refine T_seq ?_
    refine T_region ?_
    refine TL_pure rfl rfl rfl rfl (op_move rfl) ?_
    refine TL_pure rfl rfl rfl rfl (op_nilCheck rfl rfl) ?_
    refine TL_pure rfl rfl rfl rfl (op_fieldAddr fa73_3 rfl rfl) ?_
    refine TL_pure rfl rfl rfl rfl (op_load_one ag2 rfl rfl) ?_
    refine TL_pure rfl rfl rfl rfl (op_assign rfl) ?_
    refine TL_pure rfl rfl rfl rfl (op_assign rfl) ?_
    refine TL_nil ?_
    refine T_keepH [6, 7] [] rfl rfl rfl rfl (by rw [hF]; rfl) ?_
    refine T_ret ?_
    obtain rfl := someI hm
    refine ⟨[_, _], [], ⟨rfl, rfl, trivial⟩, ?_, rfl, rfl, rfl, rfl⟩
    rfl
  · replace hm := condF hq hm
    refine TLE_call [] [] [] (by have hc := c_impl_started p0 p1 p2 r14 hr14; rw [hq] at hc; exact hc) (fun _ => rfl) Try.call45 rfl rfl rfl rfl rfl trivial rfl rfl rfl rfl rfl rfl rfl rfl rfl rfl rfl ?_
    refine TL_pure rfl rfl rfl rfl (op_move rfl) ?_
    refine TL_pure rfl rfl rfl rfl (op_extract rfl rfl) ?_
    refine TL_pure rfl rfl rfl rfl (op_extract rfl rfl) ?_
    refine TL_pure rfl rfl rfl rfl (op_assign rfl) ?_
    refine TL_pure rfl rfl rfl rfl (op_assign rfl) ?_
    refine TL_nil ?_
    refine T_seq ?_
    refine T_seq ?_
    refine T_region ?_
    refine TL_pure rfl rfl rfl rfl (op_move rfl) ?_
    refine TL_pure rfl rfl rfl rfl (op_not rfl) ?_
    refine TL_nil ?_
    refine T_cond_true rfl ?_
    refine T_seq ?_
    refine T_region ?_
    refine TL_pure rfl rfl rfl rfl (op_assign rfl) ?_
    refine TL_pure rfl rfl rfl rfl (op_assign rfl) ?_
    refine TL_nil ?_
    refine T_keepH [6, 7] [] rfl rfl rfl rfl (by rw [hF]; rfl) ?_
    refine T_ret ?_
    obtain rfl := someI hm
    refine ⟨[_, _], [], ⟨rfl, rfl, trivial⟩, ?_, rfl, rfl, rfl, rfl⟩
    rfl
theorem c_laws_r8Same (p0 : List Int) (p1 : List Int) (out : Bool) (hm : m_laws_r8Same p0 p1 = some out) : ACall Try.prog 16 [.sl 1 (List.map a_i64 p0), .sl 1 (List.map a_i64 p1)] [] (.bool out) [] := by
  refine ACall.intro Try.func16 rfl Try.ntmps16 rfl (fun F hF => ?_)
  unfold m_laws_r8Same at hm
  refine T_seq ?_
  refine T_region ?_
  refine TL_pure rfl rfl rfl rfl (op_assign rfl) ?_
  refine TL_nil ?_
  refine T_seq ?_
  refine T_seq ?_
  refine T_region ?_
  refine TL_pure rfl rfl rfl rfl (op_move rfl) ?_
  refine TL_pure rfl rfl rfl rfl (op_lenT Try.underlying29 rfl (List.length_map _)) ?_
  refine TL_fact (fun _ _ _ hr => RelP.slLen (i := 6) rfl hr) (fun hlen7 => ?_)
  rw [List.length_map] at hlen7
  refine TL_pure rfl rfl rfl rfl (op_move rfl) ?_
  refine TL_pure rfl rfl rfl rfl (op_lenT Try.underlying29 rfl (List.length_map _)) ?_
  refine TL_fact (fun _ _ _ hr => RelP.slLen (i := 8) rfl hr) (fun hlen9 => ?_)
  rw [List.length_map] at hlen9
  refine TL_pure rfl rfl rfl rfl (op_neq rfl rfl) ?_
  refine TL_nil ?_
  refine T_cond rfl (fun hq => ?_) (fun hq => ?_)
  · replace hm := condT hq hm
    refine T_seq ?_
    refine T_region ?_
    refine TL_pure rfl rfl rfl rfl (op_assign rfl) ?_
    refine TL_nil ?_
    refine T_keepH [4] [] rfl rfl rfl rfl (by rw [hF]; rfl) ?_
    refine T_ret ?_
    obtain rfl := someI hm
    refine ⟨[_], [], ⟨rfl, trivial⟩, ?_, rfl, rfl, rfl, rfl⟩
    rfl
  · replace hm := condF hq hm
    refine T_skip ?_
    refine T_seq ?_
    refine T_seq ?_
    refine T_region ?_
    refine TL_pure rfl rfl rfl rfl (op_assign rfl) ?_
    refine TL_nil ?_
    refine T_block ?_
    refine T_keepH [0, 1, 5] [] rfl rfl rfl rfl (by rw [hF]; rfl) ?_
    refine T_loop ?_
    obtain ⟨u0, hl0, hm⟩ := bindS hm
    refine TR_iter2 (m_laws_r8Same_L0 p0 p1) (fun (s0 : Int) => ⟨[(0, .sl 1 (List.map a_i64 p0)), (1, .sl 1 (List.map a_i64 p1)), (5, .int .i64 s0)], []⟩) (fun u0 => match u0 with | .inl u0 => .exit 0 | .inr u0 => .ret) (fun u0 => match u0 with | .inl u0 => ⟨[], []⟩ | .inr u0 => ⟨[(4, .bool u0)], []⟩) (fun u0 => m_laws_r8Same_A0 u0 = some out) hl0 hm (fun u0 hm => ?_) (fun hx0 s0 c0 hm hc0 => ?_)
    · rcases u0 with u0 | u0
      · unfold m_laws_r8Same_A0 at hm
        refine T_seq ?_
        refine T_region ?_
        refine TL_pure rfl rfl rfl rfl (op_assign rfl) ?_
        refine TL_nil ?_
        refine T_keepH [4] [] rfl rfl rfl rfl (by rw [hF]; rfl) ?_
        refine T_ret ?_
        obtain rfl := someI hm
        refine ⟨[_], [], ⟨rfl, trivial⟩, ?_, rfl, rfl, rfl, rfl⟩
        rfl
      · unfold m_laws_r8Same_A0 at hm
        obtain rfl := someI hm
        refine ⟨[_], [], ⟨rfl, trivial⟩, ?_, rfl, rfl, rfl, rfl⟩
        rfl
    · unfold m_laws_r8Same_L0 at hm
      refine T_seq ?_
      refine T_seq ?_
      refine T_region ?_
      refine TL_pure rfl rfl rfl rfl (op_move rfl) ?_
      refine TL_pure rfl rfl rfl rfl (op_move rfl) ?_
      refine TL_pure rfl rfl rfl rfl (op_lenT Try.underlying29 rfl (List.length_map _)) ?_
      refine TL_pure rfl rfl rfl rfl (op_lss rfl rfl) ?_
      refine TL_nil ?_
      refine T_cond rfl (fun hq => ?_) (fun hq => ?_)
      · replace hm := condT hq hm
        refine T_skip ?_
        refine T_seq ?_
        refine T_block ?_
        refine T_seq ?_
        refine T_drawZ [] mix (by kernel_rfl) rfl ?_
        obtain ⟨x19, hx19, hm⟩ := bindS hm
        obtain ⟨x23, hx23, hm⟩ := bindS hm
        refine TZ_pure 0 (by kernel_rfl) rfl rfl rfl rfl rfl (op_move rfl) ?_
        refine TZ_pure 1 (by kernel_rfl) rfl rfl rfl rfl rfl (op_move rfl) ?_
        refine TZ_pure 2 (by kernel_rfl) rfl rfl rfl rfl rfl (op_indexT el29 rfl rfl hx19 rfl) ?_
        refine TZ_pure 3 (by kernel_rfl) rfl rfl rfl rfl rfl (op_load_one ag2 rfl rfl) ?_
        refine TZ_pure 4 (by kernel_rfl) rfl rfl rfl rfl rfl (op_move rfl) ?_
        refine TZ_pure 5 (by kernel_rfl) rfl rfl rfl rfl rfl (op_move rfl) ?_
        refine TZ_pure 6 (by kernel_rfl) rfl rfl rfl rfl rfl (op_indexT el29 rfl rfl hx23 rfl) ?_
        refine TZ_pure 7 (by kernel_rfl) rfl rfl rfl rfl rfl (op_load_one ag2 rfl rfl) ?_
        refine TZ_pure 8 (by kernel_rfl) rfl rfl rfl rfl rfl (op_neq rfl rfl) ?_
        refine TZ_done (by kernel_rfl) ?_
        refine T_cond rfl (fun hq => ?_) (fun hq => ?_)
        · replace hm := condT hq hm
          refine T_seq ?_
          refine T_region ?_
          refine TL_pure rfl rfl rfl rfl (op_assign rfl) ?_
          refine TL_nil ?_
          refine T_keepH [4] [] rfl rfl rfl rfl (by rw [hF]; rfl) ?_
          refine T_ret ?_
          obtain rfl := someI hm
          have hn := CtlOK_out hc0
          exact hx0 (.inr false) hn
        · replace hm := condF hq hm
          refine T_skip ?_
          refine T_region ?_
          refine TL_pure rfl rfl rfl rfl (op_move rfl) ?_
          refine TL_pure rfl rfl rfl rfl (op_addW rfl rfl) ?_
          refine TL_pure rfl rfl rfl rfl (op_assign rfl) ?_
          refine TL_nil ?_
          refine TR_keepH [0, 1, 5] [] rfl rfl rfl rfl (by rw [hF]; rfl) ?_
          obtain rfl := someI hm
          have hn := CtlOK_next hc0
          exact hn _ rfl
      · replace hm := condF hq hm
        refine T_keepH [] [] rfl rfl rfl rfl (by rw [hF]; rfl) ?_
        refine T_exit ?_
        obtain rfl := someI hm
        have hn := CtlOK_out hc0
        exact hx0 (.inl ()) hn
theorem c_laws_r8States (p0 : State) (p1 : State) (out : Bool) (hm : m_laws_r8States p0 p1 = some out) : ACall Try.prog 17 [.agg [.sl 1 (List.map a_i64 p0.Vars), .sl 1 (List.map a_i64 p0.Cells)], .agg [.sl 1 (List.map a_i64 p1.Vars), .sl 1 (List.map a_i64 p1.Cells)]] [] (.bool out) [] := by
  refine ACall.intro Try.func17 rfl Try.ntmps17 rfl (fun F hF => ?_)
  unfold m_laws_r8States at hm
  refine T_seq ?_
  refine T_region ?_
  refine TL_box 11 rfl rfl rfl rfl rfl rfl rfl ?_
  refine TL_box 12 rfl rfl rfl rfl rfl rfl rfl ?_
  refine TL_pure rfl rfl rfl rfl (op_assign rfl) ?_
  refine TL_nil ?_
  refine T_seq ?_
  refine T_region ?_
  refine TL_pure rfl rfl rfl rfl (op_fieldAddr fa31_0 rfl rfl) ?_
  refine TL_pure rfl rfl rfl rfl (op_load_one ag29 rfl rfl) ?_
  refine TL_pure rfl rfl rfl rfl (op_fieldAddr fa31_0 rfl rfl) ?_
  refine TL_pure rfl rfl rfl rfl (op_load_one ag29 rfl rfl) ?_
  obtain ⟨r9, hr9, hm⟩ := bindS hm
  refine TL_callF (c_laws_r8Same p0.Vars p1.Vars r9 hr9) Try.call16 rfl rfl rfl rfl rfl ?_
  refine TL_pure rfl rfl rfl rfl (op_move rfl) ?_
  refine TL_split 10 rfl rfl rfl (fun hq => ?_) (fun hq => ?_)
  · replace hm := condT hq hm
    refine TL_want rfl rfl ?_
    refine TL_pure rfl rfl rfl rfl (op_fieldAddr fa31_1 rfl rfl) ?_
    refine TL_want rfl rfl ?_
    refine TL_pure rfl rfl rfl rfl (op_load_one ag29 rfl rfl) ?_
    refine TL_want rfl rfl ?_
    refine TL_pure rfl rfl rfl rfl (op_fieldAddr fa31_1 rfl rfl) ?_
    refine TL_want rfl rfl ?_
    refine TL_pure rfl rfl rfl rfl (op_load_one ag29 rfl rfl) ?_
    refine TL_want rfl rfl ?_
    obtain ⟨r15, hr15, hm⟩ := bindS hm
    refine TL_callF (c_laws_r8Same p0.Cells p1.Cells r15 hr15) Try.call16 rfl rfl rfl rfl rfl ?_
    refine TL_pure rfl rfl rfl rfl (op_pick_true rfl rfl) ?_
    refine TL_pure rfl rfl rfl rfl (op_assign rfl) ?_
    refine TL_nil ?_
    refine T_keepH [4] [] rfl rfl rfl rfl (by rw [hF]; rfl) ?_
    refine T_ret ?_
    obtain rfl := someI hm
    refine ⟨[_], [], ⟨rfl, trivial⟩, ?_, rfl, rfl, rfl, rfl⟩
    rfl
  · replace hm := condF hq hm
    refine TL_pass rfl rfl rfl rfl rfl rfl rfl ?_
    refine TL_pass rfl rfl rfl rfl rfl rfl rfl ?_
    refine TL_pass rfl rfl rfl rfl rfl rfl rfl ?_
    refine TL_pass rfl rfl rfl rfl rfl rfl rfl ?_
    refine TL_pass rfl rfl rfl rfl rfl rfl rfl ?_
    refine TL_pure rfl rfl rfl rfl (op_pick_false rfl rfl) ?_
    refine TL_pure rfl rfl rfl rfl (op_assign rfl) ?_
    refine TL_nil ?_
    refine T_keepH [4] [] rfl rfl rfl rfl (by rw [hF]; rfl) ?_
    refine T_ret ?_
    obtain rfl := someI hm
    refine ⟨[_], [], ⟨rfl, trivial⟩, ?_, rfl, rfl, rfl, rfl⟩
    rfl
theorem c_laws_FnJoinedRuns (p0 : List Int) (p1 : List Int) (out : Bool) (hm : m_laws_FnJoinedRuns p0 p1 = some out) : ACall Try.prog 4 [.sl 1 (List.map a_u8 p0), .sl 1 (List.map a_u8 p1)] [] (.bool out) [] := by
  refine ACall.intro Try.func4 rfl Try.ntmps4 rfl (fun F hF => ?_)
  unfold m_laws_FnJoinedRuns at hm
  refine T_seq ?_
  refine T_region ?_
  refine TL_pure rfl rfl rfl rfl (op_assign rfl) ?_
  refine TL_nil ?_
  refine T_seq ?_
  refine T_seq ?_
  refine T_region ?_
  refine TL_pure rfl rfl rfl rfl (op_move rfl) ?_
  refine TL_pure rfl rfl rfl rfl (op_move rfl) ?_
  obtain ⟨r34, hr34, hm⟩ := bindS hm
  refine TL_callF (c_laws_r8Long p0 p1 r34 hr34) Try.call10 rfl rfl rfl rfl rfl ?_
  refine TL_nil ?_
  refine T_cond rfl (fun hq => ?_) (fun hq => ?_)
  · replace hm := condT hq hm
    refine T_seq ?_
    refine T_region ?_
    refine TL_pure rfl rfl rfl rfl (op_assign rfl) ?_
    refine TL_nil ?_
    refine T_keepH [4] [] rfl rfl rfl rfl (by rw [hF]; rfl) ?_
    refine T_ret ?_
    obtain rfl := someI hm
    refine ⟨[_], [], ⟨rfl, trivial⟩, ?_, rfl, rfl, rfl, rfl⟩
    rfl
  · replace hm := condF hq hm
    refine T_skip ?_
    refine T_seq ?_
    refine T_region ?_
    refine TL_pure rfl rfl rfl rfl (op_move rfl) ?_
    obtain ⟨r36, hr36, hm⟩ := bindS hm
    refine TL_callT (c_spec_R8Program p0 r36 hr36) Try.call11 rfl rfl rfl rfl rfl ?_
    refine TL_alloc 11 z27 rfl rfl rfl rfl rfl rfl rfl ?_
    refine TL_store_box sz27 rfl rfl rfl rfl rfl rfl rfl rfl rfl ?_
    refine TL_nil ?_
    refine T_seq ?_
    refine T_region ?_
    refine TL_pure rfl rfl rfl rfl (op_move rfl) ?_
    obtain ⟨r38, hr38, hm⟩ := bindS hm
    refine TL_callT (c_spec_R8Program p1 r38 hr38) Try.call11 rfl rfl rfl rfl rfl ?_
    refine TL_alloc 12 z27 rfl rfl rfl rfl rfl rfl rfl ?_
    refine TL_store_box sz27 rfl rfl rfl rfl rfl rfl rfl rfl rfl ?_
    refine TL_nil ?_
    refine T_seq ?_
    refine T_region ?_
    refine TL_pure rfl rfl rfl rfl (op_move rfl) ?_
    obtain ⟨r40, hr40, hm⟩ := bindS hm
    refine TL_callO [(1000, 13), (1001, 14)] (c_spec_R8State p1 r40 hr40) Try.call12 rfl rfl rfl rfl rfl rfl rfl rfl rfl rfl rfl rfl rfl ?_
    refine TL_alloc 15 z31 rfl rfl rfl rfl rfl rfl rfl ?_
    refine TL_store_box sz31 rfl rfl rfl rfl rfl rfl rfl rfl rfl ?_
    refine TL_nil ?_
    refine T_seq ?_
    refine T_region ?_
    refine TL_pure rfl rfl rfl rfl (op_load_agg ag27 sz27 rfl rfl rfl) ?_
    refine TL_pure rfl rfl rfl rfl (op_load_agg ag27 sz27 rfl rfl rfl) ?_
    obtain ⟨r44, hr44, hm⟩ := bindS hm
    refine TL_callO [(1000, 16), (1001, 17), (1002, 18)] (c_impl_JoinPrograms r36 r38 r44 hr44) Try.call18 rfl rfl rfl rfl rfl rfl rfl rfl rfl rfl rfl rfl rfl ?_
    refine TL_pure rfl rfl rfl rfl (op_move rfl) ?_
    refine TL_pure rfl rfl rfl rfl (op_extract rfl rfl) ?_
    refine TL_pure rfl rfl rfl rfl (op_extract rfl rfl) ?_
    refine TL_alloc 19 z27 rfl rfl rfl rfl rfl rfl rfl ?_
    refine TL_store_box sz27 rfl rfl rfl rfl rfl rfl rfl rfl rfl ?_
    refine TL_pure rfl rfl rfl rfl (op_assign rfl) ?_
    refine TL_nil ?_
    refine T_seq ?_
    refine T_seq ?_
    refine T_region ?_
    refine TL_pure rfl rfl rfl rfl (op_move rfl) ?_
    refine TL_pure rfl rfl rfl rfl (op_not rfl) ?_
    refine TL_nil ?_
    refine T_cond rfl (fun hq => ?_) (fun hq => ?_)
    · replace hm := condT hq hm
      refine T_seq ?_
      refine T_region ?_
      refine TL_pure rfl rfl rfl rfl (op_fieldAddr fa27_1 rfl rfl) ?_
      refine TL_pure rfl rfl rfl rfl (op_load_one ag25 rfl rfl) ?_
      refine TL_pure rfl rfl rfl rfl (op_lenT Try.underlying25 rfl (List.length_map _)) ?_
      refine TL_fact (fun _ _ _ hr => RelP.slLen (i := 50) rfl hr) (fun hlen51 => ?_)
      rw [List.length_map] at hlen51
      refine TL_pure rfl rfl rfl rfl (op_fieldAddr fa27_1 rfl rfl) ?_
      refine TL_pure rfl rfl rfl rfl (op_load_one ag25 rfl rfl) ?_
      refine TL_pure rfl rfl rfl rfl (op_lenT Try.underlying25 rfl (List.length_map _)) ?_
      refine TL_fact (fun _ _ _ hr => RelP.slLen (i := 53) rfl hr) (fun hlen54 => ?_)
      rw [List.length_map] at hlen54
      refine TL_pure rfl rfl rfl rfl (op_addW rfl rfl) ?_
      refine TL_pure rfl rfl rfl rfl (op_addW rfl rfl) ?_
      refine TL_pure rfl rfl rfl rfl (op_gtr rfl rfl) ?_
      refine TL_pure rfl rfl rfl rfl (op_move rfl) ?_
      refine TL_split 58 rfl rfl rfl (fun hq => ?_) (fun hq => ?_)
      · replace hm := condT hq hm
        refine TL_want rfl rfl ?_
        refine TL_pure rfl rfl rfl rfl (op_load_agg ag27 sz27 rfl rfl rfl) ?_
        refine TL_want rfl rfl ?_
        obtain ⟨r60, hr60, hm⟩ := bindS hm
        refine TL_callF (c_impl_ValidProgram r36 r60 hr60) Try.call19 rfl rfl rfl rfl rfl ?_
        refine TL_pure rfl rfl rfl rfl (op_pick_true rfl rfl) ?_
        refine TL_pure rfl rfl rfl rfl (op_assign rfl) ?_
        refine TL_nil ?_
        refine T_keepH [4] [] rfl rfl rfl rfl (by rw [hF]; rfl) ?_
        refine T_ret ?_
        obtain rfl := someI hm
        refine ⟨[_], [], ⟨rfl, trivial⟩, ?_, rfl, rfl, rfl, rfl⟩
        rfl
      · replace hm := condF hq hm
        refine TL_pass rfl rfl rfl rfl rfl rfl rfl ?_
        refine TL_pass rfl rfl rfl rfl rfl rfl rfl ?_
        refine TL_pure rfl rfl rfl rfl (op_pick_false rfl rfl) ?_
        refine TL_pure rfl rfl rfl rfl (op_assign rfl) ?_
        refine TL_nil ?_
        refine T_keepH [4] [] rfl rfl rfl rfl (by rw [hF]; rfl) ?_
        refine T_ret ?_
        obtain rfl := someI hm
        refine ⟨[_], [], ⟨rfl, trivial⟩, ?_, rfl, rfl, rfl, rfl⟩
        rfl
    · replace hm := condF hq hm
      refine T_skip ?_
      refine T_seq ?_
      refine T_region ?_
      refine TL_pure rfl rfl rfl rfl (op_load_agg ag27 sz27 rfl rfl rfl) ?_
      refine TL_pure rfl rfl rfl rfl (op_load_agg ag31 sz31 rfl rfl rfl) ?_
      obtain ⟨r65, hr65, hm⟩ := bindS hm
      refine TL_callO [(1000, 20), (1001, 21), (1002, 22)] (c_impl_RunProgram r36 r40 (400 : Int) r65 hr65) Try.call13 rfl rfl rfl rfl rfl rfl rfl rfl rfl rfl rfl rfl rfl ?_
      refine TL_pure rfl rfl rfl rfl (op_move rfl) ?_
      refine TL_pure rfl rfl rfl rfl (op_extract rfl rfl) ?_
      refine TL_pure rfl rfl rfl rfl (op_extract rfl rfl) ?_
      refine TL_pure rfl rfl rfl rfl (op_extract rfl rfl) ?_
      refine TL_pure rfl rfl rfl rfl (op_extract rfl rfl) ?_
      refine TL_alloc 23 z31 rfl rfl rfl rfl rfl rfl rfl ?_
      refine TL_store_box sz31 rfl rfl rfl rfl rfl rfl rfl rfl rfl ?_
      refine TL_pure rfl rfl rfl rfl (op_assign rfl) ?_
      refine TL_pure rfl rfl rfl rfl (op_assign rfl) ?_
      refine TL_pure rfl rfl rfl rfl (op_assign rfl) ?_
      refine TL_nil ?_
      refine T_seq ?_
      refine T_region ?_
      refine TL_pure rfl rfl rfl rfl (op_load_agg ag27 sz27 rfl rfl rfl) ?_
      refine TL_pure rfl rfl rfl rfl (op_load_agg ag31 sz31 rfl rfl rfl) ?_
      obtain ⟨r73, hr73, hm⟩ := bindS hm
      refine TL_callF (c_impl_StepsOf r36 r40 (400 : Int) r73 hr73) Try.call14 rfl rfl rfl rfl rfl ?_
      refine TL_pure rfl rfl rfl rfl (op_move rfl) ?_
      refine TL_pure rfl rfl rfl rfl (op_extract rfl rfl) ?_
      refine TL_pure rfl rfl rfl rfl (op_extract rfl rfl) ?_
      refine TL_pure rfl rfl rfl rfl (op_assign rfl) ?_
      refine TL_pure rfl rfl rfl rfl (op_assign rfl) ?_
      refine TL_nil ?_
      refine T_seq ?_
      refine T_seq ?_
      refine T_region ?_
      refine TL_pure rfl rfl rfl rfl (op_move rfl) ?_
      refine TL_pure rfl rfl rfl rfl (op_not rfl) ?_
      refine TL_pure rfl rfl rfl rfl (op_move rfl) ?_
      refine TL_join 3 (fun _ : Unit => ⟨[(6, .ptr 12 0 0), (7, .ptr 15 0 0), (8, .ptr 19 0 0), (10, .ptr 23 0 0), (11, .ow 22), (12, .int .i64 r65.2.2.1), (14, .int .i64 r73.1), (81, .bool ((!r65.2.2.2) || (!r73.2)))], [(12, .box [.sl 2 (List.map a_Term r38.Pre), .sl 8 (List.map a_Stmt r38.Body), .sl 2 (List.map a_Term r38.Post)]), (13, .arr ⟨false, true⟩ 1 2 (List.map a_i64 r40.Vars)), (14, .arr ⟨false, true⟩ 1 2 (List.map a_i64 r40.Cells)), (15, .box [.ow 13, .ow 14]), (16, .arr ⟨false, true⟩ 2 75 (List.map a_Term r44.1.Pre)), (17, .arr ⟨false, true⟩ 8 77 (List.map a_Stmt r44.1.Body)), (18, .arr ⟨false, true⟩ 2 75 (List.map a_Term r44.1.Post)), (19, .box [.ow 16, .ow 17, .ow 18]), (20, .arr ⟨false, true⟩ 1 2 (List.map a_i64 r65.1.Vars)), (21, .arr ⟨false, true⟩ 1 2 (List.map a_i64 r65.1.Cells)), (22, .arr ⟨false, true⟩ 1 2 (List.map a_i64 r65.2.1)), (23, .box [.ow 20, .ow 21])]⟩) (fun _ => True) (fun _ _ => ?_) (fun hjj => ?_)
      · refine TL_pure rfl rfl rfl rfl (op_move rfl) ?_
        refine TL_join 3 (fun _ : Unit => ⟨[(6, .ptr 12 0 0), (7, .ptr 15 0 0), (8, .ptr 19 0 0), (10, .ptr 23 0 0), (11, .ow 22), (12, .int .i64 r65.2.2.1), (14, .int .i64 r73.1), (85, .bool (((!r65.2.2.2) || (!r73.2)) || (decide (r73.1 < (0 : Int)))))], [(12, .box [.sl 2 (List.map a_Term r38.Pre), .sl 8 (List.map a_Stmt r38.Body), .sl 2 (List.map a_Term r38.Post)]), (13, .arr ⟨false, true⟩ 1 2 (List.map a_i64 r40.Vars)), (14, .arr ⟨false, true⟩ 1 2 (List.map a_i64 r40.Cells)), (15, .box [.ow 13, .ow 14]), (16, .arr ⟨false, true⟩ 2 75 (List.map a_Term r44.1.Pre)), (17, .arr ⟨false, true⟩ 8 77 (List.map a_Stmt r44.1.Body)), (18, .arr ⟨false, true⟩ 2 75 (List.map a_Term r44.1.Post)), (19, .box [.ow 16, .ow 17, .ow 18]), (20, .arr ⟨false, true⟩ 1 2 (List.map a_i64 r65.1.Vars)), (21, .arr ⟨false, true⟩ 1 2 (List.map a_i64 r65.1.Cells)), (22, .arr ⟨false, true⟩ 1 2 (List.map a_i64 r65.2.1)), (23, .box [.ow 20, .ow 21])]⟩) (fun _ => True) (fun _ _ => ?_) (fun hjj => ?_)
        · refine TL_pure rfl rfl rfl rfl (op_move rfl) ?_
          refine TL_join 3 (fun _ : Unit => ⟨[(6, .ptr 12 0 0), (7, .ptr 15 0 0), (8, .ptr 19 0 0), (10, .ptr 23 0 0), (11, .ow 22), (12, .int .i64 r65.2.2.1), (14, .int .i64 r73.1), (89, .bool ((((!r65.2.2.2) || (!r73.2)) || (decide (r73.1 < (0 : Int)))) || (decide ((400 : Int) < r73.1))))], [(12, .box [.sl 2 (List.map a_Term r38.Pre), .sl 8 (List.map a_Stmt r38.Body), .sl 2 (List.map a_Term r38.Post)]), (13, .arr ⟨false, true⟩ 1 2 (List.map a_i64 r40.Vars)), (14, .arr ⟨false, true⟩ 1 2 (List.map a_i64 r40.Cells)), (15, .box [.ow 13, .ow 14]), (16, .arr ⟨false, true⟩ 2 75 (List.map a_Term r44.1.Pre)), (17, .arr ⟨false, true⟩ 8 77 (List.map a_Stmt r44.1.Body)), (18, .arr ⟨false, true⟩ 2 75 (List.map a_Term r44.1.Post)), (19, .box [.ow 16, .ow 17, .ow 18]), (20, .arr ⟨false, true⟩ 1 2 (List.map a_i64 r65.1.Vars)), (21, .arr ⟨false, true⟩ 1 2 (List.map a_i64 r65.1.Cells)), (22, .arr ⟨false, true⟩ 1 2 (List.map a_i64 r65.2.1)), (23, .box [.ow 20, .ow 21])]⟩) (fun _ => True) (fun _ _ => ?_) (fun hjj => ?_)
          · refine TL_pure rfl rfl rfl rfl (op_move rfl) ?_
            refine TL_split 90 rfl rfl rfl (fun hq => ?_) (fun hq => ?_)
            · replace hm := condT hq hm
              refine TL_pass rfl rfl rfl rfl rfl rfl rfl ?_
              refine TL_pass rfl rfl rfl rfl rfl rfl rfl ?_
              refine TL_pass rfl rfl rfl rfl rfl rfl rfl ?_
              refine TL_pure rfl rfl rfl rfl (op_pick_true rfl rfl) ?_
              refine TL_nil ?_
              refine T_cond_true rfl ?_
              refine T_seq ?_
              refine T_region ?_
              refine TL_pure rfl rfl rfl rfl (op_assign rfl) ?_
              refine TL_nil ?_
              refine T_keepH [4] [] rfl rfl rfl rfl (by rw [hF]; rfl) ?_
              refine T_ret ?_
              obtain rfl := someI hm
              refine ⟨[_], [], ⟨rfl, trivial⟩, ?_, rfl, rfl, rfl, rfl⟩
              rfl
            · replace hm := condF hq hm
              refine TL_want rfl rfl ?_
              refine TL_pure rfl rfl rfl rfl (op_load_agg ag31 sz31 rfl rfl rfl) ?_
              refine TL_want rfl rfl ?_
              obtain ⟨r92, hr92, hm⟩ := bindS hm
              refine TL_callF (c_impl_ValidState r65.1 r92 hr92) Try.call20 rfl rfl rfl rfl rfl ?_
              refine TL_want rfl rfl ?_
              refine TL_pure rfl rfl rfl rfl (op_not rfl) ?_
              refine TL_pure rfl rfl rfl rfl (op_pick_false rfl rfl) ?_
              refine TL_nil ?_
              refine T_cond rfl (fun hq => ?_) (fun hq => ?_)
              · replace hm := condT hq hm
                refine T_seq ?_
                refine T_region ?_
                refine TL_pure rfl rfl rfl rfl (op_assign rfl) ?_
                refine TL_nil ?_
                refine T_keepH [4] [] rfl rfl rfl rfl (by rw [hF]; rfl) ?_
                refine T_ret ?_
                obtain rfl := someI hm
                refine ⟨[_], [], ⟨rfl, trivial⟩, ?_, rfl, rfl, rfl, rfl⟩
                rfl
              · replace hm := condF hq hm
                refine T_skip ?_
                refine T_seq ?_
                refine T_seq ?_
                refine T_region ?_
                refine TL_pure rfl rfl rfl rfl (op_move rfl) ?_
                refine TL_pure rfl rfl rfl rfl (op_neq rfl rfl) ?_
                refine TL_nil ?_
                refine T_cond rfl (fun hq => ?_) (fun hq => ?_)
                · replace hm := condT hq hm
                  refine T_seq ?_
                  refine T_region ?_
                  refine TL_pure rfl rfl rfl rfl (op_load_agg ag27 sz27 rfl rfl rfl) ?_
                  refine TL_pure rfl rfl rfl rfl (op_load_agg ag31 sz31 rfl rfl rfl) ?_
                  obtain ⟨r100, hr100, hm⟩ := bindS hm
                  refine TL_callO [(1000, 24), (1001, 25), (1002, 26)] (c_impl_RunProgram r44.1 r40 (400 : Int) r100 hr100) Try.call13 rfl rfl rfl rfl rfl rfl rfl rfl rfl rfl rfl rfl rfl ?_
                  refine TL_pure rfl rfl rfl rfl (op_move rfl) ?_
                  refine TL_pure rfl rfl rfl rfl (op_extract rfl rfl) ?_
                  refine TL_pure rfl rfl rfl rfl (op_extract rfl rfl) ?_
                  refine TL_pure rfl rfl rfl rfl (op_extract rfl rfl) ?_
                  refine TL_pure rfl rfl rfl rfl (op_extract rfl rfl) ?_
                  refine TL_alloc 27 z31 rfl rfl rfl rfl rfl rfl rfl ?_
                  refine TL_store_box sz31 rfl rfl rfl rfl rfl rfl rfl rfl rfl ?_
                  refine TL_pure rfl rfl rfl rfl (op_assign rfl) ?_
                  refine TL_pure rfl rfl rfl rfl (op_assign rfl) ?_
                  refine TL_pure rfl rfl rfl rfl (op_assign rfl) ?_
                  refine TL_nil ?_
                  refine T_seq ?_
                  refine T_region ?_
                  refine TL_pure rfl rfl rfl rfl (op_move rfl) ?_
                  refine TL_pure rfl rfl rfl rfl (op_move rfl) ?_
                  refine TL_join 4 (fun _ : Unit => ⟨[(10, .ptr 23 0 0), (11, .ow 22), (16, .ptr 27 0 0), (17, .ow 26), (110, .bool (r100.2.2.2 && (decide (r100.2.2.1 = r65.2.2.1))))], [(20, .arr ⟨false, true⟩ 1 2 (List.map a_i64 r65.1.Vars)), (21, .arr ⟨false, true⟩ 1 2 (List.map a_i64 r65.1.Cells)), (22, .arr ⟨false, true⟩ 1 2 (List.map a_i64 r65.2.1)), (23, .box [.ow 20, .ow 21]), (24, .arr ⟨false, true⟩ 1 2 (List.map a_i64 r100.1.Vars)), (25, .arr ⟨false, true⟩ 1 2 (List.map a_i64 r100.1.Cells)), (26, .arr ⟨false, true⟩ 1 2 (List.map a_i64 r100.2.1)), (27, .box [.ow 24, .ow 25])]⟩) (fun _ => True) (fun _ _ => ?_) (fun hjj => ?_)
                  · refine TL_pure rfl rfl rfl rfl (op_move rfl) ?_
                    refine TL_split 111 rfl rfl rfl (fun hq => ?_) (fun hq => ?_)
                    · replace hm := condT hq hm
                      refine TL_want rfl rfl ?_
                      refine TL_pure rfl rfl rfl rfl (op_move rfl) ?_
                      refine TL_want rfl rfl ?_
                      refine TL_pure rfl rfl rfl rfl (op_move rfl) ?_
                      refine TL_want rfl rfl ?_
                      obtain ⟨r114, hr114, hm⟩ := bindS hm
                      refine TL_callF (c_laws_r8Same r100.2.1 r65.2.1 r114 hr114) Try.call16 rfl rfl rfl rfl rfl ?_
                      refine TL_pure rfl rfl rfl rfl (op_pick_true rfl rfl) ?_
                      refine TL_pure rfl rfl rfl rfl (op_move rfl) ?_
                      refine TL_split 116 rfl rfl rfl (fun hq => ?_) (fun hq => ?_)
                      · replace hm := condT hq hm
                        refine TL_want rfl rfl ?_
                        refine TL_pure rfl rfl rfl rfl (op_load_agg ag31 sz31 rfl rfl rfl) ?_
                        refine TL_want rfl rfl ?_
                        refine TL_pure rfl rfl rfl rfl (op_load_agg ag31 sz31 rfl rfl rfl) ?_
                        refine TL_want rfl rfl ?_
                        obtain ⟨r119, hr119, hm⟩ := bindS hm
                        refine TL_callF (c_laws_r8States r65.1 r100.1 r119 hr119) Try.call17 rfl rfl rfl rfl rfl ?_
                        refine TL_pure rfl rfl rfl rfl (op_pick_true rfl rfl) ?_
                        refine TL_pure rfl rfl rfl rfl (op_assign rfl) ?_
                        refine TL_nil ?_
                        refine T_keepH [4] [] rfl rfl rfl rfl (by rw [hF]; rfl) ?_
                        refine T_ret ?_
                        obtain rfl := someI hm
                        refine ⟨[_], [], ⟨rfl, trivial⟩, ?_, rfl, rfl, rfl, rfl⟩
                        rfl
                      · replace hm := condF hq hm
                        refine TL_pass rfl rfl rfl rfl rfl rfl rfl ?_
                        refine TL_pass rfl rfl rfl rfl rfl rfl rfl ?_
                        refine TL_pass rfl rfl rfl rfl rfl rfl rfl ?_
                        refine TL_pure rfl rfl rfl rfl (op_pick_false rfl rfl) ?_
                        refine TL_pure rfl rfl rfl rfl (op_assign rfl) ?_
                        refine TL_nil ?_
                        refine T_keepH [4] [] rfl rfl rfl rfl (by rw [hF]; rfl) ?_
                        refine T_ret ?_
                        obtain rfl := someI hm
                        refine ⟨[_], [], ⟨rfl, trivial⟩, ?_, rfl, rfl, rfl, rfl⟩
                        rfl
                    · replace hm := condF hq hm
                      refine TL_pass rfl rfl rfl rfl rfl rfl rfl ?_
                      refine TL_pass rfl rfl rfl rfl rfl rfl rfl ?_
                      refine TL_pass rfl rfl rfl rfl rfl rfl rfl ?_
                      refine TL_pure rfl rfl rfl rfl (op_pick_false rfl rfl) ?_
                      refine TL_pure rfl rfl rfl rfl (op_move rfl) ?_
                      refine TL_pass rfl rfl rfl rfl rfl rfl rfl ?_
                      refine TL_pass rfl rfl rfl rfl rfl rfl rfl ?_
                      refine TL_pass rfl rfl rfl rfl rfl rfl rfl ?_
                      refine TL_pure rfl rfl rfl rfl (op_pick_false rfl rfl) ?_
                      refine TL_pure rfl rfl rfl rfl (op_assign rfl) ?_
                      refine TL_nil ?_
                      refine T_keepH [4] [] rfl rfl rfl rfl (by rw [hF]; rfl) ?_
                      refine T_ret ?_
                      obtain rfl := someI hm
                      refine ⟨[_], [], ⟨rfl, trivial⟩, ?_, rfl, rfl, rfl, rfl⟩
                      rfl
                  · refine TL_split 106 rfl rfl rfl (fun hq => ?_) (fun hq => ?_)
                    · refine TL_want rfl rfl ?_
                      refine TL_pure rfl rfl rfl rfl (op_move rfl) ?_
                      refine TL_want rfl rfl ?_
                      refine TL_pure rfl rfl rfl rfl (op_move rfl) ?_
                      refine TL_want rfl rfl ?_
                      refine TL_pure rfl rfl rfl rfl (op_eql rfl rfl) ?_
                      refine TL_pure rfl rfl rfl rfl (op_pick_true rfl rfl) ?_
                      refine TL_keepH [10, 11, 16, 17, 110] [20, 21, 22, 23, 24, 25, 26, 27] rfl rfl rfl rfl (by rw [hF]; rfl) ?_
                      exact TL_cast _ (by first | (rw [hq, Bool.true_and]; done) | (rw [hq]; rfl)) (hjj () trivial)
                    · refine TL_pass rfl rfl rfl rfl rfl rfl rfl ?_
                      refine TL_pass rfl rfl rfl rfl rfl rfl rfl ?_
                      refine TL_pass rfl rfl rfl rfl rfl rfl rfl ?_
                      refine TL_pure rfl rfl rfl rfl (op_pick_false rfl rfl) ?_
                      refine TL_keepH [10, 11, 16, 17, 110] [20, 21, 22, 23, 24, 25, 26, 27] rfl rfl rfl rfl (by rw [hF]; rfl) ?_
                      exact TL_cast _ (by first | (rw [hq, Bool.false_and]; done) | (rw [hq]; rfl)) (hjj () trivial)
                · replace hm := condF hq hm
                  refine T_skip ?_
                  refine T_seq ?_
                  refine T_region ?_
                  refine TL_pure rfl rfl rfl rfl (op_load_agg ag27 sz27 rfl rfl rfl) ?_
                  refine TL_pure rfl rfl rfl rfl (op_load_agg ag31 sz31 rfl rfl rfl) ?_
                  obtain ⟨r124, hr124, hm⟩ := bindS hm
                  refine TL_callO [(1000, 28), (1001, 29), (1002, 30)] (c_impl_RunProgram r38 r65.1 (400 : Int) r124 hr124) Try.call13 rfl rfl rfl rfl rfl rfl rfl rfl rfl rfl rfl rfl rfl ?_
                  refine TL_pure rfl rfl rfl rfl (op_move rfl) ?_
                  refine TL_pure rfl rfl rfl rfl (op_extract rfl rfl) ?_
                  refine TL_pure rfl rfl rfl rfl (op_extract rfl rfl) ?_
                  refine TL_pure rfl rfl rfl rfl (op_extract rfl rfl) ?_
                  refine TL_pure rfl rfl rfl rfl (op_extract rfl rfl) ?_
                  refine TL_alloc 31 z31 rfl rfl rfl rfl rfl rfl rfl ?_
                  refine TL_store_box sz31 rfl rfl rfl rfl rfl rfl rfl rfl rfl ?_
                  refine TL_pure rfl rfl rfl rfl (op_assign rfl) ?_
                  refine TL_pure rfl rfl rfl rfl (op_assign rfl) ?_
                  refine TL_pure rfl rfl rfl rfl (op_assign rfl) ?_
                  refine TL_nil ?_
                  refine T_seq ?_
                  refine T_region ?_
                  refine TL_pure rfl rfl rfl rfl (op_load_agg ag27 sz27 rfl rfl rfl) ?_
                  refine TL_pure rfl rfl rfl rfl (op_load_agg ag31 sz31 rfl rfl rfl) ?_
                  obtain ⟨r132, hr132, hm⟩ := bindS hm
                  refine TL_callF (c_impl_StepsOf r38 r65.1 (400 : Int) r132 hr132) Try.call14 rfl rfl rfl rfl rfl ?_
                  refine TL_pure rfl rfl rfl rfl (op_move rfl) ?_
                  refine TL_pure rfl rfl rfl rfl (op_extract rfl rfl) ?_
                  refine TL_pure rfl rfl rfl rfl (op_extract rfl rfl) ?_
                  refine TL_pure rfl rfl rfl rfl (op_assign rfl) ?_
                  refine TL_pure rfl rfl rfl rfl (op_assign rfl) ?_
                  refine TL_nil ?_
                  refine T_seq ?_
                  refine T_region ?_
                  refine TL_pure rfl rfl rfl rfl (op_load_agg ag27 sz27 rfl rfl rfl) ?_
                  refine TL_pure rfl rfl rfl rfl (op_load_agg ag31 sz31 rfl rfl rfl) ?_
                  refine TL_pure rfl rfl rfl rfl (op_move rfl) ?_
                  refine TL_pure rfl rfl rfl rfl (op_addW rfl rfl) ?_
                  obtain ⟨r140, hr140, hm⟩ := bindS hm
                  refine TL_callO [(1000, 32), (1001, 33), (1002, 34)] (c_impl_RunProgram r44.1 r40 (w64 (r73.1 + (400 : Int))) r140 hr140) Try.call13 rfl rfl rfl rfl rfl rfl rfl rfl rfl rfl rfl rfl rfl ?_
                  refine TL_pure rfl rfl rfl rfl (op_move rfl) ?_
                  refine TL_pure rfl rfl rfl rfl (op_extract rfl rfl) ?_
                  refine TL_pure rfl rfl rfl rfl (op_extract rfl rfl) ?_
                  refine TL_pure rfl rfl rfl rfl (op_extract rfl rfl) ?_
                  refine TL_pure rfl rfl rfl rfl (op_extract rfl rfl) ?_
                  refine TL_alloc 35 z31 rfl rfl rfl rfl rfl rfl rfl ?_
                  refine TL_store_box sz31 rfl rfl rfl rfl rfl rfl rfl rfl rfl ?_
                  refine TL_pure rfl rfl rfl rfl (op_assign rfl) ?_
                  refine TL_pure rfl rfl rfl rfl (op_assign rfl) ?_
                  refine TL_pure rfl rfl rfl rfl (op_assign rfl) ?_
                  refine TL_nil ?_
                  refine T_seq ?_
                  refine T_region ?_
                  refine TL_pure rfl rfl rfl rfl (op_load_agg ag27 sz27 rfl rfl rfl) ?_
                  refine TL_pure rfl rfl rfl rfl (op_load_agg ag31 sz31 rfl rfl rfl) ?_
                  refine TL_pure rfl rfl rfl rfl (op_move rfl) ?_
                  refine TL_pure rfl rfl rfl rfl (op_addW rfl rfl) ?_
                  obtain ⟨r150, hr150, hm⟩ := bindS hm
                  refine TL_callF (c_impl_StepsOf r44.1 r40 (w64 (r73.1 + (400 : Int))) r150 hr150) Try.call14 rfl rfl rfl rfl rfl ?_
                  refine TL_pure rfl rfl rfl rfl (op_move rfl) ?_
                  refine TL_pure rfl rfl rfl rfl (op_extract rfl rfl) ?_
                  refine TL_pure rfl rfl rfl rfl (op_extract rfl rfl) ?_
                  refine TL_pure rfl rfl rfl rfl (op_assign rfl) ?_
                  refine TL_pure rfl rfl rfl rfl (op_assign rfl) ?_
                  refine TL_nil ?_
                  refine T_seq ?_
                  refine T_region ?_
                  refine TL_pure rfl rfl rfl rfl (op_move rfl) ?_
                  refine TL_pure rfl rfl rfl rfl (op_move rfl) ?_
                  refine TL_join 2 (fun _ : Unit => ⟨[(11, .ow 22), (14, .int .i64 r73.1), (20, .ptr 31 0 0), (21, .ow 30), (22, .int .i64 r124.2.2.1), (24, .int .i64 r132.1), (26, .ptr 35 0 0), (27, .ow 34), (28, .int .i64 r140.2.2.1), (29, .bool r140.2.2.2), (30, .int .i64 r150.1), (31, .bool r150.2), (156, .bool (r124.2.2.2 && r132.2))], [(22, .arr ⟨false, true⟩ 1 2 (List.map a_i64 r65.2.1)), (28, .arr ⟨false, true⟩ 1 2 (List.map a_i64 r124.1.Vars)), (29, .arr ⟨false, true⟩ 1 2 (List.map a_i64 r124.1.Cells)), (30, .arr ⟨false, true⟩ 1 2 (List.map a_i64 r124.2.1)), (31, .box [.ow 28, .ow 29]), (32, .arr ⟨false, true⟩ 1 2 (List.map a_i64 r140.1.Vars)), (33, .arr ⟨false, true⟩ 1 2 (List.map a_i64 r140.1.Cells)), (34, .arr ⟨false, true⟩ 1 2 (List.map a_i64 r140.2.1)), (35, .box [.ow 32, .ow 33])]⟩) (fun _ => True) (fun _ _ => ?_) (fun hjj => ?_)
                  · refine TL_pure rfl rfl rfl rfl (op_move rfl) ?_
                    refine TL_join 2 (fun _ : Unit => ⟨[(11, .ow 22), (14, .int .i64 r73.1), (20, .ptr 31 0 0), (21, .ow 30), (22, .int .i64 r124.2.2.1), (24, .int .i64 r132.1), (26, .ptr 35 0 0), (27, .ow 34), (28, .int .i64 r140.2.2.1), (30, .int .i64 r150.1), (31, .bool r150.2), (159, .bool ((r124.2.2.2 && r132.2) && r140.2.2.2))], [(22, .arr ⟨false, true⟩ 1 2 (List.map a_i64 r65.2.1)), (28, .arr ⟨false, true⟩ 1 2 (List.map a_i64 r124.1.Vars)), (29, .arr ⟨false, true⟩ 1 2 (List.map a_i64 r124.1.Cells)), (30, .arr ⟨false, true⟩ 1 2 (List.map a_i64 r124.2.1)), (31, .box [.ow 28, .ow 29]), (32, .arr ⟨false, true⟩ 1 2 (List.map a_i64 r140.1.Vars)), (33, .arr ⟨false, true⟩ 1 2 (List.map a_i64 r140.1.Cells)), (34, .arr ⟨false, true⟩ 1 2 (List.map a_i64 r140.2.1)), (35, .box [.ow 32, .ow 33])]⟩) (fun _ => True) (fun _ _ => ?_) (fun hjj => ?_)
                    · refine TL_pure rfl rfl rfl rfl (op_move rfl) ?_
                      refine TL_join 2 (fun _ : Unit => ⟨[(11, .ow 22), (14, .int .i64 r73.1), (20, .ptr 31 0 0), (21, .ow 30), (22, .int .i64 r124.2.2.1), (24, .int .i64 r132.1), (26, .ptr 35 0 0), (27, .ow 34), (28, .int .i64 r140.2.2.1), (30, .int .i64 r150.1), (162, .bool (((r124.2.2.2 && r132.2) && r140.2.2.2) && r150.2))], [(22, .arr ⟨false, true⟩ 1 2 (List.map a_i64 r65.2.1)), (28, .arr ⟨false, true⟩ 1 2 (List.map a_i64 r124.1.Vars)), (29, .arr ⟨false, true⟩ 1 2 (List.map a_i64 r124.1.Cells)), (30, .arr ⟨false, true⟩ 1 2 (List.map a_i64 r124.2.1)), (31, .box [.ow 28, .ow 29]), (32, .arr ⟨false, true⟩ 1 2 (List.map a_i64 r140.1.Vars)), (33, .arr ⟨false, true⟩ 1 2 (List.map a_i64 r140.1.Cells)), (34, .arr ⟨false, true⟩ 1 2 (List.map a_i64 r140.2.1)), (35, .box [.ow 32, .ow 33])]⟩) (fun _ => True) (fun _ _ => ?_) (fun hjj => ?_)
                      · refine TL_pure rfl rfl rfl rfl (op_move rfl) ?_
                        refine TL_join 4 (fun _ : Unit => ⟨[(11, .ow 22), (14, .int .i64 r73.1), (20, .ptr 31 0 0), (21, .ow 30), (24, .int .i64 r132.1), (26, .ptr 35 0 0), (27, .ow 34), (30, .int .i64 r150.1), (167, .bool ((((r124.2.2.2 && r132.2) && r140.2.2.2) && r150.2) && (decide (r140.2.2.1 = r124.2.2.1))))], [(22, .arr ⟨false, true⟩ 1 2 (List.map a_i64 r65.2.1)), (28, .arr ⟨false, true⟩ 1 2 (List.map a_i64 r124.1.Vars)), (29, .arr ⟨false, true⟩ 1 2 (List.map a_i64 r124.1.Cells)), (30, .arr ⟨false, true⟩ 1 2 (List.map a_i64 r124.2.1)), (31, .box [.ow 28, .ow 29]), (32, .arr ⟨false, true⟩ 1 2 (List.map a_i64 r140.1.Vars)), (33, .arr ⟨false, true⟩ 1 2 (List.map a_i64 r140.1.Cells)), (34, .arr ⟨false, true⟩ 1 2 (List.map a_i64 r140.2.1)), (35, .box [.ow 32, .ow 33])]⟩) (fun _ => True) (fun _ _ => ?_) (fun hjj => ?_)
                        · refine TL_pure rfl rfl rfl rfl (op_move rfl) ?_
                          refine TL_split 168 rfl rfl rfl (fun hq => ?_) (fun hq => ?_)
                          · replace hm := condT hq hm
                            refine TL_want rfl rfl ?_
                            refine TL_pure rfl rfl rfl rfl (op_load_agg ag31 sz31 rfl rfl rfl) ?_
                            refine TL_want rfl rfl ?_
                            refine TL_pure rfl rfl rfl rfl (op_load_agg ag31 sz31 rfl rfl rfl) ?_
                            refine TL_want rfl rfl ?_
                            obtain ⟨r171, hr171, hm⟩ := bindS hm
                            refine TL_callF (c_laws_r8States r140.1 r124.1 r171 hr171) Try.call17 rfl rfl rfl rfl rfl ?_
                            refine TL_pure rfl rfl rfl rfl (op_pick_true rfl rfl) ?_
                            refine TL_pure rfl rfl rfl rfl (op_move rfl) ?_
                            refine TL_join 6 (fun _ : Unit => ⟨[(11, .ow 22), (21, .ow 30), (27, .ow 34), (179, .bool (r171 && (decide (r150.1 = (w64 (r73.1 + r132.1))))))], [(22, .arr ⟨false, true⟩ 1 2 (List.map a_i64 r65.2.1)), (30, .arr ⟨false, true⟩ 1 2 (List.map a_i64 r124.2.1)), (34, .arr ⟨false, true⟩ 1 2 (List.map a_i64 r140.2.1))]⟩) (fun _ => True) (fun _ _ => ?_) (fun hjj => ?_)
                            · refine TL_pure rfl rfl rfl rfl (op_move rfl) ?_
                              refine TL_split 180 rfl rfl rfl (fun hq => ?_) (fun hq => ?_)
                              · replace hm := condT hq hm
                                refine TL_want rfl rfl ?_
                                refine TL_pure rfl rfl rfl rfl (op_move rfl) ?_
                                refine TL_want rfl rfl ?_
                                refine TL_buildSlice 36 (es := List.map a_i64 ([] : List Int)) el29 z2 rfl rfl rfl rfl rfl rfl rfl rfl rfl ?_
                                refine TL_want rfl rfl ?_
                                refine TL_pure rfl rfl rfl rfl (op_move rfl) ?_
                                refine TL_want rfl rfl ?_
                                refine TL_undeep 22 (p' := false) (by rw [hF]; rfl) rfl (ElR.map (f := a_i64) (g := a_i64) (fun _ => ⟨⟨rfl, rfl⟩, trivial⟩) r65.2.1) rfl ?_
                                obtain ⟨q184, hq184, hm⟩ := bindS hm
                                refine TL_appendT (f := a_i64) (a := ([] : List Int)) (b := r65.2.1) el29 z2 rfl rfl rfl rfl rfl rfl rfl (capI_spec hq184) rfl rfl rfl rfl rfl ?_
                                refine TL_want rfl rfl ?_
                                refine TL_pure rfl rfl rfl rfl (op_move rfl) ?_
                                refine TL_want rfl rfl ?_
                                refine TL_undeep 30 (p' := false) (by rw [hF]; rfl) rfl (ElR.map (f := a_i64) (g := a_i64) (fun _ => ⟨⟨rfl, rfl⟩, trivial⟩) r124.2.1) rfl ?_
                                obtain ⟨q186, hq186, hm⟩ := bindS hm
                                refine TL_appendT (f := a_i64) (a := (([] : List Int) ++ r65.2.1)) (b := r124.2.1) el29 z2 rfl rfl rfl rfl rfl rfl rfl (capI_spec hq186) rfl rfl rfl rfl rfl ?_
                                refine TL_want rfl rfl ?_
                                obtain ⟨r187, hr187, hm⟩ := bindS hm
                                refine TL_callF (c_laws_r8Same r140.2.1 ((([] : List Int) ++ r65.2.1) ++ r124.2.1) r187 hr187) Try.call16 rfl rfl rfl rfl rfl ?_
                                refine TL_pure rfl rfl rfl rfl (op_pick_true rfl rfl) ?_
                                refine TL_pure rfl rfl rfl rfl (op_assign rfl) ?_
                                refine TL_nil ?_
                                refine T_keepH [4] [] rfl rfl rfl rfl (by rw [hF]; rfl) ?_
                                refine T_ret ?_
                                obtain rfl := someI hm
                                refine ⟨[_], [], ⟨rfl, trivial⟩, ?_, rfl, rfl, rfl, rfl⟩
                                rfl
                              · replace hm := condF hq hm
                                refine TL_pass rfl rfl rfl rfl rfl rfl rfl ?_
                                refine TL_pass rfl rfl rfl rfl rfl rfl rfl ?_
                                refine TL_pass rfl rfl rfl rfl rfl rfl rfl ?_
                                refine TL_pass rfl rfl rfl rfl rfl rfl rfl ?_
                                refine TL_pass rfl rfl rfl rfl rfl rfl rfl ?_
                                refine TL_pass rfl rfl rfl rfl rfl rfl rfl ?_
                                refine TL_pass rfl rfl rfl rfl rfl rfl rfl ?_
                                refine TL_pure rfl rfl rfl rfl (op_pick_false rfl rfl) ?_
                                refine TL_pure rfl rfl rfl rfl (op_assign rfl) ?_
                                refine TL_nil ?_
                                refine T_keepH [4] [] rfl rfl rfl rfl (by rw [hF]; rfl) ?_
                                refine T_ret ?_
                                obtain rfl := someI hm
                                refine ⟨[_], [], ⟨rfl, trivial⟩, ?_, rfl, rfl, rfl, rfl⟩
                                rfl
                            · refine TL_split 173 rfl rfl rfl (fun hq => ?_) (fun hq => ?_)
                              · refine TL_want rfl rfl ?_
                                refine TL_pure rfl rfl rfl rfl (op_move rfl) ?_
                                refine TL_want rfl rfl ?_
                                refine TL_pure rfl rfl rfl rfl (op_move rfl) ?_
                                refine TL_want rfl rfl ?_
                                refine TL_pure rfl rfl rfl rfl (op_move rfl) ?_
                                refine TL_want rfl rfl ?_
                                refine TL_pure rfl rfl rfl rfl (op_addW rfl rfl) ?_
                                refine TL_want rfl rfl ?_
                                refine TL_pure rfl rfl rfl rfl (op_eql rfl rfl) ?_
                                refine TL_pure rfl rfl rfl rfl (op_pick_true rfl rfl) ?_
                                refine TL_keepH [11, 21, 27, 179] [22, 30, 34] rfl rfl rfl rfl (by rw [hF]; rfl) ?_
                                exact TL_cast _ (by first | (rw [hq, Bool.true_and]; done) | (rw [hq]; rfl)) (hjj () trivial)
                              · refine TL_pass rfl rfl rfl rfl rfl rfl rfl ?_
                                refine TL_pass rfl rfl rfl rfl rfl rfl rfl ?_
                                refine TL_pass rfl rfl rfl rfl rfl rfl rfl ?_
                                refine TL_pass rfl rfl rfl rfl rfl rfl rfl ?_
                                refine TL_pass rfl rfl rfl rfl rfl rfl rfl ?_
                                refine TL_pure rfl rfl rfl rfl (op_pick_false rfl rfl) ?_
                                refine TL_keepH [11, 21, 27, 179] [22, 30, 34] rfl rfl rfl rfl (by rw [hF]; rfl) ?_
                                exact TL_cast _ (by first | (rw [hq, Bool.false_and]; done) | (rw [hq]; rfl)) (hjj () trivial)
                          · replace hm := condF hq hm
                            refine TL_pass rfl rfl rfl rfl rfl rfl rfl ?_
                            refine TL_pass rfl rfl rfl rfl rfl rfl rfl ?_
                            refine TL_pass rfl rfl rfl rfl rfl rfl rfl ?_
                            refine TL_pure rfl rfl rfl rfl (op_pick_false rfl rfl) ?_
                            refine TL_pure rfl rfl rfl rfl (op_move rfl) ?_
                            refine TL_pass rfl rfl rfl rfl rfl rfl rfl ?_
                            refine TL_pass rfl rfl rfl rfl rfl rfl rfl ?_
                            refine TL_pass rfl rfl rfl rfl rfl rfl rfl ?_
                            refine TL_pass rfl rfl rfl rfl rfl rfl rfl ?_
                            refine TL_pass rfl rfl rfl rfl rfl rfl rfl ?_
                            refine TL_pure rfl rfl rfl rfl (op_pick_false rfl rfl) ?_
                            refine TL_pure rfl rfl rfl rfl (op_move rfl) ?_
                            refine TL_pass rfl rfl rfl rfl rfl rfl rfl ?_
                            refine TL_pass rfl rfl rfl rfl rfl rfl rfl ?_
                            refine TL_pass rfl rfl rfl rfl rfl rfl rfl ?_
                            refine TL_pass rfl rfl rfl rfl rfl rfl rfl ?_
                            refine TL_pass rfl rfl rfl rfl rfl rfl rfl ?_
                            refine TL_pass rfl rfl rfl rfl rfl rfl rfl ?_
                            refine TL_pass rfl rfl rfl rfl rfl rfl rfl ?_
                            refine TL_pure rfl rfl rfl rfl (op_pick_false rfl rfl) ?_
                            refine TL_pure rfl rfl rfl rfl (op_assign rfl) ?_
                            refine TL_nil ?_
                            refine T_keepH [4] [] rfl rfl rfl rfl (by rw [hF]; rfl) ?_
                            refine T_ret ?_
                            obtain rfl := someI hm
                            refine ⟨[_], [], ⟨rfl, trivial⟩, ?_, rfl, rfl, rfl, rfl⟩
                            rfl
                        · refine TL_split 163 rfl rfl rfl (fun hq => ?_) (fun hq => ?_)
                          · refine TL_want rfl rfl ?_
                            refine TL_pure rfl rfl rfl rfl (op_move rfl) ?_
                            refine TL_want rfl rfl ?_
                            refine TL_pure rfl rfl rfl rfl (op_move rfl) ?_
                            refine TL_want rfl rfl ?_
                            refine TL_pure rfl rfl rfl rfl (op_eql rfl rfl) ?_
                            refine TL_pure rfl rfl rfl rfl (op_pick_true rfl rfl) ?_
                            refine TL_keepH [11, 14, 20, 21, 24, 26, 27, 30, 167] [22, 28, 29, 30, 31, 32, 33, 34, 35] rfl rfl rfl rfl (by rw [hF]; rfl) ?_
                            exact TL_cast _ (by first | (rw [hq, Bool.true_and]; done) | (rw [hq]; rfl)) (hjj () trivial)
                          · refine TL_pass rfl rfl rfl rfl rfl rfl rfl ?_
                            refine TL_pass rfl rfl rfl rfl rfl rfl rfl ?_
                            refine TL_pass rfl rfl rfl rfl rfl rfl rfl ?_
                            refine TL_pure rfl rfl rfl rfl (op_pick_false rfl rfl) ?_
                            refine TL_keepH [11, 14, 20, 21, 24, 26, 27, 30, 167] [22, 28, 29, 30, 31, 32, 33, 34, 35] rfl rfl rfl rfl (by rw [hF]; rfl) ?_
                            exact TL_cast _ (by first | (rw [hq, Bool.false_and]; done) | (rw [hq]; rfl)) (hjj () trivial)
                      · refine TL_split 160 rfl rfl rfl (fun hq => ?_) (fun hq => ?_)
                        · refine TL_want rfl rfl ?_
                          refine TL_pure rfl rfl rfl rfl (op_move rfl) ?_
                          refine TL_pure rfl rfl rfl rfl (op_pick_true rfl rfl) ?_
                          refine TL_keepH [11, 14, 20, 21, 22, 24, 26, 27, 28, 30, 162] [22, 28, 29, 30, 31, 32, 33, 34, 35] rfl rfl rfl rfl (by rw [hF]; rfl) ?_
                          exact TL_cast _ (by first | (rw [hq, Bool.true_and]; done) | (rw [hq]; rfl)) (hjj () trivial)
                        · refine TL_pass rfl rfl rfl rfl rfl rfl rfl ?_
                          refine TL_pure rfl rfl rfl rfl (op_pick_false rfl rfl) ?_
                          refine TL_keepH [11, 14, 20, 21, 22, 24, 26, 27, 28, 30, 162] [22, 28, 29, 30, 31, 32, 33, 34, 35] rfl rfl rfl rfl (by rw [hF]; rfl) ?_
                          exact TL_cast _ (by first | (rw [hq, Bool.false_and]; done) | (rw [hq]; rfl)) (hjj () trivial)
                    · refine TL_split 157 rfl rfl rfl (fun hq => ?_) (fun hq => ?_)
                      · refine TL_want rfl rfl ?_
                        refine TL_pure rfl rfl rfl rfl (op_move rfl) ?_
                        refine TL_pure rfl rfl rfl rfl (op_pick_true rfl rfl) ?_
                        refine TL_keepH [11, 14, 20, 21, 22, 24, 26, 27, 28, 30, 31, 159] [22, 28, 29, 30, 31, 32, 33, 34, 35] rfl rfl rfl rfl (by rw [hF]; rfl) ?_
                        exact TL_cast _ (by first | (rw [hq, Bool.true_and]; done) | (rw [hq]; rfl)) (hjj () trivial)
                      · refine TL_pass rfl rfl rfl rfl rfl rfl rfl ?_
                        refine TL_pure rfl rfl rfl rfl (op_pick_false rfl rfl) ?_
                        refine TL_keepH [11, 14, 20, 21, 22, 24, 26, 27, 28, 30, 31, 159] [22, 28, 29, 30, 31, 32, 33, 34, 35] rfl rfl rfl rfl (by rw [hF]; rfl) ?_
                        exact TL_cast _ (by first | (rw [hq, Bool.false_and]; done) | (rw [hq]; rfl)) (hjj () trivial)
                  · refine TL_split 154 rfl rfl rfl (fun hq => ?_) (fun hq => ?_)
                    · refine TL_want rfl rfl ?_
                      refine TL_pure rfl rfl rfl rfl (op_move rfl) ?_
                      refine TL_pure rfl rfl rfl rfl (op_pick_true rfl rfl) ?_
                      refine TL_keepH [11, 14, 20, 21, 22, 24, 26, 27, 28, 29, 30, 31, 156] [22, 28, 29, 30, 31, 32, 33, 34, 35] rfl rfl rfl rfl (by rw [hF]; rfl) ?_
                      exact TL_cast _ (by first | (rw [hq, Bool.true_and]; done) | (rw [hq]; rfl)) (hjj () trivial)
                    · refine TL_pass rfl rfl rfl rfl rfl rfl rfl ?_
                      refine TL_pure rfl rfl rfl rfl (op_pick_false rfl rfl) ?_
                      refine TL_keepH [11, 14, 20, 21, 22, 24, 26, 27, 28, 29, 30, 31, 156] [22, 28, 29, 30, 31, 32, 33, 34, 35] rfl rfl rfl rfl (by rw [hF]; rfl) ?_
                      exact TL_cast _ (by first | (rw [hq, Bool.false_and]; done) | (rw [hq]; rfl)) (hjj () trivial)
          · refine TL_split 86 rfl rfl rfl (fun hq => ?_) (fun hq => ?_)
            · refine TL_pass rfl rfl rfl rfl rfl rfl rfl ?_
              refine TL_pass rfl rfl rfl rfl rfl rfl rfl ?_
              refine TL_pure rfl rfl rfl rfl (op_pick_true rfl rfl) ?_
              refine TL_keepH [6, 7, 8, 10, 11, 12, 14, 89] [12, 13, 14, 15, 16, 17, 18, 19, 20, 21, 22, 23] rfl rfl rfl rfl (by rw [hF]; rfl) ?_
              exact TL_cast _ (by first | (rw [hq, Bool.true_or]; done) | (rw [hq]; rfl)) (hjj () trivial)
            · refine TL_want rfl rfl ?_
              refine TL_pure rfl rfl rfl rfl (op_move rfl) ?_
              refine TL_want rfl rfl ?_
              refine TL_pure rfl rfl rfl rfl (op_gtr rfl rfl) ?_
              refine TL_pure rfl rfl rfl rfl (op_pick_false rfl rfl) ?_
              refine TL_keepH [6, 7, 8, 10, 11, 12, 14, 89] [12, 13, 14, 15, 16, 17, 18, 19, 20, 21, 22, 23] rfl rfl rfl rfl (by rw [hF]; rfl) ?_
              exact TL_cast _ (by first | (rw [hq, Bool.false_or]; done) | (rw [hq]; rfl)) (hjj () trivial)
        · refine TL_split 82 rfl rfl rfl (fun hq => ?_) (fun hq => ?_)
          · refine TL_pass rfl rfl rfl rfl rfl rfl rfl ?_
            refine TL_pass rfl rfl rfl rfl rfl rfl rfl ?_
            refine TL_pure rfl rfl rfl rfl (op_pick_true rfl rfl) ?_
            refine TL_keepH [6, 7, 8, 10, 11, 12, 14, 85] [12, 13, 14, 15, 16, 17, 18, 19, 20, 21, 22, 23] rfl rfl rfl rfl (by rw [hF]; rfl) ?_
            exact TL_cast _ (by first | (rw [hq, Bool.true_or]; done) | (rw [hq]; rfl)) (hjj () trivial)
          · refine TL_want rfl rfl ?_
            refine TL_pure rfl rfl rfl rfl (op_move rfl) ?_
            refine TL_want rfl rfl ?_
            refine TL_pure rfl rfl rfl rfl (op_lss rfl rfl) ?_
            refine TL_pure rfl rfl rfl rfl (op_pick_false rfl rfl) ?_
            refine TL_keepH [6, 7, 8, 10, 11, 12, 14, 85] [12, 13, 14, 15, 16, 17, 18, 19, 20, 21, 22, 23] rfl rfl rfl rfl (by rw [hF]; rfl) ?_
            exact TL_cast _ (by first | (rw [hq, Bool.false_or]; done) | (rw [hq]; rfl)) (hjj () trivial)
      · refine TL_split 78 rfl rfl rfl (fun hq => ?_) (fun hq => ?_)
        · refine TL_pass rfl rfl rfl rfl rfl rfl rfl ?_
          refine TL_pass rfl rfl rfl rfl rfl rfl rfl ?_
          refine TL_pure rfl rfl rfl rfl (op_pick_true rfl rfl) ?_
          refine TL_keepH [6, 7, 8, 10, 11, 12, 14, 81] [12, 13, 14, 15, 16, 17, 18, 19, 20, 21, 22, 23] rfl rfl rfl rfl (by rw [hF]; rfl) ?_
          exact TL_cast _ (by first | (rw [hq, Bool.true_or]; done) | (rw [hq]; rfl)) (hjj () trivial)
        · refine TL_want rfl rfl ?_
          refine TL_pure rfl rfl rfl rfl (op_move rfl) ?_
          refine TL_want rfl rfl ?_
          refine TL_pure rfl rfl rfl rfl (op_not rfl) ?_
          refine TL_pure rfl rfl rfl rfl (op_pick_false rfl rfl) ?_
          refine TL_keepH [6, 7, 8, 10, 11, 12, 14, 81] [12, 13, 14, 15, 16, 17, 18, 19, 20, 21, 22, 23] rfl rfl rfl rfl (by rw [hF]; rfl) ?_
          exact TL_cast _ (by first | (rw [hq, Bool.false_or]; done) | (rw [hq]; rfl)) (hjj () trivial)
end Go.Mod
