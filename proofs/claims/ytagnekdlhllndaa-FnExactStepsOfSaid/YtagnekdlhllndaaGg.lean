import Derived.Test.YtagnekdlhllndaaGf
namespace Go.Mod
open Go Go.AM Go.Proofs
set_option linter.unusedVariables false
set_option linter.unusedSimpArgs false
set_option maxRecDepth 100000
set_option maxHeartbeats 8000000
theorem c_impl_running_run_F (rec_impl_running_run : running → Ptree → Option (Bool × running)) (hrec_impl_running_run : ∀ (p0 : running) (p1 : Ptree) (out : Bool × running), rec_impl_running_run p0 p1 = some out → ACall Try.prog 86 [.ptr 0 0 0, a_Ptree p1] [(0, .box [.ow 1, .ow 2, .ow 3, .int .i64 p0.fuel, .int .i64 p0.steps, .int .i64 p0.out]), (1, .arr ⟨true, true⟩ 1 2 (List.map a_i64 p0.state.Vars)), (2, .arr ⟨true, true⟩ 1 2 (List.map a_i64 p0.state.Cells)), (3, .arr ⟨false, true⟩ 1 2 (List.map a_i64 p0.events))] (.bool out.1) [(0, .box [.ow 1, .ow 2, .ow 3, .int .i64 out.2.fuel, .int .i64 out.2.steps, .int .i64 out.2.out]), (1, .arr ⟨true, true⟩ 1 2 (List.map a_i64 out.2.state.Vars)), (2, .arr ⟨true, true⟩ 1 2 (List.map a_i64 out.2.state.Cells)), (3, .arr ⟨false, true⟩ 1 2 (List.map a_i64 out.2.events))]) (p0 : running) (p1 : Ptree) (out : Bool × running) (hm : m_impl_running_run_F rec_impl_running_run p0 p1 = some out) : ACall Try.prog 86 [.ptr 0 0 0, a_Ptree p1] [(0, .box [.ow 1, .ow 2, .ow 3, .int .i64 p0.fuel, .int .i64 p0.steps, .int .i64 p0.out]), (1, .arr ⟨true, true⟩ 1 2 (List.map a_i64 p0.state.Vars)), (2, .arr ⟨true, true⟩ 1 2 (List.map a_i64 p0.state.Cells)), (3, .arr ⟨false, true⟩ 1 2 (List.map a_i64 p0.events))] (.bool out.1) [(0, .box [.ow 1, .ow 2, .ow 3, .int .i64 out.2.fuel, .int .i64 out.2.steps, .int .i64 out.2.out]), (1, .arr ⟨true, true⟩ 1 2 (List.map a_i64 out.2.state.Vars)), (2, .arr ⟨true, true⟩ 1 2 (List.map a_i64 out.2.state.Cells)), (3, .arr ⟨false, true⟩ 1 2 (List.map a_i64 out.2.events))] := by
  refine ACall.intro Try.func86 rfl Try.ntmps86 rfl (fun F hF => ?_)
  unfold m_impl_running_run_F at hm
  refine T_seq ?_
  refine T_region ?_
  refine TL_pure rfl rfl rfl rfl (op_assign rfl) ?_
  refine TL_nil ?_
  refine T_seq ?_
  refine T_region ?_
  refine TL_pure rfl rfl rfl rfl (op_move rfl) ?_
  refine TL_pure rfl rfl rfl rfl (op_nilCheck rfl rfl) ?_
  refine TL_pure rfl rfl rfl rfl (op_fieldAddr fa73_0 rfl rfl) ?_
  refine TL_pure rfl rfl rfl rfl (op_fieldAddr fa31_0 rfl rfl) ?_
  refine TL_pure rfl rfl rfl rfl (op_load_one ag29 rfl rfl) ?_
  refine TL_pure rfl rfl rfl rfl (op_assign rfl) ?_
  refine TL_nil ?_
  refine T_join (fun (j0 : (List Int) × (List Int) × (List Int) × Int × Int × Int) => ⟨[(0, .ptr 0 0 0), (1, a_Ptree p1), (5, .ow 1)], [(0, .box [.ow 1, .ow 2, .ow 3, .int .i64 j0.2.2.2.1, .int .i64 j0.2.2.2.2.1, .int .i64 j0.2.2.2.2.2]), (1, .arr ⟨true, true⟩ 1 2 (List.map a_i64 j0.1)), (2, .arr ⟨true, true⟩ 1 2 (List.map a_i64 j0.2.1)), (3, .arr ⟨false, true⟩ 1 2 (List.map a_i64 j0.2.2.1))]⟩) (fun j0 => m_impl_running_run_F_J0 rec_impl_running_run p1 j0 = some out) (fun j0 hm => ?_) (fun hj0 => ?_)
  · unfold m_impl_running_run_F_J0 at hm
    refine T_seq ?_
    refine T_region ?_
    refine TL_pure rfl rfl rfl rfl (op_assign rfl) ?_
    refine TL_pure rfl rfl rfl rfl (op_assign rfl) ?_
    refine TL_nil ?_
    refine T_join (fun (j1 : Int × Int) => ⟨[(0, .ptr 0 0 0), (1, a_Ptree p1), (5, .ow 1), (6, .int .i64 j1.1), (7, .int .i64 j1.2)], [(0, .box [.ow 1, .ow 2, .ow 3, .int .i64 j0.2.2.2.1, .int .i64 j0.2.2.2.2.1, .int .i64 j0.2.2.2.2.2]), (1, .arr ⟨true, true⟩ 1 2 (List.map a_i64 j0.1)), (2, .arr ⟨true, true⟩ 1 2 (List.map a_i64 j0.2.1)), (3, .arr ⟨false, true⟩ 1 2 (List.map a_i64 j0.2.2.1))]⟩) (fun j1 => m_impl_running_run_F_J1 rec_impl_running_run p1 j0 j1 = some out) (fun j1 hm => ?_) (fun hj1 => ?_)
    · unfold m_impl_running_run_F_J1 at hm
      refine T_join (fun (j2 : Unit) => ⟨[(0, .ptr 0 0 0), (1, a_Ptree p1), (5, .ow 1), (6, .int .i64 j1.1), (7, .int .i64 j1.2)], [(0, .box [.ow 1, .ow 2, .ow 3, .int .i64 j0.2.2.2.1, .int .i64 j0.2.2.2.2.1, .int .i64 j0.2.2.2.2.2]), (1, .arr ⟨true, true⟩ 1 2 (List.map a_i64 j0.1)), (2, .arr ⟨true, true⟩ 1 2 (List.map a_i64 j0.2.1)), (3, .arr ⟨false, true⟩ 1 2 (List.map a_i64 j0.2.2.1))]⟩) (fun j2 => m_impl_running_run_F_J2 rec_impl_running_run p1 j0 j1 j2 = some out) (fun j2 hm => ?_) (fun hj2 => ?_)
      · unfold m_impl_running_run_F_J2 at hm
        refine T_join (fun (j3 : Unit) => ⟨[(0, .ptr 0 0 0), (1, a_Ptree p1), (5, .ow 1), (6, .int .i64 j1.1), (7, .int .i64 j1.2)], [(0, .box [.ow 1, .ow 2, .ow 3, .int .i64 j0.2.2.2.1, .int .i64 j0.2.2.2.2.1, .int .i64 j0.2.2.2.2.2]), (1, .arr ⟨true, true⟩ 1 2 (List.map a_i64 j0.1)), (2, .arr ⟨true, true⟩ 1 2 (List.map a_i64 j0.2.1)), (3, .arr ⟨false, true⟩ 1 2 (List.map a_i64 j0.2.2.1))]⟩) (fun j3 => m_impl_running_run_F_J3 rec_impl_running_run p1 j0 j1 j3 = some out) (fun j3 hm => ?_) (fun hj3 => ?_)
        · unfold m_impl_running_run_F_J3 at hm
          refine T_seq ?_
          refine T_seq ?_
          refine T_region ?_
          refine TL_pure rfl rfl rfl rfl (op_move rfl) ?_
          obtain ⟨o94, ho94, hm⟩ := bindS hm
          refine TL_trAt 94 (x' := .cp [.int .i64 o94.Stmt.Kind, .int .i64 o94.Stmt.Var, .int .i64 o94.Stmt.Event, .int .i64 o94.Stmt.Sum.Const, .sl 1 (List.map a_i64 o94.Stmt.Sum.Coeffs), .int .i64 o94.Stmt.Index.Const, .sl 1 (List.map a_i64 o94.Stmt.Index.Coeffs), .sl 2 (List.map a_Term o94.Stmt.Facts), .int .i64 o94.at_, .sl 1 (List.map a_Ptree o94.kids)]) rfl (TrR_open (un_tree_eq ho94)) rfl ?_
          refine TL_pure rfl rfl rfl rfl (op_nilCheck rfl rfl) ?_
          refine TL_pure rfl rfl rfl rfl (op_fieldAddrC (n := 8) fa132_0 rfl rfl rfl) ?_
          refine TL_pure rfl rfl rfl rfl (op_fieldAddrC (n := 1) fa77_0 rfl rfl rfl) ?_
          refine TL_pure rfl rfl rfl rfl (op_load_one ag2 rfl rfl) ?_
          refine TL_nil ?_
          refine T_block ?_
          refine T_seq ?_
          refine T_region ?_
          refine TL_pure rfl rfl rfl rfl (op_eql rfl rfl) ?_
          refine TL_pure rfl rfl rfl rfl (op_assign rfl) ?_
          refine TL_nil ?_
          refine T_cond rfl (fun hq => ?_) (fun hq => ?_)
          · replace hm := condT hq hm
            refine T_seq ?_
            refine T_region ?_
            refine TL_pure rfl rfl rfl rfl (op_move rfl) ?_
            refine TL_pure rfl rfl rfl rfl (op_move rfl) ?_
            refine TL_trAt 102 (x' := .cp [.int .i64 o94.Stmt.Kind, .int .i64 o94.Stmt.Var, .int .i64 o94.Stmt.Event, .int .i64 o94.Stmt.Sum.Const, .sl 1 (List.map a_i64 o94.Stmt.Sum.Coeffs), .int .i64 o94.Stmt.Index.Const, .sl 1 (List.map a_i64 o94.Stmt.Index.Coeffs), .sl 2 (List.map a_Term o94.Stmt.Facts), .int .i64 o94.at_, .sl 1 (List.map a_Ptree o94.kids)]) rfl (TrR_open (un_tree_eq ho94)) rfl ?_
            refine TL_pure rfl rfl rfl rfl (op_nilCheck rfl rfl) ?_
            refine TL_pure rfl rfl rfl rfl (op_fieldAddr fa132_2 rfl rfl) ?_
            refine TL_pure rfl rfl rfl rfl (op_load_one ag129 rfl rfl) ?_
            obtain ⟨x106, hx106, hm⟩ := bindS hm
            refine TL_pure rfl rfl rfl rfl (op_indexT el129 rfl rfl hx106 rfl) ?_
            refine TL_pure rfl rfl rfl rfl (op_load_one ag88 rfl rfl) ?_
            obtain ⟨r108, hr108, hm⟩ := bindS hm
            refine TL_call [(0, 0), (1, 1), (2, 2), (3, 3)] [] [3] (hrec_impl_running_run (running.mk (State.mk j0.1 j0.2.1) j0.2.2.1 j0.2.2.2.1 j0.2.2.2.2.1 j0.2.2.2.2.2) x106 r108 hr108) Try.call86 rfl rfl rfl rfl rfl ⟨rfl, rfl, rfl, rfl, trivial⟩ rfl rfl rfl rfl rfl rfl rfl rfl rfl rfl rfl ?_
            refine TL_pure rfl rfl rfl rfl (op_move rfl) ?_
            refine TL_split 109 rfl rfl rfl (fun hq => ?_) (fun hq => ?_)
            · replace hm := condT hq hm
              refine TL_want rfl rfl ?_
              refine TL_pure rfl rfl rfl rfl (op_move rfl) ?_
              refine TL_want rfl rfl ?_
              refine TL_pure rfl rfl rfl rfl (op_move rfl) ?_
              refine TL_want rfl rfl ?_
              refine TL_trAt 111 (x' := .cp [.int .i64 o94.Stmt.Kind, .int .i64 o94.Stmt.Var, .int .i64 o94.Stmt.Event, .int .i64 o94.Stmt.Sum.Const, .sl 1 (List.map a_i64 o94.Stmt.Sum.Coeffs), .int .i64 o94.Stmt.Index.Const, .sl 1 (List.map a_i64 o94.Stmt.Index.Coeffs), .sl 2 (List.map a_Term o94.Stmt.Facts), .int .i64 o94.at_, .sl 1 (List.map a_Ptree o94.kids)]) rfl (TrR_open (un_tree_eq ho94)) rfl ?_
              refine TL_pure rfl rfl rfl rfl (op_nilCheck rfl rfl) ?_
              refine TL_want rfl rfl ?_
              refine TL_pure rfl rfl rfl rfl (op_fieldAddr fa132_2 rfl rfl) ?_
              refine TL_want rfl rfl ?_
              refine TL_pure rfl rfl rfl rfl (op_load_one ag129 rfl rfl) ?_
              refine TL_want rfl rfl ?_
              obtain ⟨x115, hx115, hm⟩ := bindS hm
              refine TL_pure rfl rfl rfl rfl (op_indexT el129 rfl rfl hx115 rfl) ?_
              refine TL_want rfl rfl ?_
              refine TL_pure rfl rfl rfl rfl (op_load_one ag88 rfl rfl) ?_
              refine TL_want rfl rfl ?_
              obtain ⟨r117, hr117, hm⟩ := bindS hm
              refine TL_call [(0, 0), (1, 1), (2, 2), (3, 3)] [] [3] (hrec_impl_running_run r108.2 x115 r117 hr117) Try.call86 rfl rfl rfl rfl rfl ⟨rfl, rfl, rfl, rfl, trivial⟩ rfl rfl rfl rfl rfl rfl rfl rfl rfl rfl rfl ?_
              refine TL_pure rfl rfl rfl rfl (op_pick_true rfl rfl) ?_
              refine TL_pure rfl rfl rfl rfl (op_assign rfl) ?_
              refine TL_nil ?_
              refine T_keepH [4] [0, 1, 2, 3] rfl rfl rfl rfl (by rw [hF]; rfl) ?_
              refine T_ret ?_
              obtain rfl := someI hm
              refine ⟨[_], [0, 1, 2, 3], ⟨rfl, trivial⟩, ?_, rfl, rfl, rfl, rfl⟩
              rfl
            · replace hm := condF hq hm
              refine TL_pass rfl rfl rfl rfl rfl rfl rfl ?_
              refine TL_pass rfl rfl rfl rfl rfl rfl rfl ?_
              refine TL_pass rfl rfl rfl rfl rfl rfl rfl ?_
              refine TL_pass rfl rfl rfl rfl rfl rfl rfl ?_
              refine TL_pass rfl rfl rfl rfl rfl rfl rfl ?_
              refine TL_pass rfl rfl rfl rfl rfl rfl rfl ?_
              refine TL_pass rfl rfl rfl rfl rfl rfl rfl ?_
              refine TL_pass rfl rfl rfl rfl rfl rfl rfl ?_
              refine TL_pure rfl rfl rfl rfl (op_pick_false rfl rfl) ?_
              refine TL_pure rfl rfl rfl rfl (op_assign rfl) ?_
              refine TL_nil ?_
              refine T_keepH [4] [0, 1, 2, 3] rfl rfl rfl rfl (by rw [hF]; rfl) ?_
              refine T_ret ?_
              obtain rfl := someI hm
              refine ⟨[_], [0, 1, 2, 3], ⟨rfl, trivial⟩, ?_, rfl, rfl, rfl, rfl⟩
              rfl
          · replace hm := condF hq hm
            refine T_seq ?_
            refine T_region ?_
            refine TL_pure rfl rfl rfl rfl (op_eql rfl rfl) ?_
            refine TL_pure rfl rfl rfl rfl (op_assign rfl) ?_
            refine TL_nil ?_
            refine T_cond rfl (fun hq => ?_) (fun hq => ?_)
            · replace hm := condT hq hm
              refine T_region ?_
              refine TL_pure rfl rfl rfl rfl (op_move rfl) ?_
              refine TL_pure rfl rfl rfl rfl (op_move rfl) ?_
              refine TL_trAt 122 (x' := .cp [.int .i64 o94.Stmt.Kind, .int .i64 o94.Stmt.Var, .int .i64 o94.Stmt.Event, .int .i64 o94.Stmt.Sum.Const, .sl 1 (List.map a_i64 o94.Stmt.Sum.Coeffs), .int .i64 o94.Stmt.Index.Const, .sl 1 (List.map a_i64 o94.Stmt.Index.Coeffs), .sl 2 (List.map a_Term o94.Stmt.Facts), .int .i64 o94.at_, .sl 1 (List.map a_Ptree o94.kids)]) rfl (TrR_open (un_tree_eq ho94)) rfl ?_
              refine TL_pure rfl rfl rfl rfl (op_nilCheck rfl rfl) ?_
              refine TL_pure rfl rfl rfl rfl (op_fieldAddrC (n := 8) fa132_0 rfl rfl rfl) ?_
              refine TL_pure rfl rfl rfl rfl (op_fieldAddrC (n := 1) fa77_1 rfl rfl rfl) ?_
              refine TL_pure rfl rfl rfl rfl (op_load_one ag2 rfl rfl) ?_
              refine TL_pure rfl rfl rfl rfl (op_move rfl) ?_
              obtain ⟨x128, hx128, hm⟩ := bindS hm
              refine TL_pure rfl rfl rfl rfl (op_indexO el29 rfl rfl rfl hx128) ?_
              refine TL_storeFT sz2 rfl rfl ((getI_spec hx128).2) (v' := j1.1) rfl rfl rfl rfl rfl rfl rfl rfl rfl ?_
              refine TL_nil ?_
              refine T_seq ?_
              refine T_region ?_
              refine TL_pure rfl rfl rfl rfl (op_assign rfl) ?_
              refine TL_nil ?_
              refine T_keepH [4] [0, 1, 2, 3] rfl rfl rfl rfl (by rw [hF]; rfl) ?_
              refine T_ret ?_
              obtain rfl := someI hm
              refine ⟨[_], [0, 1, 2, 3], ⟨rfl, trivial⟩, ?_, rfl, rfl, rfl, rfl⟩
              rfl
            · replace hm := condF hq hm
              refine T_seq ?_
              refine T_region ?_
              refine TL_pure rfl rfl rfl rfl (op_eql rfl rfl) ?_
              refine TL_pure rfl rfl rfl rfl (op_assign rfl) ?_
              refine TL_nil ?_
              refine T_cond rfl (fun hq => ?_) (fun hq => ?_)
              · replace hm := condT hq hm
                refine T_drawZ [15] mix (by kernel_rfl) rfl ?_
                obtain ⟨x143, hx143, hm⟩ := bindS hm
                obtain ⟨x145, hx145, hm⟩ := bindS hm
                refine TZ_pure 0 (by kernel_rfl) rfl rfl rfl rfl rfl (op_move rfl) ?_
                refine TZ_pure 1 (by kernel_rfl) rfl rfl rfl rfl rfl (op_move rfl) ?_
                refine TZ_trAt 132 (x' := .cp [.int .i64 o94.Stmt.Kind, .int .i64 o94.Stmt.Var, .int .i64 o94.Stmt.Event, .int .i64 o94.Stmt.Sum.Const, .sl 1 (List.map a_i64 o94.Stmt.Sum.Coeffs), .int .i64 o94.Stmt.Index.Const, .sl 1 (List.map a_i64 o94.Stmt.Index.Coeffs), .sl 2 (List.map a_Term o94.Stmt.Facts), .int .i64 o94.at_, .sl 1 (List.map a_Ptree o94.kids)]) rfl (TrR_open (un_tree_eq ho94)) rfl ?_
                refine TZ_pure 2 (by kernel_rfl) rfl rfl rfl rfl rfl (op_nilCheck rfl rfl) ?_
                refine TZ_pure 3 (by kernel_rfl) rfl rfl rfl rfl rfl (op_fieldAddrC (n := 8) fa132_0 rfl rfl rfl) ?_
                refine TZ_pure 4 (by kernel_rfl) rfl rfl rfl rfl rfl (op_fieldAddrC (n := 1) fa77_1 rfl rfl rfl) ?_
                refine TZ_pure 5 (by kernel_rfl) rfl rfl rfl rfl rfl (op_load_one ag2 rfl rfl) ?_
                refine TZ_pure 6 (by kernel_rfl) rfl rfl rfl rfl rfl (op_move rfl) ?_
                refine TZ_pure 7 (by kernel_rfl) rfl rfl rfl rfl rfl (op_nilCheck rfl rfl) ?_
                refine TZ_pure 8 (by kernel_rfl) rfl rfl rfl rfl rfl (op_fieldAddr fa73_0 rfl rfl) ?_
                refine TZ_pure 9 (by kernel_rfl) rfl rfl rfl rfl rfl (op_fieldAddr fa31_1 rfl rfl) ?_
                refine TZ_pure 10 (by kernel_rfl) rfl rfl rfl rfl rfl (op_load_one ag29 rfl rfl) ?_
                refine TZ_pure 11 (by kernel_rfl) rfl rfl rfl rfl rfl (op_move rfl) ?_
                refine TZ_pure 12 (by kernel_rfl) rfl rfl rfl rfl rfl (op_indexO el29 rfl rfl rfl hx143) ?_
                refine TZ_pure 13 (by kernel_rfl) rfl rfl rfl rfl rfl (op_loadD1 ag2 rfl rfl ((getI_spec hx143).2) rfl rfl rfl rfl) ?_
                refine TZ_pure 14 (by kernel_rfl) rfl rfl rfl rfl rfl (op_indexO el29 rfl rfl rfl hx145) ?_
                refine TZ_one 15 (by kernel_rfl) rfl ?_
                refine TL_storeFT sz2 rfl rfl ((getI_spec hx145).2) (v' := x143) rfl rfl rfl rfl rfl rfl rfl rfl rfl ?_
                refine TL_nil ?_
                refine TZ_done (by kernel_rfl) ?_
                refine T_seq ?_
                refine T_region ?_
                refine TL_pure rfl rfl rfl rfl (op_assign rfl) ?_
                refine TL_nil ?_
                refine T_keepH [4] [0, 1, 2, 3] rfl rfl rfl rfl (by rw [hF]; rfl) ?_
                refine T_ret ?_
                obtain rfl := someI hm
                refine ⟨[_], [0, 1, 2, 3], ⟨rfl, trivial⟩, ?_, rfl, rfl, rfl, rfl⟩
                rfl
              · replace hm := condF hq hm
                refine T_seq ?_
                refine T_region ?_
                refine TL_pure rfl rfl rfl rfl (op_eql rfl rfl) ?_
                refine TL_pure rfl rfl rfl rfl (op_assign rfl) ?_
                refine TL_nil ?_
                refine T_cond rfl (fun hq => ?_) (fun hq => ?_)
                · replace hm := condT hq hm
                  refine T_region ?_
                  refine TL_pure rfl rfl rfl rfl (op_move rfl) ?_
                  refine TL_pure rfl rfl rfl rfl (op_nilCheck rfl rfl) ?_
                  refine TL_pure rfl rfl rfl rfl (op_fieldAddr fa73_0 rfl rfl) ?_
                  refine TL_pure rfl rfl rfl rfl (op_fieldAddr fa31_1 rfl rfl) ?_
                  refine TL_pure rfl rfl rfl rfl (op_load_one ag29 rfl rfl) ?_
                  refine TL_pure rfl rfl rfl rfl (op_move rfl) ?_
                  refine TL_pure rfl rfl rfl rfl (op_move rfl) ?_
                  obtain ⟨x155, hx155, hm⟩ := bindS hm
                  refine TL_pure rfl rfl rfl rfl (op_indexO el29 rfl rfl rfl hx155) ?_
                  refine TL_storeFT sz2 rfl rfl ((getI_spec hx155).2) (v' := j1.1) rfl rfl rfl rfl rfl rfl rfl rfl rfl ?_
                  refine TL_nil ?_
                  refine T_seq ?_
                  refine T_region ?_
                  refine TL_pure rfl rfl rfl rfl (op_assign rfl) ?_
                  refine TL_nil ?_
                  refine T_keepH [4] [0, 1, 2, 3] rfl rfl rfl rfl (by rw [hF]; rfl) ?_
                  refine T_ret ?_
                  obtain rfl := someI hm
                  refine ⟨[_], [0, 1, 2, 3], ⟨rfl, trivial⟩, ?_, rfl, rfl, rfl, rfl⟩
                  rfl
                · replace hm := condF hq hm
                  refine T_seq ?_
                  refine T_region ?_
                  refine TL_pure rfl rfl rfl rfl (op_eql rfl rfl) ?_
                  refine TL_pure rfl rfl rfl rfl (op_assign rfl) ?_
                  refine TL_nil ?_
                  refine T_cond rfl (fun hq => ?_) (fun hq => ?_)
                  · replace hm := condT hq hm
                    refine T_drawZ [10, 11, 14] mix (by kernel_rfl) rfl ?_
                    obtain ⟨q169, hq169, hm⟩ := bindS hm
                    refine TZ_pure 0 (by kernel_rfl) rfl rfl rfl rfl rfl (op_move rfl) ?_
                    refine TZ_pure 1 (by kernel_rfl) rfl rfl rfl rfl rfl (op_move rfl) ?_
                    refine TZ_pure 2 (by kernel_rfl) rfl rfl rfl rfl rfl (op_nilCheck rfl rfl) ?_
                    refine TZ_pure 3 (by kernel_rfl) rfl rfl rfl rfl rfl (op_fieldAddr fa73_1 rfl rfl) ?_
                    refine TZ_pure 5 (by kernel_rfl) rfl rfl rfl rfl rfl (op_move rfl) ?_
                    refine TZ_trAt 163 (x' := .cp [.int .i64 o94.Stmt.Kind, .int .i64 o94.Stmt.Var, .int .i64 o94.Stmt.Event, .int .i64 o94.Stmt.Sum.Const, .sl 1 (List.map a_i64 o94.Stmt.Sum.Coeffs), .int .i64 o94.Stmt.Index.Const, .sl 1 (List.map a_i64 o94.Stmt.Index.Coeffs), .sl 2 (List.map a_Term o94.Stmt.Facts), .int .i64 o94.at_, .sl 1 (List.map a_Ptree o94.kids)]) rfl (TrR_open (un_tree_eq ho94)) rfl ?_
                    refine TZ_pure 6 (by kernel_rfl) rfl rfl rfl rfl rfl (op_nilCheck rfl rfl) ?_
                    refine TZ_pure 7 (by kernel_rfl) rfl rfl rfl rfl rfl (op_fieldAddrC (n := 8) fa132_0 rfl rfl rfl) ?_
                    refine TZ_pure 8 (by kernel_rfl) rfl rfl rfl rfl rfl (op_fieldAddrC (n := 1) fa77_2 rfl rfl rfl) ?_
                    refine TZ_cut 6 [true, true, true, true, true, true, true, true, true, false, false, false, false, false, false] ⟨[(0, .ptr 0 0 0), (1, a_Ptree p1), (5, .ow 1), (6, .int .i64 j1.1), (7, .int .i64 j1.2), (94, .cp [.int .i64 o94.Stmt.Kind, .int .i64 o94.Stmt.Var, .int .i64 o94.Stmt.Event, .int .i64 o94.Stmt.Sum.Const, .sl 1 (List.map a_i64 o94.Stmt.Sum.Coeffs), .int .i64 o94.Stmt.Index.Const, .sl 1 (List.map a_i64 o94.Stmt.Index.Coeffs), .sl 2 (List.map a_Term o94.Stmt.Facts), .int .i64 o94.at_, .sl 1 (List.map a_Ptree o94.kids)]), (95, .cp [.int .i64 o94.Stmt.Kind, .int .i64 o94.Stmt.Var, .int .i64 o94.Stmt.Event, .int .i64 o94.Stmt.Sum.Const, .sl 1 (List.map a_i64 o94.Stmt.Sum.Coeffs), .int .i64 o94.Stmt.Index.Const, .sl 1 (List.map a_i64 o94.Stmt.Index.Coeffs), .sl 2 (List.map a_Term o94.Stmt.Facts), .int .i64 o94.at_, .sl 1 (List.map a_Ptree o94.kids)]), (96, .cp [.int .i64 o94.Stmt.Kind, .int .i64 o94.Stmt.Var, .int .i64 o94.Stmt.Event, .int .i64 o94.Stmt.Sum.Const, .sl 1 (List.map a_i64 o94.Stmt.Sum.Coeffs), .int .i64 o94.Stmt.Index.Const, .sl 1 (List.map a_i64 o94.Stmt.Index.Coeffs), .sl 2 (List.map a_Term o94.Stmt.Facts)]), (97, .cp [.int .i64 o94.Stmt.Kind]), (98, .int .i64 o94.Stmt.Kind), (99, .bool (decide (o94.Stmt.Kind = (1 : Int)))), (100, .bool (decide (o94.Stmt.Kind = (1 : Int)))), (119, .bool (decide (o94.Stmt.Kind = (2 : Int)))), (120, .bool (decide (o94.Stmt.Kind = (2 : Int)))), (129, .bool (decide (o94.Stmt.Kind = (3 : Int)))), (130, .bool (decide (o94.Stmt.Kind = (3 : Int)))), (146, .bool (decide (o94.Stmt.Kind = (4 : Int)))), (147, .bool (decide (o94.Stmt.Kind = (4 : Int)))), (156, .bool (decide (o94.Stmt.Kind = (5 : Int)))), (157, .bool (decide (o94.Stmt.Kind = (5 : Int)))), (158, .ptr 0 0 0), (159, .ptr 0 0 0), (160, .ptr 0 0 0), (161, .ptr 0 0 2), (162, .ow 3), (163, .cp [.int .i64 o94.Stmt.Kind, .int .i64 o94.Stmt.Var, .int .i64 o94.Stmt.Event, .int .i64 o94.Stmt.Sum.Const, .sl 1 (List.map a_i64 o94.Stmt.Sum.Coeffs), .int .i64 o94.Stmt.Index.Const, .sl 1 (List.map a_i64 o94.Stmt.Index.Coeffs), .sl 2 (List.map a_Term o94.Stmt.Facts), .int .i64 o94.at_, .sl 1 (List.map a_Ptree o94.kids)]), (164, .cp [.int .i64 o94.Stmt.Kind, .int .i64 o94.Stmt.Var, .int .i64 o94.Stmt.Event, .int .i64 o94.Stmt.Sum.Const, .sl 1 (List.map a_i64 o94.Stmt.Sum.Coeffs), .int .i64 o94.Stmt.Index.Const, .sl 1 (List.map a_i64 o94.Stmt.Index.Coeffs), .sl 2 (List.map a_Term o94.Stmt.Facts), .int .i64 o94.at_, .sl 1 (List.map a_Ptree o94.kids)]), (165, .cp [.int .i64 o94.Stmt.Kind, .int .i64 o94.Stmt.Var, .int .i64 o94.Stmt.Event, .int .i64 o94.Stmt.Sum.Const, .sl 1 (List.map a_i64 o94.Stmt.Sum.Coeffs), .int .i64 o94.Stmt.Index.Const, .sl 1 (List.map a_i64 o94.Stmt.Index.Coeffs), .sl 2 (List.map a_Term o94.Stmt.Facts)]), (166, .cp [.int .i64 o94.Stmt.Event])], [(0, .box [.ow 1, .ow 2, .ow 3, .int .i64 j0.2.2.2.1, .int .i64 j0.2.2.2.2.1, .int .i64 j0.2.2.2.2.2]), (1, .arr ⟨true, true⟩ 1 2 (List.map a_i64 j0.1)), (2, .arr ⟨true, true⟩ 1 2 (List.map a_i64 j0.2.1)), (3, .arr ⟨false, true⟩ 1 2 (List.map a_i64 j0.2.2.1))]⟩ ?_ (fun hS10_0 => ?_)
                    · refine TZ_one 9 (by kernel_rfl) rfl ?_
                      refine TL_pure rfl rfl rfl rfl (op_load_one ag2 rfl rfl) ?_
                      refine TL_nil ?_
                      refine TZ_one 10 (by kernel_rfl) rfl ?_
                      refine TL_buildSlice 891 (es := List.map a_i64 [o94.Stmt.Event]) el29 z2 rfl rfl rfl rfl rfl rfl rfl rfl rfl ?_
                      refine TL_nil ?_
                      refine TZ_one 11 (by kernel_rfl) rfl ?_
                      refine TL_deepen 891 (p' := false) (List.map a_i64 [o94.Stmt.Event]) (by rw [hF]; rfl) rfl (ElR.map (f := a_i64) (g := a_i64) (fun _ => ⟨⟨rfl, rfl⟩, trivial⟩) [o94.Stmt.Event]) rfl rfl rfl ?_
                      refine TL_appendDT (f := a_i64) (a := j0.2.2.1) (b := [o94.Stmt.Event]) el29 z2 rfl rfl rfl rfl rfl rfl rfl rfl (by rw [hF]; rfl) (capI_spec hq169) rfl rfl rfl rfl rfl ?_
                      refine TL_nil ?_
                      refine TZ_pure 12 (by kernel_rfl) rfl rfl rfl rfl rfl (op_nilCheck rfl rfl) ?_
                      refine TZ_pure 13 (by kernel_rfl) rfl rfl rfl rfl rfl (op_fieldAddr fa73_1 rfl rfl) ?_
                      refine TZ_one 14 (by kernel_rfl) rfl ?_
                      refine TL_store_box sz29 rfl rfl rfl rfl rfl rfl rfl rfl rfl ?_
                      refine TL_nil ?_
                      refine TZ_done (by kernel_rfl) ?_
                      refine T_seq ?_
                      refine T_region ?_
                      refine TL_pure rfl rfl rfl rfl (op_assign rfl) ?_
                      refine TL_nil ?_
                      refine T_keepH [4] [0, 1, 2, 3] rfl rfl rfl rfl (by rw [hF]; rfl) ?_
                      refine T_ret ?_
                      obtain rfl := someI hm
                      refine ⟨[_], [0, 1, 2, 3], ⟨rfl, trivial⟩, ?_, rfl, rfl, rfl, rfl⟩
                      rfl
                    refine TZ_cut 5 [true, true, true, true, true, true, true, true, true, true, false, false, false, false, false] ⟨[(0, .ptr 0 0 0), (1, a_Ptree p1), (5, .ow 1), (6, .int .i64 j1.1), (7, .int .i64 j1.2), (94, .cp [.int .i64 o94.Stmt.Kind, .int .i64 o94.Stmt.Var, .int .i64 o94.Stmt.Event, .int .i64 o94.Stmt.Sum.Const, .sl 1 (List.map a_i64 o94.Stmt.Sum.Coeffs), .int .i64 o94.Stmt.Index.Const, .sl 1 (List.map a_i64 o94.Stmt.Index.Coeffs), .sl 2 (List.map a_Term o94.Stmt.Facts), .int .i64 o94.at_, .sl 1 (List.map a_Ptree o94.kids)]), (95, .cp [.int .i64 o94.Stmt.Kind, .int .i64 o94.Stmt.Var, .int .i64 o94.Stmt.Event, .int .i64 o94.Stmt.Sum.Const, .sl 1 (List.map a_i64 o94.Stmt.Sum.Coeffs), .int .i64 o94.Stmt.Index.Const, .sl 1 (List.map a_i64 o94.Stmt.Index.Coeffs), .sl 2 (List.map a_Term o94.Stmt.Facts), .int .i64 o94.at_, .sl 1 (List.map a_Ptree o94.kids)]), (96, .cp [.int .i64 o94.Stmt.Kind, .int .i64 o94.Stmt.Var, .int .i64 o94.Stmt.Event, .int .i64 o94.Stmt.Sum.Const, .sl 1 (List.map a_i64 o94.Stmt.Sum.Coeffs), .int .i64 o94.Stmt.Index.Const, .sl 1 (List.map a_i64 o94.Stmt.Index.Coeffs), .sl 2 (List.map a_Term o94.Stmt.Facts)]), (97, .cp [.int .i64 o94.Stmt.Kind]), (98, .int .i64 o94.Stmt.Kind), (99, .bool (decide (o94.Stmt.Kind = (1 : Int)))), (100, .bool (decide (o94.Stmt.Kind = (1 : Int)))), (119, .bool (decide (o94.Stmt.Kind = (2 : Int)))), (120, .bool (decide (o94.Stmt.Kind = (2 : Int)))), (129, .bool (decide (o94.Stmt.Kind = (3 : Int)))), (130, .bool (decide (o94.Stmt.Kind = (3 : Int)))), (146, .bool (decide (o94.Stmt.Kind = (4 : Int)))), (147, .bool (decide (o94.Stmt.Kind = (4 : Int)))), (156, .bool (decide (o94.Stmt.Kind = (5 : Int)))), (157, .bool (decide (o94.Stmt.Kind = (5 : Int)))), (158, .ptr 0 0 0), (159, .ptr 0 0 0), (160, .ptr 0 0 0), (161, .ptr 0 0 2), (162, .ow 3), (163, .cp [.int .i64 o94.Stmt.Kind, .int .i64 o94.Stmt.Var, .int .i64 o94.Stmt.Event, .int .i64 o94.Stmt.Sum.Const, .sl 1 (List.map a_i64 o94.Stmt.Sum.Coeffs), .int .i64 o94.Stmt.Index.Const, .sl 1 (List.map a_i64 o94.Stmt.Index.Coeffs), .sl 2 (List.map a_Term o94.Stmt.Facts), .int .i64 o94.at_, .sl 1 (List.map a_Ptree o94.kids)]), (164, .cp [.int .i64 o94.Stmt.Kind, .int .i64 o94.Stmt.Var, .int .i64 o94.Stmt.Event, .int .i64 o94.Stmt.Sum.Const, .sl 1 (List.map a_i64 o94.Stmt.Sum.Coeffs), .int .i64 o94.Stmt.Index.Const, .sl 1 (List.map a_i64 o94.Stmt.Index.Coeffs), .sl 2 (List.map a_Term o94.Stmt.Facts), .int .i64 o94.at_, .sl 1 (List.map a_Ptree o94.kids)]), (165, .cp [.int .i64 o94.Stmt.Kind, .int .i64 o94.Stmt.Var, .int .i64 o94.Stmt.Event, .int .i64 o94.Stmt.Sum.Const, .sl 1 (List.map a_i64 o94.Stmt.Sum.Coeffs), .int .i64 o94.Stmt.Index.Const, .sl 1 (List.map a_i64 o94.Stmt.Index.Coeffs), .sl 2 (List.map a_Term o94.Stmt.Facts)]), (166, .cp [.int .i64 o94.Stmt.Event]), (167, .int .i64 o94.Stmt.Event)], [(0, .box [.ow 1, .ow 2, .ow 3, .int .i64 j0.2.2.2.1, .int .i64 j0.2.2.2.2.1, .int .i64 j0.2.2.2.2.2]), (1, .arr ⟨true, true⟩ 1 2 (List.map a_i64 j0.1)), (2, .arr ⟨true, true⟩ 1 2 (List.map a_i64 j0.2.1)), (3, .arr ⟨false, true⟩ 1 2 (List.map a_i64 j0.2.2.1))]⟩ ?_ (fun hS10_1 => ?_)
                    · refine TZ_one 10 (by kernel_rfl) rfl ?_
                      refine TL_buildSlice 891 (es := List.map a_i64 [o94.Stmt.Event]) el29 z2 rfl rfl rfl rfl rfl rfl rfl rfl rfl ?_
                      refine TL_nil ?_
                      refine TZ_one 11 (by kernel_rfl) rfl ?_
                      refine TL_deepen 891 (p' := false) (List.map a_i64 [o94.Stmt.Event]) (by rw [hF]; rfl) rfl (ElR.map (f := a_i64) (g := a_i64) (fun _ => ⟨⟨rfl, rfl⟩, trivial⟩) [o94.Stmt.Event]) rfl rfl rfl ?_
                      refine TL_appendDT (f := a_i64) (a := j0.2.2.1) (b := [o94.Stmt.Event]) el29 z2 rfl rfl rfl rfl rfl rfl rfl rfl (by rw [hF]; rfl) (capI_spec hq169) rfl rfl rfl rfl rfl ?_
                      refine TL_nil ?_
                      refine TZ_pure 12 (by kernel_rfl) rfl rfl rfl rfl rfl (op_nilCheck rfl rfl) ?_
                      refine TZ_pure 13 (by kernel_rfl) rfl rfl rfl rfl rfl (op_fieldAddr fa73_1 rfl rfl) ?_
                      refine TZ_one 14 (by kernel_rfl) rfl ?_
                      refine TL_store_box sz29 rfl rfl rfl rfl rfl rfl rfl rfl rfl ?_
                      refine TL_nil ?_
                      refine TZ_done (by kernel_rfl) ?_
                      refine T_seq ?_
                      refine T_region ?_
                      refine TL_pure rfl rfl rfl rfl (op_assign rfl) ?_
                      refine TL_nil ?_
                      refine T_keepH [4] [0, 1, 2, 3] rfl rfl rfl rfl (by rw [hF]; rfl) ?_
                      refine T_ret ?_
                      obtain rfl := someI hm
                      refine ⟨[_], [0, 1, 2, 3], ⟨rfl, trivial⟩, ?_, rfl, rfl, rfl, rfl⟩
                      rfl
                    refine TZ_cut 5 [true, true, true, true, false, true, true, true, true, true, true, false, false, false, false] ⟨[(0, .ptr 0 0 0), (1, a_Ptree p1), (5, .ow 1), (6, .int .i64 j1.1), (7, .int .i64 j1.2), (94, .cp [.int .i64 o94.Stmt.Kind, .int .i64 o94.Stmt.Var, .int .i64 o94.Stmt.Event, .int .i64 o94.Stmt.Sum.Const, .sl 1 (List.map a_i64 o94.Stmt.Sum.Coeffs), .int .i64 o94.Stmt.Index.Const, .sl 1 (List.map a_i64 o94.Stmt.Index.Coeffs), .sl 2 (List.map a_Term o94.Stmt.Facts), .int .i64 o94.at_, .sl 1 (List.map a_Ptree o94.kids)]), (95, .cp [.int .i64 o94.Stmt.Kind, .int .i64 o94.Stmt.Var, .int .i64 o94.Stmt.Event, .int .i64 o94.Stmt.Sum.Const, .sl 1 (List.map a_i64 o94.Stmt.Sum.Coeffs), .int .i64 o94.Stmt.Index.Const, .sl 1 (List.map a_i64 o94.Stmt.Index.Coeffs), .sl 2 (List.map a_Term o94.Stmt.Facts), .int .i64 o94.at_, .sl 1 (List.map a_Ptree o94.kids)]), (96, .cp [.int .i64 o94.Stmt.Kind, .int .i64 o94.Stmt.Var, .int .i64 o94.Stmt.Event, .int .i64 o94.Stmt.Sum.Const, .sl 1 (List.map a_i64 o94.Stmt.Sum.Coeffs), .int .i64 o94.Stmt.Index.Const, .sl 1 (List.map a_i64 o94.Stmt.Index.Coeffs), .sl 2 (List.map a_Term o94.Stmt.Facts)]), (97, .cp [.int .i64 o94.Stmt.Kind]), (98, .int .i64 o94.Stmt.Kind), (99, .bool (decide (o94.Stmt.Kind = (1 : Int)))), (100, .bool (decide (o94.Stmt.Kind = (1 : Int)))), (119, .bool (decide (o94.Stmt.Kind = (2 : Int)))), (120, .bool (decide (o94.Stmt.Kind = (2 : Int)))), (129, .bool (decide (o94.Stmt.Kind = (3 : Int)))), (130, .bool (decide (o94.Stmt.Kind = (3 : Int)))), (146, .bool (decide (o94.Stmt.Kind = (4 : Int)))), (147, .bool (decide (o94.Stmt.Kind = (4 : Int)))), (156, .bool (decide (o94.Stmt.Kind = (5 : Int)))), (157, .bool (decide (o94.Stmt.Kind = (5 : Int)))), (158, .ptr 0 0 0), (159, .ptr 0 0 0), (160, .ptr 0 0 0), (161, .ptr 0 0 2), (163, .cp [.int .i64 o94.Stmt.Kind, .int .i64 o94.Stmt.Var, .int .i64 o94.Stmt.Event, .int .i64 o94.Stmt.Sum.Const, .sl 1 (List.map a_i64 o94.Stmt.Sum.Coeffs), .int .i64 o94.Stmt.Index.Const, .sl 1 (List.map a_i64 o94.Stmt.Index.Coeffs), .sl 2 (List.map a_Term o94.Stmt.Facts), .int .i64 o94.at_, .sl 1 (List.map a_Ptree o94.kids)]), (164, .cp [.int .i64 o94.Stmt.Kind, .int .i64 o94.Stmt.Var, .int .i64 o94.Stmt.Event, .int .i64 o94.Stmt.Sum.Const, .sl 1 (List.map a_i64 o94.Stmt.Sum.Coeffs), .int .i64 o94.Stmt.Index.Const, .sl 1 (List.map a_i64 o94.Stmt.Index.Coeffs), .sl 2 (List.map a_Term o94.Stmt.Facts), .int .i64 o94.at_, .sl 1 (List.map a_Ptree o94.kids)]), (165, .cp [.int .i64 o94.Stmt.Kind, .int .i64 o94.Stmt.Var, .int .i64 o94.Stmt.Event, .int .i64 o94.Stmt.Sum.Const, .sl 1 (List.map a_i64 o94.Stmt.Sum.Coeffs), .int .i64 o94.Stmt.Index.Const, .sl 1 (List.map a_i64 o94.Stmt.Index.Coeffs), .sl 2 (List.map a_Term o94.Stmt.Facts)]), (166, .cp [.int .i64 o94.Stmt.Event]), (167, .int .i64 o94.Stmt.Event), (168, .ow 891)], [(0, .box [.ow 1, .ow 2, .ow 3, .int .i64 j0.2.2.2.1, .int .i64 j0.2.2.2.2.1, .int .i64 j0.2.2.2.2.2]), (1, .arr ⟨true, true⟩ 1 2 (List.map a_i64 j0.1)), (2, .arr ⟨true, true⟩ 1 2 (List.map a_i64 j0.2.1)), (3, .arr ⟨false, true⟩ 1 2 (List.map a_i64 j0.2.2.1)), (891, .arr ⟨false, false⟩ 1 2 (List.map a_i64 [o94.Stmt.Event]))]⟩ ?_ (fun hS10_2 => ?_)
                    · refine TZ_pure 4 (by kernel_rfl) rfl rfl rfl rfl rfl (op_load_one ag29 rfl rfl) ?_
                      refine TZ_one 11 (by kernel_rfl) rfl ?_
                      refine TL_deepen 891 (p' := false) (List.map a_i64 [o94.Stmt.Event]) (by rw [hF]; rfl) rfl (ElR.map (f := a_i64) (g := a_i64) (fun _ => ⟨⟨rfl, rfl⟩, trivial⟩) [o94.Stmt.Event]) rfl rfl rfl ?_
                      refine TL_appendDT (f := a_i64) (a := j0.2.2.1) (b := [o94.Stmt.Event]) el29 z2 rfl rfl rfl rfl rfl rfl rfl rfl (by rw [hF]; rfl) (capI_spec hq169) rfl rfl rfl rfl rfl ?_
                      refine TL_nil ?_
                      refine TZ_pure 12 (by kernel_rfl) rfl rfl rfl rfl rfl (op_nilCheck rfl rfl) ?_
                      refine TZ_pure 13 (by kernel_rfl) rfl rfl rfl rfl rfl (op_fieldAddr fa73_1 rfl rfl) ?_
                      refine TZ_one 14 (by kernel_rfl) rfl ?_
                      refine TL_store_box sz29 rfl rfl rfl rfl rfl rfl rfl rfl rfl ?_
                      refine TL_nil ?_
                      refine TZ_done (by kernel_rfl) ?_
                      refine T_seq ?_
                      refine T_region ?_
                      refine TL_pure rfl rfl rfl rfl (op_assign rfl) ?_
                      refine TL_nil ?_
                      refine T_keepH [4] [0, 1, 2, 3] rfl rfl rfl rfl (by rw [hF]; rfl) ?_
                      refine T_ret ?_
                      obtain rfl := someI hm
                      refine ⟨[_], [0, 1, 2, 3], ⟨rfl, trivial⟩, ?_, rfl, rfl, rfl, rfl⟩
                      rfl
                    refine TZ_cut 6 [true, true, true, true, false, true, true, true, true, true, false, false, false, false, false] ⟨[(0, .ptr 0 0 0), (1, a_Ptree p1), (5, .ow 1), (6, .int .i64 j1.1), (7, .int .i64 j1.2), (94, .cp [.int .i64 o94.Stmt.Kind, .int .i64 o94.Stmt.Var, .int .i64 o94.Stmt.Event, .int .i64 o94.Stmt.Sum.Const, .sl 1 (List.map a_i64 o94.Stmt.Sum.Coeffs), .int .i64 o94.Stmt.Index.Const, .sl 1 (List.map a_i64 o94.Stmt.Index.Coeffs), .sl 2 (List.map a_Term o94.Stmt.Facts), .int .i64 o94.at_, .sl 1 (List.map a_Ptree o94.kids)]), (95, .cp [.int .i64 o94.Stmt.Kind, .int .i64 o94.Stmt.Var, .int .i64 o94.Stmt.Event, .int .i64 o94.Stmt.Sum.Const, .sl 1 (List.map a_i64 o94.Stmt.Sum.Coeffs), .int .i64 o94.Stmt.Index.Const, .sl 1 (List.map a_i64 o94.Stmt.Index.Coeffs), .sl 2 (List.map a_Term o94.Stmt.Facts), .int .i64 o94.at_, .sl 1 (List.map a_Ptree o94.kids)]), (96, .cp [.int .i64 o94.Stmt.Kind, .int .i64 o94.Stmt.Var, .int .i64 o94.Stmt.Event, .int .i64 o94.Stmt.Sum.Const, .sl 1 (List.map a_i64 o94.Stmt.Sum.Coeffs), .int .i64 o94.Stmt.Index.Const, .sl 1 (List.map a_i64 o94.Stmt.Index.Coeffs), .sl 2 (List.map a_Term o94.Stmt.Facts)]), (97, .cp [.int .i64 o94.Stmt.Kind]), (98, .int .i64 o94.Stmt.Kind), (99, .bool (decide (o94.Stmt.Kind = (1 : Int)))), (100, .bool (decide (o94.Stmt.Kind = (1 : Int)))), (119, .bool (decide (o94.Stmt.Kind = (2 : Int)))), (120, .bool (decide (o94.Stmt.Kind = (2 : Int)))), (129, .bool (decide (o94.Stmt.Kind = (3 : Int)))), (130, .bool (decide (o94.Stmt.Kind = (3 : Int)))), (146, .bool (decide (o94.Stmt.Kind = (4 : Int)))), (147, .bool (decide (o94.Stmt.Kind = (4 : Int)))), (156, .bool (decide (o94.Stmt.Kind = (5 : Int)))), (157, .bool (decide (o94.Stmt.Kind = (5 : Int)))), (158, .ptr 0 0 0), (159, .ptr 0 0 0), (160, .ptr 0 0 0), (161, .ptr 0 0 2), (163, .cp [.int .i64 o94.Stmt.Kind, .int .i64 o94.Stmt.Var, .int .i64 o94.Stmt.Event, .int .i64 o94.Stmt.Sum.Const, .sl 1 (List.map a_i64 o94.Stmt.Sum.Coeffs), .int .i64 o94.Stmt.Index.Const, .sl 1 (List.map a_i64 o94.Stmt.Index.Coeffs), .sl 2 (List.map a_Term o94.Stmt.Facts), .int .i64 o94.at_, .sl 1 (List.map a_Ptree o94.kids)]), (164, .cp [.int .i64 o94.Stmt.Kind, .int .i64 o94.Stmt.Var, .int .i64 o94.Stmt.Event, .int .i64 o94.Stmt.Sum.Const, .sl 1 (List.map a_i64 o94.Stmt.Sum.Coeffs), .int .i64 o94.Stmt.Index.Const, .sl 1 (List.map a_i64 o94.Stmt.Index.Coeffs), .sl 2 (List.map a_Term o94.Stmt.Facts), .int .i64 o94.at_, .sl 1 (List.map a_Ptree o94.kids)]), (165, .cp [.int .i64 o94.Stmt.Kind, .int .i64 o94.Stmt.Var, .int .i64 o94.Stmt.Event, .int .i64 o94.Stmt.Sum.Const, .sl 1 (List.map a_i64 o94.Stmt.Sum.Coeffs), .int .i64 o94.Stmt.Index.Const, .sl 1 (List.map a_i64 o94.Stmt.Index.Coeffs), .sl 2 (List.map a_Term o94.Stmt.Facts)]), (166, .cp [.int .i64 o94.Stmt.Event]), (167, .int .i64 o94.Stmt.Event)], [(0, .box [.ow 1, .ow 2, .ow 3, .int .i64 j0.2.2.2.1, .int .i64 j0.2.2.2.2.1, .int .i64 j0.2.2.2.2.2]), (1, .arr ⟨true, true⟩ 1 2 (List.map a_i64 j0.1)), (2, .arr ⟨true, true⟩ 1 2 (List.map a_i64 j0.2.1)), (3, .arr ⟨false, true⟩ 1 2 (List.map a_i64 j0.2.2.1))]⟩ ?_ (fun hS10_3 => ?_)
                    · refine TZ_each [4, 10] (by kernel_rfl) rfl ?_
                      refine ⟨?_, ?_⟩
                      · refine ⟨_, rfl, ?_⟩
                        refine TL_pure rfl rfl rfl rfl (op_load_one ag29 rfl rfl) ?_
                        refine TL_nil ?_
                        refine TZ_keepH [0, 1, 5, 6, 7, 94, 95, 96, 97, 98, 99, 100, 119, 120, 129, 130, 146, 147, 156, 157, 158, 159, 160, 161, 162, 163, 164, 165, 166, 167] [0, 1, 2, 3] rfl rfl rfl rfl (by rw [hF]; rfl) ?_
                        exact hS10_1
                      · refine ⟨_, rfl, ?_⟩
                        refine TL_buildSlice 891 (es := List.map a_i64 [o94.Stmt.Event]) el29 z2 rfl rfl rfl rfl rfl rfl rfl rfl rfl ?_
                        refine TL_nil ?_
                        refine TZ_keepH [0, 1, 5, 6, 7, 94, 95, 96, 97, 98, 99, 100, 119, 120, 129, 130, 146, 147, 156, 157, 158, 159, 160, 161, 163, 164, 165, 166, 167, 168] [0, 1, 2, 3, 891] rfl rfl rfl rfl (by rw [hF]; rfl) ?_
                        exact hS10_2
                    refine TZ_each [4, 9] (by kernel_rfl) rfl ?_
                    refine ⟨?_, ?_⟩
                    · refine ⟨_, rfl, ?_⟩
                      refine TL_pure rfl rfl rfl rfl (op_load_one ag29 rfl rfl) ?_
                      refine TL_nil ?_
                      refine TZ_keepH [0, 1, 5, 6, 7, 94, 95, 96, 97, 98, 99, 100, 119, 120, 129, 130, 146, 147, 156, 157, 158, 159, 160, 161, 162, 163, 164, 165, 166] [0, 1, 2, 3] rfl rfl rfl rfl (by rw [hF]; rfl) ?_
                      exact hS10_0
                    · refine ⟨_, rfl, ?_⟩
                      refine TL_pure rfl rfl rfl rfl (op_load_one ag2 rfl rfl) ?_
                      refine TL_nil ?_
                      refine TZ_keepH [0, 1, 5, 6, 7, 94, 95, 96, 97, 98, 99, 100, 119, 120, 129, 130, 146, 147, 156, 157, 158, 159, 160, 161, 163, 164, 165, 166, 167] [0, 1, 2, 3] rfl rfl rfl rfl (by rw [hF]; rfl) ?_
                      exact hS10_3
                  · replace hm := condF hq hm
                    refine T_seq ?_
                    refine T_region ?_
                    refine TL_pure rfl rfl rfl rfl (op_eql rfl rfl) ?_
                    refine TL_pure rfl rfl rfl rfl (op_assign rfl) ?_
                    refine TL_nil ?_
                    refine T_cond rfl (fun hq => ?_) (fun hq => ?_)
                    · replace hm := condT hq hm
                      refine T_seq ?_
                      refine T_region ?_
                      refine TL_pure rfl rfl rfl rfl (op_move rfl) ?_
                      refine TL_pure rfl rfl rfl rfl (op_lss rfl rfl) ?_
                      refine TL_nil ?_
                      refine T_cond rfl (fun hq => ?_) (fun hq => ?_)
                      · replace hm := condT hq hm
                        refine T_seq ?_
                        refine T_region ?_
                        refine TL_pure rfl rfl rfl rfl (op_move rfl) ?_
                        obtain ⟨r177, hr177, hm⟩ := bindS hm
                        refine TL_call [(0, 0), (1, 1), (2, 2), (3, 3)] [] [3] (c_impl_running_stop (running.mk (State.mk j0.1 j0.2.1) j0.2.2.1 j0.2.2.2.1 j0.2.2.2.2.1 j0.2.2.2.2.2) (3 : Int) r177 hr177) Try.call119 rfl rfl rfl rfl rfl ⟨rfl, rfl, rfl, rfl, trivial⟩ rfl rfl rfl rfl rfl rfl rfl rfl rfl rfl rfl ?_
                        refine TL_pure rfl rfl rfl rfl (op_assign rfl) ?_
                        refine TL_nil ?_
                        refine T_keepH [4] [0, 1, 2, 3] rfl rfl rfl rfl (by rw [hF]; rfl) ?_
                        refine T_ret ?_
                        obtain rfl := someI hm
                        refine ⟨[_], [0, 1, 2, 3], ⟨rfl, trivial⟩, ?_, rfl, rfl, rfl, rfl⟩
                        rfl
                      · replace hm := condF hq hm
                        refine T_skip ?_
                        refine T_seq ?_
                        refine T_region ?_
                        refine TL_pure rfl rfl rfl rfl (op_assign rfl) ?_
                        refine TL_nil ?_
                        refine T_keepH [4] [0, 1, 2, 3] rfl rfl rfl rfl (by rw [hF]; rfl) ?_
                        refine T_ret ?_
                        obtain rfl := someI hm
                        refine ⟨[_], [0, 1, 2, 3], ⟨rfl, trivial⟩, ?_, rfl, rfl, rfl, rfl⟩
                        rfl
                    · replace hm := condF hq hm
                      refine T_seq ?_
                      refine T_region ?_
                      refine TL_pure rfl rfl rfl rfl (op_eql rfl rfl) ?_
                      refine TL_pure rfl rfl rfl rfl (op_assign rfl) ?_
                      refine TL_nil ?_
                      refine T_cond rfl (fun hq => ?_) (fun hq => ?_)
                      · replace hm := condT hq hm
                        refine T_seq ?_
                        refine T_seq ?_
                        refine T_region ?_
                        refine TL_pure rfl rfl rfl rfl (op_move rfl) ?_
                        refine TL_pure rfl rfl rfl rfl (op_geq rfl rfl) ?_
                        refine TL_nil ?_
                        refine T_cond rfl (fun hq => ?_) (fun hq => ?_)
                        · replace hm := condT hq hm
                          refine T_seq ?_
                          refine T_region ?_
                          refine TL_pure rfl rfl rfl rfl (op_move rfl) ?_
                          refine TL_pure rfl rfl rfl rfl (op_move rfl) ?_
                          refine TL_trAt 183 (x' := .cp [.int .i64 o94.Stmt.Kind, .int .i64 o94.Stmt.Var, .int .i64 o94.Stmt.Event, .int .i64 o94.Stmt.Sum.Const, .sl 1 (List.map a_i64 o94.Stmt.Sum.Coeffs), .int .i64 o94.Stmt.Index.Const, .sl 1 (List.map a_i64 o94.Stmt.Index.Coeffs), .sl 2 (List.map a_Term o94.Stmt.Facts), .int .i64 o94.at_, .sl 1 (List.map a_Ptree o94.kids)]) rfl (TrR_open (un_tree_eq ho94)) rfl ?_
                          refine TL_pure rfl rfl rfl rfl (op_nilCheck rfl rfl) ?_
                          refine TL_pure rfl rfl rfl rfl (op_fieldAddr fa132_2 rfl rfl) ?_
                          refine TL_pure rfl rfl rfl rfl (op_load_one ag129 rfl rfl) ?_
                          obtain ⟨x187, hx187, hm⟩ := bindS hm
                          refine TL_pure rfl rfl rfl rfl (op_indexT el129 rfl rfl hx187 rfl) ?_
                          refine TL_pure rfl rfl rfl rfl (op_load_one ag88 rfl rfl) ?_
                          obtain ⟨r189, hr189, hm⟩ := bindS hm
                          refine TL_call [(0, 0), (1, 1), (2, 2), (3, 3)] [] [3] (hrec_impl_running_run (running.mk (State.mk j0.1 j0.2.1) j0.2.2.1 j0.2.2.2.1 j0.2.2.2.2.1 j0.2.2.2.2.2) x187 r189 hr189) Try.call86 rfl rfl rfl rfl rfl ⟨rfl, rfl, rfl, rfl, trivial⟩ rfl rfl rfl rfl rfl rfl rfl rfl rfl rfl rfl ?_
                          refine TL_pure rfl rfl rfl rfl (op_assign rfl) ?_
                          refine TL_nil ?_
                          refine T_keepH [4] [0, 1, 2, 3] rfl rfl rfl rfl (by rw [hF]; rfl) ?_
                          refine T_ret ?_
                          obtain rfl := someI hm
                          refine ⟨[_], [0, 1, 2, 3], ⟨rfl, trivial⟩, ?_, rfl, rfl, rfl, rfl⟩
                          rfl
                        · replace hm := condF hq hm
                          refine T_skip ?_
                          refine T_seq ?_
                          refine T_region ?_
                          refine TL_pure rfl rfl rfl rfl (op_move rfl) ?_
                          refine TL_pure rfl rfl rfl rfl (op_move rfl) ?_
                          refine TL_trAt 191 (x' := .cp [.int .i64 o94.Stmt.Kind, .int .i64 o94.Stmt.Var, .int .i64 o94.Stmt.Event, .int .i64 o94.Stmt.Sum.Const, .sl 1 (List.map a_i64 o94.Stmt.Sum.Coeffs), .int .i64 o94.Stmt.Index.Const, .sl 1 (List.map a_i64 o94.Stmt.Index.Coeffs), .sl 2 (List.map a_Term o94.Stmt.Facts), .int .i64 o94.at_, .sl 1 (List.map a_Ptree o94.kids)]) rfl (TrR_open (un_tree_eq ho94)) rfl ?_
                          refine TL_pure rfl rfl rfl rfl (op_nilCheck rfl rfl) ?_
                          refine TL_pure rfl rfl rfl rfl (op_fieldAddr fa132_2 rfl rfl) ?_
                          refine TL_pure rfl rfl rfl rfl (op_load_one ag129 rfl rfl) ?_
                          obtain ⟨x195, hx195, hm⟩ := bindS hm
                          refine TL_pure rfl rfl rfl rfl (op_indexT el129 rfl rfl hx195 rfl) ?_
                          refine TL_pure rfl rfl rfl rfl (op_load_one ag88 rfl rfl) ?_
                          obtain ⟨r197, hr197, hm⟩ := bindS hm
                          refine TL_call [(0, 0), (1, 1), (2, 2), (3, 3)] [] [3] (hrec_impl_running_run (running.mk (State.mk j0.1 j0.2.1) j0.2.2.1 j0.2.2.2.1 j0.2.2.2.2.1 j0.2.2.2.2.2) x195 r197 hr197) Try.call86 rfl rfl rfl rfl rfl ⟨rfl, rfl, rfl, rfl, trivial⟩ rfl rfl rfl rfl rfl rfl rfl rfl rfl rfl rfl ?_
                          refine TL_pure rfl rfl rfl rfl (op_assign rfl) ?_
                          refine TL_nil ?_
                          refine T_keepH [4] [0, 1, 2, 3] rfl rfl rfl rfl (by rw [hF]; rfl) ?_
                          refine T_ret ?_
                          obtain rfl := someI hm
                          refine ⟨[_], [0, 1, 2, 3], ⟨rfl, trivial⟩, ?_, rfl, rfl, rfl, rfl⟩
                          rfl
                      · replace hm := condF hq hm
                        refine T_seq ?_
                        refine T_region ?_
                        refine TL_pure rfl rfl rfl rfl (op_eql rfl rfl) ?_
                        refine TL_pure rfl rfl rfl rfl (op_assign rfl) ?_
                        refine TL_nil ?_
                        refine T_cond rfl (fun hq => ?_) (fun hq => ?_)
                        · replace hm := condT hq hm
                          refine T_seq ?_
                          refine T_block ?_
                          refine T_keepH [0, 1, 5] [0, 1, 2, 3] rfl rfl rfl rfl (by rw [hF]; rfl) ?_
                          refine T_loop ?_
                          obtain ⟨u0, hl0, hm⟩ := bindS hm
                          refine TR_iter2 (m_impl_running_run_F_L0 rec_impl_running_run o94) (fun (s0 : (List Int) × (List Int) × (List Int) × Int × Int × Int) => ⟨[(0, .ptr 0 0 0), (1, a_Ptree p1), (5, .ow 1)], [(0, .box [.ow 1, .ow 2, .ow 3, .int .i64 s0.2.2.2.1, .int .i64 s0.2.2.2.2.1, .int .i64 s0.2.2.2.2.2]), (1, .arr ⟨true, true⟩ 1 2 (List.map a_i64 s0.1)), (2, .arr ⟨true, true⟩ 1 2 (List.map a_i64 s0.2.1)), (3, .arr ⟨false, true⟩ 1 2 (List.map a_i64 s0.2.2.1))]⟩) (fun u0 => match u0 with | .inl u0 => .exit 1 | .inr u0 => .ret) (fun u0 => match u0 with | .inl u0 => ⟨[], [(0, .box [.ow 1, .ow 2, .ow 3, .int .i64 u0.2.2.2.1, .int .i64 u0.2.2.2.2.1, .int .i64 u0.2.2.2.2.2]), (1, .arr ⟨true, true⟩ 1 2 (List.map a_i64 u0.1)), (2, .arr ⟨true, true⟩ 1 2 (List.map a_i64 u0.2.1)), (3, .arr ⟨false, true⟩ 1 2 (List.map a_i64 u0.2.2.1))]⟩ | .inr u0 => ⟨[(4, .bool u0.1)], [(0, .box [.ow 1, .ow 2, .ow 3, .int .i64 u0.2.2.2.2.1, .int .i64 u0.2.2.2.2.2.1, .int .i64 u0.2.2.2.2.2.2]), (1, .arr ⟨true, true⟩ 1 2 (List.map a_i64 u0.2.1)), (2, .arr ⟨true, true⟩ 1 2 (List.map a_i64 u0.2.2.1)), (3, .arr ⟨false, true⟩ 1 2 (List.map a_i64 u0.2.2.2.1))]⟩) (fun u0 => m_impl_running_run_F_A0 u0 = some out) hl0 hm (fun u0 hm => ?_) (fun hx0 s0 c0 hm hc0 => ?_)
                          · rcases u0 with u0 | u0
                            · unfold m_impl_running_run_F_A0 at hm
                              refine T_seq ?_
                              refine T_region ?_
                              refine TL_pure rfl rfl rfl rfl (op_assign rfl) ?_
                              refine TL_nil ?_
                              refine T_keepH [4] [0, 1, 2, 3] rfl rfl rfl rfl (by rw [hF]; rfl) ?_
                              refine T_ret ?_
                              obtain rfl := someI hm
                              refine ⟨[_], [0, 1, 2, 3], ⟨rfl, trivial⟩, ?_, rfl, rfl, rfl, rfl⟩
                              rfl
                            · unfold m_impl_running_run_F_A0 at hm
                              obtain rfl := someI hm
                              refine ⟨[_], [0, 1, 2, 3], ⟨rfl, trivial⟩, ?_, rfl, rfl, rfl, rfl⟩
                              rfl
                          · unfold m_impl_running_run_F_L0 at hm
                            refine T_seq ?_
                            refine T_seq ?_
                            refine T_region ?_
                            refine TL_pure rfl rfl rfl rfl (op_move rfl) ?_
                            obtain ⟨r201, hr201, hm⟩ := bindS hm
                            refine TL_call [(0, 0), (1, 1), (2, 2), (3, 3)] [] [3] (c_impl_running_step (running.mk (State.mk s0.1 s0.2.1) s0.2.2.1 s0.2.2.2.1 s0.2.2.2.2.1 s0.2.2.2.2.2) r201 hr201) Try.call117 rfl rfl rfl rfl rfl ⟨rfl, rfl, rfl, rfl, trivial⟩ rfl rfl rfl rfl rfl rfl rfl rfl rfl rfl rfl ?_
                            refine TL_nil ?_
                            refine T_cond rfl (fun hq => ?_) (fun hq => ?_)
                            · replace hm := condT hq hm
                              refine T_skip ?_
                              refine T_block ?_
                              refine T_seq ?_
                              refine T_seq ?_
                              refine T_region ?_
                              refine TL_pure rfl rfl rfl rfl (op_move rfl) ?_
                              refine TL_trAt 202 (x' := .cp [.int .i64 o94.Stmt.Kind, .int .i64 o94.Stmt.Var, .int .i64 o94.Stmt.Event, .int .i64 o94.Stmt.Sum.Const, .sl 1 (List.map a_i64 o94.Stmt.Sum.Coeffs), .int .i64 o94.Stmt.Index.Const, .sl 1 (List.map a_i64 o94.Stmt.Index.Coeffs), .sl 2 (List.map a_Term o94.Stmt.Facts), .int .i64 o94.at_, .sl 1 (List.map a_Ptree o94.kids)]) rfl (TrR_open (un_tree_eq ho94)) rfl ?_
                              refine TL_pure rfl rfl rfl rfl (op_nilCheck rfl rfl) ?_
                              refine TL_pure rfl rfl rfl rfl (op_fieldAddrC (n := 8) fa132_0 rfl rfl rfl) ?_
                              refine TL_pure rfl rfl rfl rfl (op_fieldAddrC (n := 2) fa77_3 rfl rfl rfl) ?_
                              refine TL_pure rfl rfl rfl rfl (op_load_agg ag75 sz75 rfl rfl rfl) ?_
                              refine TL_pure rfl rfl rfl rfl (op_move rfl) ?_
                              obtain ⟨r208, hr208, hm⟩ := bindS hm
                              refine TL_callF (c_impl_Term_eval o94.Stmt.Sum r201.2.state.Vars r208 hr208) Try.call118 rfl rfl rfl rfl rfl ?_
                              refine TL_pure rfl rfl rfl rfl (op_lss rfl rfl) ?_
                              refine TL_nil ?_
                              refine T_cond rfl (fun hq => ?_) (fun hq => ?_)
                              · replace hm := condT hq hm
                                refine T_seq ?_
                                refine T_region ?_
                                refine TL_pure rfl rfl rfl rfl (op_assign rfl) ?_
                                refine TL_nil ?_
                                refine T_keepH [4] [0, 1, 2, 3] rfl rfl rfl rfl (by rw [hF]; rfl) ?_
                                refine T_ret ?_
                                obtain rfl := someI hm
                                have hn := CtlOK_out hc0
                                exact hx0 (.inr (true, r201.2.state.Vars, r201.2.state.Cells, r201.2.events, r201.2.fuel, r201.2.steps, r201.2.out)) hn
                              · replace hm := condF hq hm
                                refine T_skip ?_
                                refine T_seq ?_
                                refine T_region ?_
                                refine TL_pure rfl rfl rfl rfl (op_move rfl) ?_
                                refine TL_pure rfl rfl rfl rfl (op_move rfl) ?_
                                refine TL_trAt 211 (x' := .cp [.int .i64 o94.Stmt.Kind, .int .i64 o94.Stmt.Var, .int .i64 o94.Stmt.Event, .int .i64 o94.Stmt.Sum.Const, .sl 1 (List.map a_i64 o94.Stmt.Sum.Coeffs), .int .i64 o94.Stmt.Index.Const, .sl 1 (List.map a_i64 o94.Stmt.Index.Coeffs), .sl 2 (List.map a_Term o94.Stmt.Facts), .int .i64 o94.at_, .sl 1 (List.map a_Ptree o94.kids)]) rfl (TrR_open (un_tree_eq ho94)) rfl ?_
                                refine TL_pure rfl rfl rfl rfl (op_nilCheck rfl rfl) ?_
                                refine TL_pure rfl rfl rfl rfl (op_fieldAddr fa132_2 rfl rfl) ?_
                                refine TL_pure rfl rfl rfl rfl (op_load_one ag129 rfl rfl) ?_
                                obtain ⟨x215, hx215, hm⟩ := bindS hm
                                refine TL_pure rfl rfl rfl rfl (op_indexT el129 rfl rfl hx215 rfl) ?_
                                refine TL_pure rfl rfl rfl rfl (op_load_one ag88 rfl rfl) ?_
                                obtain ⟨r217, hr217, hm⟩ := bindS hm
                                refine TL_call [(0, 0), (1, 1), (2, 2), (3, 3)] [] [3] (hrec_impl_running_run r201.2 x215 r217 hr217) Try.call86 rfl rfl rfl rfl rfl ⟨rfl, rfl, rfl, rfl, trivial⟩ rfl rfl rfl rfl rfl rfl rfl rfl rfl rfl rfl ?_
                                refine TL_pure rfl rfl rfl rfl (op_not rfl) ?_
                                refine TL_nil ?_
                                refine T_cond rfl (fun hq => ?_) (fun hq => ?_)
                                · replace hm := condT hq hm
                                  refine T_seq ?_
                                  refine T_region ?_
                                  refine TL_pure rfl rfl rfl rfl (op_assign rfl) ?_
                                  refine TL_nil ?_
                                  refine T_keepH [4] [0, 1, 2, 3] rfl rfl rfl rfl (by rw [hF]; rfl) ?_
                                  refine T_ret ?_
                                  obtain rfl := someI hm
                                  have hn := CtlOK_out hc0
                                  exact hx0 (.inr (false, r217.2.state.Vars, r217.2.state.Cells, r217.2.events, r217.2.fuel, r217.2.steps, r217.2.out)) hn
                                · replace hm := condF hq hm
                                  refine T_skip ?_
                                  refine TR_keepH [0, 1, 5] [0, 1, 2, 3] rfl rfl rfl rfl (by rw [hF]; rfl) ?_
                                  obtain rfl := someI hm
                                  have hn := CtlOK_next hc0
                                  exact hn _ rfl
                            · replace hm := condF hq hm
                              refine T_keepH [] [0, 1, 2, 3] rfl rfl rfl rfl (by rw [hF]; rfl) ?_
                              refine T_exit ?_
                              obtain rfl := someI hm
                              have hn := CtlOK_out hc0
                              exact hx0 (.inl (r201.2.state.Vars, r201.2.state.Cells, r201.2.events, r201.2.fuel, r201.2.steps, r201.2.out)) hn
                        · replace hm := condF hq hm
                          refine T_skip ?_
                          refine T_seq ?_
                          refine T_region ?_
                          refine TL_pure rfl rfl rfl rfl (op_assign rfl) ?_
                          refine TL_nil ?_
                          refine T_keepH [4] [0, 1, 2, 3] rfl rfl rfl rfl (by rw [hF]; rfl) ?_
                          refine T_ret ?_
                          obtain rfl := someI hm
                          refine ⟨[_], [0, 1, 2, 3], ⟨rfl, trivial⟩, ?_, rfl, rfl, rfl, rfl⟩
                          rfl
        · refine T_seq ?_
          refine T_region ?_
          refine TL_pure rfl rfl rfl rfl (op_move rfl) ?_
          obtain ⟨o73, ho73, hm⟩ := bindS hm
          refine TL_trAt 73 (x' := .cp [.int .i64 o73.Stmt.Kind, .int .i64 o73.Stmt.Var, .int .i64 o73.Stmt.Event, .int .i64 o73.Stmt.Sum.Const, .sl 1 (List.map a_i64 o73.Stmt.Sum.Coeffs), .int .i64 o73.Stmt.Index.Const, .sl 1 (List.map a_i64 o73.Stmt.Index.Coeffs), .sl 2 (List.map a_Term o73.Stmt.Facts), .int .i64 o73.at_, .sl 1 (List.map a_Ptree o73.kids)]) rfl (TrR_open (un_tree_eq ho73)) rfl ?_
          refine TL_pure rfl rfl rfl rfl (op_nilCheck rfl rfl) ?_
          refine TL_pure rfl rfl rfl rfl (op_fieldAddrC (n := 8) fa132_0 rfl rfl rfl) ?_
          refine TL_pure rfl rfl rfl rfl (op_fieldAddrC (n := 1) fa77_0 rfl rfl rfl) ?_
          refine TL_pure rfl rfl rfl rfl (op_load_one ag2 rfl rfl) ?_
          refine TL_pure rfl rfl rfl rfl (op_eql rfl rfl) ?_
          refine TL_pure rfl rfl rfl rfl (op_move rfl) ?_
          refine TL_join 7 (fun _ : Unit => ⟨[(0, .ptr 0 0 0), (1, a_Ptree p1), (5, .ow 1), (6, .int .i64 j1.1), (7, .int .i64 j1.2), (86, .bool ((decide (o73.Stmt.Kind = (2 : Int))) || (decide (o73.Stmt.Kind = (4 : Int)))))], [(0, .box [.ow 1, .ow 2, .ow 3, .int .i64 j0.2.2.2.1, .int .i64 j0.2.2.2.2.1, .int .i64 j0.2.2.2.2.2]), (1, .arr ⟨true, true⟩ 1 2 (List.map a_i64 j0.1)), (2, .arr ⟨true, true⟩ 1 2 (List.map a_i64 j0.2.1)), (3, .arr ⟨false, true⟩ 1 2 (List.map a_i64 j0.2.2.1))]⟩) (fun _ => True) (fun _ _ => ?_) (fun hjj => ?_)
          · refine TL_pure rfl rfl rfl rfl (op_move rfl) ?_
            refine TL_split 87 rfl rfl rfl (fun hq => ?_) (fun hq => ?_)
            · replace hm := condT hq hm
              refine TL_want rfl rfl ?_
              refine TL_pure rfl rfl rfl rfl (op_move rfl) ?_
              refine TL_want rfl rfl ?_
              obtain ⟨r89, hr89, hm⟩ := bindS hm
              refine TL_callF (c_impl_isInt j1.1 r89 hr89) Try.call120 rfl rfl rfl rfl rfl ?_
              refine TL_want rfl rfl ?_
              refine TL_pure rfl rfl rfl rfl (op_not rfl) ?_
              refine TL_pure rfl rfl rfl rfl (op_pick_true rfl rfl) ?_
              refine TL_nil ?_
              refine T_cond rfl (fun hq => ?_) (fun hq => ?_)
              · replace hm := condT hq hm
                refine T_seq ?_
                refine T_region ?_
                refine TL_pure rfl rfl rfl rfl (op_move rfl) ?_
                obtain ⟨r93, hr93, hm⟩ := bindS hm
                refine TL_call [(0, 0), (1, 1), (2, 2), (3, 3)] [] [3] (c_impl_running_stop (running.mk (State.mk j0.1 j0.2.1) j0.2.2.1 j0.2.2.2.1 j0.2.2.2.2.1 j0.2.2.2.2.2) (4 : Int) r93 hr93) Try.call119 rfl rfl rfl rfl rfl ⟨rfl, rfl, rfl, rfl, trivial⟩ rfl rfl rfl rfl rfl rfl rfl rfl rfl rfl rfl ?_
                refine TL_pure rfl rfl rfl rfl (op_assign rfl) ?_
                refine TL_nil ?_
                refine T_keepH [4] [0, 1, 2, 3] rfl rfl rfl rfl (by rw [hF]; rfl) ?_
                refine T_ret ?_
                obtain rfl := someI hm
                refine ⟨[_], [0, 1, 2, 3], ⟨rfl, trivial⟩, ?_, rfl, rfl, rfl, rfl⟩
                rfl
              · replace hm := condF hq hm
                refine T_skip ?_
                refine T_keepH [0, 1, 5, 6, 7] [0, 1, 2, 3] rfl rfl rfl rfl (by rw [hF]; rfl) ?_
                exact hj3 () hm
            · replace hm := condF hq hm
              refine TL_pass rfl rfl rfl rfl rfl rfl rfl ?_
              refine TL_pass rfl rfl rfl rfl rfl rfl rfl ?_
              refine TL_pass rfl rfl rfl rfl rfl rfl rfl ?_
              refine TL_pure rfl rfl rfl rfl (op_pick_false rfl rfl) ?_
              refine TL_nil ?_
              refine T_cond_false rfl ?_
              refine T_skip ?_
              refine T_keepH [0, 1, 5, 6, 7] [0, 1, 2, 3] rfl rfl rfl rfl (by rw [hF]; rfl) ?_
              exact hj3 () hm
          · refine TL_split 79 rfl rfl rfl (fun hq => ?_) (fun hq => ?_)
            · refine TL_pass rfl rfl rfl rfl rfl rfl rfl ?_
              refine TL_pass rfl rfl rfl rfl rfl rfl rfl ?_
              refine TL_pass rfl rfl rfl rfl rfl rfl rfl ?_
              refine TL_pass rfl rfl rfl rfl rfl rfl rfl ?_
              refine TL_pass rfl rfl rfl rfl rfl rfl rfl ?_
              refine TL_pass rfl rfl rfl rfl rfl rfl rfl ?_
              refine TL_pure rfl rfl rfl rfl (op_pick_true rfl rfl) ?_
              refine TL_keepH [0, 1, 5, 6, 7, 86] [0, 1, 2, 3] rfl rfl rfl rfl (by rw [hF]; rfl) ?_
              exact TL_cast _ (by first | (rw [hq, Bool.true_or]; done) | (rw [hq]; rfl)) (hjj () trivial)
            · refine TL_want rfl rfl ?_
              refine TL_pure rfl rfl rfl rfl (op_move rfl) ?_
              refine TL_want rfl rfl ?_
              refine TL_trAt 80 (x' := .cp [.int .i64 o73.Stmt.Kind, .int .i64 o73.Stmt.Var, .int .i64 o73.Stmt.Event, .int .i64 o73.Stmt.Sum.Const, .sl 1 (List.map a_i64 o73.Stmt.Sum.Coeffs), .int .i64 o73.Stmt.Index.Const, .sl 1 (List.map a_i64 o73.Stmt.Index.Coeffs), .sl 2 (List.map a_Term o73.Stmt.Facts), .int .i64 o73.at_, .sl 1 (List.map a_Ptree o73.kids)]) rfl (TrR_open (un_tree_eq ho73)) rfl ?_
              refine TL_pure rfl rfl rfl rfl (op_nilCheck rfl rfl) ?_
              refine TL_want rfl rfl ?_
              refine TL_pure rfl rfl rfl rfl (op_fieldAddrC (n := 8) fa132_0 rfl rfl rfl) ?_
              refine TL_want rfl rfl ?_
              refine TL_pure rfl rfl rfl rfl (op_fieldAddrC (n := 1) fa77_0 rfl rfl rfl) ?_
              refine TL_want rfl rfl ?_
              refine TL_pure rfl rfl rfl rfl (op_load_one ag2 rfl rfl) ?_
              refine TL_want rfl rfl ?_
              refine TL_pure rfl rfl rfl rfl (op_eql rfl rfl) ?_
              refine TL_pure rfl rfl rfl rfl (op_pick_false rfl rfl) ?_
              refine TL_keepH [0, 1, 5, 6, 7, 86] [0, 1, 2, 3] rfl rfl rfl rfl (by rw [hF]; rfl) ?_
              exact TL_cast _ (by first | (rw [hq, Bool.false_or]; done) | (rw [hq]; rfl)) (hjj () trivial)
      · refine T_seq ?_
        refine T_region ?_
        refine TL_pure rfl rfl rfl rfl (op_move rfl) ?_
        obtain ⟨o52, ho52, hm⟩ := bindS hm
        refine TL_trAt 52 (x' := .cp [.int .i64 o52.Stmt.Kind, .int .i64 o52.Stmt.Var, .int .i64 o52.Stmt.Event, .int .i64 o52.Stmt.Sum.Const, .sl 1 (List.map a_i64 o52.Stmt.Sum.Coeffs), .int .i64 o52.Stmt.Index.Const, .sl 1 (List.map a_i64 o52.Stmt.Index.Coeffs), .sl 2 (List.map a_Term o52.Stmt.Facts), .int .i64 o52.at_, .sl 1 (List.map a_Ptree o52.kids)]) rfl (TrR_open (un_tree_eq ho52)) rfl ?_
        refine TL_pure rfl rfl rfl rfl (op_nilCheck rfl rfl) ?_
        refine TL_pure rfl rfl rfl rfl (op_fieldAddrC (n := 8) fa132_0 rfl rfl rfl) ?_
        refine TL_pure rfl rfl rfl rfl (op_fieldAddrC (n := 1) fa77_0 rfl rfl rfl) ?_
        refine TL_pure rfl rfl rfl rfl (op_load_one ag2 rfl rfl) ?_
        refine TL_pure rfl rfl rfl rfl (op_eql rfl rfl) ?_
        refine TL_pure rfl rfl rfl rfl (op_move rfl) ?_
        refine TL_join 7 (fun _ : Unit => ⟨[(0, .ptr 0 0 0), (1, a_Ptree p1), (5, .ow 1), (6, .int .i64 j1.1), (7, .int .i64 j1.2), (65, .bool ((decide (o52.Stmt.Kind = (3 : Int))) || (decide (o52.Stmt.Kind = (4 : Int)))))], [(0, .box [.ow 1, .ow 2, .ow 3, .int .i64 j0.2.2.2.1, .int .i64 j0.2.2.2.2.1, .int .i64 j0.2.2.2.2.2]), (1, .arr ⟨true, true⟩ 1 2 (List.map a_i64 j0.1)), (2, .arr ⟨true, true⟩ 1 2 (List.map a_i64 j0.2.1)), (3, .arr ⟨false, true⟩ 1 2 (List.map a_i64 j0.2.2.1))]⟩) (fun _ => True) (fun _ _ => ?_) (fun hjj => ?_)
        · refine TL_pure rfl rfl rfl rfl (op_move rfl) ?_
          refine TL_split 66 rfl rfl rfl (fun hq => ?_) (fun hq => ?_)
          · replace hm := condT hq hm
            refine TL_want rfl rfl ?_
            refine TL_pure rfl rfl rfl rfl (op_move rfl) ?_
            refine TL_want rfl rfl ?_
            obtain ⟨r68, hr68, hm⟩ := bindS hm
            refine TL_callF (c_impl_within j1.2 (0 : Int) (7 : Int) r68 hr68) Try.call84 rfl rfl rfl rfl rfl ?_
            refine TL_want rfl rfl ?_
            refine TL_pure rfl rfl rfl rfl (op_not rfl) ?_
            refine TL_pure rfl rfl rfl rfl (op_pick_true rfl rfl) ?_
            refine TL_nil ?_
            refine T_cond rfl (fun hq => ?_) (fun hq => ?_)
            · replace hm := condT hq hm
              refine T_seq ?_
              refine T_region ?_
              refine TL_pure rfl rfl rfl rfl (op_move rfl) ?_
              obtain ⟨r72, hr72, hm⟩ := bindS hm
              refine TL_call [(0, 0), (1, 1), (2, 2), (3, 3)] [] [3] (c_impl_running_stop (running.mk (State.mk j0.1 j0.2.1) j0.2.2.1 j0.2.2.2.1 j0.2.2.2.2.1 j0.2.2.2.2.2) (2 : Int) r72 hr72) Try.call119 rfl rfl rfl rfl rfl ⟨rfl, rfl, rfl, rfl, trivial⟩ rfl rfl rfl rfl rfl rfl rfl rfl rfl rfl rfl ?_
              refine TL_pure rfl rfl rfl rfl (op_assign rfl) ?_
              refine TL_nil ?_
              refine T_keepH [4] [0, 1, 2, 3] rfl rfl rfl rfl (by rw [hF]; rfl) ?_
              refine T_ret ?_
              obtain rfl := someI hm
              refine ⟨[_], [0, 1, 2, 3], ⟨rfl, trivial⟩, ?_, rfl, rfl, rfl, rfl⟩
              rfl
            · replace hm := condF hq hm
              refine T_skip ?_
              refine T_keepH [0, 1, 5, 6, 7] [0, 1, 2, 3] rfl rfl rfl rfl (by rw [hF]; rfl) ?_
              exact hj2 () hm
          · replace hm := condF hq hm
            refine TL_pass rfl rfl rfl rfl rfl rfl rfl ?_
            refine TL_pass rfl rfl rfl rfl rfl rfl rfl ?_
            refine TL_pass rfl rfl rfl rfl rfl rfl rfl ?_
            refine TL_pure rfl rfl rfl rfl (op_pick_false rfl rfl) ?_
            refine TL_nil ?_
            refine T_cond_false rfl ?_
            refine T_skip ?_
            refine T_keepH [0, 1, 5, 6, 7] [0, 1, 2, 3] rfl rfl rfl rfl (by rw [hF]; rfl) ?_
            exact hj2 () hm
        · refine TL_split 58 rfl rfl rfl (fun hq => ?_) (fun hq => ?_)
          · refine TL_pass rfl rfl rfl rfl rfl rfl rfl ?_
            refine TL_pass rfl rfl rfl rfl rfl rfl rfl ?_
            refine TL_pass rfl rfl rfl rfl rfl rfl rfl ?_
            refine TL_pass rfl rfl rfl rfl rfl rfl rfl ?_
            refine TL_pass rfl rfl rfl rfl rfl rfl rfl ?_
            refine TL_pass rfl rfl rfl rfl rfl rfl rfl ?_
            refine TL_pure rfl rfl rfl rfl (op_pick_true rfl rfl) ?_
            refine TL_keepH [0, 1, 5, 6, 7, 65] [0, 1, 2, 3] rfl rfl rfl rfl (by rw [hF]; rfl) ?_
            exact TL_cast _ (by first | (rw [hq, Bool.true_or]; done) | (rw [hq]; rfl)) (hjj () trivial)
          · refine TL_want rfl rfl ?_
            refine TL_pure rfl rfl rfl rfl (op_move rfl) ?_
            refine TL_want rfl rfl ?_
            refine TL_trAt 59 (x' := .cp [.int .i64 o52.Stmt.Kind, .int .i64 o52.Stmt.Var, .int .i64 o52.Stmt.Event, .int .i64 o52.Stmt.Sum.Const, .sl 1 (List.map a_i64 o52.Stmt.Sum.Coeffs), .int .i64 o52.Stmt.Index.Const, .sl 1 (List.map a_i64 o52.Stmt.Index.Coeffs), .sl 2 (List.map a_Term o52.Stmt.Facts), .int .i64 o52.at_, .sl 1 (List.map a_Ptree o52.kids)]) rfl (TrR_open (un_tree_eq ho52)) rfl ?_
            refine TL_pure rfl rfl rfl rfl (op_nilCheck rfl rfl) ?_
            refine TL_want rfl rfl ?_
            refine TL_pure rfl rfl rfl rfl (op_fieldAddrC (n := 8) fa132_0 rfl rfl rfl) ?_
            refine TL_want rfl rfl ?_
            refine TL_pure rfl rfl rfl rfl (op_fieldAddrC (n := 1) fa77_0 rfl rfl rfl) ?_
            refine TL_want rfl rfl ?_
            refine TL_pure rfl rfl rfl rfl (op_load_one ag2 rfl rfl) ?_
            refine TL_want rfl rfl ?_
            refine TL_pure rfl rfl rfl rfl (op_eql rfl rfl) ?_
            refine TL_pure rfl rfl rfl rfl (op_pick_false rfl rfl) ?_
            refine TL_keepH [0, 1, 5, 6, 7, 65] [0, 1, 2, 3] rfl rfl rfl rfl (by rw [hF]; rfl) ?_
            exact TL_cast _ (by first | (rw [hq, Bool.false_or]; done) | (rw [hq]; rfl)) (hjj () trivial)
    · refine T_seq ?_
      refine T_region ?_
      refine TL_pure rfl rfl rfl rfl (op_move rfl) ?_
      obtain ⟨o32, ho32, hm⟩ := bindS hm
      refine TL_trAt 32 (x' := .cp [.int .i64 o32.Stmt.Kind, .int .i64 o32.Stmt.Var, .int .i64 o32.Stmt.Event, .int .i64 o32.Stmt.Sum.Const, .sl 1 (List.map a_i64 o32.Stmt.Sum.Coeffs), .int .i64 o32.Stmt.Index.Const, .sl 1 (List.map a_i64 o32.Stmt.Index.Coeffs), .sl 2 (List.map a_Term o32.Stmt.Facts), .int .i64 o32.at_, .sl 1 (List.map a_Ptree o32.kids)]) rfl (TrR_open (un_tree_eq ho32)) rfl ?_
      refine TL_pure rfl rfl rfl rfl (op_nilCheck rfl rfl) ?_
      refine TL_pure rfl rfl rfl rfl (op_fieldAddrC (n := 8) fa132_0 rfl rfl rfl) ?_
      refine TL_pure rfl rfl rfl rfl (op_fieldAddrC (n := 1) fa77_0 rfl rfl rfl) ?_
      refine TL_pure rfl rfl rfl rfl (op_load_one ag2 rfl rfl) ?_
      refine TL_pure rfl rfl rfl rfl (op_neq rfl rfl) ?_
      refine TL_nil ?_
      refine T_cond rfl (fun hq => ?_) (fun hq => ?_)
      · replace hm := condT hq hm
        refine T_drawZ [] mix (by kernel_rfl) rfl ?_
        obtain ⟨r44, hr44, hm⟩ := bindS hm
        obtain ⟨r51, hr51, hm⟩ := bindS hm
        refine TZ_pure 0 (by kernel_rfl) rfl rfl rfl rfl rfl (op_move rfl) ?_
        refine TZ_trAt 38 (x' := .cp [.int .i64 o32.Stmt.Kind, .int .i64 o32.Stmt.Var, .int .i64 o32.Stmt.Event, .int .i64 o32.Stmt.Sum.Const, .sl 1 (List.map a_i64 o32.Stmt.Sum.Coeffs), .int .i64 o32.Stmt.Index.Const, .sl 1 (List.map a_i64 o32.Stmt.Index.Coeffs), .sl 2 (List.map a_Term o32.Stmt.Facts), .int .i64 o32.at_, .sl 1 (List.map a_Ptree o32.kids)]) rfl (TrR_open (un_tree_eq ho32)) rfl ?_
        refine TZ_pure 1 (by kernel_rfl) rfl rfl rfl rfl rfl (op_nilCheck rfl rfl) ?_
        refine TZ_pure 2 (by kernel_rfl) rfl rfl rfl rfl rfl (op_fieldAddrC (n := 8) fa132_0 rfl rfl rfl) ?_
        refine TZ_pure 3 (by kernel_rfl) rfl rfl rfl rfl rfl (op_fieldAddrC (n := 2) fa77_3 rfl rfl rfl) ?_
        refine TZ_pure 4 (by kernel_rfl) rfl rfl rfl rfl rfl (op_load_agg ag75 sz75 rfl rfl rfl) ?_
        refine TZ_pure 5 (by kernel_rfl) rfl rfl rfl rfl rfl (op_move rfl) ?_
        refine TZ_pure 7 (by kernel_rfl) rfl rfl rfl rfl rfl (op_move rfl) ?_
        refine TZ_trAt 45 (x' := .cp [.int .i64 o32.Stmt.Kind, .int .i64 o32.Stmt.Var, .int .i64 o32.Stmt.Event, .int .i64 o32.Stmt.Sum.Const, .sl 1 (List.map a_i64 o32.Stmt.Sum.Coeffs), .int .i64 o32.Stmt.Index.Const, .sl 1 (List.map a_i64 o32.Stmt.Index.Coeffs), .sl 2 (List.map a_Term o32.Stmt.Facts), .int .i64 o32.at_, .sl 1 (List.map a_Ptree o32.kids)]) rfl (TrR_open (un_tree_eq ho32)) rfl ?_
        refine TZ_pure 8 (by kernel_rfl) rfl rfl rfl rfl rfl (op_nilCheck rfl rfl) ?_
        refine TZ_pure 9 (by kernel_rfl) rfl rfl rfl rfl rfl (op_fieldAddrC (n := 8) fa132_0 rfl rfl rfl) ?_
        refine TZ_pure 10 (by kernel_rfl) rfl rfl rfl rfl rfl (op_fieldAddrC (n := 2) fa77_4 rfl rfl rfl) ?_
        refine TZ_pure 11 (by kernel_rfl) rfl rfl rfl rfl rfl (op_load_agg ag75 sz75 rfl rfl rfl) ?_
        refine TZ_pure 12 (by kernel_rfl) rfl rfl rfl rfl rfl (op_move rfl) ?_
        refine TZ_one 6 (by kernel_rfl) rfl ?_
        refine TL_callF (c_impl_Term_eval o32.Stmt.Sum j0.1 r44 hr44) Try.call118 rfl rfl rfl rfl rfl ?_
        refine TL_nil ?_
        refine TZ_one 13 (by kernel_rfl) rfl ?_
        refine TL_callF (c_impl_Term_eval o32.Stmt.Index j0.1 r51 hr51) Try.call118 rfl rfl rfl rfl rfl ?_
        refine TL_nil ?_
        refine TZ_pure 14 (by kernel_rfl) rfl rfl rfl rfl rfl (op_assign rfl) ?_
        refine TZ_pure 15 (by kernel_rfl) rfl rfl rfl rfl rfl (op_assign rfl) ?_
        refine TZ_done (by kernel_rfl) ?_
        refine T_keepH [0, 1, 5, 6, 7] [0, 1, 2, 3] rfl rfl rfl rfl (by rw [hF]; rfl) ?_
        exact hj1 (r44, r51) hm
      · replace hm := condF hq hm
        refine T_skip ?_
        refine T_keepH [0, 1, 5, 6, 7] [0, 1, 2, 3] rfl rfl rfl rfl (by rw [hF]; rfl) ?_
        exact hj1 ((0 : Int), (0 : Int)) hm
  · refine T_seq ?_
    refine T_region ?_
    refine TL_pure rfl rfl rfl rfl (op_move rfl) ?_
    obtain ⟨o13, ho13, hm⟩ := bindS hm
    refine TL_trAt 13 (x' := .cp [.int .i64 o13.Stmt.Kind, .int .i64 o13.Stmt.Var, .int .i64 o13.Stmt.Event, .int .i64 o13.Stmt.Sum.Const, .sl 1 (List.map a_i64 o13.Stmt.Sum.Coeffs), .int .i64 o13.Stmt.Index.Const, .sl 1 (List.map a_i64 o13.Stmt.Index.Coeffs), .sl 2 (List.map a_Term o13.Stmt.Facts), .int .i64 o13.at_, .sl 1 (List.map a_Ptree o13.kids)]) rfl (TrR_open (un_tree_eq ho13)) rfl ?_
    refine TL_pure rfl rfl rfl rfl (op_nilCheck rfl rfl) ?_
    refine TL_pure rfl rfl rfl rfl (op_fieldAddrC (n := 8) fa132_0 rfl rfl rfl) ?_
    refine TL_pure rfl rfl rfl rfl (op_fieldAddrC (n := 1) fa77_0 rfl rfl rfl) ?_
    refine TL_pure rfl rfl rfl rfl (op_load_one ag2 rfl rfl) ?_
    refine TL_pure rfl rfl rfl rfl (op_neq rfl rfl) ?_
    refine TL_pure rfl rfl rfl rfl (op_move rfl) ?_
    refine TL_join 7 (fun _ : Unit => ⟨[(0, .ptr 0 0 0), (1, a_Ptree p1), (5, .ow 1), (26, .bool ((!decide (o13.Stmt.Kind = (1 : Int))) && (!decide (o13.Stmt.Kind = (8 : Int)))))], [(0, .box [.ow 1, .ow 2, .ow 3, .int .i64 p0.fuel, .int .i64 p0.steps, .int .i64 p0.out]), (1, .arr ⟨true, true⟩ 1 2 (List.map a_i64 p0.state.Vars)), (2, .arr ⟨true, true⟩ 1 2 (List.map a_i64 p0.state.Cells)), (3, .arr ⟨false, true⟩ 1 2 (List.map a_i64 p0.events))]⟩) (fun _ => True) (fun _ _ => ?_) (fun hjj => ?_)
    · refine TL_pure rfl rfl rfl rfl (op_move rfl) ?_
      refine TL_split 27 rfl rfl rfl (fun hq => ?_) (fun hq => ?_)
      · replace hm := condT hq hm
        refine TL_want rfl rfl ?_
        refine TL_pure rfl rfl rfl rfl (op_move rfl) ?_
        refine TL_want rfl rfl ?_
        obtain ⟨r29, hr29, hm⟩ := bindS hm
        refine TL_call [(0, 0), (1, 1), (2, 2), (3, 3)] [] [3] (c_impl_running_step p0 r29 hr29) Try.call117 rfl rfl rfl rfl rfl ⟨rfl, rfl, rfl, rfl, trivial⟩ rfl rfl rfl rfl rfl rfl rfl rfl rfl rfl rfl ?_
        refine TL_want rfl rfl ?_
        refine TL_pure rfl rfl rfl rfl (op_not rfl) ?_
        refine TL_pure rfl rfl rfl rfl (op_pick_true rfl rfl) ?_
        refine TL_nil ?_
        refine T_cond rfl (fun hq => ?_) (fun hq => ?_)
        · replace hm := condT hq hm
          refine T_seq ?_
          refine T_region ?_
          refine TL_pure rfl rfl rfl rfl (op_assign rfl) ?_
          refine TL_nil ?_
          refine T_keepH [4] [0, 1, 2, 3] rfl rfl rfl rfl (by rw [hF]; rfl) ?_
          refine T_ret ?_
          obtain rfl := someI hm
          refine ⟨[_], [0, 1, 2, 3], ⟨rfl, trivial⟩, ?_, rfl, rfl, rfl, rfl⟩
          rfl
        · replace hm := condF hq hm
          refine T_skip ?_
          refine T_keepH [0, 1, 5] [0, 1, 2, 3] rfl rfl rfl rfl (by rw [hF]; rfl) ?_
          exact hj0 (r29.2.state.Vars, r29.2.state.Cells, r29.2.events, r29.2.fuel, r29.2.steps, r29.2.out) hm
      · replace hm := condF hq hm
        refine TL_pass rfl rfl rfl rfl rfl rfl rfl ?_
        refine TL_pass rfl rfl rfl rfl rfl rfl rfl ?_
        refine TL_pass rfl rfl rfl rfl rfl rfl rfl ?_
        refine TL_pure rfl rfl rfl rfl (op_pick_false rfl rfl) ?_
        refine TL_nil ?_
        refine T_cond_false rfl ?_
        refine T_skip ?_
        refine T_keepH [0, 1, 5] [0, 1, 2, 3] rfl rfl rfl rfl (by rw [hF]; rfl) ?_
        exact hj0 (p0.state.Vars, p0.state.Cells, p0.events, p0.fuel, p0.steps, p0.out) hm
    · refine TL_split 19 rfl rfl rfl (fun hq => ?_) (fun hq => ?_)
      · refine TL_want rfl rfl ?_
        refine TL_pure rfl rfl rfl rfl (op_move rfl) ?_
        refine TL_want rfl rfl ?_
        refine TL_trAt 20 (x' := .cp [.int .i64 o13.Stmt.Kind, .int .i64 o13.Stmt.Var, .int .i64 o13.Stmt.Event, .int .i64 o13.Stmt.Sum.Const, .sl 1 (List.map a_i64 o13.Stmt.Sum.Coeffs), .int .i64 o13.Stmt.Index.Const, .sl 1 (List.map a_i64 o13.Stmt.Index.Coeffs), .sl 2 (List.map a_Term o13.Stmt.Facts), .int .i64 o13.at_, .sl 1 (List.map a_Ptree o13.kids)]) rfl (TrR_open (un_tree_eq ho13)) rfl ?_
        refine TL_pure rfl rfl rfl rfl (op_nilCheck rfl rfl) ?_
        refine TL_want rfl rfl ?_
        refine TL_pure rfl rfl rfl rfl (op_fieldAddrC (n := 8) fa132_0 rfl rfl rfl) ?_
        refine TL_want rfl rfl ?_
        refine TL_pure rfl rfl rfl rfl (op_fieldAddrC (n := 1) fa77_0 rfl rfl rfl) ?_
        refine TL_want rfl rfl ?_
        refine TL_pure rfl rfl rfl rfl (op_load_one ag2 rfl rfl) ?_
        refine TL_want rfl rfl ?_
        refine TL_pure rfl rfl rfl rfl (op_neq rfl rfl) ?_
        refine TL_pure rfl rfl rfl rfl (op_pick_true rfl rfl) ?_
        refine TL_keepH [0, 1, 5, 26] [0, 1, 2, 3] rfl rfl rfl rfl (by rw [hF]; rfl) ?_
        exact TL_cast _ (by first | (rw [hq, Bool.true_and]; done) | (rw [hq]; rfl)) (hjj () trivial)
      · refine TL_pass rfl rfl rfl rfl rfl rfl rfl ?_
        refine TL_pass rfl rfl rfl rfl rfl rfl rfl ?_
        refine TL_pass rfl rfl rfl rfl rfl rfl rfl ?_
        refine TL_pass rfl rfl rfl rfl rfl rfl rfl ?_
        refine TL_pass rfl rfl rfl rfl rfl rfl rfl ?_
        refine TL_pass rfl rfl rfl rfl rfl rfl rfl ?_
        refine TL_pure rfl rfl rfl rfl (op_pick_false rfl rfl) ?_
        refine TL_keepH [0, 1, 5, 26] [0, 1, 2, 3] rfl rfl rfl rfl (by rw [hF]; rfl) ?_
        exact TL_cast _ (by first | (rw [hq, Bool.false_and]; done) | (rw [hq]; rfl)) (hjj () trivial)
theorem c_impl_running_run : ∀ (n : Nat) (p0 : running) (p1 : Ptree) (out : Bool × running), m_impl_running_run n p0 p1 = some out → ACall Try.prog 86 [.ptr 0 0 0, a_Ptree p1] [(0, .box [.ow 1, .ow 2, .ow 3, .int .i64 p0.fuel, .int .i64 p0.steps, .int .i64 p0.out]), (1, .arr ⟨true, true⟩ 1 2 (List.map a_i64 p0.state.Vars)), (2, .arr ⟨true, true⟩ 1 2 (List.map a_i64 p0.state.Cells)), (3, .arr ⟨false, true⟩ 1 2 (List.map a_i64 p0.events))] (.bool out.1) [(0, .box [.ow 1, .ow 2, .ow 3, .int .i64 out.2.fuel, .int .i64 out.2.steps, .int .i64 out.2.out]), (1, .arr ⟨true, true⟩ 1 2 (List.map a_i64 out.2.state.Vars)), (2, .arr ⟨true, true⟩ 1 2 (List.map a_i64 out.2.state.Cells)), (3, .arr ⟨false, true⟩ 1 2 (List.map a_i64 out.2.events))] := by
  intro n
  induction n with
  | zero => intro p0 p1 out hm; cases hm
  | succ n ih => intro p0 p1 out hm; exact c_impl_running_run_F (m_impl_running_run n) ih p0 p1 out hm
theorem c_impl_started (p0 : Program) (p1 : State) (p2 : Int) (out : running × Bool) (hm : m_impl_started p0 p1 p2 = some out) : ACall Try.prog 45 [.agg [.sl 2 (List.map a_Term p0.Pre), .sl 8 (List.map a_Stmt p0.Body), .sl 2 (List.map a_Term p0.Post)], .agg [.sl 1 (List.map a_i64 p1.Vars), .sl 1 (List.map a_i64 p1.Cells)], .int .i64 p2] [] (bif out.2 then .tup [.ptr 1000 0 0, .bool true] else .tup [.nilp, .bool false]) (bif out.2 then [(1000, .box [.ow 1001, .ow 1002, .ow 1003, .int .i64 out.1.fuel, .int .i64 out.1.steps, .int .i64 out.1.out]), (1001, .arr ⟨false, true⟩ 1 2 (List.map a_i64 out.1.state.Vars)), (1002, .arr ⟨false, true⟩ 1 2 (List.map a_i64 out.1.state.Cells)), (1003, .arr ⟨false, true⟩ 1 2 (List.map a_i64 out.1.events))] else []) := by
  refine ACall.intro Try.func45 rfl Try.ntmps45 rfl (fun F hF => ?_)
  unfold m_impl_started at hm
  refine T_seq ?_
  refine T_region ?_
  refine TL_box 11 rfl rfl rfl rfl rfl rfl rfl ?_
  refine TL_box 12 rfl rfl rfl rfl rfl rfl rfl ?_
  refine TL_pure rfl rfl rfl rfl (op_assign rfl) ?_
  refine TL_pure rfl rfl rfl rfl (op_assign rfl) ?_
  refine TL_nil ?_
  refine T_seq ?_
  refine T_seq ?_
  refine T_region ?_
  refine TL_pure rfl rfl rfl rfl (op_load_agg ag27 sz27 rfl rfl rfl) ?_
  obtain ⟨r12, hr12, hm⟩ := bindS hm
  refine TL_callF (c_impl_ValidProgram p0 r12 hr12) Try.call19 rfl rfl rfl rfl rfl ?_
  refine TL_pure rfl rfl rfl rfl (op_not rfl) ?_
  refine TL_pure rfl rfl rfl rfl (op_move rfl) ?_
  refine TL_split 14 rfl rfl rfl (fun hq => ?_) (fun hq => ?_)
  · replace hm := condT hq hm
    refine TL_pass rfl rfl rfl rfl rfl rfl rfl ?_
    refine TL_pass rfl rfl rfl rfl rfl rfl rfl ?_
    refine TL_pass rfl rfl rfl rfl rfl rfl rfl ?_
    refine TL_pure rfl rfl rfl rfl (op_pick_true rfl rfl) ?_
    refine TL_pure rfl rfl rfl rfl (op_move rfl) ?_
    refine TL_pass rfl rfl rfl rfl rfl rfl rfl ?_
    refine TL_pass rfl rfl rfl rfl rfl rfl rfl ?_
    refine TL_pass rfl rfl rfl rfl rfl rfl rfl ?_
    refine TL_pure rfl rfl rfl rfl (op_pick_true rfl rfl) ?_
    refine TL_nil ?_
    refine T_cond_true rfl ?_
    refine T_seq ?_
    refine T_region ?_
    refine TL_pure rfl rfl rfl rfl (op_assign rfl) ?_
    refine TL_pure rfl rfl rfl rfl (op_assign rfl) ?_
    refine TL_nil ?_
    refine T_keepH [6, 7] [] rfl rfl rfl rfl (by rw [hF]; rfl) ?_
    refine T_ret ?_
    obtain rfl := someI hm
    refine ⟨[_, _], [], ⟨rfl, rfl, trivial⟩, ?_, rfl, rfl, rfl, rfl⟩
    rfl
  · replace hm := condF hq hm
    refine TL_want rfl rfl ?_
    refine TL_pure rfl rfl rfl rfl (op_load_agg ag31 sz31 rfl rfl rfl) ?_
    refine TL_want rfl rfl ?_
    obtain ⟨r16, hr16, hm⟩ := bindS hm
    refine TL_callF (c_impl_ValidState p1 r16 hr16) Try.call20 rfl rfl rfl rfl rfl ?_
    refine TL_want rfl rfl ?_
    refine TL_pure rfl rfl rfl rfl (op_not rfl) ?_
    refine TL_pure rfl rfl rfl rfl (op_pick_false rfl rfl) ?_
    refine TL_pure rfl rfl rfl rfl (op_move rfl) ?_
    refine TL_split 19 rfl rfl rfl (fun hq => ?_) (fun hq => ?_)
    · replace hm := condT hq hm
      refine TL_pass rfl rfl rfl rfl rfl rfl rfl ?_
      refine TL_pass rfl rfl rfl rfl rfl rfl rfl ?_
      refine TL_pass rfl rfl rfl rfl rfl rfl rfl ?_
      refine TL_pure rfl rfl rfl rfl (op_pick_true rfl rfl) ?_
      refine TL_nil ?_
      refine T_cond_true rfl ?_
      refine T_seq ?_
      refine T_region ?_
      refine TL_pure rfl rfl rfl rfl (op_assign rfl) ?_
      refine TL_pure rfl rfl rfl rfl (op_assign rfl) ?_
      refine TL_nil ?_
      refine T_keepH [6, 7] [] rfl rfl rfl rfl (by rw [hF]; rfl) ?_
      refine T_ret ?_
      obtain rfl := someI hm
      refine ⟨[_, _], [], ⟨rfl, rfl, trivial⟩, ?_, rfl, rfl, rfl, rfl⟩
      rfl
    · replace hm := condF hq hm
      refine TL_want rfl rfl ?_
      refine TL_pure rfl rfl rfl rfl (op_move rfl) ?_
      refine TL_want rfl rfl ?_
      obtain ⟨r21, hr21, hm⟩ := bindS hm
      refine TL_callF (c_impl_within p2 (0 : Int) (2000 : Int) r21 hr21) Try.call84 rfl rfl rfl rfl rfl ?_
      refine TL_want rfl rfl ?_
      refine TL_pure rfl rfl rfl rfl (op_not rfl) ?_
      refine TL_pure rfl rfl rfl rfl (op_pick_false rfl rfl) ?_
      refine TL_nil ?_
      refine T_cond rfl (fun hq => ?_) (fun hq => ?_)
      · replace hm := condT hq hm
        refine T_seq ?_
        refine T_region ?_
        refine TL_pure rfl rfl rfl rfl (op_assign rfl) ?_
        refine TL_pure rfl rfl rfl rfl (op_assign rfl) ?_
        refine TL_nil ?_
        refine T_keepH [6, 7] [] rfl rfl rfl rfl (by rw [hF]; rfl) ?_
        refine T_ret ?_
        obtain rfl := someI hm
        refine ⟨[_, _], [], ⟨rfl, rfl, trivial⟩, ?_, rfl, rfl, rfl, rfl⟩
        rfl
      · replace hm := condF hq hm
        refine T_skip ?_
        refine T_seq ?_
        refine T_region ?_
        refine TL_pure rfl rfl rfl rfl (op_fieldAddr fa27_1 rfl rfl) ?_
        refine TL_pure rfl rfl rfl rfl (op_load_one ag25 rfl rfl) ?_
        obtain ⟨r27, hr27, hm⟩ := bindS hm
        refine TL_callT (c_impl_treeOf p0.Body r27 hr27) Try.call55 rfl rfl rfl rfl rfl ?_
        refine TL_pure rfl rfl rfl rfl (op_move rfl) ?_
        refine TL_pure rfl rfl rfl rfl (op_extract rfl rfl) ?_
        refine TL_pure rfl rfl rfl rfl (op_extract rfl rfl) ?_
        refine TL_pure rfl rfl rfl rfl (op_assign rfl) ?_
        refine TL_pure rfl rfl rfl rfl (op_assign rfl) ?_
        refine TL_nil ?_
        refine T_seq ?_
        refine T_region ?_
        refine TL_pure rfl rfl rfl rfl (op_load_agg ag31 sz31 rfl rfl rfl) ?_
        obtain ⟨r31, hr31, hm⟩ := bindS hm
        refine TL_callO [(1000, 13), (1001, 14)] (c_impl_State_own p1 r31 hr31) Try.call85 rfl rfl rfl rfl rfl rfl rfl rfl rfl rfl rfl rfl rfl ?_
        refine TL_pure rfl rfl rfl rfl (op_move rfl) ?_
        refine TL_pure rfl rfl rfl rfl (op_buildP pl73 z73 rfl rfl rfl rfl rfl) ?_
        refine TL_box 15 rfl rfl rfl rfl rfl rfl rfl ?_
        refine TL_pure rfl rfl rfl rfl (op_assign rfl) ?_
        refine TL_nil ?_
        refine T_seq ?_
        refine T_region ?_
        refine TL_pure rfl rfl rfl rfl (op_move rfl) ?_
        refine TL_pure rfl rfl rfl rfl (op_move rfl) ?_
        refine TL_ownNilBox 15 2 16 ⟨false, true⟩ 2 rfl rfl rfl (sz := 1) rfl rfl rfl rfl ?_
        refine TL_pin 13 (k' := ⟨true, true⟩) (by rw [hF]; rfl) rfl rfl rfl ?_
        refine TL_pin 14 (k' := ⟨true, true⟩) (by rw [hF]; rfl) rfl rfl rfl ?_
        obtain ⟨r37, hr37, hm⟩ := bindS hm
        refine TL_call [(0, 15), (1, 13), (2, 14), (3, 16)] [] [16] (c_impl_running_run 1000 (running.mk r31 ([] : List Int) p2 (0 : Int) (0 : Int)) r27.1 r37 hr37) Try.call86 rfl rfl rfl rfl rfl ⟨rfl, rfl, rfl, rfl, trivial⟩ rfl rfl rfl rfl rfl rfl rfl rfl rfl rfl rfl ?_
        refine TL_nil ?_
        refine T_seq ?_
        refine T_region ?_
        refine TL_pure rfl rfl rfl rfl (op_move rfl) ?_
        refine TL_pure rfl rfl rfl rfl (op_assign rfl) ?_
        refine TL_pure rfl rfl rfl rfl (op_assign rfl) ?_
        refine TL_nil ?_
        refine T_keepH [6, 7] [13, 14, 15, 16] rfl rfl rfl rfl (by rw [hF]; rfl) ?_
        refine T_pin 13 (k' := ⟨false, true⟩) (by rw [hF]; rfl) rfl rfl rfl ?_
        refine T_pin 14 (k' := ⟨false, true⟩) (by rw [hF]; rfl) rfl rfl rfl ?_
        refine T_ren [(13, 1001), (14, 1002), (15, 1000), (16, 1003)] rfl rfl rfl (by rw [hF]; rfl) ?_
        refine T_keepH [6, 7] [1000, 1001, 1002, 1003] rfl rfl rfl rfl (by rw [hF]; rfl) ?_
        refine T_ret ?_
        obtain rfl := someI hm
        refine ⟨[_, _], [1000, 1001, 1002, 1003], ⟨rfl, rfl, trivial⟩, ?_, rfl, rfl, rfl, rfl⟩
        rfl
theorem c_impl_StepsOf (p0 : Program) (p1 : State) (p2 : Int) (out : Int × Bool) (hm : m_impl_StepsOf p0 p1 p2 = some out) : ACall Try.prog 14 [.agg [.sl 2 (List.map a_Term p0.Pre), .sl 8 (List.map a_Stmt p0.Body), .sl 2 (List.map a_Term p0.Post)], .agg [.sl 1 (List.map a_i64 p1.Vars), .sl 1 (List.map a_i64 p1.Cells)], .int .i64 p2] [] (.tup [.int .i64 out.1, .bool out.2]) [] := by
  refine ACall.intro Try.func14 rfl Try.ntmps14 rfl (fun F hF => ?_)
  unfold m_impl_StepsOf at hm
  refine T_seq ?_
  refine T_region ?_
  refine TL_box 11 rfl rfl rfl rfl rfl rfl rfl ?_
  refine TL_box 12 rfl rfl rfl rfl rfl rfl rfl ?_
  refine TL_pure rfl rfl rfl rfl (op_assign rfl) ?_
  refine TL_pure rfl rfl rfl rfl (op_assign rfl) ?_
  refine TL_nil ?_
  refine T_seq ?_
  refine T_region ?_
  refine TL_pure rfl rfl rfl rfl (op_load_agg ag27 sz27 rfl rfl rfl) ?_
  refine TL_pure rfl rfl rfl rfl (op_load_agg ag31 sz31 rfl rfl rfl) ?_
  refine TL_pure rfl rfl rfl rfl (op_move rfl) ?_
  obtain ⟨r14, hr14, hm⟩ := bindS hm
  rcases Bool.eq_false_or_eq_true r14.2 with hq | hq
  · replace hm := condT hq hm
    refine TLE_call [] [(1000, 13), (1001, 14), (1002, 15), (1003, 16)] [] (by have hc := c_impl_started p0 p1 p2 r14 hr14; rw [hq] at hc; exact hc) (fun _ => rfl) Try.call45 rfl rfl rfl rfl rfl trivial rfl rfl rfl rfl rfl rfl rfl rfl rfl rfl rfl ?_
    refine TL_pure rfl rfl rfl rfl (op_move rfl) ?_
    refine TL_pure rfl rfl rfl rfl (op_extract rfl rfl) ?_
    refine TL_pure rfl rfl rfl rfl (op_extract rfl rfl) ?_
    refine TL_pure rfl rfl rfl rfl (op_assign rfl) ?_
    refine TL_pure rfl rfl rfl rfl (op_assign rfl) ?_
    refine TL_nil ?_
    refine T_seq ?_
    refine T_seq ?_
    refine T_region ?_
    refine TL_pure rfl rfl rfl rfl (op_move rfl) ?_
    refine TL_pure rfl rfl rfl rfl (op_not rfl) ?_
    refine TL_nil ?_
    refine T_cond_false rfl ?_
    refine T_skip ?_
    refine T_seq ?_
    refine T_region ?_
    refine TL_pure rfl rfl rfl rfl (op_move rfl) ?_
    refine TL_pure rfl rfl rfl rfl (op_nilCheck rfl rfl) ?_
    refine TL_pure rfl rfl rfl rfl (op_fieldAddr fa73_3 rfl rfl) ?_
    refine TL_pure rfl rfl rfl rfl (op_load_one ag2 rfl rfl) ?_
    refine TL_pure rfl rfl rfl rfl (op_assign rfl) ?_
    refine TL_pure rfl rfl rfl rfl (op_assign rfl) ?_
    refine TL_nil ?_
    refine T_keepH [6, 7] [] rfl rfl rfl rfl (by rw [hF]; rfl) ?_
    refine T_ret ?_
    obtain rfl := someI hm
    refine ⟨[_, _], [], ⟨rfl, rfl, trivial⟩, ?_, rfl, rfl, rfl, rfl⟩
    rfl
  · replace hm := condF hq hm
    refine TLE_call [] [] [] (by have hc := c_impl_started p0 p1 p2 r14 hr14; rw [hq] at hc; exact hc) (fun _ => rfl) Try.call45 rfl rfl rfl rfl rfl trivial rfl rfl rfl rfl rfl rfl rfl rfl rfl rfl rfl ?_
    refine TL_pure rfl rfl rfl rfl (op_move rfl) ?_
    refine TL_pure rfl rfl rfl rfl (op_extract rfl rfl) ?_
    refine TL_pure rfl rfl rfl rfl (op_extract rfl rfl) ?_
    refine TL_pure rfl rfl rfl rfl (op_assign rfl) ?_
    refine TL_pure rfl rfl rfl rfl (op_assign rfl) ?_
    refine TL_nil ?_
    refine T_seq ?_
    refine T_seq ?_
    refine T_region ?_
    refine TL_pure rfl rfl rfl rfl (op_move rfl) ?_
    refine TL_pure rfl rfl rfl rfl (op_not rfl) ?_
    refine TL_nil ?_
    refine T_cond_true rfl ?_
    refine T_seq ?_
    refine T_region ?_
    refine TL_pure rfl rfl rfl rfl (op_assign rfl) ?_
    refine TL_pure rfl rfl rfl rfl (op_assign rfl) ?_
    refine TL_nil ?_
    refine T_keepH [6, 7] [] rfl rfl rfl rfl (by rw [hF]; rfl) ?_
    refine T_ret ?_
    obtain rfl := someI hm
    refine ⟨[_, _], [], ⟨rfl, rfl, trivial⟩, ?_, rfl, rfl, rfl, rfl⟩
    rfl
theorem c_laws_eqInt64S (p0 : List Int) (p1 : List Int) (out : Bool) (hm : m_laws_eqInt64S p0 p1 = some out) : ACall Try.prog 77 [.sl 1 (List.map a_i64 p0), .sl 1 (List.map a_i64 p1)] [] (.bool out) [] := by
  refine ACall.intro Try.func77 rfl Try.ntmps77 rfl (fun F hF => ?_)
  unfold m_laws_eqInt64S at hm
  refine T_seq ?_
  refine T_region ?_
  refine TL_pure rfl rfl rfl rfl (op_assign rfl) ?_
  refine TL_nil ?_
  refine T_seq ?_
  refine T_seq ?_
  refine T_region ?_
  refine TL_pure rfl rfl rfl rfl (op_move rfl) ?_
  refine TL_pure rfl rfl rfl rfl (op_lenT Try.underlying29 rfl (List.length_map _)) ?_
  refine TL_fact (fun _ _ _ hr => RelP.slLen (i := 6) rfl hr) (fun hlen7 => ?_)
  rw [List.length_map] at hlen7
  refine TL_pure rfl rfl rfl rfl (op_move rfl) ?_
  refine TL_pure rfl rfl rfl rfl (op_lenT Try.underlying29 rfl (List.length_map _)) ?_
  refine TL_fact (fun _ _ _ hr => RelP.slLen (i := 8) rfl hr) (fun hlen9 => ?_)
  rw [List.length_map] at hlen9
  refine TL_pure rfl rfl rfl rfl (op_neq rfl rfl) ?_
  refine TL_nil ?_
  refine T_cond rfl (fun hq => ?_) (fun hq => ?_)
  · replace hm := condT hq hm
    refine T_seq ?_
    refine T_region ?_
    refine TL_pure rfl rfl rfl rfl (op_assign rfl) ?_
    refine TL_nil ?_
    refine T_keepH [4] [] rfl rfl rfl rfl (by rw [hF]; rfl) ?_
    refine T_ret ?_
    obtain rfl := someI hm
    refine ⟨[_], [], ⟨rfl, trivial⟩, ?_, rfl, rfl, rfl, rfl⟩
    rfl
  · replace hm := condF hq hm
    refine T_skip ?_
    refine T_seq ?_
    refine T_seq ?_
    refine T_region ?_
    refine TL_pure rfl rfl rfl rfl (op_assign rfl) ?_
    refine TL_nil ?_
    refine T_block ?_
    refine T_keepH [0, 1, 5] [] rfl rfl rfl rfl (by rw [hF]; rfl) ?_
    refine T_loop ?_
    obtain ⟨u0, hl0, hm⟩ := bindS hm
    refine TR_iter2 (m_laws_eqInt64S_L0 p0 p1) (fun (s0 : Int) => ⟨[(0, .sl 1 (List.map a_i64 p0)), (1, .sl 1 (List.map a_i64 p1)), (5, .int .i64 s0)], []⟩) (fun u0 => match u0 with | .inl u0 => .exit 0 | .inr u0 => .ret) (fun u0 => match u0 with | .inl u0 => ⟨[], []⟩ | .inr u0 => ⟨[(4, .bool u0)], []⟩) (fun u0 => m_laws_eqInt64S_A0 u0 = some out) hl0 hm (fun u0 hm => ?_) (fun hx0 s0 c0 hm hc0 => ?_)
    · rcases u0 with u0 | u0
      · unfold m_laws_eqInt64S_A0 at hm
        refine T_seq ?_
        refine T_region ?_
        refine TL_pure rfl rfl rfl rfl (op_assign rfl) ?_
        refine TL_nil ?_
        refine T_keepH [4] [] rfl rfl rfl rfl (by rw [hF]; rfl) ?_
        refine T_ret ?_
        obtain rfl := someI hm
        refine ⟨[_], [], ⟨rfl, trivial⟩, ?_, rfl, rfl, rfl, rfl⟩
        rfl
      · unfold m_laws_eqInt64S_A0 at hm
        obtain rfl := someI hm
        refine ⟨[_], [], ⟨rfl, trivial⟩, ?_, rfl, rfl, rfl, rfl⟩
        rfl
    · unfold m_laws_eqInt64S_L0 at hm
      refine T_seq ?_
      refine T_seq ?_
      refine T_region ?_
      refine TL_pure rfl rfl rfl rfl (op_move rfl) ?_
      refine TL_pure rfl rfl rfl rfl (op_move rfl) ?_
      refine TL_pure rfl rfl rfl rfl (op_lenT Try.underlying29 rfl (List.length_map _)) ?_
      refine TL_pure rfl rfl rfl rfl (op_lss rfl rfl) ?_
      refine TL_nil ?_
      refine T_cond rfl (fun hq => ?_) (fun hq => ?_)
      · replace hm := condT hq hm
        refine T_skip ?_
        refine T_seq ?_
        refine T_block ?_
        refine T_seq ?_
        refine T_drawZ [] mix (by kernel_rfl) rfl ?_
        obtain ⟨x19, hx19, hm⟩ := bindS hm
        obtain ⟨x23, hx23, hm⟩ := bindS hm
        refine TZ_pure 0 (by kernel_rfl) rfl rfl rfl rfl rfl (op_move rfl) ?_
        refine TZ_pure 1 (by kernel_rfl) rfl rfl rfl rfl rfl (op_move rfl) ?_
        refine TZ_pure 2 (by kernel_rfl) rfl rfl rfl rfl rfl (op_indexT el29 rfl rfl hx19 rfl) ?_
        refine TZ_pure 3 (by kernel_rfl) rfl rfl rfl rfl rfl (op_load_one ag2 rfl rfl) ?_
        refine TZ_pure 4 (by kernel_rfl) rfl rfl rfl rfl rfl (op_move rfl) ?_
        refine TZ_pure 5 (by kernel_rfl) rfl rfl rfl rfl rfl (op_move rfl) ?_
        refine TZ_pure 6 (by kernel_rfl) rfl rfl rfl rfl rfl (op_indexT el29 rfl rfl hx23 rfl) ?_
        refine TZ_pure 7 (by kernel_rfl) rfl rfl rfl rfl rfl (op_load_one ag2 rfl rfl) ?_
        refine TZ_pure 8 (by kernel_rfl) rfl rfl rfl rfl rfl (op_neq rfl rfl) ?_
        refine TZ_done (by kernel_rfl) ?_
        refine T_cond rfl (fun hq => ?_) (fun hq => ?_)
        · replace hm := condT hq hm
          refine T_seq ?_
          refine T_region ?_
          refine TL_pure rfl rfl rfl rfl (op_assign rfl) ?_
          refine TL_nil ?_
          refine T_keepH [4] [] rfl rfl rfl rfl (by rw [hF]; rfl) ?_
          refine T_ret ?_
          obtain rfl := someI hm
          have hn := CtlOK_out hc0
          exact hx0 (.inr false) hn
        · replace hm := condF hq hm
          refine T_skip ?_
          refine T_region ?_
          refine TL_pure rfl rfl rfl rfl (op_move rfl) ?_
          refine TL_pure rfl rfl rfl rfl (op_addW rfl rfl) ?_
          refine TL_pure rfl rfl rfl rfl (op_assign rfl) ?_
          refine TL_nil ?_
          refine TR_keepH [0, 1, 5] [] rfl rfl rfl rfl (by rw [hF]; rfl) ?_
          obtain rfl := someI hm
          have hn := CtlOK_next hc0
          exact hn _ rfl
      · replace hm := condF hq hm
        refine T_keepH [] [] rfl rfl rfl rfl (by rw [hF]; rfl) ?_
        refine T_exit ?_
        obtain rfl := someI hm
        have hn := CtlOK_out hc0
        exact hx0 (.inl ()) hn
theorem c_laws_eqTerm (p0 : Term) (p1 : Term) (out : Bool) (hm : m_laws_eqTerm p0 p1 = some out) : ACall Try.prog 101 [.agg [.int .i64 p0.Const, .sl 1 (List.map a_i64 p0.Coeffs)], .agg [.int .i64 p1.Const, .sl 1 (List.map a_i64 p1.Coeffs)]] [] (.bool out) [] := by
  refine ACall.intro Try.func101 rfl Try.ntmps101 rfl (fun F hF => ?_)
  unfold m_laws_eqTerm at hm
  refine T_seq ?_
  refine T_region ?_
  refine TL_box 11 rfl rfl rfl rfl rfl rfl rfl ?_
  refine TL_box 12 rfl rfl rfl rfl rfl rfl rfl ?_
  refine TL_pure rfl rfl rfl rfl (op_assign rfl) ?_
  refine TL_nil ?_
  refine T_seq ?_
  refine T_seq ?_
  refine T_region ?_
  refine TL_pure rfl rfl rfl rfl (op_fieldAddr fa75_0 rfl rfl) ?_
  refine TL_pure rfl rfl rfl rfl (op_load_one ag2 rfl rfl) ?_
  refine TL_pure rfl rfl rfl rfl (op_fieldAddr fa75_0 rfl rfl) ?_
  refine TL_pure rfl rfl rfl rfl (op_load_one ag2 rfl rfl) ?_
  refine TL_pure rfl rfl rfl rfl (op_neq rfl rfl) ?_
  refine TL_nil ?_
  refine T_cond rfl (fun hq => ?_) (fun hq => ?_)
  · replace hm := condT hq hm
    refine T_seq ?_
    refine T_region ?_
    refine TL_pure rfl rfl rfl rfl (op_assign rfl) ?_
    refine TL_nil ?_
    refine T_keepH [4] [] rfl rfl rfl rfl (by rw [hF]; rfl) ?_
    refine T_ret ?_
    obtain rfl := someI hm
    refine ⟨[_], [], ⟨rfl, trivial⟩, ?_, rfl, rfl, rfl, rfl⟩
    rfl
  · replace hm := condF hq hm
    refine T_skip ?_
    refine T_seq ?_
    refine T_seq ?_
    refine T_region ?_
    refine TL_pure rfl rfl rfl rfl (op_fieldAddr fa75_1 rfl rfl) ?_
    refine TL_pure rfl rfl rfl rfl (op_load_one ag29 rfl rfl) ?_
    refine TL_pure rfl rfl rfl rfl (op_fieldAddr fa75_1 rfl rfl) ?_
    refine TL_pure rfl rfl rfl rfl (op_load_one ag29 rfl rfl) ?_
    obtain ⟨r14, hr14, hm⟩ := bindS hm
    refine TL_callF (c_laws_eqInt64S p0.Coeffs p1.Coeffs r14 hr14) Try.call77 rfl rfl rfl rfl rfl ?_
    refine TL_pure rfl rfl rfl rfl (op_not rfl) ?_
    refine TL_nil ?_
    refine T_cond rfl (fun hq => ?_) (fun hq => ?_)
    · replace hm := condT hq hm
      refine T_seq ?_
      refine T_region ?_
      refine TL_pure rfl rfl rfl rfl (op_assign rfl) ?_
      refine TL_nil ?_
      refine T_keepH [4] [] rfl rfl rfl rfl (by rw [hF]; rfl) ?_
      refine T_ret ?_
      obtain rfl := someI hm
      refine ⟨[_], [], ⟨rfl, trivial⟩, ?_, rfl, rfl, rfl, rfl⟩
      rfl
    · replace hm := condF hq hm
      refine T_skip ?_
      refine T_seq ?_
      refine T_region ?_
      refine TL_pure rfl rfl rfl rfl (op_assign rfl) ?_
      refine TL_nil ?_
      refine T_keepH [4] [] rfl rfl rfl rfl (by rw [hF]; rfl) ?_
      refine T_ret ?_
      obtain rfl := someI hm
      refine ⟨[_], [], ⟨rfl, trivial⟩, ?_, rfl, rfl, rfl, rfl⟩
      rfl
theorem c_laws_eqTermS (p0 : List Term) (p1 : List Term) (out : Bool) (hm : m_laws_eqTermS p0 p1 = some out) : ACall Try.prog 68 [.sl 2 (List.map a_Term p0), .sl 2 (List.map a_Term p1)] [] (.bool out) [] := by
  refine ACall.intro Try.func68 rfl Try.ntmps68 rfl (fun F hF => ?_)
  unfold m_laws_eqTermS at hm
  refine T_seq ?_
  refine T_region ?_
  refine TL_pure rfl rfl rfl rfl (op_assign rfl) ?_
  refine TL_nil ?_
  refine T_seq ?_
  refine T_seq ?_
  refine T_region ?_
  refine TL_pure rfl rfl rfl rfl (op_move rfl) ?_
  refine TL_pure rfl rfl rfl rfl (op_lenT Try.underlying24 rfl (List.length_map _)) ?_
  refine TL_fact (fun _ _ _ hr => RelP.slLen (i := 6) rfl hr) (fun hlen7 => ?_)
  rw [List.length_map] at hlen7
  refine TL_pure rfl rfl rfl rfl (op_move rfl) ?_
  refine TL_pure rfl rfl rfl rfl (op_lenT Try.underlying24 rfl (List.length_map _)) ?_
  refine TL_fact (fun _ _ _ hr => RelP.slLen (i := 8) rfl hr) (fun hlen9 => ?_)
  rw [List.length_map] at hlen9
  refine TL_pure rfl rfl rfl rfl (op_neq rfl rfl) ?_
  refine TL_nil ?_
  refine T_cond rfl (fun hq => ?_) (fun hq => ?_)
  · replace hm := condT hq hm
    refine T_seq ?_
    refine T_region ?_
    refine TL_pure rfl rfl rfl rfl (op_assign rfl) ?_
    refine TL_nil ?_
    refine T_keepH [4] [] rfl rfl rfl rfl (by rw [hF]; rfl) ?_
    refine T_ret ?_
    obtain rfl := someI hm
    refine ⟨[_], [], ⟨rfl, trivial⟩, ?_, rfl, rfl, rfl, rfl⟩
    rfl
  · replace hm := condF hq hm
    refine T_skip ?_
    refine T_seq ?_
    refine T_seq ?_
    refine T_region ?_
    refine TL_pure rfl rfl rfl rfl (op_assign rfl) ?_
    refine TL_nil ?_
    refine T_block ?_
    refine T_keepH [0, 1, 5] [] rfl rfl rfl rfl (by rw [hF]; rfl) ?_
    refine T_loop ?_
    obtain ⟨u0, hl0, hm⟩ := bindS hm
    refine TR_iter2 (m_laws_eqTermS_L0 p0 p1) (fun (s0 : Int) => ⟨[(0, .sl 2 (List.map a_Term p0)), (1, .sl 2 (List.map a_Term p1)), (5, .int .i64 s0)], []⟩) (fun u0 => match u0 with | .inl u0 => .exit 0 | .inr u0 => .ret) (fun u0 => match u0 with | .inl u0 => ⟨[], []⟩ | .inr u0 => ⟨[(4, .bool u0)], []⟩) (fun u0 => m_laws_eqTermS_A0 u0 = some out) hl0 hm (fun u0 hm => ?_) (fun hx0 s0 c0 hm hc0 => ?_)
    · rcases u0 with u0 | u0
      · unfold m_laws_eqTermS_A0 at hm
        refine T_seq ?_
        refine T_region ?_
        refine TL_pure rfl rfl rfl rfl (op_assign rfl) ?_
        refine TL_nil ?_
        refine T_keepH [4] [] rfl rfl rfl rfl (by rw [hF]; rfl) ?_
        refine T_ret ?_
        obtain rfl := someI hm
        refine ⟨[_], [], ⟨rfl, trivial⟩, ?_, rfl, rfl, rfl, rfl⟩
        rfl
      · unfold m_laws_eqTermS_A0 at hm
        obtain rfl := someI hm
        refine ⟨[_], [], ⟨rfl, trivial⟩, ?_, rfl, rfl, rfl, rfl⟩
        rfl
    · unfold m_laws_eqTermS_L0 at hm
      refine T_seq ?_
      refine T_seq ?_
      refine T_region ?_
      refine TL_pure rfl rfl rfl rfl (op_move rfl) ?_
      refine TL_pure rfl rfl rfl rfl (op_move rfl) ?_
      refine TL_pure rfl rfl rfl rfl (op_lenT Try.underlying24 rfl (List.length_map _)) ?_
      refine TL_pure rfl rfl rfl rfl (op_lss rfl rfl) ?_
      refine TL_nil ?_
      refine T_cond rfl (fun hq => ?_) (fun hq => ?_)
      · replace hm := condT hq hm
        refine T_skip ?_
        refine T_seq ?_
        refine T_block ?_
        refine T_seq ?_
        refine T_drawZ [] mix (by kernel_rfl) rfl ?_
        obtain ⟨x19, hx19, hm⟩ := bindS hm
        obtain ⟨x23, hx23, hm⟩ := bindS hm
        obtain ⟨r25, hr25, hm⟩ := bindS hm
        refine TZ_pure 0 (by kernel_rfl) rfl rfl rfl rfl rfl (op_move rfl) ?_
        refine TZ_pure 1 (by kernel_rfl) rfl rfl rfl rfl rfl (op_move rfl) ?_
        refine TZ_pure 2 (by kernel_rfl) rfl rfl rfl rfl rfl (op_indexT el24 rfl rfl hx19 rfl) ?_
        refine TZ_pure 3 (by kernel_rfl) rfl rfl rfl rfl rfl (op_load_agg ag75 sz75 rfl rfl rfl) ?_
        refine TZ_pure 4 (by kernel_rfl) rfl rfl rfl rfl rfl (op_move rfl) ?_
        refine TZ_pure 5 (by kernel_rfl) rfl rfl rfl rfl rfl (op_move rfl) ?_
        refine TZ_pure 6 (by kernel_rfl) rfl rfl rfl rfl rfl (op_indexT el24 rfl rfl hx23 rfl) ?_
        refine TZ_pure 7 (by kernel_rfl) rfl rfl rfl rfl rfl (op_load_agg ag75 sz75 rfl rfl rfl) ?_
        refine TZ_one 8 (by kernel_rfl) rfl ?_
        refine TL_callF (c_laws_eqTerm x19 x23 r25 hr25) Try.call101 rfl rfl rfl rfl rfl ?_
        refine TL_nil ?_
        refine TZ_pure 9 (by kernel_rfl) rfl rfl rfl rfl rfl (op_not rfl) ?_
        refine TZ_done (by kernel_rfl) ?_
        refine T_cond rfl (fun hq => ?_) (fun hq => ?_)
        · replace hm := condT hq hm
          refine T_seq ?_
          refine T_region ?_
          refine TL_pure rfl rfl rfl rfl (op_assign rfl) ?_
          refine TL_nil ?_
          refine T_keepH [4] [] rfl rfl rfl rfl (by rw [hF]; rfl) ?_
          refine T_ret ?_
          obtain rfl := someI hm
          have hn := CtlOK_out hc0
          exact hx0 (.inr false) hn
        · replace hm := condF hq hm
          refine T_skip ?_
          refine T_region ?_
          refine TL_pure rfl rfl rfl rfl (op_move rfl) ?_
          refine TL_pure rfl rfl rfl rfl (op_addW rfl rfl) ?_
          refine TL_pure rfl rfl rfl rfl (op_assign rfl) ?_
          refine TL_nil ?_
          refine TR_keepH [0, 1, 5] [] rfl rfl rfl rfl (by rw [hF]; rfl) ?_
          obtain rfl := someI hm
          have hn := CtlOK_next hc0
          exact hn _ rfl
      · replace hm := condF hq hm
        refine T_keepH [] [] rfl rfl rfl rfl (by rw [hF]; rfl) ?_
        refine T_exit ?_
        obtain rfl := someI hm
        have hn := CtlOK_out hc0
        exact hx0 (.inl ()) hn
theorem c_laws_eqStmt (p0 : Stmt) (p1 : Stmt) (out : Bool) (hm : m_laws_eqStmt p0 p1 = some out) : ACall Try.prog 58 [.agg [.int .i64 p0.Kind, .int .i64 p0.Var, .int .i64 p0.Event, .int .i64 p0.Sum.Const, .sl 1 (List.map a_i64 p0.Sum.Coeffs), .int .i64 p0.Index.Const, .sl 1 (List.map a_i64 p0.Index.Coeffs), .sl 2 (List.map a_Term p0.Facts)], .agg [.int .i64 p1.Kind, .int .i64 p1.Var, .int .i64 p1.Event, .int .i64 p1.Sum.Const, .sl 1 (List.map a_i64 p1.Sum.Coeffs), .int .i64 p1.Index.Const, .sl 1 (List.map a_i64 p1.Index.Coeffs), .sl 2 (List.map a_Term p1.Facts)]] [] (.bool out) [] := by
  refine ACall.intro Try.func58 rfl Try.ntmps58 rfl (fun F hF => ?_)
  unfold m_laws_eqStmt at hm
  refine T_seq ?_
  refine T_region ?_
  refine TL_box 11 rfl rfl rfl rfl rfl rfl rfl ?_
  refine TL_box 12 rfl rfl rfl rfl rfl rfl rfl ?_
  refine TL_pure rfl rfl rfl rfl (op_assign rfl) ?_
  refine TL_nil ?_
  refine T_seq ?_
  refine T_seq ?_
  refine T_region ?_
  refine TL_pure rfl rfl rfl rfl (op_fieldAddr fa77_0 rfl rfl) ?_
  refine TL_pure rfl rfl rfl rfl (op_load_one ag2 rfl rfl) ?_
  refine TL_pure rfl rfl rfl rfl (op_fieldAddr fa77_0 rfl rfl) ?_
  refine TL_pure rfl rfl rfl rfl (op_load_one ag2 rfl rfl) ?_
  refine TL_pure rfl rfl rfl rfl (op_neq rfl rfl) ?_
  refine TL_nil ?_
  refine T_cond rfl (fun hq => ?_) (fun hq => ?_)
  · replace hm := condT hq hm
    refine T_seq ?_
    refine T_region ?_
    refine TL_pure rfl rfl rfl rfl (op_assign rfl) ?_
    refine TL_nil ?_
    refine T_keepH [4] [] rfl rfl rfl rfl (by rw [hF]; rfl) ?_
    refine T_ret ?_
    obtain rfl := someI hm
    refine ⟨[_], [], ⟨rfl, trivial⟩, ?_, rfl, rfl, rfl, rfl⟩
    rfl
  · replace hm := condF hq hm
    refine T_skip ?_
    refine T_seq ?_
    refine T_seq ?_
    refine T_region ?_
    refine TL_pure rfl rfl rfl rfl (op_fieldAddr fa77_1 rfl rfl) ?_
    refine TL_pure rfl rfl rfl rfl (op_load_one ag2 rfl rfl) ?_
    refine TL_pure rfl rfl rfl rfl (op_fieldAddr fa77_1 rfl rfl) ?_
    refine TL_pure rfl rfl rfl rfl (op_load_one ag2 rfl rfl) ?_
    refine TL_pure rfl rfl rfl rfl (op_neq rfl rfl) ?_
    refine TL_nil ?_
    refine T_cond rfl (fun hq => ?_) (fun hq => ?_)
    · replace hm := condT hq hm
      refine T_seq ?_
      refine T_region ?_
      refine TL_pure rfl rfl rfl rfl (op_assign rfl) ?_
      refine TL_nil ?_
      refine T_keepH [4] [] rfl rfl rfl rfl (by rw [hF]; rfl) ?_
      refine T_ret ?_
      obtain rfl := someI hm
      refine ⟨[_], [], ⟨rfl, trivial⟩, ?_, rfl, rfl, rfl, rfl⟩
      rfl
    · replace hm := condF hq hm
      refine T_skip ?_
      refine T_seq ?_
      refine T_seq ?_
      refine T_region ?_
      refine TL_pure rfl rfl rfl rfl (op_fieldAddr fa77_2 rfl rfl) ?_
      refine TL_pure rfl rfl rfl rfl (op_load_one ag2 rfl rfl) ?_
      refine TL_pure rfl rfl rfl rfl (op_fieldAddr fa77_2 rfl rfl) ?_
      refine TL_pure rfl rfl rfl rfl (op_load_one ag2 rfl rfl) ?_
      refine TL_pure rfl rfl rfl rfl (op_neq rfl rfl) ?_
      refine TL_nil ?_
      refine T_cond rfl (fun hq => ?_) (fun hq => ?_)
      · replace hm := condT hq hm
        refine T_seq ?_
        refine T_region ?_
        refine TL_pure rfl rfl rfl rfl (op_assign rfl) ?_
        refine TL_nil ?_
        refine T_keepH [4] [] rfl rfl rfl rfl (by rw [hF]; rfl) ?_
        refine T_ret ?_
        obtain rfl := someI hm
        refine ⟨[_], [], ⟨rfl, trivial⟩, ?_, rfl, rfl, rfl, rfl⟩
        rfl
      · replace hm := condF hq hm
        refine T_skip ?_
        refine T_seq ?_
        refine T_seq ?_
        refine T_region ?_
        refine TL_pure rfl rfl rfl rfl (op_fieldAddr fa77_3 rfl rfl) ?_
        refine TL_pure rfl rfl rfl rfl (op_load_agg ag75 sz75 rfl rfl rfl) ?_
        refine TL_pure rfl rfl rfl rfl (op_fieldAddr fa77_3 rfl rfl) ?_
        refine TL_pure rfl rfl rfl rfl (op_load_agg ag75 sz75 rfl rfl rfl) ?_
        obtain ⟨r24, hr24, hm⟩ := bindS hm
        refine TL_callF (c_laws_eqTerm p0.Sum p1.Sum r24 hr24) Try.call101 rfl rfl rfl rfl rfl ?_
        refine TL_pure rfl rfl rfl rfl (op_not rfl) ?_
        refine TL_nil ?_
        refine T_cond rfl (fun hq => ?_) (fun hq => ?_)
        · replace hm := condT hq hm
          refine T_seq ?_
          refine T_region ?_
          refine TL_pure rfl rfl rfl rfl (op_assign rfl) ?_
          refine TL_nil ?_
          refine T_keepH [4] [] rfl rfl rfl rfl (by rw [hF]; rfl) ?_
          refine T_ret ?_
          obtain rfl := someI hm
          refine ⟨[_], [], ⟨rfl, trivial⟩, ?_, rfl, rfl, rfl, rfl⟩
          rfl
        · replace hm := condF hq hm
          refine T_skip ?_
          refine T_seq ?_
          refine T_seq ?_
          refine T_region ?_
          refine TL_pure rfl rfl rfl rfl (op_fieldAddr fa77_4 rfl rfl) ?_
          refine TL_pure rfl rfl rfl rfl (op_load_agg ag75 sz75 rfl rfl rfl) ?_
          refine TL_pure rfl rfl rfl rfl (op_fieldAddr fa77_4 rfl rfl) ?_
          refine TL_pure rfl rfl rfl rfl (op_load_agg ag75 sz75 rfl rfl rfl) ?_
          obtain ⟨r30, hr30, hm⟩ := bindS hm
          refine TL_callF (c_laws_eqTerm p0.Index p1.Index r30 hr30) Try.call101 rfl rfl rfl rfl rfl ?_
          refine TL_pure rfl rfl rfl rfl (op_not rfl) ?_
          refine TL_nil ?_
          refine T_cond rfl (fun hq => ?_) (fun hq => ?_)
          · replace hm := condT hq hm
            refine T_seq ?_
            refine T_region ?_
            refine TL_pure rfl rfl rfl rfl (op_assign rfl) ?_
            refine TL_nil ?_
            refine T_keepH [4] [] rfl rfl rfl rfl (by rw [hF]; rfl) ?_
            refine T_ret ?_
            obtain rfl := someI hm
            refine ⟨[_], [], ⟨rfl, trivial⟩, ?_, rfl, rfl, rfl, rfl⟩
            rfl
          · replace hm := condF hq hm
            refine T_skip ?_
            refine T_seq ?_
            refine T_seq ?_
            refine T_region ?_
            refine TL_pure rfl rfl rfl rfl (op_fieldAddr fa77_5 rfl rfl) ?_
            refine TL_pure rfl rfl rfl rfl (op_load_one ag24 rfl rfl) ?_
            refine TL_pure rfl rfl rfl rfl (op_fieldAddr fa77_5 rfl rfl) ?_
            refine TL_pure rfl rfl rfl rfl (op_load_one ag24 rfl rfl) ?_
            obtain ⟨r36, hr36, hm⟩ := bindS hm
            refine TL_callF (c_laws_eqTermS p0.Facts p1.Facts r36 hr36) Try.call68 rfl rfl rfl rfl rfl ?_
            refine TL_pure rfl rfl rfl rfl (op_not rfl) ?_
            refine TL_nil ?_
            refine T_cond rfl (fun hq => ?_) (fun hq => ?_)
            · replace hm := condT hq hm
              refine T_seq ?_
              refine T_region ?_
              refine TL_pure rfl rfl rfl rfl (op_assign rfl) ?_
              refine TL_nil ?_
              refine T_keepH [4] [] rfl rfl rfl rfl (by rw [hF]; rfl) ?_
              refine T_ret ?_
              obtain rfl := someI hm
              refine ⟨[_], [], ⟨rfl, trivial⟩, ?_, rfl, rfl, rfl, rfl⟩
              rfl
            · replace hm := condF hq hm
              refine T_skip ?_
              refine T_seq ?_
              refine T_region ?_
              refine TL_pure rfl rfl rfl rfl (op_assign rfl) ?_
              refine TL_nil ?_
              refine T_keepH [4] [] rfl rfl rfl rfl (by rw [hF]; rfl) ?_
              refine T_ret ?_
              obtain rfl := someI hm
              refine ⟨[_], [], ⟨rfl, trivial⟩, ?_, rfl, rfl, rfl, rfl⟩
              rfl
theorem c_laws_eqStmtS (p0 : List Stmt) (p1 : List Stmt) (out : Bool) (hm : m_laws_eqStmtS p0 p1 = some out) : ACall Try.prog 25 [.sl 8 (List.map a_Stmt p0), .sl 8 (List.map a_Stmt p1)] [] (.bool out) [] := by
  refine ACall.intro Try.func25 rfl Try.ntmps25 rfl (fun F hF => ?_)
  unfold m_laws_eqStmtS at hm
  refine T_seq ?_
  refine T_region ?_
  refine TL_pure rfl rfl rfl rfl (op_assign rfl) ?_
  refine TL_nil ?_
  refine T_seq ?_
  refine T_seq ?_
  refine T_region ?_
  refine TL_pure rfl rfl rfl rfl (op_move rfl) ?_
  refine TL_pure rfl rfl rfl rfl (op_lenT Try.underlying25 rfl (List.length_map _)) ?_
  refine TL_fact (fun _ _ _ hr => RelP.slLen (i := 6) rfl hr) (fun hlen7 => ?_)
  rw [List.length_map] at hlen7
  refine TL_pure rfl rfl rfl rfl (op_move rfl) ?_
  refine TL_pure rfl rfl rfl rfl (op_lenT Try.underlying25 rfl (List.length_map _)) ?_
  refine TL_fact (fun _ _ _ hr => RelP.slLen (i := 8) rfl hr) (fun hlen9 => ?_)
  rw [List.length_map] at hlen9
  refine TL_pure rfl rfl rfl rfl (op_neq rfl rfl) ?_
  refine TL_nil ?_
  refine T_cond rfl (fun hq => ?_) (fun hq => ?_)
  · replace hm := condT hq hm
    refine T_seq ?_
    refine T_region ?_
    refine TL_pure rfl rfl rfl rfl (op_assign rfl) ?_
    refine TL_nil ?_
    refine T_keepH [4] [] rfl rfl rfl rfl (by rw [hF]; rfl) ?_
    refine T_ret ?_
    obtain rfl := someI hm
    refine ⟨[_], [], ⟨rfl, trivial⟩, ?_, rfl, rfl, rfl, rfl⟩
    rfl
  · replace hm := condF hq hm
    refine T_skip ?_
    refine T_seq ?_
    refine T_seq ?_
    refine T_region ?_
    refine TL_pure rfl rfl rfl rfl (op_assign rfl) ?_
    refine TL_nil ?_
    refine T_block ?_
    refine T_keepH [0, 1, 5] [] rfl rfl rfl rfl (by rw [hF]; rfl) ?_
    refine T_loop ?_
    obtain ⟨u0, hl0, hm⟩ := bindS hm
    refine TR_iter2 (m_laws_eqStmtS_L0 p0 p1) (fun (s0 : Int) => ⟨[(0, .sl 8 (List.map a_Stmt p0)), (1, .sl 8 (List.map a_Stmt p1)), (5, .int .i64 s0)], []⟩) (fun u0 => match u0 with | .inl u0 => .exit 0 | .inr u0 => .ret) (fun u0 => match u0 with | .inl u0 => ⟨[], []⟩ | .inr u0 => ⟨[(4, .bool u0)], []⟩) (fun u0 => m_laws_eqStmtS_A0 u0 = some out) hl0 hm (fun u0 hm => ?_) (fun hx0 s0 c0 hm hc0 => ?_)
    · rcases u0 with u0 | u0
      · unfold m_laws_eqStmtS_A0 at hm
        refine T_seq ?_
        refine T_region ?_
        refine TL_pure rfl rfl rfl rfl (op_assign rfl) ?_
        refine TL_nil ?_
        refine T_keepH [4] [] rfl rfl rfl rfl (by rw [hF]; rfl) ?_
        refine T_ret ?_
        obtain rfl := someI hm
        refine ⟨[_], [], ⟨rfl, trivial⟩, ?_, rfl, rfl, rfl, rfl⟩
        rfl
      · unfold m_laws_eqStmtS_A0 at hm
        obtain rfl := someI hm
        refine ⟨[_], [], ⟨rfl, trivial⟩, ?_, rfl, rfl, rfl, rfl⟩
        rfl
    · unfold m_laws_eqStmtS_L0 at hm
      refine T_seq ?_
      refine T_seq ?_
      refine T_region ?_
      refine TL_pure rfl rfl rfl rfl (op_move rfl) ?_
      refine TL_pure rfl rfl rfl rfl (op_move rfl) ?_
      refine TL_pure rfl rfl rfl rfl (op_lenT Try.underlying25 rfl (List.length_map _)) ?_
      refine TL_pure rfl rfl rfl rfl (op_lss rfl rfl) ?_
      refine TL_nil ?_
      refine T_cond rfl (fun hq => ?_) (fun hq => ?_)
      · replace hm := condT hq hm
        refine T_skip ?_
        refine T_seq ?_
        refine T_block ?_
        refine T_seq ?_
        refine T_drawZ [] mix (by kernel_rfl) rfl ?_
        obtain ⟨x19, hx19, hm⟩ := bindS hm
        obtain ⟨x23, hx23, hm⟩ := bindS hm
        obtain ⟨r25, hr25, hm⟩ := bindS hm
        refine TZ_pure 0 (by kernel_rfl) rfl rfl rfl rfl rfl (op_move rfl) ?_
        refine TZ_pure 1 (by kernel_rfl) rfl rfl rfl rfl rfl (op_move rfl) ?_
        refine TZ_pure 2 (by kernel_rfl) rfl rfl rfl rfl rfl (op_indexT el25 rfl rfl hx19 rfl) ?_
        refine TZ_pure 3 (by kernel_rfl) rfl rfl rfl rfl rfl (op_load_agg ag77 sz77 rfl rfl rfl) ?_
        refine TZ_pure 4 (by kernel_rfl) rfl rfl rfl rfl rfl (op_move rfl) ?_
        refine TZ_pure 5 (by kernel_rfl) rfl rfl rfl rfl rfl (op_move rfl) ?_
        refine TZ_pure 6 (by kernel_rfl) rfl rfl rfl rfl rfl (op_indexT el25 rfl rfl hx23 rfl) ?_
        refine TZ_pure 7 (by kernel_rfl) rfl rfl rfl rfl rfl (op_load_agg ag77 sz77 rfl rfl rfl) ?_
        refine TZ_one 8 (by kernel_rfl) rfl ?_
        refine TL_callF (c_laws_eqStmt x19 x23 r25 hr25) Try.call58 rfl rfl rfl rfl rfl ?_
        refine TL_nil ?_
        refine TZ_pure 9 (by kernel_rfl) rfl rfl rfl rfl rfl (op_not rfl) ?_
        refine TZ_done (by kernel_rfl) ?_
        refine T_cond rfl (fun hq => ?_) (fun hq => ?_)
        · replace hm := condT hq hm
          refine T_seq ?_
          refine T_region ?_
          refine TL_pure rfl rfl rfl rfl (op_assign rfl) ?_
          refine TL_nil ?_
          refine T_keepH [4] [] rfl rfl rfl rfl (by rw [hF]; rfl) ?_
          refine T_ret ?_
          obtain rfl := someI hm
          have hn := CtlOK_out hc0
          exact hx0 (.inr false) hn
        · replace hm := condF hq hm
          refine T_skip ?_
          refine T_region ?_
          refine TL_pure rfl rfl rfl rfl (op_move rfl) ?_
          refine TL_pure rfl rfl rfl rfl (op_addW rfl rfl) ?_
          refine TL_pure rfl rfl rfl rfl (op_assign rfl) ?_
          refine TL_nil ?_
          refine TR_keepH [0, 1, 5] [] rfl rfl rfl rfl (by rw [hF]; rfl) ?_
          obtain rfl := someI hm
          have hn := CtlOK_next hc0
          exact hn _ rfl
      · replace hm := condF hq hm
        refine T_keepH [] [] rfl rfl rfl rfl (by rw [hF]; rfl) ?_
        refine T_exit ?_
        obtain rfl := someI hm
        have hn := CtlOK_out hc0
        exact hx0 (.inl ()) hn
theorem c_laws_eqProgram (p0 : Program) (p1 : Program) (out : Bool) (hm : m_laws_eqProgram p0 p1 = some out) : ACall Try.prog 31 [.agg [.sl 2 (List.map a_Term p0.Pre), .sl 8 (List.map a_Stmt p0.Body), .sl 2 (List.map a_Term p0.Post)], .agg [.sl 2 (List.map a_Term p1.Pre), .sl 8 (List.map a_Stmt p1.Body), .sl 2 (List.map a_Term p1.Post)]] [] (.bool out) [] := by
  refine ACall.intro Try.func31 rfl Try.ntmps31 rfl (fun F hF => ?_)
  unfold m_laws_eqProgram at hm
  refine T_seq ?_
  refine T_region ?_
  refine TL_box 11 rfl rfl rfl rfl rfl rfl rfl ?_
  refine TL_box 12 rfl rfl rfl rfl rfl rfl rfl ?_
  refine TL_pure rfl rfl rfl rfl (op_assign rfl) ?_
  refine TL_nil ?_
  refine T_seq ?_
  refine T_seq ?_
  refine T_region ?_
  refine TL_pure rfl rfl rfl rfl (op_fieldAddr fa27_0 rfl rfl) ?_
  refine TL_pure rfl rfl rfl rfl (op_load_one ag24 rfl rfl) ?_
  refine TL_pure rfl rfl rfl rfl (op_fieldAddr fa27_0 rfl rfl) ?_
  refine TL_pure rfl rfl rfl rfl (op_load_one ag24 rfl rfl) ?_
  obtain ⟨r9, hr9, hm⟩ := bindS hm
  refine TL_callF (c_laws_eqTermS p0.Pre p1.Pre r9 hr9) Try.call68 rfl rfl rfl rfl rfl ?_
  refine TL_pure rfl rfl rfl rfl (op_not rfl) ?_
  refine TL_nil ?_
  refine T_cond rfl (fun hq => ?_) (fun hq => ?_)
  · replace hm := condT hq hm
    refine T_seq ?_
    refine T_region ?_
    refine TL_pure rfl rfl rfl rfl (op_assign rfl) ?_
    refine TL_nil ?_
    refine T_keepH [4] [] rfl rfl rfl rfl (by rw [hF]; rfl) ?_
    refine T_ret ?_
    obtain rfl := someI hm
    refine ⟨[_], [], ⟨rfl, trivial⟩, ?_, rfl, rfl, rfl, rfl⟩
    rfl
  · replace hm := condF hq hm
    refine T_skip ?_
    refine T_seq ?_
    refine T_seq ?_
    refine T_region ?_
    refine TL_pure rfl rfl rfl rfl (op_fieldAddr fa27_1 rfl rfl) ?_
    refine TL_pure rfl rfl rfl rfl (op_load_one ag25 rfl rfl) ?_
    refine TL_pure rfl rfl rfl rfl (op_fieldAddr fa27_1 rfl rfl) ?_
    refine TL_pure rfl rfl rfl rfl (op_load_one ag25 rfl rfl) ?_
    obtain ⟨r15, hr15, hm⟩ := bindS hm
    refine TL_callF (c_laws_eqStmtS p0.Body p1.Body r15 hr15) Try.call25 rfl rfl rfl rfl rfl ?_
    refine TL_pure rfl rfl rfl rfl (op_not rfl) ?_
    refine TL_nil ?_
    refine T_cond rfl (fun hq => ?_) (fun hq => ?_)
    · replace hm := condT hq hm
      refine T_seq ?_
      refine T_region ?_
      refine TL_pure rfl rfl rfl rfl (op_assign rfl) ?_
      refine TL_nil ?_
      refine T_keepH [4] [] rfl rfl rfl rfl (by rw [hF]; rfl) ?_
      refine T_ret ?_
      obtain rfl := someI hm
      refine ⟨[_], [], ⟨rfl, trivial⟩, ?_, rfl, rfl, rfl, rfl⟩
      rfl
    · replace hm := condF hq hm
      refine T_skip ?_
      refine T_seq ?_
      refine T_seq ?_
      refine T_region ?_
      refine TL_pure rfl rfl rfl rfl (op_fieldAddr fa27_2 rfl rfl) ?_
      refine TL_pure rfl rfl rfl rfl (op_load_one ag24 rfl rfl) ?_
      refine TL_pure rfl rfl rfl rfl (op_fieldAddr fa27_2 rfl rfl) ?_
      refine TL_pure rfl rfl rfl rfl (op_load_one ag24 rfl rfl) ?_
      obtain ⟨r21, hr21, hm⟩ := bindS hm
      refine TL_callF (c_laws_eqTermS p0.Post p1.Post r21 hr21) Try.call68 rfl rfl rfl rfl rfl ?_
      refine TL_pure rfl rfl rfl rfl (op_not rfl) ?_
      refine TL_nil ?_
      refine T_cond rfl (fun hq => ?_) (fun hq => ?_)
      · replace hm := condT hq hm
        refine T_seq ?_
        refine T_region ?_
        refine TL_pure rfl rfl rfl rfl (op_assign rfl) ?_
        refine TL_nil ?_
        refine T_keepH [4] [] rfl rfl rfl rfl (by rw [hF]; rfl) ?_
        refine T_ret ?_
        obtain rfl := someI hm
        refine ⟨[_], [], ⟨rfl, trivial⟩, ?_, rfl, rfl, rfl, rfl⟩
        rfl
      · replace hm := condF hq hm
        refine T_skip ?_
        refine T_seq ?_
        refine T_region ?_
        refine TL_pure rfl rfl rfl rfl (op_assign rfl) ?_
        refine TL_nil ?_
        refine T_keepH [4] [] rfl rfl rfl rfl (by rw [hF]; rfl) ?_
        refine T_ret ?_
        obtain rfl := someI hm
        refine ⟨[_], [], ⟨rfl, trivial⟩, ?_, rfl, rfl, rfl, rfl⟩
        rfl
theorem c_laws_eqState (p0 : State) (p1 : State) (out : Bool) (hm : m_laws_eqState p0 p1 = some out) : ACall Try.prog 40 [.agg [.sl 1 (List.map a_i64 p0.Vars), .sl 1 (List.map a_i64 p0.Cells)], .agg [.sl 1 (List.map a_i64 p1.Vars), .sl 1 (List.map a_i64 p1.Cells)]] [] (.bool out) [] := by
  refine ACall.intro Try.func40 rfl Try.ntmps40 rfl (fun F hF => ?_)
  unfold m_laws_eqState at hm
  refine T_seq ?_
  refine T_region ?_
  refine TL_box 11 rfl rfl rfl rfl rfl rfl rfl ?_
  refine TL_box 12 rfl rfl rfl rfl rfl rfl rfl ?_
  refine TL_pure rfl rfl rfl rfl (op_assign rfl) ?_
  refine TL_nil ?_
  refine T_seq ?_
  refine T_seq ?_
  refine T_region ?_
  refine TL_pure rfl rfl rfl rfl (op_fieldAddr fa31_0 rfl rfl) ?_
  refine TL_pure rfl rfl rfl rfl (op_load_one ag29 rfl rfl) ?_
  refine TL_pure rfl rfl rfl rfl (op_fieldAddr fa31_0 rfl rfl) ?_
  refine TL_pure rfl rfl rfl rfl (op_load_one ag29 rfl rfl) ?_
  obtain ⟨r9, hr9, hm⟩ := bindS hm
  refine TL_callF (c_laws_eqInt64S p0.Vars p1.Vars r9 hr9) Try.call77 rfl rfl rfl rfl rfl ?_
  refine TL_pure rfl rfl rfl rfl (op_not rfl) ?_
  refine TL_nil ?_
  refine T_cond rfl (fun hq => ?_) (fun hq => ?_)
  · replace hm := condT hq hm
    refine T_seq ?_
    refine T_region ?_
    refine TL_pure rfl rfl rfl rfl (op_assign rfl) ?_
    refine TL_nil ?_
    refine T_keepH [4] [] rfl rfl rfl rfl (by rw [hF]; rfl) ?_
    refine T_ret ?_
    obtain rfl := someI hm
    refine ⟨[_], [], ⟨rfl, trivial⟩, ?_, rfl, rfl, rfl, rfl⟩
    rfl
  · replace hm := condF hq hm
    refine T_skip ?_
    refine T_seq ?_
    refine T_seq ?_
    refine T_region ?_
    refine TL_pure rfl rfl rfl rfl (op_fieldAddr fa31_1 rfl rfl) ?_
    refine TL_pure rfl rfl rfl rfl (op_load_one ag29 rfl rfl) ?_
    refine TL_pure rfl rfl rfl rfl (op_fieldAddr fa31_1 rfl rfl) ?_
    refine TL_pure rfl rfl rfl rfl (op_load_one ag29 rfl rfl) ?_
    obtain ⟨r15, hr15, hm⟩ := bindS hm
    refine TL_callF (c_laws_eqInt64S p0.Cells p1.Cells r15 hr15) Try.call77 rfl rfl rfl rfl rfl ?_
    refine TL_pure rfl rfl rfl rfl (op_not rfl) ?_
    refine TL_nil ?_
    refine T_cond rfl (fun hq => ?_) (fun hq => ?_)
    · replace hm := condT hq hm
      refine T_seq ?_
      refine T_region ?_
      refine TL_pure rfl rfl rfl rfl (op_assign rfl) ?_
      refine TL_nil ?_
      refine T_keepH [4] [] rfl rfl rfl rfl (by rw [hF]; rfl) ?_
      refine T_ret ?_
      obtain rfl := someI hm
      refine ⟨[_], [], ⟨rfl, trivial⟩, ?_, rfl, rfl, rfl, rfl⟩
      rfl
    · replace hm := condF hq hm
      refine T_skip ?_
      refine T_seq ?_
      refine T_region ?_
      refine TL_pure rfl rfl rfl rfl (op_assign rfl) ?_
      refine TL_nil ?_
      refine T_keepH [4] [] rfl rfl rfl rfl (by rw [hF]; rfl) ?_
      refine T_ret ?_
      obtain rfl := someI hm
      refine ⟨[_], [], ⟨rfl, trivial⟩, ?_, rfl, rfl, rfl, rfl⟩
      rfl
theorem c_laws_FnExactStepsOf (p0 : Program) (p1 : State) (p2 : Int) (out : Bool) (hm : m_laws_FnExactStepsOf p0 p1 p2 = some out) : ACall Try.prog 8 [.agg [.sl 2 (List.map a_Term p0.Pre), .sl 8 (List.map a_Stmt p0.Body), .sl 2 (List.map a_Term p0.Post)], .agg [.sl 1 (List.map a_i64 p1.Vars), .sl 1 (List.map a_i64 p1.Cells)], .int .i64 p2] [] (.bool out) [] := by
  refine ACall.intro Try.func8 rfl Try.ntmps8 rfl (fun F hF => ?_)
  unfold m_laws_FnExactStepsOf at hm
  refine T_seq ?_
  refine T_region ?_
  refine TL_box 11 rfl rfl rfl rfl rfl rfl rfl ?_
  refine TL_box 12 rfl rfl rfl rfl rfl rfl rfl ?_
  refine TL_pure rfl rfl rfl rfl (op_assign rfl) ?_
  refine TL_nil ?_
  refine T_seq ?_
  refine T_region ?_
  refine TL_pure rfl rfl rfl rfl (op_assign rfl) ?_
  refine TL_nil ?_
  refine T_seq ?_
  refine T_region ?_
  refine TL_pure rfl rfl rfl rfl (op_load_agg ag54 sz54 rfl rfl rfl) ?_
  refine TL_pure rfl rfl rfl rfl (op_move rfl) ?_
  obtain ⟨r16, hr16, hm⟩ := bindS hm
  refine TL_callF (c_laws_szProgram p0 (1048576 : Int) r16 hr16) Try.call28 rfl rfl rfl rfl rfl ?_
  refine TL_pure rfl rfl rfl rfl (op_assign rfl) ?_
  refine TL_nil ?_
  refine T_seq ?_
  refine T_seq ?_
  refine T_region ?_
  refine TL_pure rfl rfl rfl rfl (op_move rfl) ?_
  refine TL_pure rfl rfl rfl rfl (op_lss rfl rfl) ?_
  refine TL_nil ?_
  refine T_cond rfl (fun hq => ?_) (fun hq => ?_)
  · replace hm := condT hq hm
    refine T_seq ?_
    refine T_region ?_
    refine TL_pure rfl rfl rfl rfl (op_assign rfl) ?_
    refine TL_nil ?_
    refine T_keepH [6] [] rfl rfl rfl rfl (by rw [hF]; rfl) ?_
    refine T_ret ?_
    obtain rfl := someI hm
    refine ⟨[_], [], ⟨rfl, trivial⟩, ?_, rfl, rfl, rfl, rfl⟩
    rfl
  · replace hm := condF hq hm
    refine T_skip ?_
    refine T_seq ?_
    refine T_region ?_
    refine TL_pure rfl rfl rfl rfl (op_load_agg ag61 sz61 rfl rfl rfl) ?_
    refine TL_pure rfl rfl rfl rfl (op_move rfl) ?_
    obtain ⟨r21, hr21, hm⟩ := bindS hm
    refine TL_callF (c_laws_szState p1 r16 r21 hr21) Try.call37 rfl rfl rfl rfl rfl ?_
    refine TL_pure rfl rfl rfl rfl (op_assign rfl) ?_
    refine TL_nil ?_
    refine T_seq ?_
    refine T_seq ?_
    refine T_region ?_
    refine TL_pure rfl rfl rfl rfl (op_move rfl) ?_
    refine TL_pure rfl rfl rfl rfl (op_lss rfl rfl) ?_
    refine TL_nil ?_
    refine T_cond rfl (fun hq => ?_) (fun hq => ?_)
    · replace hm := condT hq hm
      refine T_seq ?_
      refine T_region ?_
      refine TL_pure rfl rfl rfl rfl (op_assign rfl) ?_
      refine TL_nil ?_
      refine T_keepH [6] [] rfl rfl rfl rfl (by rw [hF]; rfl) ?_
      refine T_ret ?_
      obtain rfl := someI hm
      refine ⟨[_], [], ⟨rfl, trivial⟩, ?_, rfl, rfl, rfl, rfl⟩
      rfl
    · replace hm := condF hq hm
      refine T_skip ?_
      refine T_seq ?_
      refine T_drawZ [] mix (by kernel_rfl) rfl ?_
      obtain ⟨r26, hr26, hm⟩ := bindS hm
      obtain ⟨r28, hr28, hm⟩ := bindS hm
      obtain ⟨r30, hr30, hm⟩ := bindS hm
      refine TZ_pure 0 (by kernel_rfl) rfl rfl rfl rfl rfl (op_load_agg ag54 sz54 rfl rfl rfl) ?_
      refine TZ_pure 2 (by kernel_rfl) rfl rfl rfl rfl rfl (op_load_agg ag61 sz61 rfl rfl rfl) ?_
      refine TZ_pure 4 (by kernel_rfl) rfl rfl rfl rfl rfl (op_move rfl) ?_
      refine TZ_one 1 (by kernel_rfl) rfl ?_
      refine TL_callO [(1000, 28), (1001, 29), (1002, 30)] (c_laws_toProgram p0 r26 hr26) Try.call30 rfl rfl rfl rfl rfl rfl rfl rfl rfl rfl rfl rfl rfl ?_
      refine TL_nil ?_
      refine TZ_one 3 (by kernel_rfl) rfl ?_
      refine TL_callO [(1000, 31), (1001, 32)] (c_laws_toState p1 r28 hr28) Try.call39 rfl rfl rfl rfl rfl rfl rfl rfl rfl rfl rfl rfl rfl ?_
      refine TL_nil ?_
      refine TZ_one 5 (by kernel_rfl) rfl ?_
      refine TL_callF (c_spec_StepsOf r26 r28 p2 r30 hr30) Try.call38 rfl rfl rfl rfl rfl ?_
      refine TL_nil ?_
      refine TZ_pure 6 (by kernel_rfl) rfl rfl rfl rfl rfl (op_move rfl) ?_
      refine TZ_pure 7 (by kernel_rfl) rfl rfl rfl rfl rfl (op_extract rfl rfl) ?_
      refine TZ_pure 8 (by kernel_rfl) rfl rfl rfl rfl rfl (op_extract rfl rfl) ?_
      refine TZ_pure 9 (by kernel_rfl) rfl rfl rfl rfl rfl (op_assign rfl) ?_
      refine TZ_pure 10 (by kernel_rfl) rfl rfl rfl rfl rfl (op_assign rfl) ?_
      refine TZ_done (by kernel_rfl) ?_
      refine T_seq ?_
      refine T_region ?_
      refine TL_pure rfl rfl rfl rfl (op_load_agg ag54 sz54 rfl rfl rfl) ?_
      obtain ⟨r34, hr34, hm⟩ := bindS hm
      refine TL_callO [(1000, 33), (1001, 34), (1002, 35)] (c_laws_toProgram p0 r34 hr34) Try.call30 rfl rfl rfl rfl rfl rfl rfl rfl rfl rfl rfl rfl rfl ?_
      refine TL_alloc 36 z27 rfl rfl rfl rfl rfl rfl rfl ?_
      refine TL_store_box sz27 rfl rfl rfl rfl rfl rfl rfl rfl rfl ?_
      refine TL_nil ?_
      refine T_seq ?_
      refine T_region ?_
      refine TL_pure rfl rfl rfl rfl (op_load_agg ag61 sz61 rfl rfl rfl) ?_
      obtain ⟨r36, hr36, hm⟩ := bindS hm
      refine TL_callO [(1000, 37), (1001, 38)] (c_laws_toState p1 r36 hr36) Try.call39 rfl rfl rfl rfl rfl rfl rfl rfl rfl rfl rfl rfl rfl ?_
      refine TL_alloc 39 z31 rfl rfl rfl rfl rfl rfl rfl ?_
      refine TL_store_box sz31 rfl rfl rfl rfl rfl rfl rfl rfl rfl ?_
      refine TL_nil ?_
      refine T_seq ?_
      refine T_region ?_
      refine TL_pure rfl rfl rfl rfl (op_load_agg ag27 sz27 rfl rfl rfl) ?_
      refine TL_pure rfl rfl rfl rfl (op_load_agg ag31 sz31 rfl rfl rfl) ?_
      refine TL_pure rfl rfl rfl rfl (op_move rfl) ?_
      obtain ⟨r41, hr41, hm⟩ := bindS hm
      refine TL_callF (c_impl_StepsOf r34 r36 p2 r41 hr41) Try.call14 rfl rfl rfl rfl rfl ?_
      refine TL_pure rfl rfl rfl rfl (op_move rfl) ?_
      refine TL_pure rfl rfl rfl rfl (op_extract rfl rfl) ?_
      refine TL_pure rfl rfl rfl rfl (op_extract rfl rfl) ?_
      refine TL_pure rfl rfl rfl rfl (op_assign rfl) ?_
      refine TL_pure rfl rfl rfl rfl (op_assign rfl) ?_
      refine TL_nil ?_
      refine T_seq ?_
      refine T_seq ?_
      refine T_region ?_
      refine TL_pure rfl rfl rfl rfl (op_move rfl) ?_
      refine TL_pure rfl rfl rfl rfl (op_move rfl) ?_
      refine TL_pure rfl rfl rfl rfl (op_neq rfl rfl) ?_
      refine TL_pure rfl rfl rfl rfl (op_move rfl) ?_
      refine TL_join 4 (fun _ : Unit => ⟨[(3, .ptr 11 0 0), (4, .ptr 12 0 0), (10, .ptr 36 0 0), (11, .ptr 39 0 0), (51, .bool ((!decide (r41.1 = r30.1)) || (!(r41.2 == r30.2))))], [(11, .box [.sl 2 (List.map a_Term p0.Pre), .sl 8 (List.map a_Stmt p0.Body), .sl 2 (List.map a_Term p0.Post)]), (12, .box [.sl 1 (List.map a_i64 p1.Vars), .sl 1 (List.map a_i64 p1.Cells)]), (33, .arr ⟨false, true⟩ 2 75 (List.map a_Term r34.Pre)), (34, .arr ⟨false, true⟩ 8 77 (List.map a_Stmt r34.Body)), (35, .arr ⟨false, true⟩ 2 75 (List.map a_Term r34.Post)), (36, .box [.ow 33, .ow 34, .ow 35]), (37, .arr ⟨false, true⟩ 1 2 (List.map a_i64 r36.Vars)), (38, .arr ⟨false, true⟩ 1 2 (List.map a_i64 r36.Cells)), (39, .box [.ow 37, .ow 38])]⟩) (fun _ => True) (fun _ _ => ?_) (fun hjj => ?_)
      · refine TL_nil ?_
        refine T_cond rfl (fun hq => ?_) (fun hq => ?_)
        · replace hm := condT hq hm
          refine T_seq ?_
          refine T_region ?_
          refine TL_pure rfl rfl rfl rfl (op_assign rfl) ?_
          refine TL_nil ?_
          refine T_keepH [6] [] rfl rfl rfl rfl (by rw [hF]; rfl) ?_
          refine T_ret ?_
          obtain rfl := someI hm
          refine ⟨[_], [], ⟨rfl, trivial⟩, ?_, rfl, rfl, rfl, rfl⟩
          rfl
        · replace hm := condF hq hm
          refine T_skip ?_
          refine T_seq ?_
          refine T_seq ?_
          refine T_drawZ [] mix (by kernel_rfl) rfl ?_
          obtain ⟨r54, hr54, hm⟩ := bindS hm
          obtain ⟨r55, hr55, hm⟩ := bindS hm
          refine TZ_pure 0 (by kernel_rfl) rfl rfl rfl rfl rfl (op_load_agg ag27 sz27 rfl rfl rfl) ?_
          refine TZ_pure 1 (by kernel_rfl) rfl rfl rfl rfl rfl (op_load_agg ag54 sz54 rfl rfl rfl) ?_
          refine TZ_one 2 (by kernel_rfl) rfl ?_
          refine TL_callO [(1000, 49), (1001, 50), (1002, 51)] (c_laws_toProgram p0 r54 hr54) Try.call30 rfl rfl rfl rfl rfl rfl rfl rfl rfl rfl rfl rfl rfl ?_
          refine TL_nil ?_
          refine TZ_one 3 (by kernel_rfl) rfl ?_
          refine TL_callF (c_laws_eqProgram r34 r54 r55 hr55) Try.call31 rfl rfl rfl rfl rfl ?_
          refine TL_nil ?_
          refine TZ_pure 4 (by kernel_rfl) rfl rfl rfl rfl rfl (op_not rfl) ?_
          refine TZ_done (by kernel_rfl) ?_
          refine T_cond rfl (fun hq => ?_) (fun hq => ?_)
          · replace hm := condT hq hm
            refine T_seq ?_
            refine T_region ?_
            refine TL_pure rfl rfl rfl rfl (op_assign rfl) ?_
            refine TL_nil ?_
            refine T_keepH [6] [] rfl rfl rfl rfl (by rw [hF]; rfl) ?_
            refine T_ret ?_
            obtain rfl := someI hm
            refine ⟨[_], [], ⟨rfl, trivial⟩, ?_, rfl, rfl, rfl, rfl⟩
            rfl
          · replace hm := condF hq hm
            refine T_skip ?_
            refine T_seq ?_
            refine T_seq ?_
            refine T_drawZ [] mix (by kernel_rfl) rfl ?_
            obtain ⟨r59, hr59, hm⟩ := bindS hm
            obtain ⟨r60, hr60, hm⟩ := bindS hm
            refine TZ_pure 0 (by kernel_rfl) rfl rfl rfl rfl rfl (op_load_agg ag31 sz31 rfl rfl rfl) ?_
            refine TZ_pure 1 (by kernel_rfl) rfl rfl rfl rfl rfl (op_load_agg ag61 sz61 rfl rfl rfl) ?_
            refine TZ_one 2 (by kernel_rfl) rfl ?_
            refine TL_callO [(1000, 54), (1001, 55)] (c_laws_toState p1 r59 hr59) Try.call39 rfl rfl rfl rfl rfl rfl rfl rfl rfl rfl rfl rfl rfl ?_
            refine TL_nil ?_
            refine TZ_one 3 (by kernel_rfl) rfl ?_
            refine TL_callF (c_laws_eqState r36 r59 r60 hr60) Try.call40 rfl rfl rfl rfl rfl ?_
            refine TL_nil ?_
            refine TZ_pure 4 (by kernel_rfl) rfl rfl rfl rfl rfl (op_not rfl) ?_
            refine TZ_done (by kernel_rfl) ?_
            refine T_cond rfl (fun hq => ?_) (fun hq => ?_)
            · replace hm := condT hq hm
              refine T_seq ?_
              refine T_region ?_
              refine TL_pure rfl rfl rfl rfl (op_assign rfl) ?_
              refine TL_nil ?_
              refine T_keepH [6] [] rfl rfl rfl rfl (by rw [hF]; rfl) ?_
              refine T_ret ?_
              obtain rfl := someI hm
              refine ⟨[_], [], ⟨rfl, trivial⟩, ?_, rfl, rfl, rfl, rfl⟩
              rfl
            · replace hm := condF hq hm
              refine T_skip ?_
              refine T_seq ?_
              refine T_region ?_
              refine TL_pure rfl rfl rfl rfl (op_assign rfl) ?_
              refine TL_nil ?_
              refine T_keepH [6] [] rfl rfl rfl rfl (by rw [hF]; rfl) ?_
              refine T_ret ?_
              obtain rfl := someI hm
              refine ⟨[_], [], ⟨rfl, trivial⟩, ?_, rfl, rfl, rfl, rfl⟩
              rfl
      · refine TL_split 47 rfl rfl rfl (fun hq => ?_) (fun hq => ?_)
        · refine TL_pass rfl rfl rfl rfl rfl rfl rfl ?_
          refine TL_pass rfl rfl rfl rfl rfl rfl rfl ?_
          refine TL_pass rfl rfl rfl rfl rfl rfl rfl ?_
          refine TL_pure rfl rfl rfl rfl (op_pick_true rfl rfl) ?_
          refine TL_keepH [3, 4, 10, 11, 51] [11, 12, 33, 34, 35, 36, 37, 38, 39] rfl rfl rfl rfl (by rw [hF]; rfl) ?_
          exact TL_cast _ (by first | (rw [hq, Bool.true_or]; done) | (rw [hq]; rfl)) (hjj () trivial)
        · refine TL_want rfl rfl ?_
          refine TL_pure rfl rfl rfl rfl (op_move rfl) ?_
          refine TL_want rfl rfl ?_
          refine TL_pure rfl rfl rfl rfl (op_move rfl) ?_
          refine TL_want rfl rfl ?_
          refine TL_pure rfl rfl rfl rfl (op_neqB Try.underlying4 rfl rfl) ?_
          refine TL_pure rfl rfl rfl rfl (op_pick_false rfl rfl) ?_
          refine TL_keepH [3, 4, 10, 11, 51] [11, 12, 33, 34, 35, 36, 37, 38, 39] rfl rfl rfl rfl (by rw [hF]; rfl) ?_
          exact TL_cast _ (by first | (rw [hq, Bool.false_or]; done) | (rw [hq]; rfl)) (hjj () trivial)
end Go.Mod
