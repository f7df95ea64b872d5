import Derived.Test.YtkiapbiifhkaaaaGf
namespace Go.Mod
open Go Go.AM Go.Proofs
set_option linter.unusedVariables false
set_option linter.unusedSimpArgs false
set_option maxRecDepth 100000
set_option maxHeartbeats 8000000
theorem c_impl_Config_step (p0 : Config) (p1 : List Instr) (out : Int × Int × Config) (hm : m_impl_Config_step p0 p1 = some out) : ACall Try.prog 68 [.ptr 0 0 0, .sl 2 (List.map a_Instr p1)] [(0, .box [.ow 1, .ow 2, .ow 3, .int .i64 p0.At]), (1, .arr ⟨false, true⟩ 1 2 (List.map a_i64 p0.State.Vars)), (2, .arr ⟨false, true⟩ 1 2 (List.map a_i64 p0.State.Cells)), (3, .arr ⟨false, true⟩ 1 2 (List.map a_i64 p0.Stack))] (.tup [.int .i64 out.1, .int .i64 out.2.1]) [(0, .box [.ow 1, .ow 2, .ow 3, .int .i64 out.2.2.At]), (1, .arr ⟨false, true⟩ 1 2 (List.map a_i64 out.2.2.State.Vars)), (2, .arr ⟨false, true⟩ 1 2 (List.map a_i64 out.2.2.State.Cells)), (3, .arr ⟨false, true⟩ 1 2 (List.map a_i64 out.2.2.Stack))] := by
  refine ACall.intro Try.func68 rfl Try.ntmps68 rfl (fun F hF => ?_)
  unfold m_impl_Config_step at hm
  refine T_seq ?_
  refine T_region ?_
  refine TL_pure rfl rfl rfl rfl (op_assign rfl) ?_
  refine TL_pure rfl rfl rfl rfl (op_assign rfl) ?_
  refine TL_nil ?_
  refine T_seq ?_
  refine T_seq ?_
  refine T_region ?_
  refine TL_pure rfl rfl rfl rfl (op_move rfl) ?_
  refine TL_pure rfl rfl rfl rfl (op_nilCheck rfl rfl) ?_
  refine TL_pure rfl rfl rfl rfl (op_fieldAddr fa35_2 rfl rfl) ?_
  refine TL_pure rfl rfl rfl rfl (op_load_one ag2 rfl rfl) ?_
  refine TL_pure rfl rfl rfl rfl (op_move rfl) ?_
  refine TL_pure rfl rfl rfl rfl (op_lenT Try.underlying24 rfl (List.length_map _)) ?_
  refine TL_fact (fun _ _ _ hr => RelP.slLen (i := 20) rfl hr) (fun hlen21 => ?_)
  rw [List.length_map] at hlen21
  obtain ⟨r22, hr22, hm⟩ := bindS hm
  refine TL_callF (c_impl_isIndex p0.At (p1.length : Int) r22 hr22) Try.call92 rfl rfl rfl rfl rfl ?_
  refine TL_pure rfl rfl rfl rfl (op_not rfl) ?_
  refine TL_nil ?_
  refine T_cond rfl (fun hq => ?_) (fun hq => ?_)
  · replace hm := condT hq hm
    refine T_seq ?_
    refine T_region ?_
    refine TL_pure rfl rfl rfl rfl (op_assign rfl) ?_
    refine TL_pure rfl rfl rfl rfl (op_assign rfl) ?_
    refine TL_nil ?_
    refine T_keepH [4, 5] [0, 1, 2, 3] rfl rfl rfl rfl (by rw [hF]; rfl) ?_
    refine T_ret ?_
    obtain rfl := someI hm
    refine ⟨[_, _], [0, 1, 2, 3], ⟨rfl, rfl, trivial⟩, ?_, rfl, rfl, rfl, rfl⟩
    rfl
  · replace hm := condF hq hm
    refine T_skip ?_
    refine T_seq ?_
    refine T_region ?_
    refine TL_pure rfl rfl rfl rfl (op_move rfl) ?_
    refine TL_pure rfl rfl rfl rfl (op_move rfl) ?_
    refine TL_pure rfl rfl rfl rfl (op_nilCheck rfl rfl) ?_
    refine TL_pure rfl rfl rfl rfl (op_fieldAddr fa35_2 rfl rfl) ?_
    refine TL_pure rfl rfl rfl rfl (op_load_one ag2 rfl rfl) ?_
    obtain ⟨x29, hx29, hm⟩ := bindS hm
    refine TL_pure rfl rfl rfl rfl (op_indexT el24 rfl rfl hx29 rfl) ?_
    refine TL_pure rfl rfl rfl rfl (op_load_agg ag40 sz40 rfl rfl rfl) ?_
    refine TL_alloc 11 z40 rfl rfl rfl rfl rfl rfl rfl ?_
    refine TL_store_box sz40 rfl rfl rfl rfl rfl rfl rfl rfl rfl ?_
    refine TL_nil ?_
    refine T_seq ?_
    refine T_region ?_
    refine TL_pure rfl rfl rfl rfl (op_load_agg ag40 sz40 rfl rfl rfl) ?_
    obtain ⟨r33, hr33, hm⟩ := bindS hm
    refine TL_callF (c_impl_Instr_moves x29 r33 hr33) Try.call125 rfl rfl rfl rfl rfl ?_
    refine TL_pure rfl rfl rfl rfl (op_move rfl) ?_
    refine TL_pure rfl rfl rfl rfl (op_extract rfl rfl) ?_
    refine TL_pure rfl rfl rfl rfl (op_extract rfl rfl) ?_
    refine TL_pure rfl rfl rfl rfl (op_assign rfl) ?_
    refine TL_pure rfl rfl rfl rfl (op_assign rfl) ?_
    refine TL_nil ?_
    refine T_seq ?_
    refine T_region ?_
    refine TL_pure rfl rfl rfl rfl (op_move rfl) ?_
    refine TL_pure rfl rfl rfl rfl (op_nilCheck rfl rfl) ?_
    refine TL_pure rfl rfl rfl rfl (op_fieldAddr fa35_1 rfl rfl) ?_
    refine TL_pure rfl rfl rfl rfl (op_load_one ag26 rfl rfl) ?_
    refine TL_pure rfl rfl rfl rfl (op_lenO Try.underlying26 rfl rfl (List.length_map _)) ?_
    refine TL_fact (fun _ _ _ hr => RelP.owLen (id := 3) rfl hr) (fun hlen40 => ?_)
    rw [List.length_map] at hlen40
    refine TL_pure rfl rfl rfl rfl (op_move rfl) ?_
    refine TL_pure rfl rfl rfl rfl (op_subW rfl rfl) ?_
    refine TL_pure rfl rfl rfl rfl (op_assign rfl) ?_
    refine TL_nil ?_
    refine T_join (fun (j0 : Unit) => ⟨[(0, .ptr 0 0 0), (6, .ptr 11 0 0), (8, .int .i64 r33.2), (9, .int .i64 (w64 ((p0.Stack.length : Int) - r33.1)))], [(0, .box [.ow 1, .ow 2, .ow 3, .int .i64 p0.At]), (1, .arr ⟨false, true⟩ 1 2 (List.map a_i64 p0.State.Vars)), (2, .arr ⟨false, true⟩ 1 2 (List.map a_i64 p0.State.Cells)), (3, .arr ⟨false, true⟩ 1 2 (List.map a_i64 p0.Stack)), (11, .box [.int .i64 x29.Op, .int .i64 x29.Arg])]⟩) (fun j0 => m_impl_Config_step_J0 p0 x29 r33 j0 = some out) (fun j0 hm => ?_) (fun hj0 => ?_)
    · unfold m_impl_Config_step_J0 at hm
      refine T_seq ?_
      refine T_drawZ [] mix (by kernel_rfl) rfl ?_
      obtain ⟨y60, hy60, hm⟩ := bindS hm
      refine TZ_pure 0 (by kernel_rfl) rfl rfl rfl rfl rfl (op_move rfl) ?_
      refine TZ_pure 1 (by kernel_rfl) rfl rfl rfl rfl rfl (op_nilCheck rfl rfl) ?_
      refine TZ_pure 2 (by kernel_rfl) rfl rfl rfl rfl rfl (op_fieldAddr fa35_1 rfl rfl) ?_
      refine TZ_pure 3 (by kernel_rfl) rfl rfl rfl rfl rfl (op_load_one ag26 rfl rfl) ?_
      refine TZ_pure 4 (by kernel_rfl) rfl rfl rfl rfl rfl (op_move rfl) ?_
      refine TZ_pure 5 (by kernel_rfl) rfl rfl rfl rfl rfl (op_win el26 rfl rfl ⟨⟨_, rfl⟩, rfl⟩ hy60) ?_
      refine TZ_pure 6 (by kernel_rfl) rfl rfl rfl rfl rfl (op_move rfl) ?_
      refine TZ_pure 7 (by kernel_rfl) rfl rfl rfl rfl rfl (op_nilCheck rfl rfl) ?_
      refine TZ_pure 8 (by kernel_rfl) rfl rfl rfl rfl rfl (op_fieldAddr fa35_2 rfl rfl) ?_
      refine TZ_pure 9 (by kernel_rfl) rfl rfl rfl rfl rfl (op_load_one ag2 rfl rfl) ?_
      refine TZ_pure 10 (by kernel_rfl) rfl rfl rfl rfl rfl (op_addW rfl rfl) ?_
      refine TZ_pure 11 (by kernel_rfl) rfl rfl rfl rfl rfl (op_assign rfl) ?_
      refine TZ_pure 12 (by kernel_rfl) rfl rfl rfl rfl rfl (op_assign rfl) ?_
      refine TZ_pure 13 (by kernel_rfl) rfl rfl rfl rfl rfl (op_assign rfl) ?_
      refine TZ_done (by kernel_rfl) ?_
      refine T_seq ?_
      refine T_region ?_
      refine TL_pure rfl rfl rfl rfl (op_assign rfl) ?_
      refine TL_nil ?_
      refine T_seq ?_
      refine T_region ?_
      refine TL_pure rfl rfl rfl rfl (op_assign rfl) ?_
      refine TL_nil ?_
      refine T_join (fun (j2 : (List Int) × (List Int) × Int × Int × Int × Bool) => ⟨[(0, .ptr 0 0 0), (8, .int .i64 r33.2), (9, .int .i64 (w64 ((p0.Stack.length : Int) - r33.1))), (11, .int .i64 j2.2.2.1), (12, .int .i64 j2.2.2.2.1), (13, .int .i64 j2.2.2.2.2.1), (14, .bool j2.2.2.2.2.2)], [(0, .box [.ow 1, .ow 2, .ow 3, .int .i64 p0.At]), (1, .arr ⟨false, true⟩ 1 2 (List.map a_i64 j2.1)), (2, .arr ⟨false, true⟩ 1 2 (List.map a_i64 j2.2.1)), (3, .arr ⟨false, true⟩ 1 2 (List.map a_i64 p0.Stack))]⟩) (fun j2 => m_impl_Config_step_J2 p0 r33 j2 = some out) (fun j2 hm => ?_) (fun hj2 => ?_)
      · unfold m_impl_Config_step_J2 at hm
        refine T_seq ?_
        refine T_seq ?_
        refine T_region ?_
        refine TL_pure rfl rfl rfl rfl (op_move rfl) ?_
        refine TL_pure rfl rfl rfl rfl (op_not rfl) ?_
        refine TL_nil ?_
        refine T_cond rfl (fun hq => ?_) (fun hq => ?_)
        · replace hm := condT hq hm
          refine T_seq ?_
          refine T_region ?_
          refine TL_pure rfl rfl rfl rfl (op_assign rfl) ?_
          refine TL_pure rfl rfl rfl rfl (op_assign rfl) ?_
          refine TL_nil ?_
          refine T_keepH [4, 5] [0, 1, 2, 3] rfl rfl rfl rfl (by rw [hF]; rfl) ?_
          refine T_ret ?_
          obtain rfl := someI hm
          refine ⟨[_, _], [0, 1, 2, 3], ⟨rfl, rfl, trivial⟩, ?_, rfl, rfl, rfl, rfl⟩
          rfl
        · replace hm := condF hq hm
          refine T_skip ?_
          refine T_seq ?_
          refine T_region ?_
          refine TL_pure rfl rfl rfl rfl (op_move rfl) ?_
          refine TL_pure rfl rfl rfl rfl (op_move rfl) ?_
          refine TL_pure rfl rfl rfl rfl (op_nilCheck rfl rfl) ?_
          refine TL_pure rfl rfl rfl rfl (op_fieldAddr fa35_1 rfl rfl) ?_
          refine TL_pure rfl rfl rfl rfl (op_load_one ag26 rfl rfl) ?_
          refine TL_pure rfl rfl rfl rfl (op_move rfl) ?_
          obtain ⟨y190, hy190, hm⟩ := bindS hm
          refine TL_take (f := a_i64) (a := p0.Stack) (b := y190) el26 rfl rfl ⟨rfl, ⟨_, rfl⟩⟩ hy190 rfl rfl rfl rfl rfl ?_
          refine TL_pure rfl rfl rfl rfl (op_nilCheck rfl rfl) ?_
          refine TL_pure rfl rfl rfl rfl (op_fieldAddr fa35_1 rfl rfl) ?_
          refine TL_store_box sz26 rfl rfl rfl rfl rfl rfl rfl rfl rfl ?_
          refine TL_nil ?_
          refine T_join (fun (j3 : List Int) => ⟨[(0, .ptr 0 0 0), (11, .int .i64 j2.2.2.1), (12, .int .i64 j2.2.2.2.1)], [(0, .box [.ow 1, .ow 2, .ow 3, .int .i64 p0.At]), (1, .arr ⟨false, true⟩ 1 2 (List.map a_i64 j2.1)), (2, .arr ⟨false, true⟩ 1 2 (List.map a_i64 j2.2.1)), (3, .arr ⟨false, true⟩ 1 2 (List.map a_i64 j3))]⟩) (fun j3 => m_impl_Config_step_J3 j2 j3 = some out) (fun j3 hm => ?_) (fun hj3 => ?_)
          · unfold m_impl_Config_step_J3 at hm
            refine T_seq ?_
            refine T_region ?_
            refine TL_pure rfl rfl rfl rfl (op_move rfl) ?_
            refine TL_pure rfl rfl rfl rfl (op_move rfl) ?_
            refine TL_pure rfl rfl rfl rfl (op_nilCheck rfl rfl) ?_
            refine TL_pure rfl rfl rfl rfl (op_fieldAddr fa35_2 rfl rfl) ?_
            refine TL_store_box sz2 rfl rfl rfl rfl rfl rfl rfl rfl rfl ?_
            refine TL_nil ?_
            refine T_seq ?_
            refine T_region ?_
            refine TL_pure rfl rfl rfl rfl (op_move rfl) ?_
            refine TL_pure rfl rfl rfl rfl (op_assign rfl) ?_
            refine TL_pure rfl rfl rfl rfl (op_assign rfl) ?_
            refine TL_nil ?_
            refine T_keepH [4, 5] [0, 1, 2, 3] rfl rfl rfl rfl (by rw [hF]; rfl) ?_
            refine T_ret ?_
            obtain rfl := someI hm
            refine ⟨[_, _], [0, 1, 2, 3], ⟨rfl, rfl, trivial⟩, ?_, rfl, rfl, rfl, rfl⟩
            rfl
          · refine T_seq ?_
            refine T_region ?_
            refine TL_pure rfl rfl rfl rfl (op_move rfl) ?_
            refine TL_pure rfl rfl rfl rfl (op_gtr rfl rfl) ?_
            refine TL_nil ?_
            refine T_cond rfl (fun hq => ?_) (fun hq => ?_)
            · replace hm := condT hq hm
              refine T_region ?_
              refine TL_pure rfl rfl rfl rfl (op_move rfl) ?_
              refine TL_pure rfl rfl rfl rfl (op_move rfl) ?_
              refine TL_pure rfl rfl rfl rfl (op_nilCheck rfl rfl) ?_
              refine TL_pure rfl rfl rfl rfl (op_fieldAddr fa35_1 rfl rfl) ?_
              refine TL_pure rfl rfl rfl rfl (op_load_one ag26 rfl rfl) ?_
              refine TL_pure rfl rfl rfl rfl (op_move rfl) ?_
              refine TL_buildSlice 13 (es := List.map a_i64 [j2.2.2.2.2.1]) el26 z2 rfl rfl rfl rfl rfl rfl rfl rfl rfl ?_
              refine TL_deepen 13 (p' := false) (List.map a_i64 [j2.2.2.2.2.1]) (by rw [hF]; rfl) rfl (ElR.map (f := a_i64) (g := a_i64) (fun _ => ⟨⟨rfl, rfl⟩, trivial⟩) [j2.2.2.2.2.1]) rfl rfl rfl ?_
              obtain ⟨q202, hq202, hm⟩ := bindS hm
              refine TL_appendDT (f := a_i64) (a := y190) (b := [j2.2.2.2.2.1]) el26 z2 rfl rfl rfl rfl rfl rfl rfl rfl (by rw [hF]; rfl) (capI_spec hq202) rfl rfl rfl rfl rfl ?_
              refine TL_pure rfl rfl rfl rfl (op_nilCheck rfl rfl) ?_
              refine TL_pure rfl rfl rfl rfl (op_fieldAddr fa35_1 rfl rfl) ?_
              refine TL_store_box sz26 rfl rfl rfl rfl rfl rfl rfl rfl rfl ?_
              refine TL_nil ?_
              refine T_keepH [0, 11, 12] [0, 1, 2, 3] rfl rfl rfl rfl (by rw [hF]; rfl) ?_
              exact hj3 (y190 ++ [j2.2.2.2.2.1]) hm
            · replace hm := condF hq hm
              refine T_skip ?_
              refine T_keepH [0, 11, 12] [0, 1, 2, 3] rfl rfl rfl rfl (by rw [hF]; rfl) ?_
              exact hj3 y190 hm
      · refine T_seq ?_
        refine T_region ?_
        refine TL_pure rfl rfl rfl rfl (op_fieldAddr fa40_0 rfl rfl) ?_
        refine TL_pure rfl rfl rfl rfl (op_load_one ag2 rfl rfl) ?_
        refine TL_nil ?_
        refine T_block ?_
        refine T_seq ?_
        refine T_region ?_
        refine TL_pure rfl rfl rfl rfl (op_eql rfl rfl) ?_
        refine TL_pure rfl rfl rfl rfl (op_assign rfl) ?_
        refine TL_nil ?_
        refine T_cond rfl (fun hq => ?_) (fun hq => ?_)
        · replace hm := condT hq hm
          refine T_seq ?_
          refine T_region ?_
          refine TL_pure rfl rfl rfl rfl (op_assign rfl) ?_
          refine TL_pure rfl rfl rfl rfl (op_assign rfl) ?_
          refine TL_nil ?_
          refine T_keepH [4, 5] [0, 1, 2, 3] rfl rfl rfl rfl (by rw [hF]; rfl) ?_
          refine T_ret ?_
          obtain rfl := someI hm
          refine ⟨[_, _], [0, 1, 2, 3], ⟨rfl, rfl, trivial⟩, ?_, rfl, rfl, rfl, rfl⟩
          rfl
        · replace hm := condF hq hm
          refine T_seq ?_
          refine T_region ?_
          refine TL_pure rfl rfl rfl rfl (op_eql rfl rfl) ?_
          refine TL_pure rfl rfl rfl rfl (op_assign rfl) ?_
          refine TL_nil ?_
          refine T_cond rfl (fun hq => ?_) (fun hq => ?_)
          · replace hm := condT hq hm
            refine T_region ?_
            refine TL_pure rfl rfl rfl rfl (op_fieldAddr fa40_1 rfl rfl) ?_
            refine TL_pure rfl rfl rfl rfl (op_load_one ag2 rfl rfl) ?_
            refine TL_pure rfl rfl rfl rfl (op_assign rfl) ?_
            refine TL_nil ?_
            refine T_keepH [0, 8, 9, 11, 12, 13, 14] [0, 1, 2, 3] rfl rfl rfl rfl (by rw [hF]; rfl) ?_
            exact hj2 (p0.State.Vars, p0.State.Cells, (w64 (p0.At + (1 : Int))), (-1 : Int), x29.Arg, true) hm
          · replace hm := condF hq hm
            refine T_seq ?_
            refine T_region ?_
            refine TL_pure rfl rfl rfl rfl (op_eql rfl rfl) ?_
            refine TL_pure rfl rfl rfl rfl (op_assign rfl) ?_
            refine TL_nil ?_
            refine T_cond rfl (fun hq => ?_) (fun hq => ?_)
            · replace hm := condT hq hm
              refine T_drawZ [] mix (by kernel_rfl) rfl ?_
              obtain ⟨x83, hx83, hm⟩ := bindS hm
              refine TZ_pure 0 (by kernel_rfl) rfl rfl rfl rfl rfl (op_move rfl) ?_
              refine TZ_pure 1 (by kernel_rfl) rfl rfl rfl rfl rfl (op_nilCheck rfl rfl) ?_
              refine TZ_pure 2 (by kernel_rfl) rfl rfl rfl rfl rfl (op_fieldAddr fa35_0 rfl rfl) ?_
              refine TZ_pure 3 (by kernel_rfl) rfl rfl rfl rfl rfl (op_fieldAddr fa28_0 rfl rfl) ?_
              refine TZ_pure 4 (by kernel_rfl) rfl rfl rfl rfl rfl (op_load_one ag26 rfl rfl) ?_
              refine TZ_pure 5 (by kernel_rfl) rfl rfl rfl rfl rfl (op_fieldAddr fa40_1 rfl rfl) ?_
              refine TZ_pure 6 (by kernel_rfl) rfl rfl rfl rfl rfl (op_load_one ag2 rfl rfl) ?_
              refine TZ_pure 7 (by kernel_rfl) rfl rfl rfl rfl rfl (op_indexO el26 rfl rfl rfl hx83) ?_
              refine TZ_pure 8 (by kernel_rfl) rfl rfl rfl rfl rfl (op_loadD1 ag2 rfl rfl ((getI_spec hx83).2) rfl rfl rfl rfl) ?_
              refine TZ_pure 9 (by kernel_rfl) rfl rfl rfl rfl rfl (op_assign rfl) ?_
              refine TZ_done (by kernel_rfl) ?_
              refine T_keepH [0, 8, 9, 11, 12, 13, 14] [0, 1, 2, 3] rfl rfl rfl rfl (by rw [hF]; rfl) ?_
              exact hj2 (p0.State.Vars, p0.State.Cells, (w64 (p0.At + (1 : Int))), (-1 : Int), x83, true) hm
            · replace hm := condF hq hm
              refine T_seq ?_
              refine T_region ?_
              refine TL_pure rfl rfl rfl rfl (op_eql rfl rfl) ?_
              refine TL_pure rfl rfl rfl rfl (op_assign rfl) ?_
              refine TL_nil ?_
              refine T_cond rfl (fun hq => ?_) (fun hq => ?_)
              · replace hm := condT hq hm
                refine T_seq ?_
                refine T_seq ?_
                refine T_region ?_
                refine TL_pure rfl rfl rfl rfl (op_move rfl) ?_
                obtain ⟨e88, he88, hm⟩ := bindS hm
                refine TL_pure rfl rfl rfl rfl (op_index_win (m := 0) el26 rfl rfl rfl rfl (by simpa using (List.getElem?_eq_some_iff.1 he88).1)) ?_
                refine TL_pure rfl rfl rfl rfl (op_loadD1 ag2 rfl rfl (he88) rfl rfl rfl rfl) ?_
                obtain ⟨r90, hr90, hm⟩ := bindS hm
                refine TL_callF (c_impl_isInt e88 r90 hr90) Try.call126 rfl rfl rfl rfl rfl ?_
                refine TL_pure rfl rfl rfl rfl (op_not rfl) ?_
                refine TL_nil ?_
                refine T_cond rfl (fun hq => ?_) (fun hq => ?_)
                · replace hm := condT hq hm
                  refine T_seq ?_
                  refine T_region ?_
                  refine TL_pure rfl rfl rfl rfl (op_assign rfl) ?_
                  refine TL_pure rfl rfl rfl rfl (op_assign rfl) ?_
                  refine TL_nil ?_
                  refine T_keepH [4, 5] [0, 1, 2, 3] rfl rfl rfl rfl (by rw [hF]; rfl) ?_
                  refine T_ret ?_
                  obtain rfl := someI hm
                  refine ⟨[_, _], [0, 1, 2, 3], ⟨rfl, rfl, trivial⟩, ?_, rfl, rfl, rfl, rfl⟩
                  rfl
                · replace hm := condF hq hm
                  refine T_skip ?_
                  refine T_drawZ [11] mix (by kernel_rfl) rfl ?_
                  obtain ⟨x102, hx102, hm⟩ := bindS hm
                  refine TZ_pure 0 (by kernel_rfl) rfl rfl rfl rfl rfl (op_move rfl) ?_
                  refine TZ_pure 1 (by kernel_rfl) rfl rfl rfl rfl rfl (op_nilCheck rfl rfl) ?_
                  refine TZ_pure 2 (by kernel_rfl) rfl rfl rfl rfl rfl (op_fieldAddr fa35_0 rfl rfl) ?_
                  refine TZ_pure 3 (by kernel_rfl) rfl rfl rfl rfl rfl (op_fieldAddr fa28_0 rfl rfl) ?_
                  refine TZ_pure 4 (by kernel_rfl) rfl rfl rfl rfl rfl (op_load_one ag26 rfl rfl) ?_
                  refine TZ_pure 5 (by kernel_rfl) rfl rfl rfl rfl rfl (op_fieldAddr fa40_1 rfl rfl) ?_
                  refine TZ_pure 6 (by kernel_rfl) rfl rfl rfl rfl rfl (op_load_one ag2 rfl rfl) ?_
                  refine TZ_pure 7 (by kernel_rfl) rfl rfl rfl rfl rfl (op_move rfl) ?_
                  refine TZ_pure 8 (by kernel_rfl) rfl rfl rfl rfl rfl (op_index_win (m := 0) el26 rfl rfl rfl rfl (by simpa using (List.getElem?_eq_some_iff.1 he88).1)) ?_
                  refine TZ_pure 9 (by kernel_rfl) rfl rfl rfl rfl rfl (op_loadD1 ag2 rfl rfl (he88) rfl rfl rfl rfl) ?_
                  refine TZ_pure 10 (by kernel_rfl) rfl rfl rfl rfl rfl (op_indexO el26 rfl rfl rfl hx102) ?_
                  refine TZ_one 11 (by kernel_rfl) rfl ?_
                  refine TL_storeFT sz2 rfl rfl ((getI_spec hx102).2) (v' := e88) rfl rfl rfl rfl rfl rfl rfl rfl rfl ?_
                  refine TL_nil ?_
                  refine TZ_done (by kernel_rfl) ?_
                  refine T_keepH [0, 8, 9, 11, 12, 13, 14] [0, 1, 2, 3] rfl rfl rfl rfl (by rw [hF]; rfl) ?_
                  exact hj2 ((p0.State.Vars.set ((x29.Arg).toNat) e88), p0.State.Cells, (w64 (p0.At + (1 : Int))), (-1 : Int), (0 : Int), true) hm
              · replace hm := condF hq hm
                refine T_seq ?_
                refine T_region ?_
                refine TL_pure rfl rfl rfl rfl (op_eql rfl rfl) ?_
                refine TL_pure rfl rfl rfl rfl (op_assign rfl) ?_
                refine TL_nil ?_
                refine T_cond rfl (fun hq => ?_) (fun hq => ?_)
                · replace hm := condT hq hm
                  refine T_seq ?_
                  refine T_drawZ [] mix (by kernel_rfl) rfl ?_
                  obtain ⟨e106, he106, hm⟩ := bindS hm
                  obtain ⟨e109, he109, hm⟩ := bindS hm
                  refine TZ_pure 0 (by kernel_rfl) rfl rfl rfl rfl rfl (op_move rfl) ?_
                  refine TZ_pure 1 (by kernel_rfl) rfl rfl rfl rfl rfl (op_index_win (m := 0) el26 rfl rfl rfl rfl (by simpa using (List.getElem?_eq_some_iff.1 he106).1)) ?_
                  refine TZ_pure 2 (by kernel_rfl) rfl rfl rfl rfl rfl (op_loadD1 ag2 rfl rfl (he106) rfl rfl rfl rfl) ?_
                  refine TZ_pure 3 (by kernel_rfl) rfl rfl rfl rfl rfl (op_move rfl) ?_
                  refine TZ_pure 4 (by kernel_rfl) rfl rfl rfl rfl rfl (op_index_win (m := 1) el26 rfl rfl rfl rfl (by simpa using (List.getElem?_eq_some_iff.1 he109).1)) ?_
                  refine TZ_pure 5 (by kernel_rfl) rfl rfl rfl rfl rfl (op_loadD1 ag2 rfl rfl (he109) rfl rfl rfl rfl) ?_
                  refine TZ_pure 6 (by kernel_rfl) rfl rfl rfl rfl rfl (op_addW rfl rfl) ?_
                  refine TZ_pure 7 (by kernel_rfl) rfl rfl rfl rfl rfl (op_assign rfl) ?_
                  refine TZ_done (by kernel_rfl) ?_
                  refine T_region ?_
                  refine TL_pure rfl rfl rfl rfl (op_move rfl) ?_
                  obtain ⟨r113, hr113, hm⟩ := bindS hm
                  refine TL_callF (c_impl_isWide (w64 (e106 + e109)) r113 hr113) Try.call127 rfl rfl rfl rfl rfl ?_
                  refine TL_pure rfl rfl rfl rfl (op_assign rfl) ?_
                  refine TL_nil ?_
                  refine T_keepH [0, 8, 9, 11, 12, 13, 14] [0, 1, 2, 3] rfl rfl rfl rfl (by rw [hF]; rfl) ?_
                  exact hj2 (p0.State.Vars, p0.State.Cells, (w64 (p0.At + (1 : Int))), (-1 : Int), (w64 (e106 + e109)), r113) hm
                · replace hm := condF hq hm
                  refine T_seq ?_
                  refine T_region ?_
                  refine TL_pure rfl rfl rfl rfl (op_eql rfl rfl) ?_
                  refine TL_pure rfl rfl rfl rfl (op_assign rfl) ?_
                  refine TL_nil ?_
                  refine T_cond rfl (fun hq => ?_) (fun hq => ?_)
                  · replace hm := condT hq hm
                    refine T_drawZ [] mix (by kernel_rfl) rfl ?_
                    obtain ⟨e118, he118, hm⟩ := bindS hm
                    obtain ⟨r122, hr122, hm⟩ := bindS hm
                    refine TZ_pure 0 (by kernel_rfl) rfl rfl rfl rfl rfl (op_move rfl) ?_
                    refine TZ_pure 1 (by kernel_rfl) rfl rfl rfl rfl rfl (op_index_win (m := 0) el26 rfl rfl rfl rfl (by simpa using (List.getElem?_eq_some_iff.1 he118).1)) ?_
                    refine TZ_pure 2 (by kernel_rfl) rfl rfl rfl rfl rfl (op_loadD1 ag2 rfl rfl (he118) rfl rfl rfl rfl) ?_
                    refine TZ_pure 3 (by kernel_rfl) rfl rfl rfl rfl rfl (op_fieldAddr fa40_1 rfl rfl) ?_
                    refine TZ_pure 4 (by kernel_rfl) rfl rfl rfl rfl rfl (op_load_one ag2 rfl rfl) ?_
                    refine TZ_one 5 (by kernel_rfl) rfl ?_
                    refine TL_callF (c_impl_scaled e118 x29.Arg r122 hr122) Try.call128 rfl rfl rfl rfl rfl ?_
                    refine TL_nil ?_
                    refine TZ_pure 6 (by kernel_rfl) rfl rfl rfl rfl rfl (op_move rfl) ?_
                    refine TZ_pure 7 (by kernel_rfl) rfl rfl rfl rfl rfl (op_extract rfl rfl) ?_
                    refine TZ_pure 8 (by kernel_rfl) rfl rfl rfl rfl rfl (op_extract rfl rfl) ?_
                    refine TZ_pure 9 (by kernel_rfl) rfl rfl rfl rfl rfl (op_assign rfl) ?_
                    refine TZ_pure 10 (by kernel_rfl) rfl rfl rfl rfl rfl (op_assign rfl) ?_
                    refine TZ_done (by kernel_rfl) ?_
                    refine T_keepH [0, 8, 9, 11, 12, 13, 14] [0, 1, 2, 3] rfl rfl rfl rfl (by rw [hF]; rfl) ?_
                    exact hj2 (p0.State.Vars, p0.State.Cells, (w64 (p0.At + (1 : Int))), (-1 : Int), r122.1, r122.2) hm
                  · replace hm := condF hq hm
                    refine T_seq ?_
                    refine T_region ?_
                    refine TL_pure rfl rfl rfl rfl (op_eql rfl rfl) ?_
                    refine TL_pure rfl rfl rfl rfl (op_assign rfl) ?_
                    refine TL_nil ?_
                    refine T_cond rfl (fun hq => ?_) (fun hq => ?_)
                    · replace hm := condT hq hm
                      refine T_region ?_
                      refine TL_pure rfl rfl rfl rfl (op_fieldAddr fa40_1 rfl rfl) ?_
                      refine TL_pure rfl rfl rfl rfl (op_load_one ag2 rfl rfl) ?_
                      refine TL_pure rfl rfl rfl rfl (op_assign rfl) ?_
                      refine TL_nil ?_
                      refine T_keepH [0, 8, 9, 11, 12, 13, 14] [0, 1, 2, 3] rfl rfl rfl rfl (by rw [hF]; rfl) ?_
                      exact hj2 (p0.State.Vars, p0.State.Cells, x29.Arg, (-1 : Int), (0 : Int), true) hm
                    · replace hm := condF hq hm
                      refine T_seq ?_
                      refine T_region ?_
                      refine TL_pure rfl rfl rfl rfl (op_eql rfl rfl) ?_
                      refine TL_pure rfl rfl rfl rfl (op_assign rfl) ?_
                      refine TL_nil ?_
                      refine T_cond rfl (fun hq => ?_) (fun hq => ?_)
                      · replace hm := condT hq hm
                        refine T_seq ?_
                        refine T_region ?_
                        refine TL_pure rfl rfl rfl rfl (op_move rfl) ?_
                        obtain ⟨e132, he132, hm⟩ := bindS hm
                        refine TL_pure rfl rfl rfl rfl (op_index_win (m := 0) el26 rfl rfl rfl rfl (by simpa using (List.getElem?_eq_some_iff.1 he132).1)) ?_
                        refine TL_pure rfl rfl rfl rfl (op_loadD1 ag2 rfl rfl (he132) rfl rfl rfl rfl) ?_
                        refine TL_pure rfl rfl rfl rfl (op_lss rfl rfl) ?_
                        refine TL_nil ?_
                        refine T_cond rfl (fun hq => ?_) (fun hq => ?_)
                        · replace hm := condT hq hm
                          refine T_region ?_
                          refine TL_pure rfl rfl rfl rfl (op_fieldAddr fa40_1 rfl rfl) ?_
                          refine TL_pure rfl rfl rfl rfl (op_load_one ag2 rfl rfl) ?_
                          refine TL_pure rfl rfl rfl rfl (op_assign rfl) ?_
                          refine TL_nil ?_
                          refine T_keepH [0, 8, 9, 11, 12, 13, 14] [0, 1, 2, 3] rfl rfl rfl rfl (by rw [hF]; rfl) ?_
                          exact hj2 (p0.State.Vars, p0.State.Cells, x29.Arg, (-1 : Int), (0 : Int), true) hm
                        · replace hm := condF hq hm
                          refine T_skip ?_
                          refine T_keepH [0, 8, 9, 11, 12, 13, 14] [0, 1, 2, 3] rfl rfl rfl rfl (by rw [hF]; rfl) ?_
                          exact hj2 (p0.State.Vars, p0.State.Cells, (w64 (p0.At + (1 : Int))), (-1 : Int), (0 : Int), true) hm
                      · replace hm := condF hq hm
                        refine T_join (fun (j1 : Bool) => ⟨[(0, .ptr 0 0 0), (6, .ptr 11 0 0), (8, .int .i64 r33.2), (9, .int .i64 (w64 ((p0.Stack.length : Int) - r33.1))), (10, .win 3 (((w64 ((p0.Stack.length : Int) - r33.1))).toNat)), (11, .int .i64 (w64 (p0.At + (1 : Int)))), (12, .int .i64 (-1 : Int)), (13, .int .i64 (0 : Int)), (14, .bool true), (67, .int .i64 x29.Op), (137, .bool j1)], [(0, .box [.ow 1, .ow 2, .ow 3, .int .i64 p0.At]), (1, .arr ⟨false, true⟩ 1 2 (List.map a_i64 p0.State.Vars)), (2, .arr ⟨false, true⟩ 1 2 (List.map a_i64 p0.State.Cells)), (3, .arr ⟨false, true⟩ 1 2 (List.map a_i64 p0.Stack)), (11, .box [.int .i64 x29.Op, .int .i64 x29.Arg])]⟩) (fun j1 => m_impl_Config_step_J1 p0 x29 r33 j1 = some out) (fun j1 hm => ?_) (fun hj1 => ?_)
                        · unfold m_impl_Config_step_J1 at hm
                          refine T_cond rfl (fun hq => ?_) (fun hq => ?_)
                          · replace hm := condT hq hm
                            refine T_seq ?_
                            refine T_region ?_
                            refine TL_pure rfl rfl rfl rfl (op_move rfl) ?_
                            obtain ⟨e141, he141, hm⟩ := bindS hm
                            refine TL_pure rfl rfl rfl rfl (op_index_win (m := 0) el26 rfl rfl rfl rfl (by simpa using (List.getElem?_eq_some_iff.1 he141).1)) ?_
                            refine TL_pure rfl rfl rfl rfl (op_loadD1 ag2 rfl rfl (he141) rfl rfl rfl rfl) ?_
                            refine TL_pure rfl rfl rfl rfl (op_assign rfl) ?_
                            refine TL_nil ?_
                            refine T_seq ?_
                            refine T_seq ?_
                            refine T_region ?_
                            refine TL_pure rfl rfl rfl rfl (op_move rfl) ?_
                            obtain ⟨r144, hr144, hm⟩ := bindS hm
                            refine TL_callF (c_impl_within e141 (0 : Int) (7 : Int) r144 hr144) Try.call72 rfl rfl rfl rfl rfl ?_
                            refine TL_pure rfl rfl rfl rfl (op_not rfl) ?_
                            refine TL_nil ?_
                            refine T_cond rfl (fun hq => ?_) (fun hq => ?_)
                            · replace hm := condT hq hm
                              refine T_seq ?_
                              refine T_region ?_
                              refine TL_pure rfl rfl rfl rfl (op_assign rfl) ?_
                              refine TL_pure rfl rfl rfl rfl (op_assign rfl) ?_
                              refine TL_nil ?_
                              refine T_keepH [4, 5] [0, 1, 2, 3] rfl rfl rfl rfl (by rw [hF]; rfl) ?_
                              refine T_ret ?_
                              obtain rfl := someI hm
                              refine ⟨[_, _], [0, 1, 2, 3], ⟨rfl, rfl, trivial⟩, ?_, rfl, rfl, rfl, rfl⟩
                              rfl
                            · replace hm := condF hq hm
                              refine T_skip ?_
                              refine T_seq ?_
                              refine T_region ?_
                              refine TL_pure rfl rfl rfl rfl (op_fieldAddr fa40_0 rfl rfl) ?_
                              refine TL_pure rfl rfl rfl rfl (op_load_one ag2 rfl rfl) ?_
                              refine TL_pure rfl rfl rfl rfl (op_eql rfl rfl) ?_
                              refine TL_nil ?_
                              refine T_cond rfl (fun hq => ?_) (fun hq => ?_)
                              · replace hm := condT hq hm
                                refine T_region ?_
                                refine TL_pure rfl rfl rfl rfl (op_move rfl) ?_
                                refine TL_pure rfl rfl rfl rfl (op_nilCheck rfl rfl) ?_
                                refine TL_pure rfl rfl rfl rfl (op_fieldAddr fa35_0 rfl rfl) ?_
                                refine TL_pure rfl rfl rfl rfl (op_fieldAddr fa28_1 rfl rfl) ?_
                                refine TL_pure rfl rfl rfl rfl (op_load_one ag26 rfl rfl) ?_
                                refine TL_pure rfl rfl rfl rfl (op_move rfl) ?_
                                obtain ⟨x155, hx155, hm⟩ := bindS hm
                                refine TL_pure rfl rfl rfl rfl (op_indexO el26 rfl rfl rfl hx155) ?_
                                refine TL_pure rfl rfl rfl rfl (op_loadD1 ag2 rfl rfl ((getI_spec hx155).2) rfl rfl rfl rfl) ?_
                                refine TL_pure rfl rfl rfl rfl (op_assign rfl) ?_
                                refine TL_nil ?_
                                refine T_keepH [0, 8, 9, 11, 12, 13, 14] [0, 1, 2, 3] rfl rfl rfl rfl (by rw [hF]; rfl) ?_
                                exact hj2 (p0.State.Vars, p0.State.Cells, (w64 (p0.At + (1 : Int))), (-1 : Int), x155, true) hm
                              · replace hm := condF hq hm
                                refine T_seq ?_
                                refine T_region ?_
                                refine TL_pure rfl rfl rfl rfl (op_move rfl) ?_
                                obtain ⟨e158, he158, hm⟩ := bindS hm
                                refine TL_pure rfl rfl rfl rfl (op_index_win (m := 1) el26 rfl rfl rfl rfl (by simpa using (List.getElem?_eq_some_iff.1 he158).1)) ?_
                                refine TL_pure rfl rfl rfl rfl (op_loadD1 ag2 rfl rfl (he158) rfl rfl rfl rfl) ?_
                                obtain ⟨r160, hr160, hm⟩ := bindS hm
                                refine TL_callF (c_impl_isInt e158 r160 hr160) Try.call126 rfl rfl rfl rfl rfl ?_
                                refine TL_pure rfl rfl rfl rfl (op_not rfl) ?_
                                refine TL_nil ?_
                                refine T_cond rfl (fun hq => ?_) (fun hq => ?_)
                                · replace hm := condT hq hm
                                  refine T_seq ?_
                                  refine T_region ?_
                                  refine TL_pure rfl rfl rfl rfl (op_assign rfl) ?_
                                  refine TL_pure rfl rfl rfl rfl (op_assign rfl) ?_
                                  refine TL_nil ?_
                                  refine T_keepH [4, 5] [0, 1, 2, 3] rfl rfl rfl rfl (by rw [hF]; rfl) ?_
                                  refine T_ret ?_
                                  obtain rfl := someI hm
                                  refine ⟨[_, _], [0, 1, 2, 3], ⟨rfl, rfl, trivial⟩, ?_, rfl, rfl, rfl, rfl⟩
                                  rfl
                                · replace hm := condF hq hm
                                  refine T_drawZ [10] mix (by kernel_rfl) rfl ?_
                                  obtain ⟨x171, hx171, hm⟩ := bindS hm
                                  refine TZ_pure 0 (by kernel_rfl) rfl rfl rfl rfl rfl (op_move rfl) ?_
                                  refine TZ_pure 1 (by kernel_rfl) rfl rfl rfl rfl rfl (op_nilCheck rfl rfl) ?_
                                  refine TZ_pure 2 (by kernel_rfl) rfl rfl rfl rfl rfl (op_fieldAddr fa35_0 rfl rfl) ?_
                                  refine TZ_pure 3 (by kernel_rfl) rfl rfl rfl rfl rfl (op_fieldAddr fa28_1 rfl rfl) ?_
                                  refine TZ_pure 4 (by kernel_rfl) rfl rfl rfl rfl rfl (op_load_one ag26 rfl rfl) ?_
                                  refine TZ_pure 5 (by kernel_rfl) rfl rfl rfl rfl rfl (op_move rfl) ?_
                                  refine TZ_pure 6 (by kernel_rfl) rfl rfl rfl rfl rfl (op_move rfl) ?_
                                  refine TZ_pure 7 (by kernel_rfl) rfl rfl rfl rfl rfl (op_index_win (m := 1) el26 rfl rfl rfl rfl (by simpa using (List.getElem?_eq_some_iff.1 he158).1)) ?_
                                  refine TZ_pure 8 (by kernel_rfl) rfl rfl rfl rfl rfl (op_loadD1 ag2 rfl rfl (he158) rfl rfl rfl rfl) ?_
                                  refine TZ_pure 9 (by kernel_rfl) rfl rfl rfl rfl rfl (op_indexO el26 rfl rfl rfl hx171) ?_
                                  refine TZ_one 10 (by kernel_rfl) rfl ?_
                                  refine TL_storeFT sz2 rfl rfl ((getI_spec hx171).2) (v' := e158) rfl rfl rfl rfl rfl rfl rfl rfl rfl ?_
                                  refine TL_nil ?_
                                  refine TZ_done (by kernel_rfl) ?_
                                  refine T_keepH [0, 8, 9, 11, 12, 13, 14] [0, 1, 2, 3] rfl rfl rfl rfl (by rw [hF]; rfl) ?_
                                  exact hj2 (p0.State.Vars, (p0.State.Cells.set ((e141).toNat) e158), (w64 (p0.At + (1 : Int))), (-1 : Int), (0 : Int), true) hm
                          · replace hm := condF hq hm
                            refine T_seq ?_
                            refine T_region ?_
                            refine TL_pure rfl rfl rfl rfl (op_eql rfl rfl) ?_
                            refine TL_pure rfl rfl rfl rfl (op_assign rfl) ?_
                            refine TL_nil ?_
                            refine T_cond rfl (fun hq => ?_) (fun hq => ?_)
                            · replace hm := condT hq hm
                              refine T_region ?_
                              refine TL_pure rfl rfl rfl rfl (op_fieldAddr fa40_1 rfl rfl) ?_
                              refine TL_pure rfl rfl rfl rfl (op_load_one ag2 rfl rfl) ?_
                              refine TL_pure rfl rfl rfl rfl (op_assign rfl) ?_
                              refine TL_nil ?_
                              refine T_keepH [0, 8, 9, 11, 12, 13, 14] [0, 1, 2, 3] rfl rfl rfl rfl (by rw [hF]; rfl) ?_
                              exact hj2 (p0.State.Vars, p0.State.Cells, (w64 (p0.At + (1 : Int))), x29.Arg, (0 : Int), true) hm
                            · replace hm := condF hq hm
                              refine T_seq ?_
                              refine T_region ?_
                              refine TL_pure rfl rfl rfl rfl (op_eql rfl rfl) ?_
                              refine TL_pure rfl rfl rfl rfl (op_assign rfl) ?_
                              refine TL_nil ?_
                              refine T_cond rfl (fun hq => ?_) (fun hq => ?_)
                              · replace hm := condT hq hm
                                refine T_seq ?_
                                refine T_region ?_
                                refine TL_pure rfl rfl rfl rfl (op_move rfl) ?_
                                obtain ⟨e179, he179, hm⟩ := bindS hm
                                refine TL_pure rfl rfl rfl rfl (op_index_win (m := 0) el26 rfl rfl rfl rfl (by simpa using (List.getElem?_eq_some_iff.1 he179).1)) ?_
                                refine TL_pure rfl rfl rfl rfl (op_loadD1 ag2 rfl rfl (he179) rfl rfl rfl rfl) ?_
                                refine TL_pure rfl rfl rfl rfl (op_lss rfl rfl) ?_
                                refine TL_nil ?_
                                refine T_cond rfl (fun hq => ?_) (fun hq => ?_)
                                · replace hm := condT hq hm
                                  refine T_seq ?_
                                  refine T_region ?_
                                  refine TL_pure rfl rfl rfl rfl (op_assign rfl) ?_
                                  refine TL_pure rfl rfl rfl rfl (op_assign rfl) ?_
                                  refine TL_nil ?_
                                  refine T_keepH [4, 5] [0, 1, 2, 3] rfl rfl rfl rfl (by rw [hF]; rfl) ?_
                                  refine T_ret ?_
                                  obtain rfl := someI hm
                                  refine ⟨[_, _], [0, 1, 2, 3], ⟨rfl, rfl, trivial⟩, ?_, rfl, rfl, rfl, rfl⟩
                                  rfl
                                · replace hm := condF hq hm
                                  refine T_skip ?_
                                  refine T_keepH [0, 8, 9, 11, 12, 13, 14] [0, 1, 2, 3] rfl rfl rfl rfl (by rw [hF]; rfl) ?_
                                  exact hj2 (p0.State.Vars, p0.State.Cells, (w64 (p0.At + (1 : Int))), (-1 : Int), (0 : Int), true) hm
                              · replace hm := condF hq hm
                                refine T_skip ?_
                                refine T_keepH [0, 8, 9, 11, 12, 13, 14] [0, 1, 2, 3] rfl rfl rfl rfl (by rw [hF]; rfl) ?_
                                exact hj2 (p0.State.Vars, p0.State.Cells, (w64 (p0.At + (1 : Int))), (-1 : Int), (0 : Int), true) hm
                        · refine T_seq ?_
                          refine T_region ?_
                          refine TL_pure rfl rfl rfl rfl (op_eql rfl rfl) ?_
                          refine TL_pure rfl rfl rfl rfl (op_assign rfl) ?_
                          refine TL_nil ?_
                          refine T_cond rfl (fun hq => ?_) (fun hq => ?_)
                          · replace hm := condT hq hm
                            refine T_skip ?_
                            refine T_keepH [0, 6, 8, 9, 10, 11, 12, 13, 14, 67, 137] [0, 1, 2, 3, 11] rfl rfl rfl rfl (by rw [hF]; rfl) ?_
                            exact hj1 (decide (x29.Op = (7 : Int))) hm
                          · replace hm := condF hq hm
                            refine T_region ?_
                            refine TL_pure rfl rfl rfl rfl (op_eql rfl rfl) ?_
                            refine TL_pure rfl rfl rfl rfl (op_assign rfl) ?_
                            refine TL_nil ?_
                            refine T_keepH [0, 6, 8, 9, 10, 11, 12, 13, 14, 67, 137] [0, 1, 2, 3, 11] rfl rfl rfl rfl (by rw [hF]; rfl) ?_
                            exact hj1 (decide (x29.Op = (8 : Int))) hm
    · refine T_seq ?_
      refine T_region ?_
      refine TL_pure rfl rfl rfl rfl (op_move rfl) ?_
      refine TL_pure rfl rfl rfl rfl (op_lss rfl rfl) ?_
      refine TL_pure rfl rfl rfl rfl (op_move rfl) ?_
      refine TL_split 45 rfl rfl rfl (fun hq => ?_) (fun hq => ?_)
      · replace hm := condT hq hm
        refine TL_pass rfl rfl rfl rfl rfl rfl rfl ?_
        refine TL_pass rfl rfl rfl rfl rfl rfl rfl ?_
        refine TL_pass rfl rfl rfl rfl rfl rfl rfl ?_
        refine TL_pass2 rfl rfl rfl rfl rfl rfl ?_
        refine TL_pass2 rfl rfl rfl rfl rfl rfl ?_
        refine TL_pass2 rfl rfl rfl rfl rfl rfl ?_
        refine TL_pass2 rfl rfl rfl rfl rfl rfl ?_
        refine TL_pass rfl rfl rfl rfl rfl rfl rfl ?_
        refine TL_pure rfl rfl rfl rfl (op_pick_true rfl rfl) ?_
        refine TL_nil ?_
        refine T_cond_true rfl ?_
        refine T_seq ?_
        refine T_region ?_
        refine TL_pure rfl rfl rfl rfl (op_assign rfl) ?_
        refine TL_pure rfl rfl rfl rfl (op_assign rfl) ?_
        refine TL_nil ?_
        refine T_keepH [4, 5] [0, 1, 2, 3] rfl rfl rfl rfl (by rw [hF]; rfl) ?_
        refine T_ret ?_
        obtain rfl := someI hm
        refine ⟨[_, _], [0, 1, 2, 3], ⟨rfl, rfl, trivial⟩, ?_, rfl, rfl, rfl, rfl⟩
        rfl
      · replace hm := condF hq hm
        refine TL_want rfl rfl ?_
        refine TL_pure rfl rfl rfl rfl (op_move rfl) ?_
        refine TL_want rfl rfl ?_
        refine TL_pure rfl rfl rfl rfl (op_gtr rfl rfl) ?_
        refine TL_want rfl rfl ?_
        refine TL_pure rfl rfl rfl rfl (op_move rfl) ?_
        refine TL_split 48 rfl rfl rfl (fun hq => ?_) (fun hq => ?_)
        · replace hm := condT hq hm
          refine TL_want rfl rfl ?_
          refine TL_pure rfl rfl rfl rfl (op_move rfl) ?_
          refine TL_want rfl rfl ?_
          refine TL_pure rfl rfl rfl rfl (op_move rfl) ?_
          refine TL_want rfl rfl ?_
          refine TL_pure rfl rfl rfl rfl (op_addW rfl rfl) ?_
          refine TL_want rfl rfl ?_
          refine TL_pure rfl rfl rfl rfl (op_gtr rfl rfl) ?_
          refine TL_want rfl rfl ?_
          refine TL_pure rfl rfl rfl rfl (op_pick_true rfl rfl) ?_
          refine TL_pure rfl rfl rfl rfl (op_pick_false rfl rfl) ?_
          refine TL_nil ?_
          refine T_cond rfl (fun hq => ?_) (fun hq => ?_)
          · replace hm := condT hq hm
            refine T_seq ?_
            refine T_region ?_
            refine TL_pure rfl rfl rfl rfl (op_assign rfl) ?_
            refine TL_pure rfl rfl rfl rfl (op_assign rfl) ?_
            refine TL_nil ?_
            refine T_keepH [4, 5] [0, 1, 2, 3] rfl rfl rfl rfl (by rw [hF]; rfl) ?_
            refine T_ret ?_
            obtain rfl := someI hm
            refine ⟨[_, _], [0, 1, 2, 3], ⟨rfl, rfl, trivial⟩, ?_, rfl, rfl, rfl, rfl⟩
            rfl
          · replace hm := condF hq hm
            refine T_skip ?_
            refine T_keepH [0, 6, 8, 9] [0, 1, 2, 3, 11] rfl rfl rfl rfl (by rw [hF]; rfl) ?_
            exact hj0 () hm
        · replace hm := condF hq hm
          refine TL_pass rfl rfl rfl rfl rfl rfl rfl ?_
          refine TL_pass rfl rfl rfl rfl rfl rfl rfl ?_
          refine TL_pass rfl rfl rfl rfl rfl rfl rfl ?_
          refine TL_pass rfl rfl rfl rfl rfl rfl rfl ?_
          refine TL_want rfl rfl ?_
          refine TL_pure rfl rfl rfl rfl (op_pick_false rfl rfl) ?_
          refine TL_pure rfl rfl rfl rfl (op_pick_false rfl rfl) ?_
          refine TL_nil ?_
          refine T_cond_false rfl ?_
          refine T_skip ?_
          refine T_keepH [0, 6, 8, 9] [0, 1, 2, 3, 11] rfl rfl rfl rfl (by rw [hF]; rfl) ?_
          exact hj0 () hm
theorem c_impl_StepCode (p0 : List Instr) (p1 : Config) (out : Config × Int × Bool) (hm : m_impl_StepCode p0 p1 = some out) : ACall Try.prog 17 [.sl 2 (List.map a_Instr p0), .agg [.sl 1 (List.map a_i64 p1.State.Vars), .sl 1 (List.map a_i64 p1.State.Cells), .sl 1 (List.map a_i64 p1.Stack), .int .i64 p1.At]] [] (.tup [.agg [.ow 1000, .ow 1001, .ow 1002, .int .i64 out.1.At], .int .i64 out.2.1, .bool out.2.2]) [(1000, .arr ⟨false, true⟩ 1 2 (List.map a_i64 out.1.State.Vars)), (1001, .arr ⟨false, true⟩ 1 2 (List.map a_i64 out.1.State.Cells)), (1002, .arr ⟨false, true⟩ 1 2 (List.map a_i64 out.1.Stack))] := by
  refine ACall.intro Try.func17 rfl Try.ntmps17 rfl (fun F hF => ?_)
  unfold m_impl_StepCode at hm
  refine T_seq ?_
  refine T_region ?_
  refine TL_box 11 rfl rfl rfl rfl rfl rfl rfl ?_
  refine TL_alloc 12 z35 rfl rfl rfl rfl rfl rfl rfl ?_
  refine TL_pure rfl rfl rfl rfl (op_assign rfl) ?_
  refine TL_pure rfl rfl rfl rfl (op_assign rfl) ?_
  refine TL_nil ?_
  refine T_seq ?_
  refine T_seq ?_
  refine T_region ?_
  refine TL_pure rfl rfl rfl rfl (op_move rfl) ?_
  refine TL_pure rfl rfl rfl rfl (op_load_agg ag35 sz35 rfl rfl rfl) ?_
  obtain ⟨r12, hr12, hm⟩ := bindS hm
  refine TL_callF (c_impl_ValidConfig p0 p1 r12 hr12) Try.call18 rfl rfl rfl rfl rfl ?_
  refine TL_pure rfl rfl rfl rfl (op_not rfl) ?_
  refine TL_nil ?_
  refine T_cond rfl (fun hq => ?_) (fun hq => ?_)
  · replace hm := condT hq hm
    refine T_seq ?_
    refine T_region ?_
    refine TL_pure rfl rfl rfl rfl (op_buildP pl35 z35 rfl rfl rfl rfl rfl) ?_
    refine TL_store_box sz35 rfl rfl rfl rfl rfl rfl rfl rfl rfl ?_
    refine TL_pure rfl rfl rfl rfl (op_assign rfl) ?_
    refine TL_pure rfl rfl rfl rfl (op_assign rfl) ?_
    refine TL_nil ?_
    refine T_ownNilBox 12 0 13 ⟨false, true⟩ 2 rfl rfl rfl (sz := 1) rfl rfl rfl rfl ?_
    refine T_ownNilBox 12 1 14 ⟨false, true⟩ 2 rfl rfl rfl (sz := 1) rfl rfl rfl rfl ?_
    refine T_ownNilBox 12 2 15 ⟨false, true⟩ 2 rfl rfl rfl (sz := 1) rfl rfl rfl rfl ?_
    refine T_keepH [4, 5, 6] [12, 13, 14, 15] rfl rfl rfl rfl (by rw [hF]; rfl) ?_
    refine T_ren [(12, 12), (13, 1000), (14, 1001), (15, 1002)] rfl rfl rfl (by rw [hF]; rfl) ?_
    refine T_ret ?_
    obtain rfl := someI hm
    refine ⟨[_, _, _], [1000, 1001, 1002], ⟨⟨_, _, rfl, rfl, .inr ⟨ag35, _, _, sz35, rfl, rfl⟩⟩, rfl, rfl, trivial⟩, ?_, rfl, rfl, rfl, rfl⟩
    rfl
  · replace hm := condF hq hm
    refine T_skip ?_
    refine T_seq ?_
    refine T_region ?_
    refine TL_pure rfl rfl rfl rfl (op_load_agg ag35 sz35 rfl rfl rfl) ?_
    obtain ⟨r16, hr16, hm⟩ := bindS hm
    refine TL_callO [(1000, 16), (1001, 17), (1002, 18)] (c_impl_Config_own p1 r16 hr16) Try.call67 rfl rfl rfl rfl rfl rfl rfl rfl rfl rfl rfl rfl rfl ?_
    refine TL_alloc 19 z35 rfl rfl rfl rfl rfl rfl rfl ?_
    refine TL_store_box sz35 rfl rfl rfl rfl rfl rfl rfl rfl rfl ?_
    refine TL_nil ?_
    refine T_seq ?_
    refine T_region ?_
    refine TL_pure rfl rfl rfl rfl (op_move rfl) ?_
    obtain ⟨r19, hr19, hm⟩ := bindS hm
    refine TL_call [(0, 19), (1, 16), (2, 17), (3, 18)] [] [16, 17, 18] (c_impl_Config_step r16 p0 r19 hr19) Try.call68 rfl rfl rfl rfl rfl ⟨rfl, rfl, rfl, rfl, trivial⟩ rfl rfl rfl rfl rfl rfl rfl rfl rfl rfl rfl ?_
    refine TL_pure rfl rfl rfl rfl (op_move rfl) ?_
    refine TL_pure rfl rfl rfl rfl (op_extract rfl rfl) ?_
    refine TL_pure rfl rfl rfl rfl (op_extract rfl rfl) ?_
    refine TL_pure rfl rfl rfl rfl (op_assign rfl) ?_
    refine TL_pure rfl rfl rfl rfl (op_assign rfl) ?_
    refine TL_nil ?_
    refine T_seq ?_
    refine T_region ?_
    refine TL_pure rfl rfl rfl rfl (op_load_agg ag35 sz35 rfl rfl rfl) ?_
    refine TL_pure rfl rfl rfl rfl (op_move rfl) ?_
    refine TL_store_box sz35 rfl rfl rfl rfl rfl rfl rfl rfl rfl ?_
    refine TL_pure rfl rfl rfl rfl (op_assign rfl) ?_
    refine TL_pure rfl rfl rfl rfl (op_assign rfl) ?_
    refine TL_nil ?_
    refine T_keepH [4, 5, 6] [12, 16, 17, 18] rfl rfl rfl rfl (by rw [hF]; rfl) ?_
    refine T_ren [(12, 12), (16, 1000), (17, 1001), (18, 1002)] rfl rfl rfl (by rw [hF]; rfl) ?_
    refine T_ret ?_
    obtain rfl := someI hm
    refine ⟨[_, _, _], [1000, 1001, 1002], ⟨⟨_, _, rfl, rfl, .inr ⟨ag35, _, _, sz35, rfl, rfl⟩⟩, rfl, rfl, trivial⟩, ?_, rfl, rfl, rfl, rfl⟩
    rfl
theorem c_laws_eqInt64S (p0 : List Int) (p1 : List Int) (out : Bool) (hm : m_laws_eqInt64S p0 p1 = some out) : ACall Try.prog 26 [.sl 1 (List.map a_i64 p0), .sl 1 (List.map a_i64 p1)] [] (.bool out) [] := by
  refine ACall.intro Try.func26 rfl Try.ntmps26 rfl (fun F hF => ?_)
  unfold m_laws_eqInt64S at hm
  refine T_seq ?_
  refine T_region ?_
  refine TL_pure rfl rfl rfl rfl (op_assign rfl) ?_
  refine TL_nil ?_
  refine T_seq ?_
  refine T_seq ?_
  refine T_region ?_
  refine TL_pure rfl rfl rfl rfl (op_move rfl) ?_
  refine TL_pure rfl rfl rfl rfl (op_lenT Try.underlying26 rfl (List.length_map _)) ?_
  refine TL_fact (fun _ _ _ hr => RelP.slLen (i := 6) rfl hr) (fun hlen7 => ?_)
  rw [List.length_map] at hlen7
  refine TL_pure rfl rfl rfl rfl (op_move rfl) ?_
  refine TL_pure rfl rfl rfl rfl (op_lenT Try.underlying26 rfl (List.length_map _)) ?_
  refine TL_fact (fun _ _ _ hr => RelP.slLen (i := 8) rfl hr) (fun hlen9 => ?_)
  rw [List.length_map] at hlen9
  refine TL_pure rfl rfl rfl rfl (op_neq rfl rfl) ?_
  refine TL_nil ?_
  refine T_cond rfl (fun hq => ?_) (fun hq => ?_)
  · replace hm := condT hq hm
    refine T_seq ?_
    refine T_region ?_
    refine TL_pure rfl rfl rfl rfl (op_assign rfl) ?_
    refine TL_nil ?_
    refine T_keepH [4] [] rfl rfl rfl rfl (by rw [hF]; rfl) ?_
    refine T_ret ?_
    obtain rfl := someI hm
    refine ⟨[_], [], ⟨rfl, trivial⟩, ?_, rfl, rfl, rfl, rfl⟩
    rfl
  · replace hm := condF hq hm
    refine T_skip ?_
    refine T_seq ?_
    refine T_seq ?_
    refine T_region ?_
    refine TL_pure rfl rfl rfl rfl (op_assign rfl) ?_
    refine TL_nil ?_
    refine T_block ?_
    refine T_keepH [0, 1, 5] [] rfl rfl rfl rfl (by rw [hF]; rfl) ?_
    refine T_loop ?_
    obtain ⟨u0, hl0, hm⟩ := bindS hm
    refine TR_iter2 (m_laws_eqInt64S_L0 p0 p1) (fun (s0 : Int) => ⟨[(0, .sl 1 (List.map a_i64 p0)), (1, .sl 1 (List.map a_i64 p1)), (5, .int .i64 s0)], []⟩) (fun u0 => match u0 with | .inl u0 => .exit 0 | .inr u0 => .ret) (fun u0 => match u0 with | .inl u0 => ⟨[], []⟩ | .inr u0 => ⟨[(4, .bool u0)], []⟩) (fun u0 => m_laws_eqInt64S_A0 u0 = some out) hl0 hm (fun u0 hm => ?_) (fun hx0 s0 c0 hm hc0 => ?_)
    · rcases u0 with u0 | u0
      · unfold m_laws_eqInt64S_A0 at hm
        refine T_seq ?_
        refine T_region ?_
        refine TL_pure rfl rfl rfl rfl (op_assign rfl) ?_
        refine TL_nil ?_
        refine T_keepH [4] [] rfl rfl rfl rfl (by rw [hF]; rfl) ?_
        refine T_ret ?_
        obtain rfl := someI hm
        refine ⟨[_], [], ⟨rfl, trivial⟩, ?_, rfl, rfl, rfl, rfl⟩
        rfl
      · unfold m_laws_eqInt64S_A0 at hm
        obtain rfl := someI hm
        refine ⟨[_], [], ⟨rfl, trivial⟩, ?_, rfl, rfl, rfl, rfl⟩
        rfl
    · unfold m_laws_eqInt64S_L0 at hm
      refine T_seq ?_
      refine T_seq ?_
      refine T_region ?_
      refine TL_pure rfl rfl rfl rfl (op_move rfl) ?_
      refine TL_pure rfl rfl rfl rfl (op_move rfl) ?_
      refine TL_pure rfl rfl rfl rfl (op_lenT Try.underlying26 rfl (List.length_map _)) ?_
      refine TL_pure rfl rfl rfl rfl (op_lss rfl rfl) ?_
      refine TL_nil ?_
      refine T_cond rfl (fun hq => ?_) (fun hq => ?_)
      · replace hm := condT hq hm
        refine T_skip ?_
        refine T_seq ?_
        refine T_block ?_
        refine T_seq ?_
        refine T_drawZ [] mix (by kernel_rfl) rfl ?_
        obtain ⟨x19, hx19, hm⟩ := bindS hm
        obtain ⟨x23, hx23, hm⟩ := bindS hm
        refine TZ_pure 0 (by kernel_rfl) rfl rfl rfl rfl rfl (op_move rfl) ?_
        refine TZ_pure 1 (by kernel_rfl) rfl rfl rfl rfl rfl (op_move rfl) ?_
        refine TZ_pure 2 (by kernel_rfl) rfl rfl rfl rfl rfl (op_indexT el26 rfl rfl hx19 rfl) ?_
        refine TZ_pure 3 (by kernel_rfl) rfl rfl rfl rfl rfl (op_load_one ag2 rfl rfl) ?_
        refine TZ_pure 4 (by kernel_rfl) rfl rfl rfl rfl rfl (op_move rfl) ?_
        refine TZ_pure 5 (by kernel_rfl) rfl rfl rfl rfl rfl (op_move rfl) ?_
        refine TZ_pure 6 (by kernel_rfl) rfl rfl rfl rfl rfl (op_indexT el26 rfl rfl hx23 rfl) ?_
        refine TZ_pure 7 (by kernel_rfl) rfl rfl rfl rfl rfl (op_load_one ag2 rfl rfl) ?_
        refine TZ_pure 8 (by kernel_rfl) rfl rfl rfl rfl rfl (op_neq rfl rfl) ?_
        refine TZ_done (by kernel_rfl) ?_
        refine T_cond rfl (fun hq => ?_) (fun hq => ?_)
        · replace hm := condT hq hm
          refine T_seq ?_
          refine T_region ?_
          refine TL_pure rfl rfl rfl rfl (op_assign rfl) ?_
          refine TL_nil ?_
          refine T_keepH [4] [] rfl rfl rfl rfl (by rw [hF]; rfl) ?_
          refine T_ret ?_
          obtain rfl := someI hm
          have hn := CtlOK_out hc0
          exact hx0 (.inr false) hn
        · replace hm := condF hq hm
          refine T_skip ?_
          refine T_region ?_
          refine TL_pure rfl rfl rfl rfl (op_move rfl) ?_
          refine TL_pure rfl rfl rfl rfl (op_addW rfl rfl) ?_
          refine TL_pure rfl rfl rfl rfl (op_assign rfl) ?_
          refine TL_nil ?_
          refine TR_keepH [0, 1, 5] [] rfl rfl rfl rfl (by rw [hF]; rfl) ?_
          obtain rfl := someI hm
          have hn := CtlOK_next hc0
          exact hn _ rfl
      · replace hm := condF hq hm
        refine T_keepH [] [] rfl rfl rfl rfl (by rw [hF]; rfl) ?_
        refine T_exit ?_
        obtain rfl := someI hm
        have hn := CtlOK_out hc0
        exact hx0 (.inl ()) hn
theorem c_laws_eqState (p0 : State) (p1 : State) (out : Bool) (hm : m_laws_eqState p0 p1 = some out) : ACall Try.prog 28 [.agg [.sl 1 (List.map a_i64 p0.Vars), .sl 1 (List.map a_i64 p0.Cells)], .agg [.sl 1 (List.map a_i64 p1.Vars), .sl 1 (List.map a_i64 p1.Cells)]] [] (.bool out) [] := by
  refine ACall.intro Try.func28 rfl Try.ntmps28 rfl (fun F hF => ?_)
  unfold m_laws_eqState at hm
  refine T_seq ?_
  refine T_region ?_
  refine TL_box 11 rfl rfl rfl rfl rfl rfl rfl ?_
  refine TL_box 12 rfl rfl rfl rfl rfl rfl rfl ?_
  refine TL_pure rfl rfl rfl rfl (op_assign rfl) ?_
  refine TL_nil ?_
  refine T_seq ?_
  refine T_seq ?_
  refine T_region ?_
  refine TL_pure rfl rfl rfl rfl (op_fieldAddr fa28_0 rfl rfl) ?_
  refine TL_pure rfl rfl rfl rfl (op_load_one ag26 rfl rfl) ?_
  refine TL_pure rfl rfl rfl rfl (op_fieldAddr fa28_0 rfl rfl) ?_
  refine TL_pure rfl rfl rfl rfl (op_load_one ag26 rfl rfl) ?_
  obtain ⟨r9, hr9, hm⟩ := bindS hm
  refine TL_callF (c_laws_eqInt64S p0.Vars p1.Vars r9 hr9) Try.call26 rfl rfl rfl rfl rfl ?_
  refine TL_pure rfl rfl rfl rfl (op_not rfl) ?_
  refine TL_nil ?_
  refine T_cond rfl (fun hq => ?_) (fun hq => ?_)
  · replace hm := condT hq hm
    refine T_seq ?_
    refine T_region ?_
    refine TL_pure rfl rfl rfl rfl (op_assign rfl) ?_
    refine TL_nil ?_
    refine T_keepH [4] [] rfl rfl rfl rfl (by rw [hF]; rfl) ?_
    refine T_ret ?_
    obtain rfl := someI hm
    refine ⟨[_], [], ⟨rfl, trivial⟩, ?_, rfl, rfl, rfl, rfl⟩
    rfl
  · replace hm := condF hq hm
    refine T_skip ?_
    refine T_seq ?_
    refine T_seq ?_
    refine T_region ?_
    refine TL_pure rfl rfl rfl rfl (op_fieldAddr fa28_1 rfl rfl) ?_
    refine TL_pure rfl rfl rfl rfl (op_load_one ag26 rfl rfl) ?_
    refine TL_pure rfl rfl rfl rfl (op_fieldAddr fa28_1 rfl rfl) ?_
    refine TL_pure rfl rfl rfl rfl (op_load_one ag26 rfl rfl) ?_
    obtain ⟨r15, hr15, hm⟩ := bindS hm
    refine TL_callF (c_laws_eqInt64S p0.Cells p1.Cells r15 hr15) Try.call26 rfl rfl rfl rfl rfl ?_
    refine TL_pure rfl rfl rfl rfl (op_not rfl) ?_
    refine TL_nil ?_
    refine T_cond rfl (fun hq => ?_) (fun hq => ?_)
    · replace hm := condT hq hm
      refine T_seq ?_
      refine T_region ?_
      refine TL_pure rfl rfl rfl rfl (op_assign rfl) ?_
      refine TL_nil ?_
      refine T_keepH [4] [] rfl rfl rfl rfl (by rw [hF]; rfl) ?_
      refine T_ret ?_
      obtain rfl := someI hm
      refine ⟨[_], [], ⟨rfl, trivial⟩, ?_, rfl, rfl, rfl, rfl⟩
      rfl
    · replace hm := condF hq hm
      refine T_skip ?_
      refine T_seq ?_
      refine T_region ?_
      refine TL_pure rfl rfl rfl rfl (op_assign rfl) ?_
      refine TL_nil ?_
      refine T_keepH [4] [] rfl rfl rfl rfl (by rw [hF]; rfl) ?_
      refine T_ret ?_
      obtain rfl := someI hm
      refine ⟨[_], [], ⟨rfl, trivial⟩, ?_, rfl, rfl, rfl, rfl⟩
      rfl
theorem c_laws_eqConfig (p0 : Config) (p1 : Config) (out : Bool) (hm : m_laws_eqConfig p0 p1 = some out) : ACall Try.prog 38 [.agg [.sl 1 (List.map a_i64 p0.State.Vars), .sl 1 (List.map a_i64 p0.State.Cells), .sl 1 (List.map a_i64 p0.Stack), .int .i64 p0.At], .agg [.sl 1 (List.map a_i64 p1.State.Vars), .sl 1 (List.map a_i64 p1.State.Cells), .sl 1 (List.map a_i64 p1.Stack), .int .i64 p1.At]] [] (.bool out) [] := by
  refine ACall.intro Try.func38 rfl Try.ntmps38 rfl (fun F hF => ?_)
  unfold m_laws_eqConfig at hm
  refine T_seq ?_
  refine T_region ?_
  refine TL_box 11 rfl rfl rfl rfl rfl rfl rfl ?_
  refine TL_box 12 rfl rfl rfl rfl rfl rfl rfl ?_
  refine TL_pure rfl rfl rfl rfl (op_assign rfl) ?_
  refine TL_nil ?_
  refine T_seq ?_
  refine T_seq ?_
  refine T_region ?_
  refine TL_pure rfl rfl rfl rfl (op_fieldAddr fa35_0 rfl rfl) ?_
  refine TL_pure rfl rfl rfl rfl (op_load_agg ag28 sz28 rfl rfl rfl) ?_
  refine TL_pure rfl rfl rfl rfl (op_fieldAddr fa35_0 rfl rfl) ?_
  refine TL_pure rfl rfl rfl rfl (op_load_agg ag28 sz28 rfl rfl rfl) ?_
  obtain ⟨r9, hr9, hm⟩ := bindS hm
  refine TL_callF (c_laws_eqState p0.State p1.State r9 hr9) Try.call28 rfl rfl rfl rfl rfl ?_
  refine TL_pure rfl rfl rfl rfl (op_not rfl) ?_
  refine TL_nil ?_
  refine T_cond rfl (fun hq => ?_) (fun hq => ?_)
  · replace hm := condT hq hm
    refine T_seq ?_
    refine T_region ?_
    refine TL_pure rfl rfl rfl rfl (op_assign rfl) ?_
    refine TL_nil ?_
    refine T_keepH [4] [] rfl rfl rfl rfl (by rw [hF]; rfl) ?_
    refine T_ret ?_
    obtain rfl := someI hm
    refine ⟨[_], [], ⟨rfl, trivial⟩, ?_, rfl, rfl, rfl, rfl⟩
    rfl
  · replace hm := condF hq hm
    refine T_skip ?_
    refine T_seq ?_
    refine T_seq ?_
    refine T_region ?_
    refine TL_pure rfl rfl rfl rfl (op_fieldAddr fa35_1 rfl rfl) ?_
    refine TL_pure rfl rfl rfl rfl (op_load_one ag26 rfl rfl) ?_
    refine TL_pure rfl rfl rfl rfl (op_fieldAddr fa35_1 rfl rfl) ?_
    refine TL_pure rfl rfl rfl rfl (op_load_one ag26 rfl rfl) ?_
    obtain ⟨r15, hr15, hm⟩ := bindS hm
    refine TL_callF (c_laws_eqInt64S p0.Stack p1.Stack r15 hr15) Try.call26 rfl rfl rfl rfl rfl ?_
    refine TL_pure rfl rfl rfl rfl (op_not rfl) ?_
    refine TL_nil ?_
    refine T_cond rfl (fun hq => ?_) (fun hq => ?_)
    · replace hm := condT hq hm
      refine T_seq ?_
      refine T_region ?_
      refine TL_pure rfl rfl rfl rfl (op_assign rfl) ?_
      refine TL_nil ?_
      refine T_keepH [4] [] rfl rfl rfl rfl (by rw [hF]; rfl) ?_
      refine T_ret ?_
      obtain rfl := someI hm
      refine ⟨[_], [], ⟨rfl, trivial⟩, ?_, rfl, rfl, rfl, rfl⟩
      rfl
    · replace hm := condF hq hm
      refine T_skip ?_
      refine T_seq ?_
      refine T_seq ?_
      refine T_region ?_
      refine TL_pure rfl rfl rfl rfl (op_fieldAddr fa35_2 rfl rfl) ?_
      refine TL_pure rfl rfl rfl rfl (op_load_one ag2 rfl rfl) ?_
      refine TL_pure rfl rfl rfl rfl (op_fieldAddr fa35_2 rfl rfl) ?_
      refine TL_pure rfl rfl rfl rfl (op_load_one ag2 rfl rfl) ?_
      refine TL_pure rfl rfl rfl rfl (op_neq rfl rfl) ?_
      refine TL_nil ?_
      refine T_cond rfl (fun hq => ?_) (fun hq => ?_)
      · replace hm := condT hq hm
        refine T_seq ?_
        refine T_region ?_
        refine TL_pure rfl rfl rfl rfl (op_assign rfl) ?_
        refine TL_nil ?_
        refine T_keepH [4] [] rfl rfl rfl rfl (by rw [hF]; rfl) ?_
        refine T_ret ?_
        obtain rfl := someI hm
        refine ⟨[_], [], ⟨rfl, trivial⟩, ?_, rfl, rfl, rfl, rfl⟩
        rfl
      · replace hm := condF hq hm
        refine T_skip ?_
        refine T_seq ?_
        refine T_region ?_
        refine TL_pure rfl rfl rfl rfl (op_assign rfl) ?_
        refine TL_nil ?_
        refine T_keepH [4] [] rfl rfl rfl rfl (by rw [hF]; rfl) ?_
        refine T_ret ?_
        obtain rfl := someI hm
        refine ⟨[_], [], ⟨rfl, trivial⟩, ?_, rfl, rfl, rfl, rfl⟩
        rfl
theorem c_laws_eqInstr (p0 : Instr) (p1 : Instr) (out : Bool) (hm : m_laws_eqInstr p0 p1 = some out) : ACall Try.prog 80 [.agg [.int .i64 p0.Op, .int .i64 p0.Arg], .agg [.int .i64 p1.Op, .int .i64 p1.Arg]] [] (.bool out) [] := by
  refine ACall.intro Try.func80 rfl Try.ntmps80 rfl (fun F hF => ?_)
  unfold m_laws_eqInstr at hm
  refine T_seq ?_
  refine T_region ?_
  refine TL_box 11 rfl rfl rfl rfl rfl rfl rfl ?_
  refine TL_box 12 rfl rfl rfl rfl rfl rfl rfl ?_
  refine TL_pure rfl rfl rfl rfl (op_assign rfl) ?_
  refine TL_nil ?_
  refine T_seq ?_
  refine T_seq ?_
  refine T_region ?_
  refine TL_pure rfl rfl rfl rfl (op_fieldAddr fa40_0 rfl rfl) ?_
  refine TL_pure rfl rfl rfl rfl (op_load_one ag2 rfl rfl) ?_
  refine TL_pure rfl rfl rfl rfl (op_fieldAddr fa40_0 rfl rfl) ?_
  refine TL_pure rfl rfl rfl rfl (op_load_one ag2 rfl rfl) ?_
  refine TL_pure rfl rfl rfl rfl (op_neq rfl rfl) ?_
  refine TL_nil ?_
  refine T_cond rfl (fun hq => ?_) (fun hq => ?_)
  · replace hm := condT hq hm
    refine T_seq ?_
    refine T_region ?_
    refine TL_pure rfl rfl rfl rfl (op_assign rfl) ?_
    refine TL_nil ?_
    refine T_keepH [4] [] rfl rfl rfl rfl (by rw [hF]; rfl) ?_
    refine T_ret ?_
    obtain rfl := someI hm
    refine ⟨[_], [], ⟨rfl, trivial⟩, ?_, rfl, rfl, rfl, rfl⟩
    rfl
  · replace hm := condF hq hm
    refine T_skip ?_
    refine T_seq ?_
    refine T_seq ?_
    refine T_region ?_
    refine TL_pure rfl rfl rfl rfl (op_fieldAddr fa40_1 rfl rfl) ?_
    refine TL_pure rfl rfl rfl rfl (op_load_one ag2 rfl rfl) ?_
    refine TL_pure rfl rfl rfl rfl (op_fieldAddr fa40_1 rfl rfl) ?_
    refine TL_pure rfl rfl rfl rfl (op_load_one ag2 rfl rfl) ?_
    refine TL_pure rfl rfl rfl rfl (op_neq rfl rfl) ?_
    refine TL_nil ?_
    refine T_cond rfl (fun hq => ?_) (fun hq => ?_)
    · replace hm := condT hq hm
      refine T_seq ?_
      refine T_region ?_
      refine TL_pure rfl rfl rfl rfl (op_assign rfl) ?_
      refine TL_nil ?_
      refine T_keepH [4] [] rfl rfl rfl rfl (by rw [hF]; rfl) ?_
      refine T_ret ?_
      obtain rfl := someI hm
      refine ⟨[_], [], ⟨rfl, trivial⟩, ?_, rfl, rfl, rfl, rfl⟩
      rfl
    · replace hm := condF hq hm
      refine T_skip ?_
      refine T_seq ?_
      refine T_region ?_
      refine TL_pure rfl rfl rfl rfl (op_assign rfl) ?_
      refine TL_nil ?_
      refine T_keepH [4] [] rfl rfl rfl rfl (by rw [hF]; rfl) ?_
      refine T_ret ?_
      obtain rfl := someI hm
      refine ⟨[_], [], ⟨rfl, trivial⟩, ?_, rfl, rfl, rfl, rfl⟩
      rfl
theorem c_laws_eqInstrS (p0 : List Instr) (p1 : List Instr) (out : Bool) (hm : m_laws_eqInstrS p0 p1 = some out) : ACall Try.prog 27 [.sl 2 (List.map a_Instr p0), .sl 2 (List.map a_Instr p1)] [] (.bool out) [] := by
  refine ACall.intro Try.func27 rfl Try.ntmps27 rfl (fun F hF => ?_)
  unfold m_laws_eqInstrS at hm
  refine T_seq ?_
  refine T_region ?_
  refine TL_pure rfl rfl rfl rfl (op_assign rfl) ?_
  refine TL_nil ?_
  refine T_seq ?_
  refine T_seq ?_
  refine T_region ?_
  refine TL_pure rfl rfl rfl rfl (op_move rfl) ?_
  refine TL_pure rfl rfl rfl rfl (op_lenT Try.underlying24 rfl (List.length_map _)) ?_
  refine TL_fact (fun _ _ _ hr => RelP.slLen (i := 6) rfl hr) (fun hlen7 => ?_)
  rw [List.length_map] at hlen7
  refine TL_pure rfl rfl rfl rfl (op_move rfl) ?_
  refine TL_pure rfl rfl rfl rfl (op_lenT Try.underlying24 rfl (List.length_map _)) ?_
  refine TL_fact (fun _ _ _ hr => RelP.slLen (i := 8) rfl hr) (fun hlen9 => ?_)
  rw [List.length_map] at hlen9
  refine TL_pure rfl rfl rfl rfl (op_neq rfl rfl) ?_
  refine TL_nil ?_
  refine T_cond rfl (fun hq => ?_) (fun hq => ?_)
  · replace hm := condT hq hm
    refine T_seq ?_
    refine T_region ?_
    refine TL_pure rfl rfl rfl rfl (op_assign rfl) ?_
    refine TL_nil ?_
    refine T_keepH [4] [] rfl rfl rfl rfl (by rw [hF]; rfl) ?_
    refine T_ret ?_
    obtain rfl := someI hm
    refine ⟨[_], [], ⟨rfl, trivial⟩, ?_, rfl, rfl, rfl, rfl⟩
    rfl
  · replace hm := condF hq hm
    refine T_skip ?_
    refine T_seq ?_
    refine T_seq ?_
    refine T_region ?_
    refine TL_pure rfl rfl rfl rfl (op_assign rfl) ?_
    refine TL_nil ?_
    refine T_block ?_
    refine T_keepH [0, 1, 5] [] rfl rfl rfl rfl (by rw [hF]; rfl) ?_
    refine T_loop ?_
    obtain ⟨u0, hl0, hm⟩ := bindS hm
    refine TR_iter2 (m_laws_eqInstrS_L0 p0 p1) (fun (s0 : Int) => ⟨[(0, .sl 2 (List.map a_Instr p0)), (1, .sl 2 (List.map a_Instr p1)), (5, .int .i64 s0)], []⟩) (fun u0 => match u0 with | .inl u0 => .exit 0 | .inr u0 => .ret) (fun u0 => match u0 with | .inl u0 => ⟨[], []⟩ | .inr u0 => ⟨[(4, .bool u0)], []⟩) (fun u0 => m_laws_eqInstrS_A0 u0 = some out) hl0 hm (fun u0 hm => ?_) (fun hx0 s0 c0 hm hc0 => ?_)
    · rcases u0 with u0 | u0
      · unfold m_laws_eqInstrS_A0 at hm
        refine T_seq ?_
        refine T_region ?_
        refine TL_pure rfl rfl rfl rfl (op_assign rfl) ?_
        refine TL_nil ?_
        refine T_keepH [4] [] rfl rfl rfl rfl (by rw [hF]; rfl) ?_
        refine T_ret ?_
        obtain rfl := someI hm
        refine ⟨[_], [], ⟨rfl, trivial⟩, ?_, rfl, rfl, rfl, rfl⟩
        rfl
      · unfold m_laws_eqInstrS_A0 at hm
        obtain rfl := someI hm
        refine ⟨[_], [], ⟨rfl, trivial⟩, ?_, rfl, rfl, rfl, rfl⟩
        rfl
    · unfold m_laws_eqInstrS_L0 at hm
      refine T_seq ?_
      refine T_seq ?_
      refine T_region ?_
      refine TL_pure rfl rfl rfl rfl (op_move rfl) ?_
      refine TL_pure rfl rfl rfl rfl (op_move rfl) ?_
      refine TL_pure rfl rfl rfl rfl (op_lenT Try.underlying24 rfl (List.length_map _)) ?_
      refine TL_pure rfl rfl rfl rfl (op_lss rfl rfl) ?_
      refine TL_nil ?_
      refine T_cond rfl (fun hq => ?_) (fun hq => ?_)
      · replace hm := condT hq hm
        refine T_skip ?_
        refine T_seq ?_
        refine T_block ?_
        refine T_seq ?_
        refine T_drawZ [] mix (by kernel_rfl) rfl ?_
        obtain ⟨x19, hx19, hm⟩ := bindS hm
        obtain ⟨x23, hx23, hm⟩ := bindS hm
        obtain ⟨r25, hr25, hm⟩ := bindS hm
        refine TZ_pure 0 (by kernel_rfl) rfl rfl rfl rfl rfl (op_move rfl) ?_
        refine TZ_pure 1 (by kernel_rfl) rfl rfl rfl rfl rfl (op_move rfl) ?_
        refine TZ_pure 2 (by kernel_rfl) rfl rfl rfl rfl rfl (op_indexT el24 rfl rfl hx19 rfl) ?_
        refine TZ_pure 3 (by kernel_rfl) rfl rfl rfl rfl rfl (op_load_agg ag40 sz40 rfl rfl rfl) ?_
        refine TZ_pure 4 (by kernel_rfl) rfl rfl rfl rfl rfl (op_move rfl) ?_
        refine TZ_pure 5 (by kernel_rfl) rfl rfl rfl rfl rfl (op_move rfl) ?_
        refine TZ_pure 6 (by kernel_rfl) rfl rfl rfl rfl rfl (op_indexT el24 rfl rfl hx23 rfl) ?_
        refine TZ_pure 7 (by kernel_rfl) rfl rfl rfl rfl rfl (op_load_agg ag40 sz40 rfl rfl rfl) ?_
        refine TZ_one 8 (by kernel_rfl) rfl ?_
        refine TL_callF (c_laws_eqInstr x19 x23 r25 hr25) Try.call80 rfl rfl rfl rfl rfl ?_
        refine TL_nil ?_
        refine TZ_pure 9 (by kernel_rfl) rfl rfl rfl rfl rfl (op_not rfl) ?_
        refine TZ_done (by kernel_rfl) ?_
        refine T_cond rfl (fun hq => ?_) (fun hq => ?_)
        · replace hm := condT hq hm
          refine T_seq ?_
          refine T_region ?_
          refine TL_pure rfl rfl rfl rfl (op_assign rfl) ?_
          refine TL_nil ?_
          refine T_keepH [4] [] rfl rfl rfl rfl (by rw [hF]; rfl) ?_
          refine T_ret ?_
          obtain rfl := someI hm
          have hn := CtlOK_out hc0
          exact hx0 (.inr false) hn
        · replace hm := condF hq hm
          refine T_skip ?_
          refine T_region ?_
          refine TL_pure rfl rfl rfl rfl (op_move rfl) ?_
          refine TL_pure rfl rfl rfl rfl (op_addW rfl rfl) ?_
          refine TL_pure rfl rfl rfl rfl (op_assign rfl) ?_
          refine TL_nil ?_
          refine TR_keepH [0, 1, 5] [] rfl rfl rfl rfl (by rw [hF]; rfl) ?_
          obtain rfl := someI hm
          have hn := CtlOK_next hc0
          exact hn _ rfl
      · replace hm := condF hq hm
        refine T_keepH [] [] rfl rfl rfl rfl (by rw [hF]; rfl) ?_
        refine T_exit ?_
        obtain rfl := someI hm
        have hn := CtlOK_out hc0
        exact hx0 (.inl ()) hn
theorem c_laws_markInstrS (p0 : List Instr) (p1 : Int) (out : Int × (List Instr)) (hm : m_laws_markInstrS p0 p1 = some out) (E0 : TypeId) : ACall Try.prog 29 [.ow 0, .int .i64 p1] [(0, .arr ⟨true, true⟩ 2 E0 (List.map a_Instr p0))] (.int .i64 out.1) [(0, .arr ⟨true, true⟩ 2 E0 (List.map a_Instr out.2))] := by
  refine ACall.intro Try.func29 rfl Try.ntmps29 rfl (fun F hF => ?_)
  unfold m_laws_markInstrS at hm
  refine T_seq ?_
  refine T_region ?_
  refine TL_pure rfl rfl rfl rfl (op_assign rfl) ?_
  refine TL_nil ?_
  refine T_seq ?_
  refine T_seq ?_
  refine T_region ?_
  refine TL_pure rfl rfl rfl rfl (op_assign rfl) ?_
  refine TL_nil ?_
  refine T_block ?_
  refine T_keepH [0, 1, 5] [0] rfl rfl rfl rfl (by rw [hF]; rfl) ?_
  refine T_loop ?_
  obtain ⟨u0, hl0, hm⟩ := bindS hm
  refine TR_iter2 (m_laws_markInstrS_L0) (fun (s0 : (List Instr) × Int × Int) => ⟨[(0, .ow 0), (1, .int .i64 s0.2.1), (5, .int .i64 s0.2.2)], [(0, .arr ⟨true, true⟩ 2 E0 (List.map a_Instr s0.1))]⟩) (fun u0 => .exit 0) (fun u0 => ⟨[(1, .int .i64 u0.1)], [(0, .arr ⟨true, true⟩ 2 E0 (List.map a_Instr u0.2))]⟩) (fun u0 => m_laws_markInstrS_A0 u0 = some out) hl0 hm (fun u0 hm => ?_) (fun hx0 s0 c0 hm hc0 => ?_)
  · unfold m_laws_markInstrS_A0 at hm
    refine T_seq ?_
    refine T_region ?_
    refine TL_pure rfl rfl rfl rfl (op_move rfl) ?_
    refine TL_pure rfl rfl rfl rfl (op_assign rfl) ?_
    refine TL_nil ?_
    refine T_keepH [4] [0] rfl rfl rfl rfl (by rw [hF]; rfl) ?_
    refine T_ret ?_
    obtain rfl := someI hm
    refine ⟨[_], [0], ⟨rfl, trivial⟩, ?_, rfl, rfl, rfl, rfl⟩
    rfl
  · unfold m_laws_markInstrS_L0 at hm
    refine T_seq ?_
    refine T_seq ?_
    refine T_region ?_
    refine TL_pure rfl rfl rfl rfl (op_move rfl) ?_
    refine TL_pure rfl rfl rfl rfl (op_move rfl) ?_
    refine TL_pure rfl rfl rfl rfl (op_lenO Try.underlying24 rfl rfl (List.length_map _)) ?_
    refine TL_fact (fun _ _ _ hr => RelP.owLen (id := 0) rfl hr) (fun hlen8 => ?_)
    rw [List.length_map] at hlen8
    refine TL_pure rfl rfl rfl rfl (op_lss rfl rfl) ?_
    refine TL_nil ?_
    refine T_cond rfl (fun hq => ?_) (fun hq => ?_)
    · replace hm := condT hq hm
      refine T_skip ?_
      refine T_seq ?_
      refine T_block ?_
      refine T_seq ?_
      refine T_region ?_
      refine TL_pure rfl rfl rfl rfl (op_move rfl) ?_
      refine TL_pure rfl rfl rfl rfl (op_move rfl) ?_
      refine TL_pure rfl rfl rfl rfl (op_move rfl) ?_
      obtain ⟨x15, hx15, hm⟩ := bindS hm
      refine TL_pure rfl rfl rfl rfl (op_indexO el24 rfl rfl rfl hx15) ?_
      refine TL_pure rfl rfl rfl rfl (op_fieldAddr fa40_0 rfl rfl) ?_
      refine TL_storeFT sz2 rfl rfl ((getI_spec hx15).2) (v' := (Instr.mk s0.2.1 x15.Arg)) rfl rfl rfl rfl rfl rfl rfl rfl rfl ?_
      refine TL_nil ?_
      refine T_seq ?_
      refine T_region ?_
      refine TL_pure rfl rfl rfl rfl (op_move rfl) ?_
      refine TL_pure rfl rfl rfl rfl (op_addW rfl rfl) ?_
      refine TL_pure rfl rfl rfl rfl (op_assign rfl) ?_
      refine TL_nil ?_
      refine T_seq ?_
      refine T_region ?_
      refine TL_pure rfl rfl rfl rfl (op_move rfl) ?_
      refine TL_pure rfl rfl rfl rfl (op_move rfl) ?_
      refine TL_pure rfl rfl rfl rfl (op_move rfl) ?_
      obtain ⟨x22, hx22, hm⟩ := bindS hm
      refine TL_pure rfl rfl rfl rfl (op_indexO el24 rfl rfl rfl hx22) ?_
      refine TL_pure rfl rfl rfl rfl (op_fieldAddr fa40_1 rfl rfl) ?_
      refine TL_storeFT sz2 rfl rfl ((getI_spec hx22).2) (v' := (Instr.mk x22.Op (w64 (s0.2.1 + (1 : Int))))) rfl rfl rfl rfl rfl rfl rfl rfl rfl ?_
      refine TL_nil ?_
      refine T_region ?_
      refine TL_pure rfl rfl rfl rfl (op_move rfl) ?_
      refine TL_pure rfl rfl rfl rfl (op_addW rfl rfl) ?_
      refine TL_pure rfl rfl rfl rfl (op_assign rfl) ?_
      refine TL_nil ?_
      refine T_region ?_
      refine TL_pure rfl rfl rfl rfl (op_move rfl) ?_
      refine TL_pure rfl rfl rfl rfl (op_addW rfl rfl) ?_
      refine TL_pure rfl rfl rfl rfl (op_assign rfl) ?_
      refine TL_nil ?_
      refine TR_keepH [0, 1, 5] [0] rfl rfl rfl rfl (by rw [hF]; rfl) ?_
      obtain rfl := someI hm
      have hn := CtlOK_next hc0
      exact hn _ rfl
    · replace hm := condF hq hm
      refine T_keepH [1] [0] rfl rfl rfl rfl (by rw [hF]; rfl) ?_
      refine T_exit ?_
      obtain rfl := someI hm
      have hn := CtlOK_out hc0
      exact hx0 (s0.2.1, s0.1) hn
theorem c_laws_markInt64S (p0 : List Int) (p1 : Int) (out : Int × (List Int)) (hm : m_laws_markInt64S p0 p1 = some out) (E0 : TypeId) : ACall Try.prog 31 [.ow 0, .int .i64 p1] [(0, .arr ⟨true, true⟩ 1 E0 (List.map a_i64 p0))] (.int .i64 out.1) [(0, .arr ⟨true, true⟩ 1 E0 (List.map a_i64 out.2))] := by
  refine ACall.intro Try.func31 rfl Try.ntmps31 rfl (fun F hF => ?_)
  unfold m_laws_markInt64S at hm
  refine T_seq ?_
  refine T_region ?_
  refine TL_pure rfl rfl rfl rfl (op_assign rfl) ?_
  refine TL_nil ?_
  refine T_seq ?_
  refine T_seq ?_
  refine T_region ?_
  refine TL_pure rfl rfl rfl rfl (op_assign rfl) ?_
  refine TL_nil ?_
  refine T_block ?_
  refine T_keepH [0, 1, 5] [0] rfl rfl rfl rfl (by rw [hF]; rfl) ?_
  refine T_loop ?_
  obtain ⟨u0, hl0, hm⟩ := bindS hm
  refine TR_iter2 (m_laws_markInt64S_L0) (fun (s0 : (List Int) × Int × Int) => ⟨[(0, .ow 0), (1, .int .i64 s0.2.1), (5, .int .i64 s0.2.2)], [(0, .arr ⟨true, true⟩ 1 E0 (List.map a_i64 s0.1))]⟩) (fun u0 => .exit 0) (fun u0 => ⟨[(1, .int .i64 u0.1)], [(0, .arr ⟨true, true⟩ 1 E0 (List.map a_i64 u0.2))]⟩) (fun u0 => m_laws_markInt64S_A0 u0 = some out) hl0 hm (fun u0 hm => ?_) (fun hx0 s0 c0 hm hc0 => ?_)
  · unfold m_laws_markInt64S_A0 at hm
    refine T_seq ?_
    refine T_region ?_
    refine TL_pure rfl rfl rfl rfl (op_move rfl) ?_
    refine TL_pure rfl rfl rfl rfl (op_assign rfl) ?_
    refine TL_nil ?_
    refine T_keepH [4] [0] rfl rfl rfl rfl (by rw [hF]; rfl) ?_
    refine T_ret ?_
    obtain rfl := someI hm
    refine ⟨[_], [0], ⟨rfl, trivial⟩, ?_, rfl, rfl, rfl, rfl⟩
    rfl
  · unfold m_laws_markInt64S_L0 at hm
    refine T_seq ?_
    refine T_seq ?_
    refine T_region ?_
    refine TL_pure rfl rfl rfl rfl (op_move rfl) ?_
    refine TL_pure rfl rfl rfl rfl (op_move rfl) ?_
    refine TL_pure rfl rfl rfl rfl (op_lenO Try.underlying26 rfl rfl (List.length_map _)) ?_
    refine TL_fact (fun _ _ _ hr => RelP.owLen (id := 0) rfl hr) (fun hlen8 => ?_)
    rw [List.length_map] at hlen8
    refine TL_pure rfl rfl rfl rfl (op_lss rfl rfl) ?_
    refine TL_nil ?_
    refine T_cond rfl (fun hq => ?_) (fun hq => ?_)
    · replace hm := condT hq hm
      refine T_skip ?_
      refine T_seq ?_
      refine T_block ?_
      refine T_seq ?_
      refine T_region ?_
      refine TL_pure rfl rfl rfl rfl (op_move rfl) ?_
      refine TL_pure rfl rfl rfl rfl (op_move rfl) ?_
      refine TL_pure rfl rfl rfl rfl (op_move rfl) ?_
      obtain ⟨x15, hx15, hm⟩ := bindS hm
      refine TL_pure rfl rfl rfl rfl (op_indexO el26 rfl rfl rfl hx15) ?_
      refine TL_storeFT sz2 rfl rfl ((getI_spec hx15).2) (v' := s0.2.1) rfl rfl rfl rfl rfl rfl rfl rfl rfl ?_
      refine TL_nil ?_
      refine T_region ?_
      refine TL_pure rfl rfl rfl rfl (op_move rfl) ?_
      refine TL_pure rfl rfl rfl rfl (op_addW rfl rfl) ?_
      refine TL_pure rfl rfl rfl rfl (op_assign rfl) ?_
      refine TL_nil ?_
      refine T_region ?_
      refine TL_pure rfl rfl rfl rfl (op_move rfl) ?_
      refine TL_pure rfl rfl rfl rfl (op_addW rfl rfl) ?_
      refine TL_pure rfl rfl rfl rfl (op_assign rfl) ?_
      refine TL_nil ?_
      refine TR_keepH [0, 1, 5] [0] rfl rfl rfl rfl (by rw [hF]; rfl) ?_
      obtain rfl := someI hm
      have hn := CtlOK_next hc0
      exact hn _ rfl
    · replace hm := condF hq hm
      refine T_keepH [1] [0] rfl rfl rfl rfl (by rw [hF]; rfl) ?_
      refine T_exit ?_
      obtain rfl := someI hm
      have hn := CtlOK_out hc0
      exact hx0 (s0.2.1, s0.1) hn
theorem c_laws_markState (p0 : State) (p1 : Int) (out : Int × (List Int) × (List Int)) (hm : m_laws_markState p0 p1 = some out) (E0 : TypeId) (E1 : TypeId) : ACall Try.prog 30 [.agg [.ow 0, .ow 1], .int .i64 p1] [(0, .arr ⟨true, true⟩ 1 E0 (List.map a_i64 p0.Vars)), (1, .arr ⟨true, true⟩ 1 E1 (List.map a_i64 p0.Cells))] (.int .i64 out.1) [(0, .arr ⟨true, true⟩ 1 E0 (List.map a_i64 out.2.1)), (1, .arr ⟨true, true⟩ 1 E1 (List.map a_i64 out.2.2))] := by
  refine ACall.intro Try.func30 rfl Try.ntmps30 rfl (fun F hF => ?_)
  unfold m_laws_markState at hm
  refine T_seq ?_
  refine T_region ?_
  refine TL_box 11 rfl rfl rfl rfl rfl rfl rfl ?_
  refine TL_pure rfl rfl rfl rfl (op_assign rfl) ?_
  refine TL_nil ?_
  refine T_seq ?_
  refine T_region ?_
  refine TL_pure rfl rfl rfl rfl (op_fieldAddr fa28_0 rfl rfl) ?_
  refine TL_pure rfl rfl rfl rfl (op_load_one ag26 rfl rfl) ?_
  refine TL_pure rfl rfl rfl rfl (op_move rfl) ?_
  obtain ⟨r8, hr8, hm⟩ := bindS hm
  refine TL_call [(0, 0)] [] [] (c_laws_markInt64S p0.Vars p1 r8 hr8 _) Try.call31 rfl rfl rfl rfl rfl ⟨rfl, trivial⟩ rfl rfl rfl rfl rfl rfl rfl rfl rfl rfl rfl ?_
  refine TL_pure rfl rfl rfl rfl (op_assign rfl) ?_
  refine TL_nil ?_
  refine T_seq ?_
  refine T_region ?_
  refine TL_pure rfl rfl rfl rfl (op_fieldAddr fa28_1 rfl rfl) ?_
  refine TL_pure rfl rfl rfl rfl (op_load_one ag26 rfl rfl) ?_
  refine TL_pure rfl rfl rfl rfl (op_move rfl) ?_
  obtain ⟨r12, hr12, hm⟩ := bindS hm
  refine TL_call [(0, 1)] [] [] (c_laws_markInt64S p0.Cells r8.1 r12 hr12 _) Try.call31 rfl rfl rfl rfl rfl ⟨rfl, trivial⟩ rfl rfl rfl rfl rfl rfl rfl rfl rfl rfl rfl ?_
  refine TL_pure rfl rfl rfl rfl (op_assign rfl) ?_
  refine TL_nil ?_
  refine T_seq ?_
  refine T_region ?_
  refine TL_pure rfl rfl rfl rfl (op_move rfl) ?_
  refine TL_pure rfl rfl rfl rfl (op_assign rfl) ?_
  refine TL_nil ?_
  refine T_keepH [4] [0, 1] rfl rfl rfl rfl (by rw [hF]; rfl) ?_
  refine T_ret ?_
  obtain rfl := someI hm
  refine ⟨[_], [0, 1], ⟨rfl, trivial⟩, ?_, rfl, rfl, rfl, rfl⟩
  rfl
theorem c_laws_markConfig (p0 : Config) (p1 : Int) (out : Int × (List Int) × (List Int) × (List Int)) (hm : m_laws_markConfig p0 p1 = some out) (E0 : TypeId) (E1 : TypeId) (E2 : TypeId) : ACall Try.prog 39 [.agg [.ow 0, .ow 1, .ow 2, .int .i64 p0.At], .int .i64 p1] [(0, .arr ⟨true, true⟩ 1 E0 (List.map a_i64 p0.State.Vars)), (1, .arr ⟨true, true⟩ 1 E1 (List.map a_i64 p0.State.Cells)), (2, .arr ⟨true, true⟩ 1 E2 (List.map a_i64 p0.Stack))] (.int .i64 out.1) [(0, .arr ⟨true, true⟩ 1 E0 (List.map a_i64 out.2.1)), (1, .arr ⟨true, true⟩ 1 E1 (List.map a_i64 out.2.2.1)), (2, .arr ⟨true, true⟩ 1 E2 (List.map a_i64 out.2.2.2))] := by
  refine ACall.intro Try.func39 rfl Try.ntmps39 rfl (fun F hF => ?_)
  unfold m_laws_markConfig at hm
  refine T_seq ?_
  refine T_region ?_
  refine TL_box 11 rfl rfl rfl rfl rfl rfl rfl ?_
  refine TL_pure rfl rfl rfl rfl (op_assign rfl) ?_
  refine TL_nil ?_
  refine T_seq ?_
  refine T_region ?_
  refine TL_pure rfl rfl rfl rfl (op_fieldAddr fa35_0 rfl rfl) ?_
  refine TL_pure rfl rfl rfl rfl (op_load_agg ag28 sz28 rfl rfl rfl) ?_
  refine TL_pure rfl rfl rfl rfl (op_move rfl) ?_
  obtain ⟨r8, hr8, hm⟩ := bindS hm
  refine TL_call [(0, 0), (1, 1)] [] [] (c_laws_markState p0.State p1 r8 hr8 _ _) Try.call30 rfl rfl rfl rfl rfl ⟨rfl, rfl, trivial⟩ rfl rfl rfl rfl rfl rfl rfl rfl rfl rfl rfl ?_
  refine TL_pure rfl rfl rfl rfl (op_assign rfl) ?_
  refine TL_nil ?_
  refine T_seq ?_
  refine T_region ?_
  refine TL_pure rfl rfl rfl rfl (op_fieldAddr fa35_1 rfl rfl) ?_
  refine TL_pure rfl rfl rfl rfl (op_load_one ag26 rfl rfl) ?_
  refine TL_pure rfl rfl rfl rfl (op_move rfl) ?_
  obtain ⟨r12, hr12, hm⟩ := bindS hm
  refine TL_call [(0, 2)] [] [] (c_laws_markInt64S p0.Stack r8.1 r12 hr12 _) Try.call31 rfl rfl rfl rfl rfl ⟨rfl, trivial⟩ rfl rfl rfl rfl rfl rfl rfl rfl rfl rfl rfl ?_
  refine TL_pure rfl rfl rfl rfl (op_assign rfl) ?_
  refine TL_nil ?_
  refine T_seq ?_
  refine T_region ?_
  refine TL_pure rfl rfl rfl rfl (op_move rfl) ?_
  refine TL_pure rfl rfl rfl rfl (op_assign rfl) ?_
  refine TL_nil ?_
  refine T_keepH [4] [0, 1, 2] rfl rfl rfl rfl (by rw [hF]; rfl) ?_
  refine T_ret ?_
  obtain rfl := someI hm
  refine ⟨[_], [0, 1, 2], ⟨rfl, trivial⟩, ?_, rfl, rfl, rfl, rfl⟩
  rfl
theorem c_laws_heldInt64S (p0 : List Int) (p1 : Int) (out : Int) (hm : m_laws_heldInt64S p0 p1 = some out) : ACall Try.prog 32 [.sl 1 (List.map a_i64 p0), .int .i64 p1] [] (.int .i64 out) [] := by
  refine ACall.intro Try.func32 rfl Try.ntmps32 rfl (fun F hF => ?_)
  unfold m_laws_heldInt64S at hm
  refine T_seq ?_
  refine T_region ?_
  refine TL_pure rfl rfl rfl rfl (op_assign rfl) ?_
  refine TL_nil ?_
  refine T_seq ?_
  refine T_seq ?_
  refine T_region ?_
  refine TL_pure rfl rfl rfl rfl (op_assign rfl) ?_
  refine TL_nil ?_
  refine T_block ?_
  refine T_keepH [0, 1, 5] [] rfl rfl rfl rfl (by rw [hF]; rfl) ?_
  refine T_loop ?_
  obtain ⟨u0, hl0, hm⟩ := bindS hm
  refine TR_iter2 (m_laws_heldInt64S_L0 p0) (fun (s0 : Int × Int) => ⟨[(0, .sl 1 (List.map a_i64 p0)), (1, .int .i64 s0.1), (5, .int .i64 s0.2)], []⟩) (fun u0 => match u0 with | .inl u0 => .exit 0 | .inr u0 => .ret) (fun u0 => match u0 with | .inl u0 => ⟨[(1, .int .i64 u0)], []⟩ | .inr u0 => ⟨[(4, .int .i64 u0)], []⟩) (fun u0 => m_laws_heldInt64S_A0 u0 = some out) hl0 hm (fun u0 hm => ?_) (fun hx0 s0 c0 hm hc0 => ?_)
  · rcases u0 with u0 | u0
    · unfold m_laws_heldInt64S_A0 at hm
      refine T_seq ?_
      refine T_region ?_
      refine TL_pure rfl rfl rfl rfl (op_move rfl) ?_
      refine TL_pure rfl rfl rfl rfl (op_assign rfl) ?_
      refine TL_nil ?_
      refine T_keepH [4] [] rfl rfl rfl rfl (by rw [hF]; rfl) ?_
      refine T_ret ?_
      obtain rfl := someI hm
      refine ⟨[_], [], ⟨rfl, trivial⟩, ?_, rfl, rfl, rfl, rfl⟩
      rfl
    · unfold m_laws_heldInt64S_A0 at hm
      obtain rfl := someI hm
      refine ⟨[_], [], ⟨rfl, trivial⟩, ?_, rfl, rfl, rfl, rfl⟩
      rfl
  · unfold m_laws_heldInt64S_L0 at hm
    refine T_seq ?_
    refine T_seq ?_
    refine T_region ?_
    refine TL_pure rfl rfl rfl rfl (op_move rfl) ?_
    refine TL_pure rfl rfl rfl rfl (op_move rfl) ?_
    refine TL_pure rfl rfl rfl rfl (op_lenT Try.underlying26 rfl (List.length_map _)) ?_
    refine TL_fact (fun _ _ _ hr => RelP.slLen (i := 7) rfl hr) (fun hlen8 => ?_)
    rw [List.length_map] at hlen8
    refine TL_pure rfl rfl rfl rfl (op_lss rfl rfl) ?_
    refine TL_nil ?_
    refine T_cond rfl (fun hq => ?_) (fun hq => ?_)
    · replace hm := condT hq hm
      refine T_skip ?_
      refine T_seq ?_
      refine T_block ?_
      refine T_seq ?_
      refine T_seq ?_
      refine T_region ?_
      refine TL_pure rfl rfl rfl rfl (op_move rfl) ?_
      refine TL_pure rfl rfl rfl rfl (op_move rfl) ?_
      obtain ⟨x14, hx14, hm⟩ := bindS hm
      refine TL_pure rfl rfl rfl rfl (op_indexT el26 rfl rfl hx14 rfl) ?_
      refine TL_pure rfl rfl rfl rfl (op_load_one ag2 rfl rfl) ?_
      refine TL_pure rfl rfl rfl rfl (op_move rfl) ?_
      refine TL_pure rfl rfl rfl rfl (op_neq rfl rfl) ?_
      refine TL_nil ?_
      refine T_cond rfl (fun hq => ?_) (fun hq => ?_)
      · replace hm := condT hq hm
        refine T_seq ?_
        refine T_region ?_
        refine TL_pure rfl rfl rfl rfl (op_assign rfl) ?_
        refine TL_nil ?_
        refine T_keepH [4] [] rfl rfl rfl rfl (by rw [hF]; rfl) ?_
        refine T_ret ?_
        obtain rfl := someI hm
        have hn := CtlOK_out hc0
        exact hx0 (.inr (-1 : Int)) hn
      · replace hm := condF hq hm
        refine T_skip ?_
        refine T_region ?_
        refine TL_pure rfl rfl rfl rfl (op_move rfl) ?_
        refine TL_pure rfl rfl rfl rfl (op_addW rfl rfl) ?_
        refine TL_pure rfl rfl rfl rfl (op_assign rfl) ?_
        refine TL_nil ?_
        refine T_region ?_
        refine TL_pure rfl rfl rfl rfl (op_move rfl) ?_
        refine TL_pure rfl rfl rfl rfl (op_addW rfl rfl) ?_
        refine TL_pure rfl rfl rfl rfl (op_assign rfl) ?_
        refine TL_nil ?_
        refine TR_keepH [0, 1, 5] [] rfl rfl rfl rfl (by rw [hF]; rfl) ?_
        obtain rfl := someI hm
        have hn := CtlOK_next hc0
        exact hn _ rfl
    · replace hm := condF hq hm
      refine T_keepH [1] [] rfl rfl rfl rfl (by rw [hF]; rfl) ?_
      refine T_exit ?_
      obtain rfl := someI hm
      have hn := CtlOK_out hc0
      exact hx0 (.inl s0.1) hn
theorem c_laws_heldState (p0 : State) (p1 : Int) (out : Int) (hm : m_laws_heldState p0 p1 = some out) : ACall Try.prog 34 [.agg [.sl 1 (List.map a_i64 p0.Vars), .sl 1 (List.map a_i64 p0.Cells)], .int .i64 p1] [] (.int .i64 out) [] := by
  refine ACall.intro Try.func34 rfl Try.ntmps34 rfl (fun F hF => ?_)
  unfold m_laws_heldState at hm
  refine T_seq ?_
  refine T_region ?_
  refine TL_box 11 rfl rfl rfl rfl rfl rfl rfl ?_
  refine TL_pure rfl rfl rfl rfl (op_assign rfl) ?_
  refine TL_nil ?_
  refine T_seq ?_
  refine T_region ?_
  refine TL_pure rfl rfl rfl rfl (op_fieldAddr fa28_0 rfl rfl) ?_
  refine TL_pure rfl rfl rfl rfl (op_load_one ag26 rfl rfl) ?_
  refine TL_pure rfl rfl rfl rfl (op_move rfl) ?_
  obtain ⟨r8, hr8, hm⟩ := bindS hm
  refine TL_callF (c_laws_heldInt64S p0.Vars p1 r8 hr8) Try.call32 rfl rfl rfl rfl rfl ?_
  refine TL_pure rfl rfl rfl rfl (op_assign rfl) ?_
  refine TL_nil ?_
  refine T_seq ?_
  refine T_seq ?_
  refine T_region ?_
  refine TL_pure rfl rfl rfl rfl (op_move rfl) ?_
  refine TL_pure rfl rfl rfl rfl (op_lss rfl rfl) ?_
  refine TL_nil ?_
  refine T_cond rfl (fun hq => ?_) (fun hq => ?_)
  · replace hm := condT hq hm
    refine T_seq ?_
    refine T_region ?_
    refine TL_pure rfl rfl rfl rfl (op_assign rfl) ?_
    refine TL_nil ?_
    refine T_keepH [4] [] rfl rfl rfl rfl (by rw [hF]; rfl) ?_
    refine T_ret ?_
    obtain rfl := someI hm
    refine ⟨[_], [], ⟨rfl, trivial⟩, ?_, rfl, rfl, rfl, rfl⟩
    rfl
  · replace hm := condF hq hm
    refine T_skip ?_
    refine T_seq ?_
    refine T_region ?_
    refine TL_pure rfl rfl rfl rfl (op_fieldAddr fa28_1 rfl rfl) ?_
    refine TL_pure rfl rfl rfl rfl (op_load_one ag26 rfl rfl) ?_
    refine TL_pure rfl rfl rfl rfl (op_move rfl) ?_
    obtain ⟨r14, hr14, hm⟩ := bindS hm
    refine TL_callF (c_laws_heldInt64S p0.Cells r8 r14 hr14) Try.call32 rfl rfl rfl rfl rfl ?_
    refine TL_pure rfl rfl rfl rfl (op_assign rfl) ?_
    refine TL_nil ?_
    refine T_seq ?_
    refine T_seq ?_
    refine T_region ?_
    refine TL_pure rfl rfl rfl rfl (op_move rfl) ?_
    refine TL_pure rfl rfl rfl rfl (op_lss rfl rfl) ?_
    refine TL_nil ?_
    refine T_cond rfl (fun hq => ?_) (fun hq => ?_)
    · replace hm := condT hq hm
      refine T_seq ?_
      refine T_region ?_
      refine TL_pure rfl rfl rfl rfl (op_assign rfl) ?_
      refine TL_nil ?_
      refine T_keepH [4] [] rfl rfl rfl rfl (by rw [hF]; rfl) ?_
      refine T_ret ?_
      obtain rfl := someI hm
      refine ⟨[_], [], ⟨rfl, trivial⟩, ?_, rfl, rfl, rfl, rfl⟩
      rfl
    · replace hm := condF hq hm
      refine T_skip ?_
      refine T_seq ?_
      refine T_region ?_
      refine TL_pure rfl rfl rfl rfl (op_move rfl) ?_
      refine TL_pure rfl rfl rfl rfl (op_assign rfl) ?_
      refine TL_nil ?_
      refine T_keepH [4] [] rfl rfl rfl rfl (by rw [hF]; rfl) ?_
      refine T_ret ?_
      obtain rfl := someI hm
      refine ⟨[_], [], ⟨rfl, trivial⟩, ?_, rfl, rfl, rfl, rfl⟩
      rfl
theorem c_laws_heldConfig (p0 : Config) (p1 : Int) (out : Int) (hm : m_laws_heldConfig p0 p1 = some out) : ACall Try.prog 40 [.agg [.sl 1 (List.map a_i64 p0.State.Vars), .sl 1 (List.map a_i64 p0.State.Cells), .sl 1 (List.map a_i64 p0.Stack), .int .i64 p0.At], .int .i64 p1] [] (.int .i64 out) [] := by
  refine ACall.intro Try.func40 rfl Try.ntmps40 rfl (fun F hF => ?_)
  unfold m_laws_heldConfig at hm
  refine T_seq ?_
  refine T_region ?_
  refine TL_box 11 rfl rfl rfl rfl rfl rfl rfl ?_
  refine TL_pure rfl rfl rfl rfl (op_assign rfl) ?_
  refine TL_nil ?_
  refine T_seq ?_
  refine T_region ?_
  refine TL_pure rfl rfl rfl rfl (op_fieldAddr fa35_0 rfl rfl) ?_
  refine TL_pure rfl rfl rfl rfl (op_load_agg ag28 sz28 rfl rfl rfl) ?_
  refine TL_pure rfl rfl rfl rfl (op_move rfl) ?_
  obtain ⟨r8, hr8, hm⟩ := bindS hm
  refine TL_callF (c_laws_heldState p0.State p1 r8 hr8) Try.call34 rfl rfl rfl rfl rfl ?_
  refine TL_pure rfl rfl rfl rfl (op_assign rfl) ?_
  refine TL_nil ?_
  refine T_seq ?_
  refine T_seq ?_
  refine T_region ?_
  refine TL_pure rfl rfl rfl rfl (op_move rfl) ?_
  refine TL_pure rfl rfl rfl rfl (op_lss rfl rfl) ?_
  refine TL_nil ?_
  refine T_cond rfl (fun hq => ?_) (fun hq => ?_)
  · replace hm := condT hq hm
    refine T_seq ?_
    refine T_region ?_
    refine TL_pure rfl rfl rfl rfl (op_assign rfl) ?_
    refine TL_nil ?_
    refine T_keepH [4] [] rfl rfl rfl rfl (by rw [hF]; rfl) ?_
    refine T_ret ?_
    obtain rfl := someI hm
    refine ⟨[_], [], ⟨rfl, trivial⟩, ?_, rfl, rfl, rfl, rfl⟩
    rfl
  · replace hm := condF hq hm
    refine T_skip ?_
    refine T_seq ?_
    refine T_region ?_
    refine TL_pure rfl rfl rfl rfl (op_fieldAddr fa35_1 rfl rfl) ?_
    refine TL_pure rfl rfl rfl rfl (op_load_one ag26 rfl rfl) ?_
    refine TL_pure rfl rfl rfl rfl (op_move rfl) ?_
    obtain ⟨r14, hr14, hm⟩ := bindS hm
    refine TL_callF (c_laws_heldInt64S p0.Stack r8 r14 hr14) Try.call32 rfl rfl rfl rfl rfl ?_
    refine TL_pure rfl rfl rfl rfl (op_assign rfl) ?_
    refine TL_nil ?_
    refine T_seq ?_
    refine T_seq ?_
    refine T_region ?_
    refine TL_pure rfl rfl rfl rfl (op_move rfl) ?_
    refine TL_pure rfl rfl rfl rfl (op_lss rfl rfl) ?_
    refine TL_nil ?_
    refine T_cond rfl (fun hq => ?_) (fun hq => ?_)
    · replace hm := condT hq hm
      refine T_seq ?_
      refine T_region ?_
      refine TL_pure rfl rfl rfl rfl (op_assign rfl) ?_
      refine TL_nil ?_
      refine T_keepH [4] [] rfl rfl rfl rfl (by rw [hF]; rfl) ?_
      refine T_ret ?_
      obtain rfl := someI hm
      refine ⟨[_], [], ⟨rfl, trivial⟩, ?_, rfl, rfl, rfl, rfl⟩
      rfl
    · replace hm := condF hq hm
      refine T_skip ?_
      refine T_seq ?_
      refine T_region ?_
      refine TL_pure rfl rfl rfl rfl (op_move rfl) ?_
      refine TL_pure rfl rfl rfl rfl (op_assign rfl) ?_
      refine TL_nil ?_
      refine T_keepH [4] [] rfl rfl rfl rfl (by rw [hF]; rfl) ?_
      refine T_ret ?_
      obtain rfl := someI hm
      refine ⟨[_], [], ⟨rfl, trivial⟩, ?_, rfl, rfl, rfl, rfl⟩
      rfl
theorem c_laws_FnExactStepCode (p0 : List Instr) (p1 : Config) (out : Bool) (hm : m_laws_FnExactStepCode p0 p1 = some out) : ACall Try.prog 6 [.sl 2 (List.map a_Instr p0), .agg [.sl 1 (List.map a_i64 p1.State.Vars), .sl 1 (List.map a_i64 p1.State.Cells), .sl 1 (List.map a_i64 p1.Stack), .int .i64 p1.At]] [] (.bool out) [] := by
  refine ACall.intro Try.func6 rfl Try.ntmps6 rfl (fun F hF => ?_)
  unfold m_laws_FnExactStepCode at hm
  refine T_seq ?_
  refine T_region ?_
  refine TL_box 11 rfl rfl rfl rfl rfl rfl rfl ?_
  refine TL_pure rfl rfl rfl rfl (op_assign rfl) ?_
  refine TL_nil ?_
  refine T_seq ?_
  refine T_region ?_
  refine TL_pure rfl rfl rfl rfl (op_assign rfl) ?_
  refine TL_nil ?_
  refine T_seq ?_
  refine T_region ?_
  refine TL_pure rfl rfl rfl rfl (op_move rfl) ?_
  refine TL_pure rfl rfl rfl rfl (op_move rfl) ?_
  obtain ⟨r22, hr22, hm⟩ := bindS hm
  refine TL_callF (c_laws_szInstrS p0 (1048576 : Int) r22 hr22) Try.call21 rfl rfl rfl rfl rfl ?_
  refine TL_pure rfl rfl rfl rfl (op_assign rfl) ?_
  refine TL_nil ?_
  refine T_seq ?_
  refine T_seq ?_
  refine T_region ?_
  refine TL_pure rfl rfl rfl rfl (op_move rfl) ?_
  refine TL_pure rfl rfl rfl rfl (op_lss rfl rfl) ?_
  refine TL_nil ?_
  refine T_cond rfl (fun hq => ?_) (fun hq => ?_)
  · replace hm := condT hq hm
    refine T_seq ?_
    refine T_region ?_
    refine TL_pure rfl rfl rfl rfl (op_assign rfl) ?_
    refine TL_nil ?_
    refine T_keepH [4] [] rfl rfl rfl rfl (by rw [hF]; rfl) ?_
    refine T_ret ?_
    obtain rfl := someI hm
    refine ⟨[_], [], ⟨rfl, trivial⟩, ?_, rfl, rfl, rfl, rfl⟩
    rfl
  · replace hm := condF hq hm
    refine T_skip ?_
    refine T_seq ?_
    refine T_region ?_
    refine TL_pure rfl rfl rfl rfl (op_load_agg ag55 sz55 rfl rfl rfl) ?_
    refine TL_pure rfl rfl rfl rfl (op_move rfl) ?_
    obtain ⟨r27, hr27, hm⟩ := bindS hm
    refine TL_callF (c_laws_szConfig p1 r22 r27 hr27) Try.call35 rfl rfl rfl rfl rfl ?_
    refine TL_pure rfl rfl rfl rfl (op_assign rfl) ?_
    refine TL_nil ?_
    refine T_seq ?_
    refine T_seq ?_
    refine T_region ?_
    refine TL_pure rfl rfl rfl rfl (op_move rfl) ?_
    refine TL_pure rfl rfl rfl rfl (op_lss rfl rfl) ?_
    refine TL_nil ?_
    refine T_cond rfl (fun hq => ?_) (fun hq => ?_)
    · replace hm := condT hq hm
      refine T_seq ?_
      refine T_region ?_
      refine TL_pure rfl rfl rfl rfl (op_assign rfl) ?_
      refine TL_nil ?_
      refine T_keepH [4] [] rfl rfl rfl rfl (by rw [hF]; rfl) ?_
      refine T_ret ?_
      obtain rfl := someI hm
      refine ⟨[_], [], ⟨rfl, trivial⟩, ?_, rfl, rfl, rfl, rfl⟩
      rfl
    · replace hm := condF hq hm
      refine T_skip ?_
      refine T_join (fun (j0 : (List Int) × (List Int) × (List Int) × Int × Int × Bool) => ⟨[(0, .sl 2 (List.map a_Instr p0)), (3, .ptr 11 0 0), (6, .ptr 30 0 0), (7, .int .i64 j0.2.2.2.2.1), (8, .bool j0.2.2.2.2.2)], [(11, .box [.sl 1 (List.map a_i64 p1.State.Vars), .sl 1 (List.map a_i64 p1.State.Cells), .sl 1 (List.map a_i64 p1.Stack), .int .i64 p1.At]), (26, .arr ⟨false, true⟩ 1 2 (List.map a_i64 j0.1)), (27, .arr ⟨false, true⟩ 1 2 (List.map a_i64 j0.2.1)), (28, .arr ⟨false, true⟩ 1 2 (List.map a_i64 j0.2.2.1)), (30, .box [.ow 26, .ow 27, .ow 28, .int .i64 j0.2.2.2.1])]⟩) (fun j0 => m_laws_FnExactStepCode_J0 p0 p1 j0 = some out) (fun j0 hm => ?_) (fun hj0 => ?_)
      · unfold m_laws_FnExactStepCode_J0 at hm
        refine T_seq ?_
        refine T_region ?_
        refine TL_pure rfl rfl rfl rfl (op_move rfl) ?_
        obtain ⟨r40, hr40, hm⟩ := bindS hm
        refine TL_callO [(1000, 47)] (c_laws_toInstrS p0 r40 hr40) Try.call24 rfl rfl rfl rfl rfl rfl rfl rfl rfl rfl rfl rfl rfl ?_
        refine TL_pure rfl rfl rfl rfl (op_assign rfl) ?_
        refine TL_nil ?_
        refine T_seq ?_
        refine T_region ?_
        refine TL_pure rfl rfl rfl rfl (op_load_agg ag55 sz55 rfl rfl rfl) ?_
        obtain ⟨r42, hr42, hm⟩ := bindS hm
        refine TL_callO [(1000, 48), (1001, 49), (1002, 50)] (c_laws_toConfig p1 r42 hr42) Try.call37 rfl rfl rfl rfl rfl rfl rfl rfl rfl rfl rfl rfl rfl ?_
        refine TL_alloc 51 z35 rfl rfl rfl rfl rfl rfl rfl ?_
        refine TL_store_box sz35 rfl rfl rfl rfl rfl rfl rfl rfl rfl ?_
        refine TL_nil ?_
        refine T_seq ?_
        refine T_region ?_
        refine TL_pure rfl rfl rfl rfl (op_move rfl) ?_
        refine TL_pure rfl rfl rfl rfl (op_load_agg ag35 sz35 rfl rfl rfl) ?_
        obtain ⟨r46, hr46, hm⟩ := bindS hm
        refine TL_callO [(1000, 52), (1001, 53), (1002, 54)] (c_impl_StepCode r40 r42 r46 hr46) Try.call17 rfl rfl rfl rfl rfl rfl rfl rfl rfl rfl rfl rfl rfl ?_
        refine TL_pure rfl rfl rfl rfl (op_move rfl) ?_
        refine TL_pure rfl rfl rfl rfl (op_extract rfl rfl) ?_
        refine TL_pure rfl rfl rfl rfl (op_extract rfl rfl) ?_
        refine TL_pure rfl rfl rfl rfl (op_extract rfl rfl) ?_
        refine TL_alloc 55 z35 rfl rfl rfl rfl rfl rfl rfl ?_
        refine TL_store_box sz35 rfl rfl rfl rfl rfl rfl rfl rfl rfl ?_
        refine TL_pure rfl rfl rfl rfl (op_assign rfl) ?_
        refine TL_pure rfl rfl rfl rfl (op_assign rfl) ?_
        refine TL_nil ?_
        refine T_seq ?_
        refine T_seq ?_
        refine T_region ?_
        refine TL_pure rfl rfl rfl rfl (op_load_agg ag35 sz35 rfl rfl rfl) ?_
        refine TL_pure rfl rfl rfl rfl (op_load_agg ag35 sz35 rfl rfl rfl) ?_
        obtain ⟨r52, hr52, hm⟩ := bindS hm
        refine TL_callF (c_laws_eqConfig r46.1 (Config.mk (State.mk j0.1 j0.2.1) j0.2.2.1 j0.2.2.2.1) r52 hr52) Try.call38 rfl rfl rfl rfl rfl ?_
        refine TL_pure rfl rfl rfl rfl (op_not rfl) ?_
        refine TL_pure rfl rfl rfl rfl (op_move rfl) ?_
        refine TL_join 4 (fun _ : Unit => ⟨[(0, .sl 2 (List.map a_Instr p0)), (3, .ptr 11 0 0), (6, .ptr 30 0 0), (7, .int .i64 j0.2.2.2.2.1), (8, .bool j0.2.2.2.2.2), (9, .ow 47), (10, .ptr 51 0 0), (11, .ptr 55 0 0), (12, .int .i64 r46.2.1), (13, .bool r46.2.2), (58, .bool ((!r52) || (!decide (r46.2.1 = j0.2.2.2.2.1))))], [(11, .box [.sl 1 (List.map a_i64 p1.State.Vars), .sl 1 (List.map a_i64 p1.State.Cells), .sl 1 (List.map a_i64 p1.Stack), .int .i64 p1.At]), (26, .arr ⟨false, true⟩ 1 2 (List.map a_i64 j0.1)), (27, .arr ⟨false, true⟩ 1 2 (List.map a_i64 j0.2.1)), (28, .arr ⟨false, true⟩ 1 2 (List.map a_i64 j0.2.2.1)), (30, .box [.ow 26, .ow 27, .ow 28, .int .i64 j0.2.2.2.1]), (47, .arr ⟨false, true⟩ 2 40 (List.map a_Instr r40)), (48, .arr ⟨false, true⟩ 1 2 (List.map a_i64 r42.State.Vars)), (49, .arr ⟨false, true⟩ 1 2 (List.map a_i64 r42.State.Cells)), (50, .arr ⟨false, true⟩ 1 2 (List.map a_i64 r42.Stack)), (51, .box [.ow 48, .ow 49, .ow 50, .int .i64 r42.At]), (52, .arr ⟨false, true⟩ 1 2 (List.map a_i64 r46.1.State.Vars)), (53, .arr ⟨false, true⟩ 1 2 (List.map a_i64 r46.1.State.Cells)), (54, .arr ⟨false, true⟩ 1 2 (List.map a_i64 r46.1.Stack)), (55, .box [.ow 52, .ow 53, .ow 54, .int .i64 r46.1.At])]⟩) (fun _ => True) (fun _ _ => ?_) (fun hjj => ?_)
        · refine TL_pure rfl rfl rfl rfl (op_move rfl) ?_
          refine TL_join 4 (fun _ : Unit => ⟨[(0, .sl 2 (List.map a_Instr p0)), (3, .ptr 11 0 0), (6, .ptr 30 0 0), (7, .int .i64 j0.2.2.2.2.1), (8, .bool j0.2.2.2.2.2), (9, .ow 47), (10, .ptr 51 0 0), (11, .ptr 55 0 0), (12, .int .i64 r46.2.1), (13, .bool r46.2.2), (63, .bool (((!r52) || (!decide (r46.2.1 = j0.2.2.2.2.1))) || (!(r46.2.2 == j0.2.2.2.2.2))))], [(11, .box [.sl 1 (List.map a_i64 p1.State.Vars), .sl 1 (List.map a_i64 p1.State.Cells), .sl 1 (List.map a_i64 p1.Stack), .int .i64 p1.At]), (26, .arr ⟨false, true⟩ 1 2 (List.map a_i64 j0.1)), (27, .arr ⟨false, true⟩ 1 2 (List.map a_i64 j0.2.1)), (28, .arr ⟨false, true⟩ 1 2 (List.map a_i64 j0.2.2.1)), (30, .box [.ow 26, .ow 27, .ow 28, .int .i64 j0.2.2.2.1]), (47, .arr ⟨false, true⟩ 2 40 (List.map a_Instr r40)), (48, .arr ⟨false, true⟩ 1 2 (List.map a_i64 r42.State.Vars)), (49, .arr ⟨false, true⟩ 1 2 (List.map a_i64 r42.State.Cells)), (50, .arr ⟨false, true⟩ 1 2 (List.map a_i64 r42.Stack)), (51, .box [.ow 48, .ow 49, .ow 50, .int .i64 r42.At]), (52, .arr ⟨false, true⟩ 1 2 (List.map a_i64 r46.1.State.Vars)), (53, .arr ⟨false, true⟩ 1 2 (List.map a_i64 r46.1.State.Cells)), (54, .arr ⟨false, true⟩ 1 2 (List.map a_i64 r46.1.Stack)), (55, .box [.ow 52, .ow 53, .ow 54, .int .i64 r46.1.At])]⟩) (fun _ => True) (fun _ _ => ?_) (fun hjj => ?_)
          · refine TL_nil ?_
            refine T_cond rfl (fun hq => ?_) (fun hq => ?_)
            · replace hm := condT hq hm
              refine T_seq ?_
              refine T_region ?_
              refine TL_pure rfl rfl rfl rfl (op_assign rfl) ?_
              refine TL_nil ?_
              refine T_keepH [4] [] rfl rfl rfl rfl (by rw [hF]; rfl) ?_
              refine T_ret ?_
              obtain rfl := someI hm
              refine ⟨[_], [], ⟨rfl, trivial⟩, ?_, rfl, rfl, rfl, rfl⟩
              rfl
            · replace hm := condF hq hm
              refine T_skip ?_
              refine T_seq ?_
              refine T_seq ?_
              refine T_region ?_
              refine TL_pure rfl rfl rfl rfl (op_move rfl) ?_
              refine TL_pure rfl rfl rfl rfl (op_move rfl) ?_
              obtain ⟨r66, hr66, hm⟩ := bindS hm
              refine TL_callO [(1000, 56)] (c_laws_toInstrS p0 r66 hr66) Try.call24 rfl rfl rfl rfl rfl rfl rfl rfl rfl rfl rfl rfl rfl ?_
              obtain ⟨r67, hr67, hm⟩ := bindS hm
              refine TL_callF (c_laws_eqInstrS r40 r66 r67 hr67) Try.call27 rfl rfl rfl rfl rfl ?_
              refine TL_pure rfl rfl rfl rfl (op_not rfl) ?_
              refine TL_nil ?_
              refine T_cond rfl (fun hq => ?_) (fun hq => ?_)
              · replace hm := condT hq hm
                refine T_seq ?_
                refine T_region ?_
                refine TL_pure rfl rfl rfl rfl (op_assign rfl) ?_
                refine TL_nil ?_
                refine T_keepH [4] [] rfl rfl rfl rfl (by rw [hF]; rfl) ?_
                refine T_ret ?_
                obtain rfl := someI hm
                refine ⟨[_], [], ⟨rfl, trivial⟩, ?_, rfl, rfl, rfl, rfl⟩
                rfl
              · replace hm := condF hq hm
                refine T_skip ?_
                refine T_seq ?_
                refine T_seq ?_
                refine T_drawZ [] mix (by kernel_rfl) rfl ?_
                obtain ⟨r71, hr71, hm⟩ := bindS hm
                obtain ⟨r72, hr72, hm⟩ := bindS hm
                refine TZ_pure 0 (by kernel_rfl) rfl rfl rfl rfl rfl (op_load_agg ag35 sz35 rfl rfl rfl) ?_
                refine TZ_pure 1 (by kernel_rfl) rfl rfl rfl rfl rfl (op_load_agg ag55 sz55 rfl rfl rfl) ?_
                refine TZ_one 2 (by kernel_rfl) rfl ?_
                refine TL_callO [(1000, 66), (1001, 67), (1002, 68)] (c_laws_toConfig p1 r71 hr71) Try.call37 rfl rfl rfl rfl rfl rfl rfl rfl rfl rfl rfl rfl rfl ?_
                refine TL_nil ?_
                refine TZ_one 3 (by kernel_rfl) rfl ?_
                refine TL_callF (c_laws_eqConfig r42 r71 r72 hr72) Try.call38 rfl rfl rfl rfl rfl ?_
                refine TL_nil ?_
                refine TZ_pure 4 (by kernel_rfl) rfl rfl rfl rfl rfl (op_not rfl) ?_
                refine TZ_done (by kernel_rfl) ?_
                refine T_cond rfl (fun hq => ?_) (fun hq => ?_)
                · replace hm := condT hq hm
                  refine T_seq ?_
                  refine T_region ?_
                  refine TL_pure rfl rfl rfl rfl (op_assign rfl) ?_
                  refine TL_nil ?_
                  refine T_keepH [4] [] rfl rfl rfl rfl (by rw [hF]; rfl) ?_
                  refine T_ret ?_
                  obtain rfl := someI hm
                  refine ⟨[_], [], ⟨rfl, trivial⟩, ?_, rfl, rfl, rfl, rfl⟩
                  rfl
                · replace hm := condF hq hm
                  refine T_skip ?_
                  refine T_seq ?_
                  refine T_region ?_
                  refine TL_pure rfl rfl rfl rfl (op_assign rfl) ?_
                  refine TL_nil ?_
                  refine T_seq ?_
                  refine T_region ?_
                  refine TL_pure rfl rfl rfl rfl (op_move rfl) ?_
                  refine TL_pure rfl rfl rfl rfl (op_move rfl) ?_
                  refine TL_pin 47 (k' := ⟨true, true⟩) (by rw [hF]; rfl) rfl rfl rfl ?_
                  obtain ⟨r76, hr76, hm⟩ := bindS hm
                  refine TL_call [(0, 47)] [] [] (c_laws_markInstrS r40 (1 : Int) r76 hr76 _) Try.call29 rfl rfl rfl rfl rfl ⟨rfl, trivial⟩ rfl rfl rfl rfl rfl rfl rfl rfl rfl rfl rfl ?_
                  refine TL_pure rfl rfl rfl rfl (op_assign rfl) ?_
                  refine TL_nil ?_
                  refine T_seq ?_
                  refine T_region ?_
                  refine TL_pure rfl rfl rfl rfl (op_load_agg ag35 sz35 rfl rfl rfl) ?_
                  refine TL_pure rfl rfl rfl rfl (op_move rfl) ?_
                  refine TL_pin 48 (k' := ⟨true, true⟩) (by rw [hF]; rfl) rfl rfl rfl ?_
                  refine TL_pin 49 (k' := ⟨true, true⟩) (by rw [hF]; rfl) rfl rfl rfl ?_
                  refine TL_pin 50 (k' := ⟨true, true⟩) (by rw [hF]; rfl) rfl rfl rfl ?_
                  obtain ⟨r79, hr79, hm⟩ := bindS hm
                  refine TL_call [(0, 48), (1, 49), (2, 50)] [] [] (c_laws_markConfig r42 r76.1 r79 hr79 _ _ _) Try.call39 rfl rfl rfl rfl rfl ⟨rfl, rfl, rfl, trivial⟩ rfl rfl rfl rfl rfl rfl rfl rfl rfl rfl rfl ?_
                  refine TL_pure rfl rfl rfl rfl (op_assign rfl) ?_
                  refine TL_nil ?_
                  refine T_seq ?_
                  refine T_seq ?_
                  refine T_region ?_
                  refine TL_pure rfl rfl rfl rfl (op_move rfl) ?_
                  refine TL_pure rfl rfl rfl rfl (op_lss rfl rfl) ?_
                  refine TL_pure rfl rfl rfl rfl (op_move rfl) ?_
                  refine TL_split 82 rfl rfl rfl (fun hq => ?_) (fun hq => ?_)
                  · replace hm := condT hq hm
                    refine TL_pass rfl rfl rfl rfl rfl rfl rfl ?_
                    refine TL_pass rfl rfl rfl rfl rfl rfl rfl ?_
                    refine TL_pass rfl rfl rfl rfl rfl rfl rfl ?_
                    refine TL_pass rfl rfl rfl rfl rfl rfl rfl ?_
                    refine TL_pure rfl rfl rfl rfl (op_pick_true rfl rfl) ?_
                    refine TL_pure rfl rfl rfl rfl (op_move rfl) ?_
                    refine TL_pass rfl rfl rfl rfl rfl rfl rfl ?_
                    refine TL_pass rfl rfl rfl rfl rfl rfl rfl ?_
                    refine TL_pass rfl rfl rfl rfl rfl rfl rfl ?_
                    refine TL_pure rfl rfl rfl rfl (op_pick_true rfl rfl) ?_
                    refine TL_pure rfl rfl rfl rfl (op_move rfl) ?_
                    refine TL_pass rfl rfl rfl rfl rfl rfl rfl ?_
                    refine TL_pass rfl rfl rfl rfl rfl rfl rfl ?_
                    refine TL_pass rfl rfl rfl rfl rfl rfl rfl ?_
                    refine TL_pure rfl rfl rfl rfl (op_pick_true rfl rfl) ?_
                    refine TL_nil ?_
                    refine T_cond_true rfl ?_
                    refine T_seq ?_
                    refine T_region ?_
                    refine TL_pure rfl rfl rfl rfl (op_assign rfl) ?_
                    refine TL_nil ?_
                    refine T_keepH [4] [] rfl rfl rfl rfl (by rw [hF]; rfl) ?_
                    refine T_ret ?_
                    obtain rfl := someI hm
                    refine ⟨[_], [], ⟨rfl, trivial⟩, ?_, rfl, rfl, rfl, rfl⟩
                    rfl
                  · replace hm := condF hq hm
                    refine TL_want rfl rfl ?_
                    refine TL_pure rfl rfl rfl rfl (op_load_agg ag35 sz35 rfl rfl rfl) ?_
                    refine TL_want rfl rfl ?_
                    refine TL_pure rfl rfl rfl rfl (op_load_agg ag35 sz35 rfl rfl rfl) ?_
                    refine TL_want rfl rfl ?_
                    obtain ⟨r85, hr85, hm⟩ := bindS hm
                    refine TL_callF (c_laws_eqConfig r46.1 (Config.mk (State.mk j0.1 j0.2.1) j0.2.2.1 j0.2.2.2.1) r85 hr85) Try.call38 rfl rfl rfl rfl rfl ?_
                    refine TL_want rfl rfl ?_
                    refine TL_pure rfl rfl rfl rfl (op_not rfl) ?_
                    refine TL_pure rfl rfl rfl rfl (op_pick_false rfl rfl) ?_
                    refine TL_pure rfl rfl rfl rfl (op_move rfl) ?_
                    refine TL_join 4 (fun _ : Unit => ⟨[(0, .sl 2 (List.map a_Instr p0)), (3, .ptr 11 0 0), (6, .ptr 30 0 0), (7, .int .i64 j0.2.2.2.2.1), (8, .bool j0.2.2.2.2.2), (11, .ptr 55 0 0), (13, .bool r46.2.2), (92, .bool ((!r85) || (!decide (r46.2.1 = j0.2.2.2.2.1))))], [(11, .box [.sl 1 (List.map a_i64 p1.State.Vars), .sl 1 (List.map a_i64 p1.State.Cells), .sl 1 (List.map a_i64 p1.Stack), .int .i64 p1.At]), (26, .arr ⟨false, true⟩ 1 2 (List.map a_i64 j0.1)), (27, .arr ⟨false, true⟩ 1 2 (List.map a_i64 j0.2.1)), (28, .arr ⟨false, true⟩ 1 2 (List.map a_i64 j0.2.2.1)), (30, .box [.ow 26, .ow 27, .ow 28, .int .i64 j0.2.2.2.1]), (52, .arr ⟨false, true⟩ 1 2 (List.map a_i64 r46.1.State.Vars)), (53, .arr ⟨false, true⟩ 1 2 (List.map a_i64 r46.1.State.Cells)), (54, .arr ⟨false, true⟩ 1 2 (List.map a_i64 r46.1.Stack)), (55, .box [.ow 52, .ow 53, .ow 54, .int .i64 r46.1.At])]⟩) (fun _ => True) (fun _ _ => ?_) (fun hjj => ?_)
                    · refine TL_pure rfl rfl rfl rfl (op_move rfl) ?_
                      refine TL_join 4 (fun _ : Unit => ⟨[(0, .sl 2 (List.map a_Instr p0)), (3, .ptr 11 0 0), (6, .ptr 30 0 0), (7, .int .i64 j0.2.2.2.2.1), (8, .bool j0.2.2.2.2.2), (11, .ptr 55 0 0), (97, .bool (((!r85) || (!decide (r46.2.1 = j0.2.2.2.2.1))) || (!(r46.2.2 == j0.2.2.2.2.2))))], [(11, .box [.sl 1 (List.map a_i64 p1.State.Vars), .sl 1 (List.map a_i64 p1.State.Cells), .sl 1 (List.map a_i64 p1.Stack), .int .i64 p1.At]), (26, .arr ⟨false, true⟩ 1 2 (List.map a_i64 j0.1)), (27, .arr ⟨false, true⟩ 1 2 (List.map a_i64 j0.2.1)), (28, .arr ⟨false, true⟩ 1 2 (List.map a_i64 j0.2.2.1)), (30, .box [.ow 26, .ow 27, .ow 28, .int .i64 j0.2.2.2.1]), (52, .arr ⟨false, true⟩ 1 2 (List.map a_i64 r46.1.State.Vars)), (53, .arr ⟨false, true⟩ 1 2 (List.map a_i64 r46.1.State.Cells)), (54, .arr ⟨false, true⟩ 1 2 (List.map a_i64 r46.1.Stack)), (55, .box [.ow 52, .ow 53, .ow 54, .int .i64 r46.1.At])]⟩) (fun _ => True) (fun _ _ => ?_) (fun hjj => ?_)
                      · refine TL_nil ?_
                        refine T_cond rfl (fun hq => ?_) (fun hq => ?_)
                        · replace hm := condT hq hm
                          refine T_seq ?_
                          refine T_region ?_
                          refine TL_pure rfl rfl rfl rfl (op_assign rfl) ?_
                          refine TL_nil ?_
                          refine T_keepH [4] [] rfl rfl rfl rfl (by rw [hF]; rfl) ?_
                          refine T_ret ?_
                          obtain rfl := someI hm
                          refine ⟨[_], [], ⟨rfl, trivial⟩, ?_, rfl, rfl, rfl, rfl⟩
                          rfl
                        · replace hm := condF hq hm
                          refine T_skip ?_
                          refine T_seq ?_
                          refine T_region ?_
                          refine TL_pure rfl rfl rfl rfl (op_assign rfl) ?_
                          refine TL_nil ?_
                          refine T_seq ?_
                          refine T_region ?_
                          refine TL_pure rfl rfl rfl rfl (op_load_agg ag35 sz35 rfl rfl rfl) ?_
                          refine TL_pure rfl rfl rfl rfl (op_move rfl) ?_
                          refine TL_pin 52 (k' := ⟨true, true⟩) (by rw [hF]; rfl) rfl rfl rfl ?_
                          refine TL_pin 53 (k' := ⟨true, true⟩) (by rw [hF]; rfl) rfl rfl rfl ?_
                          refine TL_pin 54 (k' := ⟨true, true⟩) (by rw [hF]; rfl) rfl rfl rfl ?_
                          obtain ⟨r100, hr100, hm⟩ := bindS hm
                          refine TL_call [(0, 52), (1, 53), (2, 54)] [] [] (c_laws_markConfig r46.1 (1 : Int) r100 hr100 _ _ _) Try.call39 rfl rfl rfl rfl rfl ⟨rfl, rfl, rfl, trivial⟩ rfl rfl rfl rfl rfl rfl rfl rfl rfl rfl rfl ?_
                          refine TL_pure rfl rfl rfl rfl (op_assign rfl) ?_
                          refine TL_nil ?_
                          refine T_seq ?_
                          refine T_region ?_
                          refine TL_pure rfl rfl rfl rfl (op_assign rfl) ?_
                          refine TL_nil ?_
                          refine T_seq ?_
                          refine T_region ?_
                          refine TL_pure rfl rfl rfl rfl (op_load_agg ag35 sz35 rfl rfl rfl) ?_
                          refine TL_pure rfl rfl rfl rfl (op_move rfl) ?_
                          obtain ⟨r103, hr103, hm⟩ := bindS hm
                          refine TL_callF (c_laws_heldConfig (Config.mk (State.mk r100.2.1 r100.2.2.1) r100.2.2.2 r46.1.At) (1 : Int) r103 hr103) Try.call40 rfl rfl rfl rfl rfl ?_
                          refine TL_pure rfl rfl rfl rfl (op_assign rfl) ?_
                          refine TL_nil ?_
                          refine T_seq ?_
                          refine T_seq ?_
                          refine T_region ?_
                          refine TL_pure rfl rfl rfl rfl (op_move rfl) ?_
                          refine TL_pure rfl rfl rfl rfl (op_lss rfl rfl) ?_
                          refine TL_nil ?_
                          refine T_cond rfl (fun hq => ?_) (fun hq => ?_)
                          · replace hm := condT hq hm
                            refine T_seq ?_
                            refine T_region ?_
                            refine TL_pure rfl rfl rfl rfl (op_assign rfl) ?_
                            refine TL_nil ?_
                            refine T_keepH [4] [] rfl rfl rfl rfl (by rw [hF]; rfl) ?_
                            refine T_ret ?_
                            obtain rfl := someI hm
                            refine ⟨[_], [], ⟨rfl, trivial⟩, ?_, rfl, rfl, rfl, rfl⟩
                            rfl
                          · replace hm := condF hq hm
                            refine T_skip ?_
                            refine T_seq ?_
                            refine T_seq ?_
                            refine T_region ?_
                            refine TL_pure rfl rfl rfl rfl (op_move rfl) ?_
                            refine TL_pure rfl rfl rfl rfl (op_move rfl) ?_
                            refine TL_pure rfl rfl rfl rfl (op_neq rfl rfl) ?_
                            refine TL_nil ?_
                            refine T_cond rfl (fun hq => ?_) (fun hq => ?_)
                            · replace hm := condT hq hm
                              refine T_seq ?_
                              refine T_region ?_
                              refine TL_pure rfl rfl rfl rfl (op_assign rfl) ?_
                              refine TL_nil ?_
                              refine T_keepH [4] [] rfl rfl rfl rfl (by rw [hF]; rfl) ?_
                              refine T_ret ?_
                              obtain rfl := someI hm
                              refine ⟨[_], [], ⟨rfl, trivial⟩, ?_, rfl, rfl, rfl, rfl⟩
                              rfl
                            · replace hm := condF hq hm
                              refine T_skip ?_
                              refine T_join (fun (j1 : (List Int) × (List Int) × (List Int) × Int × Int × Bool) => ⟨[(6, .ptr 30 0 0), (7, .int .i64 j0.2.2.2.2.1), (8, .bool j0.2.2.2.2.2), (11, .ptr 55 0 0), (15, .int .i64 r100.1), (17, .ptr 87 0 0), (18, .int .i64 j1.2.2.2.2.1), (19, .bool j1.2.2.2.2.2)], [(26, .arr ⟨false, true⟩ 1 2 (List.map a_i64 j0.1)), (27, .arr ⟨false, true⟩ 1 2 (List.map a_i64 j0.2.1)), (28, .arr ⟨false, true⟩ 1 2 (List.map a_i64 j0.2.2.1)), (30, .box [.ow 26, .ow 27, .ow 28, .int .i64 j0.2.2.2.1]), (52, .arr ⟨true, true⟩ 1 2 (List.map a_i64 r100.2.1)), (53, .arr ⟨true, true⟩ 1 2 (List.map a_i64 r100.2.2.1)), (54, .arr ⟨true, true⟩ 1 2 (List.map a_i64 r100.2.2.2)), (55, .box [.ow 52, .ow 53, .ow 54, .int .i64 r46.1.At]), (83, .arr ⟨false, true⟩ 1 2 (List.map a_i64 j1.1)), (84, .arr ⟨false, true⟩ 1 2 (List.map a_i64 j1.2.1)), (85, .arr ⟨false, true⟩ 1 2 (List.map a_i64 j1.2.2.1)), (87, .box [.ow 83, .ow 84, .ow 85, .int .i64 j1.2.2.2.1])]⟩) (fun j1 => m_laws_FnExactStepCode_J1 j0 r46 r100 j1 = some out) (fun j1 hm => ?_) (fun hj1 => ?_)
                              · unfold m_laws_FnExactStepCode_J1 at hm
                                refine T_seq ?_
                                refine T_seq ?_
                                refine T_region ?_
                                refine TL_pure rfl rfl rfl rfl (op_load_agg ag35 sz35 rfl rfl rfl) ?_
                                refine TL_pure rfl rfl rfl rfl (op_load_agg ag35 sz35 rfl rfl rfl) ?_
                                obtain ⟨r120, hr120, hm⟩ := bindS hm
                                refine TL_callF (c_laws_eqConfig (Config.mk (State.mk j1.1 j1.2.1) j1.2.2.1 j1.2.2.2.1) (Config.mk (State.mk j0.1 j0.2.1) j0.2.2.1 j0.2.2.2.1) r120 hr120) Try.call38 rfl rfl rfl rfl rfl ?_
                                refine TL_pure rfl rfl rfl rfl (op_not rfl) ?_
                                refine TL_pure rfl rfl rfl rfl (op_move rfl) ?_
                                refine TL_join 4 (fun _ : Unit => ⟨[(8, .bool j0.2.2.2.2.2), (11, .ptr 55 0 0), (15, .int .i64 r100.1), (19, .bool j1.2.2.2.2.2), (126, .bool ((!r120) || (!decide (j1.2.2.2.2.1 = j0.2.2.2.2.1))))], [(52, .arr ⟨true, true⟩ 1 2 (List.map a_i64 r100.2.1)), (53, .arr ⟨true, true⟩ 1 2 (List.map a_i64 r100.2.2.1)), (54, .arr ⟨true, true⟩ 1 2 (List.map a_i64 r100.2.2.2)), (55, .box [.ow 52, .ow 53, .ow 54, .int .i64 r46.1.At])]⟩) (fun _ => True) (fun _ _ => ?_) (fun hjj => ?_)
                                · refine TL_pure rfl rfl rfl rfl (op_move rfl) ?_
                                  refine TL_join 4 (fun _ : Unit => ⟨[(11, .ptr 55 0 0), (15, .int .i64 r100.1), (131, .bool (((!r120) || (!decide (j1.2.2.2.2.1 = j0.2.2.2.2.1))) || (!(j1.2.2.2.2.2 == j0.2.2.2.2.2))))], [(52, .arr ⟨true, true⟩ 1 2 (List.map a_i64 r100.2.1)), (53, .arr ⟨true, true⟩ 1 2 (List.map a_i64 r100.2.2.1)), (54, .arr ⟨true, true⟩ 1 2 (List.map a_i64 r100.2.2.2)), (55, .box [.ow 52, .ow 53, .ow 54, .int .i64 r46.1.At])]⟩) (fun _ => True) (fun _ _ => ?_) (fun hjj => ?_)
                                  · refine TL_nil ?_
                                    refine T_cond rfl (fun hq => ?_) (fun hq => ?_)
                                    · replace hm := condT hq hm
                                      refine T_seq ?_
                                      refine T_region ?_
                                      refine TL_pure rfl rfl rfl rfl (op_assign rfl) ?_
                                      refine TL_nil ?_
                                      refine T_keepH [4] [] rfl rfl rfl rfl (by rw [hF]; rfl) ?_
                                      refine T_ret ?_
                                      obtain rfl := someI hm
                                      refine ⟨[_], [], ⟨rfl, trivial⟩, ?_, rfl, rfl, rfl, rfl⟩
                                      rfl
                                    · replace hm := condF hq hm
                                      refine T_skip ?_
                                      refine T_seq ?_
                                      refine T_region ?_
                                      refine TL_pure rfl rfl rfl rfl (op_assign rfl) ?_
                                      refine TL_nil ?_
                                      refine T_seq ?_
                                      refine T_region ?_
                                      refine TL_pure rfl rfl rfl rfl (op_load_agg ag35 sz35 rfl rfl rfl) ?_
                                      refine TL_pure rfl rfl rfl rfl (op_move rfl) ?_
                                      obtain ⟨r134, hr134, hm⟩ := bindS hm
                                      refine TL_callF (c_laws_heldConfig (Config.mk (State.mk r100.2.1 r100.2.2.1) r100.2.2.2 r46.1.At) (1 : Int) r134 hr134) Try.call40 rfl rfl rfl rfl rfl ?_
                                      refine TL_pure rfl rfl rfl rfl (op_assign rfl) ?_
                                      refine TL_nil ?_
                                      refine T_seq ?_
                                      refine T_seq ?_
                                      refine T_region ?_
                                      refine TL_pure rfl rfl rfl rfl (op_move rfl) ?_
                                      refine TL_pure rfl rfl rfl rfl (op_lss rfl rfl) ?_
                                      refine TL_nil ?_
                                      refine T_cond rfl (fun hq => ?_) (fun hq => ?_)
                                      · replace hm := condT hq hm
                                        refine T_seq ?_
                                        refine T_region ?_
                                        refine TL_pure rfl rfl rfl rfl (op_assign rfl) ?_
                                        refine TL_nil ?_
                                        refine T_keepH [4] [] rfl rfl rfl rfl (by rw [hF]; rfl) ?_
                                        refine T_ret ?_
                                        obtain rfl := someI hm
                                        refine ⟨[_], [], ⟨rfl, trivial⟩, ?_, rfl, rfl, rfl, rfl⟩
                                        rfl
                                      · replace hm := condF hq hm
                                        refine T_skip ?_
                                        refine T_seq ?_
                                        refine T_seq ?_
                                        refine T_region ?_
                                        refine TL_pure rfl rfl rfl rfl (op_move rfl) ?_
                                        refine TL_pure rfl rfl rfl rfl (op_move rfl) ?_
                                        refine TL_pure rfl rfl rfl rfl (op_neq rfl rfl) ?_
                                        refine TL_nil ?_
                                        refine T_cond rfl (fun hq => ?_) (fun hq => ?_)
                                        · replace hm := condT hq hm
                                          refine T_seq ?_
                                          refine T_region ?_
                                          refine TL_pure rfl rfl rfl rfl (op_assign rfl) ?_
                                          refine TL_nil ?_
                                          refine T_keepH [4] [] rfl rfl rfl rfl (by rw [hF]; rfl) ?_
                                          refine T_ret ?_
                                          obtain rfl := someI hm
                                          refine ⟨[_], [], ⟨rfl, trivial⟩, ?_, rfl, rfl, rfl, rfl⟩
                                          rfl
                                        · replace hm := condF hq hm
                                          refine T_skip ?_
                                          refine T_seq ?_
                                          refine T_region ?_
                                          refine TL_pure rfl rfl rfl rfl (op_assign rfl) ?_
                                          refine TL_nil ?_
                                          refine T_keepH [4] [] rfl rfl rfl rfl (by rw [hF]; rfl) ?_
                                          refine T_ret ?_
                                          obtain rfl := someI hm
                                          refine ⟨[_], [], ⟨rfl, trivial⟩, ?_, rfl, rfl, rfl, rfl⟩
                                          rfl
                                  · refine TL_split 127 rfl rfl rfl (fun hq => ?_) (fun hq => ?_)
                                    · refine TL_pass rfl rfl rfl rfl rfl rfl rfl ?_
                                      refine TL_pass rfl rfl rfl rfl rfl rfl rfl ?_
                                      refine TL_pass rfl rfl rfl rfl rfl rfl rfl ?_
                                      refine TL_pure rfl rfl rfl rfl (op_pick_true rfl rfl) ?_
                                      refine TL_keepH [11, 15, 131] [52, 53, 54, 55] rfl rfl rfl rfl (by rw [hF]; rfl) ?_
                                      exact TL_cast _ (by rw [hq]; rfl) (hjj () trivial)
                                    · refine TL_want rfl rfl ?_
                                      refine TL_pure rfl rfl rfl rfl (op_move rfl) ?_
                                      refine TL_want rfl rfl ?_
                                      refine TL_pure rfl rfl rfl rfl (op_move rfl) ?_
                                      refine TL_want rfl rfl ?_
                                      refine TL_pure rfl rfl rfl rfl (op_neqB Try.underlying4 rfl rfl) ?_
                                      refine TL_pure rfl rfl rfl rfl (op_pick_false rfl rfl) ?_
                                      refine TL_keepH [11, 15, 131] [52, 53, 54, 55] rfl rfl rfl rfl (by rw [hF]; rfl) ?_
                                      exact TL_cast _ (by rw [hq]; rfl) (hjj () trivial)
                                · refine TL_split 122 rfl rfl rfl (fun hq => ?_) (fun hq => ?_)
                                  · refine TL_pass rfl rfl rfl rfl rfl rfl rfl ?_
                                    refine TL_pass rfl rfl rfl rfl rfl rfl rfl ?_
                                    refine TL_pass rfl rfl rfl rfl rfl rfl rfl ?_
                                    refine TL_pure rfl rfl rfl rfl (op_pick_true rfl rfl) ?_
                                    refine TL_keepH [8, 11, 15, 19, 126] [52, 53, 54, 55] rfl rfl rfl rfl (by rw [hF]; rfl) ?_
                                    exact TL_cast _ (by rw [hq]; rfl) (hjj () trivial)
                                  · refine TL_want rfl rfl ?_
                                    refine TL_pure rfl rfl rfl rfl (op_move rfl) ?_
                                    refine TL_want rfl rfl ?_
                                    refine TL_pure rfl rfl rfl rfl (op_move rfl) ?_
                                    refine TL_want rfl rfl ?_
                                    refine TL_pure rfl rfl rfl rfl (op_neq rfl rfl) ?_
                                    refine TL_pure rfl rfl rfl rfl (op_pick_false rfl rfl) ?_
                                    refine TL_keepH [8, 11, 15, 19, 126] [52, 53, 54, 55] rfl rfl rfl rfl (by rw [hF]; rfl) ?_
                                    exact TL_cast _ (by rw [hq]; rfl) (hjj () trivial)
                              · refine T_drawZ [10] mix (by kernel_rfl) rfl ?_
                                obtain ⟨r111, hr111, hm⟩ := bindS hm
                                obtain ⟨r113, hr113, hm⟩ := bindS hm
                                obtain ⟨r114, hr114, hm⟩ := bindS hm
                                refine TZ_pure 0 (by kernel_rfl) rfl rfl rfl rfl rfl (op_move rfl) ?_
                                refine TZ_pure 2 (by kernel_rfl) rfl rfl rfl rfl rfl (op_load_agg ag55 sz55 rfl rfl rfl) ?_
                                refine TZ_each [1, 9] (by kernel_rfl) rfl ?_
                                refine ⟨?_, ?_⟩
                                · refine ⟨_, rfl, ?_⟩
                                  refine TL_callO [(1000, 112)] (c_laws_toInstrS p0 r111 hr111) Try.call24 rfl rfl rfl rfl rfl rfl rfl rfl rfl rfl rfl rfl rfl ?_
                                  refine TL_nil ?_
                                  refine TZ_each [3, 9] (by kernel_rfl) rfl ?_
                                  refine ⟨?_, ?_⟩
                                  · refine ⟨_, rfl, ?_⟩
                                    refine TL_callO [(1000, 114), (1001, 115), (1002, 116)] (c_laws_toConfig p1 r113 hr113) Try.call37 rfl rfl rfl rfl rfl rfl rfl rfl rfl rfl rfl rfl rfl ?_
                                    refine TL_nil ?_
                                    refine TZ_each [4, 9] (by kernel_rfl) rfl ?_
                                    refine ⟨?_, ?_⟩
                                    · refine ⟨_, rfl, ?_⟩
                                      refine TL_callO [(1000, 118), (1001, 119), (1002, 120)] (c_impl_StepCode r111 r113 r114 hr114) Try.call17 rfl rfl rfl rfl rfl rfl rfl rfl rfl rfl rfl rfl rfl ?_
                                      refine TL_nil ?_
                                      refine TZ_pure 5 (by kernel_rfl) rfl rfl rfl rfl rfl (op_move rfl) ?_
                                      refine TZ_pure 6 (by kernel_rfl) rfl rfl rfl rfl rfl (op_extract rfl rfl) ?_
                                      refine TZ_pure 7 (by kernel_rfl) rfl rfl rfl rfl rfl (op_extract rfl rfl) ?_
                                      refine TZ_pure 8 (by kernel_rfl) rfl rfl rfl rfl rfl (op_extract rfl rfl) ?_
                                      refine TZ_one 9 (by kernel_rfl) rfl ?_
                                      refine TL_alloc 122 z35 rfl rfl rfl rfl rfl rfl rfl ?_
                                      refine TL_nil ?_
                                      refine TZ_one 10 (by kernel_rfl) rfl ?_
                                      refine TL_store_box sz35 rfl rfl rfl rfl rfl rfl rfl rfl rfl ?_
                                      refine TL_nil ?_
                                      refine TZ_pure 11 (by kernel_rfl) rfl rfl rfl rfl rfl (op_assign rfl) ?_
                                      refine TZ_pure 12 (by kernel_rfl) rfl rfl rfl rfl rfl (op_assign rfl) ?_
                                      refine TZ_done (by kernel_rfl) ?_
                                      refine T_keepH [6, 7, 8, 11, 15, 17, 18, 19] [26, 27, 28, 30, 52, 53, 54, 55, 118, 119, 120, 122] rfl rfl rfl rfl (by rw [hF]; rfl) ?_
                                      refine T_ren [(26, 26), (27, 27), (28, 28), (30, 30), (52, 52), (53, 53), (54, 54), (55, 55), (118, 83), (119, 84), (120, 85), (122, 87)] rfl rfl rfl (by rw [hF]; rfl) ?_
                                      exact hj1 (r114.1.State.Vars, r114.1.State.Cells, r114.1.Stack, r114.1.At, r114.2.1, r114.2.2) hm
                                    · refine ⟨_, rfl, ?_⟩
                                      refine TL_alloc 121 z35 rfl rfl rfl rfl rfl rfl rfl ?_
                                      refine TL_nil ?_
                                      refine TZ_one 4 (by kernel_rfl) rfl ?_
                                      refine TL_callO [(1000, 123), (1001, 124), (1002, 125)] (c_impl_StepCode r111 r113 r114 hr114) Try.call17 rfl rfl rfl rfl rfl rfl rfl rfl rfl rfl rfl rfl rfl ?_
                                      refine TL_nil ?_
                                      refine TZ_pure 5 (by kernel_rfl) rfl rfl rfl rfl rfl (op_move rfl) ?_
                                      refine TZ_pure 6 (by kernel_rfl) rfl rfl rfl rfl rfl (op_extract rfl rfl) ?_
                                      refine TZ_pure 7 (by kernel_rfl) rfl rfl rfl rfl rfl (op_extract rfl rfl) ?_
                                      refine TZ_pure 8 (by kernel_rfl) rfl rfl rfl rfl rfl (op_extract rfl rfl) ?_
                                      refine TZ_one 10 (by kernel_rfl) rfl ?_
                                      refine TL_store_box sz35 rfl rfl rfl rfl rfl rfl rfl rfl rfl ?_
                                      refine TL_nil ?_
                                      refine TZ_pure 11 (by kernel_rfl) rfl rfl rfl rfl rfl (op_assign rfl) ?_
                                      refine TZ_pure 12 (by kernel_rfl) rfl rfl rfl rfl rfl (op_assign rfl) ?_
                                      refine TZ_done (by kernel_rfl) ?_
                                      refine T_keepH [6, 7, 8, 11, 15, 17, 18, 19] [26, 27, 28, 30, 52, 53, 54, 55, 121, 123, 124, 125] rfl rfl rfl rfl (by rw [hF]; rfl) ?_
                                      refine T_ren [(26, 26), (27, 27), (28, 28), (30, 30), (52, 52), (53, 53), (54, 54), (55, 55), (121, 87), (123, 83), (124, 84), (125, 85)] rfl rfl rfl (by rw [hF]; rfl) ?_
                                      refine T_keepH [6, 7, 8, 11, 15, 17, 18, 19] [26, 27, 28, 30, 52, 53, 54, 55, 83, 84, 85, 87] rfl rfl rfl rfl (by rw [hF]; rfl) ?_
                                      exact hj1 (r114.1.State.Vars, r114.1.State.Cells, r114.1.Stack, r114.1.At, r114.2.1, r114.2.2) hm
                                  · refine ⟨_, rfl, ?_⟩
                                    refine TL_alloc 117 z35 rfl rfl rfl rfl rfl rfl rfl ?_
                                    refine TL_nil ?_
                                    refine TZ_one 3 (by kernel_rfl) rfl ?_
                                    refine TL_callO [(1000, 126), (1001, 127), (1002, 128)] (c_laws_toConfig p1 r113 hr113) Try.call37 rfl rfl rfl rfl rfl rfl rfl rfl rfl rfl rfl rfl rfl ?_
                                    refine TL_nil ?_
                                    refine TZ_one 4 (by kernel_rfl) rfl ?_
                                    refine TL_callO [(1000, 129), (1001, 130), (1002, 131)] (c_impl_StepCode r111 r113 r114 hr114) Try.call17 rfl rfl rfl rfl rfl rfl rfl rfl rfl rfl rfl rfl rfl ?_
                                    refine TL_nil ?_
                                    refine TZ_pure 5 (by kernel_rfl) rfl rfl rfl rfl rfl (op_move rfl) ?_
                                    refine TZ_pure 6 (by kernel_rfl) rfl rfl rfl rfl rfl (op_extract rfl rfl) ?_
                                    refine TZ_pure 7 (by kernel_rfl) rfl rfl rfl rfl rfl (op_extract rfl rfl) ?_
                                    refine TZ_pure 8 (by kernel_rfl) rfl rfl rfl rfl rfl (op_extract rfl rfl) ?_
                                    refine TZ_one 10 (by kernel_rfl) rfl ?_
                                    refine TL_store_box sz35 rfl rfl rfl rfl rfl rfl rfl rfl rfl ?_
                                    refine TL_nil ?_
                                    refine TZ_pure 11 (by kernel_rfl) rfl rfl rfl rfl rfl (op_assign rfl) ?_
                                    refine TZ_pure 12 (by kernel_rfl) rfl rfl rfl rfl rfl (op_assign rfl) ?_
                                    refine TZ_done (by kernel_rfl) ?_
                                    refine T_keepH [6, 7, 8, 11, 15, 17, 18, 19] [26, 27, 28, 30, 52, 53, 54, 55, 117, 129, 130, 131] rfl rfl rfl rfl (by rw [hF]; rfl) ?_
                                    refine T_ren [(26, 26), (27, 27), (28, 28), (30, 30), (52, 52), (53, 53), (54, 54), (55, 55), (117, 87), (129, 83), (130, 84), (131, 85)] rfl rfl rfl (by rw [hF]; rfl) ?_
                                    refine T_keepH [6, 7, 8, 11, 15, 17, 18, 19] [26, 27, 28, 30, 52, 53, 54, 55, 83, 84, 85, 87] rfl rfl rfl rfl (by rw [hF]; rfl) ?_
                                    exact hj1 (r114.1.State.Vars, r114.1.State.Cells, r114.1.Stack, r114.1.At, r114.2.1, r114.2.2) hm
                                · refine ⟨_, rfl, ?_⟩
                                  refine TL_alloc 113 z35 rfl rfl rfl rfl rfl rfl rfl ?_
                                  refine TL_nil ?_
                                  refine TZ_one 1 (by kernel_rfl) rfl ?_
                                  refine TL_callO [(1000, 132)] (c_laws_toInstrS p0 r111 hr111) Try.call24 rfl rfl rfl rfl rfl rfl rfl rfl rfl rfl rfl rfl rfl ?_
                                  refine TL_nil ?_
                                  refine TZ_one 3 (by kernel_rfl) rfl ?_
                                  refine TL_callO [(1000, 133), (1001, 134), (1002, 135)] (c_laws_toConfig p1 r113 hr113) Try.call37 rfl rfl rfl rfl rfl rfl rfl rfl rfl rfl rfl rfl rfl ?_
                                  refine TL_nil ?_
                                  refine TZ_one 4 (by kernel_rfl) rfl ?_
                                  refine TL_callO [(1000, 136), (1001, 137), (1002, 138)] (c_impl_StepCode r111 r113 r114 hr114) Try.call17 rfl rfl rfl rfl rfl rfl rfl rfl rfl rfl rfl rfl rfl ?_
                                  refine TL_nil ?_
                                  refine TZ_pure 5 (by kernel_rfl) rfl rfl rfl rfl rfl (op_move rfl) ?_
                                  refine TZ_pure 6 (by kernel_rfl) rfl rfl rfl rfl rfl (op_extract rfl rfl) ?_
                                  refine TZ_pure 7 (by kernel_rfl) rfl rfl rfl rfl rfl (op_extract rfl rfl) ?_
                                  refine TZ_pure 8 (by kernel_rfl) rfl rfl rfl rfl rfl (op_extract rfl rfl) ?_
                                  refine TZ_one 10 (by kernel_rfl) rfl ?_
                                  refine TL_store_box sz35 rfl rfl rfl rfl rfl rfl rfl rfl rfl ?_
                                  refine TL_nil ?_
                                  refine TZ_pure 11 (by kernel_rfl) rfl rfl rfl rfl rfl (op_assign rfl) ?_
                                  refine TZ_pure 12 (by kernel_rfl) rfl rfl rfl rfl rfl (op_assign rfl) ?_
                                  refine TZ_done (by kernel_rfl) ?_
                                  refine T_keepH [6, 7, 8, 11, 15, 17, 18, 19] [26, 27, 28, 30, 52, 53, 54, 55, 113, 136, 137, 138] rfl rfl rfl rfl (by rw [hF]; rfl) ?_
                                  refine T_ren [(26, 26), (27, 27), (28, 28), (30, 30), (52, 52), (53, 53), (54, 54), (55, 55), (113, 87), (136, 83), (137, 84), (138, 85)] rfl rfl rfl (by rw [hF]; rfl) ?_
                                  refine T_keepH [6, 7, 8, 11, 15, 17, 18, 19] [26, 27, 28, 30, 52, 53, 54, 55, 83, 84, 85, 87] rfl rfl rfl rfl (by rw [hF]; rfl) ?_
                                  exact hj1 (r114.1.State.Vars, r114.1.State.Cells, r114.1.Stack, r114.1.At, r114.2.1, r114.2.2) hm
                      · refine TL_split 93 rfl rfl rfl (fun hq => ?_) (fun hq => ?_)
                        · refine TL_pass rfl rfl rfl rfl rfl rfl rfl ?_
                          refine TL_pass rfl rfl rfl rfl rfl rfl rfl ?_
                          refine TL_pass rfl rfl rfl rfl rfl rfl rfl ?_
                          refine TL_pure rfl rfl rfl rfl (op_pick_true rfl rfl) ?_
                          refine TL_keepH [0, 3, 6, 7, 8, 11, 97] [11, 26, 27, 28, 30, 52, 53, 54, 55] rfl rfl rfl rfl (by rw [hF]; rfl) ?_
                          exact TL_cast _ (by rw [hq]; rfl) (hjj () trivial)
                        · refine TL_want rfl rfl ?_
                          refine TL_pure rfl rfl rfl rfl (op_move rfl) ?_
                          refine TL_want rfl rfl ?_
                          refine TL_pure rfl rfl rfl rfl (op_move rfl) ?_
                          refine TL_want rfl rfl ?_
                          refine TL_pure rfl rfl rfl rfl (op_neqB Try.underlying4 rfl rfl) ?_
                          refine TL_pure rfl rfl rfl rfl (op_pick_false rfl rfl) ?_
                          refine TL_keepH [0, 3, 6, 7, 8, 11, 97] [11, 26, 27, 28, 30, 52, 53, 54, 55] rfl rfl rfl rfl (by rw [hF]; rfl) ?_
                          exact TL_cast _ (by rw [hq]; rfl) (hjj () trivial)
                    · refine TL_split 88 rfl rfl rfl (fun hq => ?_) (fun hq => ?_)
                      · refine TL_pass rfl rfl rfl rfl rfl rfl rfl ?_
                        refine TL_pass rfl rfl rfl rfl rfl rfl rfl ?_
                        refine TL_pass rfl rfl rfl rfl rfl rfl rfl ?_
                        refine TL_pure rfl rfl rfl rfl (op_pick_true rfl rfl) ?_
                        refine TL_keepH [0, 3, 6, 7, 8, 11, 13, 92] [11, 26, 27, 28, 30, 52, 53, 54, 55] rfl rfl rfl rfl (by rw [hF]; rfl) ?_
                        exact TL_cast _ (by rw [hq]; rfl) (hjj () trivial)
                      · refine TL_want rfl rfl ?_
                        refine TL_pure rfl rfl rfl rfl (op_move rfl) ?_
                        refine TL_want rfl rfl ?_
                        refine TL_pure rfl rfl rfl rfl (op_move rfl) ?_
                        refine TL_want rfl rfl ?_
                        refine TL_pure rfl rfl rfl rfl (op_neq rfl rfl) ?_
                        refine TL_pure rfl rfl rfl rfl (op_pick_false rfl rfl) ?_
                        refine TL_keepH [0, 3, 6, 7, 8, 11, 13, 92] [11, 26, 27, 28, 30, 52, 53, 54, 55] rfl rfl rfl rfl (by rw [hF]; rfl) ?_
                        exact TL_cast _ (by rw [hq]; rfl) (hjj () trivial)
          · refine TL_split 59 rfl rfl rfl (fun hq => ?_) (fun hq => ?_)
            · refine TL_pass rfl rfl rfl rfl rfl rfl rfl ?_
              refine TL_pass rfl rfl rfl rfl rfl rfl rfl ?_
              refine TL_pass rfl rfl rfl rfl rfl rfl rfl ?_
              refine TL_pure rfl rfl rfl rfl (op_pick_true rfl rfl) ?_
              refine TL_keepH [0, 3, 6, 7, 8, 9, 10, 11, 12, 13, 63] [11, 26, 27, 28, 30, 47, 48, 49, 50, 51, 52, 53, 54, 55] rfl rfl rfl rfl (by rw [hF]; rfl) ?_
              exact TL_cast _ (by rw [hq]; rfl) (hjj () trivial)
            · refine TL_want rfl rfl ?_
              refine TL_pure rfl rfl rfl rfl (op_move rfl) ?_
              refine TL_want rfl rfl ?_
              refine TL_pure rfl rfl rfl rfl (op_move rfl) ?_
              refine TL_want rfl rfl ?_
              refine TL_pure rfl rfl rfl rfl (op_neqB Try.underlying4 rfl rfl) ?_
              refine TL_pure rfl rfl rfl rfl (op_pick_false rfl rfl) ?_
              refine TL_keepH [0, 3, 6, 7, 8, 9, 10, 11, 12, 13, 63] [11, 26, 27, 28, 30, 47, 48, 49, 50, 51, 52, 53, 54, 55] rfl rfl rfl rfl (by rw [hF]; rfl) ?_
              exact TL_cast _ (by rw [hq]; rfl) (hjj () trivial)
        · refine TL_split 54 rfl rfl rfl (fun hq => ?_) (fun hq => ?_)
          · refine TL_pass rfl rfl rfl rfl rfl rfl rfl ?_
            refine TL_pass rfl rfl rfl rfl rfl rfl rfl ?_
            refine TL_pass rfl rfl rfl rfl rfl rfl rfl ?_
            refine TL_pure rfl rfl rfl rfl (op_pick_true rfl rfl) ?_
            refine TL_keepH [0, 3, 6, 7, 8, 9, 10, 11, 12, 13, 58] [11, 26, 27, 28, 30, 47, 48, 49, 50, 51, 52, 53, 54, 55] rfl rfl rfl rfl (by rw [hF]; rfl) ?_
            exact TL_cast _ (by rw [hq]; rfl) (hjj () trivial)
          · refine TL_want rfl rfl ?_
            refine TL_pure rfl rfl rfl rfl (op_move rfl) ?_
            refine TL_want rfl rfl ?_
            refine TL_pure rfl rfl rfl rfl (op_move rfl) ?_
            refine TL_want rfl rfl ?_
            refine TL_pure rfl rfl rfl rfl (op_neq rfl rfl) ?_
            refine TL_pure rfl rfl rfl rfl (op_pick_false rfl rfl) ?_
            refine TL_keepH [0, 3, 6, 7, 8, 9, 10, 11, 12, 13, 58] [11, 26, 27, 28, 30, 47, 48, 49, 50, 51, 52, 53, 54, 55] rfl rfl rfl rfl (by rw [hF]; rfl) ?_
            exact TL_cast _ (by rw [hq]; rfl) (hjj () trivial)
      · refine T_drawZ [10] mix (by kernel_rfl) rfl ?_
        obtain ⟨r32, hr32, hm⟩ := bindS hm
        obtain ⟨r34, hr34, hm⟩ := bindS hm
        obtain ⟨r35, hr35, hm⟩ := bindS hm
        refine TZ_pure 0 (by kernel_rfl) rfl rfl rfl rfl rfl (op_move rfl) ?_
        refine TZ_pure 2 (by kernel_rfl) rfl rfl rfl rfl rfl (op_load_agg ag55 sz55 rfl rfl rfl) ?_
        refine TZ_each [1, 9] (by kernel_rfl) rfl ?_
        refine ⟨?_, ?_⟩
        · refine ⟨_, rfl, ?_⟩
          refine TL_callO [(1000, 147)] (c_laws_toInstrS p0 r32 hr32) Try.call24 rfl rfl rfl rfl rfl rfl rfl rfl rfl rfl rfl rfl rfl ?_
          refine TL_nil ?_
          refine TZ_each [3, 9] (by kernel_rfl) rfl ?_
          refine ⟨?_, ?_⟩
          · refine ⟨_, rfl, ?_⟩
            refine TL_callO [(1000, 149), (1001, 150), (1002, 151)] (c_laws_toConfig p1 r34 hr34) Try.call37 rfl rfl rfl rfl rfl rfl rfl rfl rfl rfl rfl rfl rfl ?_
            refine TL_nil ?_
            refine TZ_each [4, 9] (by kernel_rfl) rfl ?_
            refine ⟨?_, ?_⟩
            · refine ⟨_, rfl, ?_⟩
              refine TL_callO [(1000, 153), (1001, 154), (1002, 155)] (c_spec_StepCode r32 r34 r35 hr35) Try.call36 rfl rfl rfl rfl rfl rfl rfl rfl rfl rfl rfl rfl rfl ?_
              refine TL_nil ?_
              refine TZ_pure 5 (by kernel_rfl) rfl rfl rfl rfl rfl (op_move rfl) ?_
              refine TZ_pure 6 (by kernel_rfl) rfl rfl rfl rfl rfl (op_extract rfl rfl) ?_
              refine TZ_pure 7 (by kernel_rfl) rfl rfl rfl rfl rfl (op_extract rfl rfl) ?_
              refine TZ_pure 8 (by kernel_rfl) rfl rfl rfl rfl rfl (op_extract rfl rfl) ?_
              refine TZ_one 9 (by kernel_rfl) rfl ?_
              refine TL_alloc 157 z35 rfl rfl rfl rfl rfl rfl rfl ?_
              refine TL_nil ?_
              refine TZ_one 10 (by kernel_rfl) rfl ?_
              refine TL_store_box sz35 rfl rfl rfl rfl rfl rfl rfl rfl rfl ?_
              refine TL_nil ?_
              refine TZ_pure 11 (by kernel_rfl) rfl rfl rfl rfl rfl (op_assign rfl) ?_
              refine TZ_pure 12 (by kernel_rfl) rfl rfl rfl rfl rfl (op_assign rfl) ?_
              refine TZ_done (by kernel_rfl) ?_
              refine T_keepH [0, 3, 6, 7, 8] [11, 153, 154, 155, 157] rfl rfl rfl rfl (by rw [hF]; rfl) ?_
              refine T_ren [(11, 11), (153, 26), (154, 27), (155, 28), (157, 30)] rfl rfl rfl (by rw [hF]; rfl) ?_
              exact hj0 (r35.1.State.Vars, r35.1.State.Cells, r35.1.Stack, r35.1.At, r35.2.1, r35.2.2) hm
            · refine ⟨_, rfl, ?_⟩
              refine TL_alloc 156 z35 rfl rfl rfl rfl rfl rfl rfl ?_
              refine TL_nil ?_
              refine TZ_one 4 (by kernel_rfl) rfl ?_
              refine TL_callO [(1000, 158), (1001, 159), (1002, 160)] (c_spec_StepCode r32 r34 r35 hr35) Try.call36 rfl rfl rfl rfl rfl rfl rfl rfl rfl rfl rfl rfl rfl ?_
              refine TL_nil ?_
              refine TZ_pure 5 (by kernel_rfl) rfl rfl rfl rfl rfl (op_move rfl) ?_
              refine TZ_pure 6 (by kernel_rfl) rfl rfl rfl rfl rfl (op_extract rfl rfl) ?_
              refine TZ_pure 7 (by kernel_rfl) rfl rfl rfl rfl rfl (op_extract rfl rfl) ?_
              refine TZ_pure 8 (by kernel_rfl) rfl rfl rfl rfl rfl (op_extract rfl rfl) ?_
              refine TZ_one 10 (by kernel_rfl) rfl ?_
              refine TL_store_box sz35 rfl rfl rfl rfl rfl rfl rfl rfl rfl ?_
              refine TL_nil ?_
              refine TZ_pure 11 (by kernel_rfl) rfl rfl rfl rfl rfl (op_assign rfl) ?_
              refine TZ_pure 12 (by kernel_rfl) rfl rfl rfl rfl rfl (op_assign rfl) ?_
              refine TZ_done (by kernel_rfl) ?_
              refine T_keepH [0, 3, 6, 7, 8] [11, 156, 158, 159, 160] rfl rfl rfl rfl (by rw [hF]; rfl) ?_
              refine T_ren [(11, 11), (156, 30), (158, 26), (159, 27), (160, 28)] rfl rfl rfl (by rw [hF]; rfl) ?_
              refine T_keepH [0, 3, 6, 7, 8] [11, 26, 27, 28, 30] rfl rfl rfl rfl (by rw [hF]; rfl) ?_
              exact hj0 (r35.1.State.Vars, r35.1.State.Cells, r35.1.Stack, r35.1.At, r35.2.1, r35.2.2) hm
          · refine ⟨_, rfl, ?_⟩
            refine TL_alloc 152 z35 rfl rfl rfl rfl rfl rfl rfl ?_
            refine TL_nil ?_
            refine TZ_one 3 (by kernel_rfl) rfl ?_
            refine TL_callO [(1000, 161), (1001, 162), (1002, 163)] (c_laws_toConfig p1 r34 hr34) Try.call37 rfl rfl rfl rfl rfl rfl rfl rfl rfl rfl rfl rfl rfl ?_
            refine TL_nil ?_
            refine TZ_one 4 (by kernel_rfl) rfl ?_
            refine TL_callO [(1000, 164), (1001, 165), (1002, 166)] (c_spec_StepCode r32 r34 r35 hr35) Try.call36 rfl rfl rfl rfl rfl rfl rfl rfl rfl rfl rfl rfl rfl ?_
            refine TL_nil ?_
            refine TZ_pure 5 (by kernel_rfl) rfl rfl rfl rfl rfl (op_move rfl) ?_
            refine TZ_pure 6 (by kernel_rfl) rfl rfl rfl rfl rfl (op_extract rfl rfl) ?_
            refine TZ_pure 7 (by kernel_rfl) rfl rfl rfl rfl rfl (op_extract rfl rfl) ?_
            refine TZ_pure 8 (by kernel_rfl) rfl rfl rfl rfl rfl (op_extract rfl rfl) ?_
            refine TZ_one 10 (by kernel_rfl) rfl ?_
            refine TL_store_box sz35 rfl rfl rfl rfl rfl rfl rfl rfl rfl ?_
            refine TL_nil ?_
            refine TZ_pure 11 (by kernel_rfl) rfl rfl rfl rfl rfl (op_assign rfl) ?_
            refine TZ_pure 12 (by kernel_rfl) rfl rfl rfl rfl rfl (op_assign rfl) ?_
            refine TZ_done (by kernel_rfl) ?_
            refine T_keepH [0, 3, 6, 7, 8] [11, 152, 164, 165, 166] rfl rfl rfl rfl (by rw [hF]; rfl) ?_
            refine T_ren [(11, 11), (152, 30), (164, 26), (165, 27), (166, 28)] rfl rfl rfl (by rw [hF]; rfl) ?_
            refine T_keepH [0, 3, 6, 7, 8] [11, 26, 27, 28, 30] rfl rfl rfl rfl (by rw [hF]; rfl) ?_
            exact hj0 (r35.1.State.Vars, r35.1.State.Cells, r35.1.Stack, r35.1.At, r35.2.1, r35.2.2) hm
        · refine ⟨_, rfl, ?_⟩
          refine TL_alloc 148 z35 rfl rfl rfl rfl rfl rfl rfl ?_
          refine TL_nil ?_
          refine TZ_one 1 (by kernel_rfl) rfl ?_
          refine TL_callO [(1000, 167)] (c_laws_toInstrS p0 r32 hr32) Try.call24 rfl rfl rfl rfl rfl rfl rfl rfl rfl rfl rfl rfl rfl ?_
          refine TL_nil ?_
          refine TZ_one 3 (by kernel_rfl) rfl ?_
          refine TL_callO [(1000, 168), (1001, 169), (1002, 170)] (c_laws_toConfig p1 r34 hr34) Try.call37 rfl rfl rfl rfl rfl rfl rfl rfl rfl rfl rfl rfl rfl ?_
          refine TL_nil ?_
          refine TZ_one 4 (by kernel_rfl) rfl ?_
          refine TL_callO [(1000, 171), (1001, 172), (1002, 173)] (c_spec_StepCode r32 r34 r35 hr35) Try.call36 rfl rfl rfl rfl rfl rfl rfl rfl rfl rfl rfl rfl rfl ?_
          refine TL_nil ?_
          refine TZ_pure 5 (by kernel_rfl) rfl rfl rfl rfl rfl (op_move rfl) ?_
          refine TZ_pure 6 (by kernel_rfl) rfl rfl rfl rfl rfl (op_extract rfl rfl) ?_
          refine TZ_pure 7 (by kernel_rfl) rfl rfl rfl rfl rfl (op_extract rfl rfl) ?_
          refine TZ_pure 8 (by kernel_rfl) rfl rfl rfl rfl rfl (op_extract rfl rfl) ?_
          refine TZ_one 10 (by kernel_rfl) rfl ?_
          refine TL_store_box sz35 rfl rfl rfl rfl rfl rfl rfl rfl rfl ?_
          refine TL_nil ?_
          refine TZ_pure 11 (by kernel_rfl) rfl rfl rfl rfl rfl (op_assign rfl) ?_
          refine TZ_pure 12 (by kernel_rfl) rfl rfl rfl rfl rfl (op_assign rfl) ?_
          refine TZ_done (by kernel_rfl) ?_
          refine T_keepH [0, 3, 6, 7, 8] [11, 148, 171, 172, 173] rfl rfl rfl rfl (by rw [hF]; rfl) ?_
          refine T_ren [(11, 11), (148, 30), (171, 26), (172, 27), (173, 28)] rfl rfl rfl (by rw [hF]; rfl) ?_
          refine T_keepH [0, 3, 6, 7, 8] [11, 26, 27, 28, 30] rfl rfl rfl rfl (by rw [hF]; rfl) ?_
          exact hj0 (r35.1.State.Vars, r35.1.State.Cells, r35.1.Stack, r35.1.At, r35.2.1, r35.2.2) hm
end Go.Mod
