import Derived.Test.YtmnjgboladaklaaGe
namespace Go.Mod
open Go Go.AM Go.Proofs
set_option linter.unusedVariables false
set_option linter.unusedSimpArgs false
set_option maxRecDepth 100000
set_option maxHeartbeats 8000000
theorem c_spec_l09Maker_build_F (rec_spec_l09Maker_build : l09Maker → Int → Option (Int × l09Maker)) (hrec_spec_l09Maker_build : ∀ (p0 : l09Maker) (p1 : Int) (out : Int × l09Maker), rec_spec_l09Maker_build p0 p1 = some out → ACall Try.prog 91 [.ptr 0 0 0, .int .i64 p1] [(0, .box [.sl 8 (List.map a_Stmt p0.body), .ow 1, .ow 2, .ow 3, .ow 4]), (1, .arr ⟨false, true⟩ 2 172 (List.map a_Instr p0.code)), (2, .arr ⟨false, true⟩ 1 2 (List.map a_i64 p0.begin)), (3, .arr ⟨false, true⟩ 1 2 (List.map a_i64 p0.end_)), (4, .arr ⟨false, true⟩ 2 71 (List.map a_Point p0.heads))] (.int .i64 out.1) [(0, .box [.sl 8 (List.map a_Stmt out.2.body), .ow 1, .ow 2, .ow 3, .ow 4]), (1, .arr ⟨false, true⟩ 2 172 (List.map a_Instr out.2.code)), (2, .arr ⟨false, true⟩ 1 2 (List.map a_i64 out.2.begin)), (3, .arr ⟨false, true⟩ 1 2 (List.map a_i64 out.2.end_)), (4, .arr ⟨false, true⟩ 2 71 (List.map a_Point out.2.heads))]) (p0 : l09Maker) (p1 : Int) (out : Int × l09Maker) (hm : m_spec_l09Maker_build_F rec_spec_l09Maker_build p0 p1 = some out) : ACall Try.prog 91 [.ptr 0 0 0, .int .i64 p1] [(0, .box [.sl 8 (List.map a_Stmt p0.body), .ow 1, .ow 2, .ow 3, .ow 4]), (1, .arr ⟨false, true⟩ 2 172 (List.map a_Instr p0.code)), (2, .arr ⟨false, true⟩ 1 2 (List.map a_i64 p0.begin)), (3, .arr ⟨false, true⟩ 1 2 (List.map a_i64 p0.end_)), (4, .arr ⟨false, true⟩ 2 71 (List.map a_Point p0.heads))] (.int .i64 out.1) [(0, .box [.sl 8 (List.map a_Stmt out.2.body), .ow 1, .ow 2, .ow 3, .ow 4]), (1, .arr ⟨false, true⟩ 2 172 (List.map a_Instr out.2.code)), (2, .arr ⟨false, true⟩ 1 2 (List.map a_i64 out.2.begin)), (3, .arr ⟨false, true⟩ 1 2 (List.map a_i64 out.2.end_)), (4, .arr ⟨false, true⟩ 2 71 (List.map a_Point out.2.heads))] := by
  refine ACall.intro Try.func91 rfl Try.ntmps91 rfl (fun F hF => ?_)
  unfold m_spec_l09Maker_build_F at hm
  refine T_seq ?_
  refine T_region ?_
  refine TL_pure rfl rfl rfl rfl (op_assign rfl) ?_
  refine TL_nil ?_
  refine T_seq ?_
  refine T_region ?_
  refine TL_pure rfl rfl rfl rfl (op_move rfl) ?_
  refine TL_pure rfl rfl rfl rfl (op_nilCheck rfl rfl) ?_
  refine TL_pure rfl rfl rfl rfl (op_fieldAddr fa123_0 rfl rfl) ?_
  refine TL_pure rfl rfl rfl rfl (op_load_one ag31 rfl rfl) ?_
  refine TL_pure rfl rfl rfl rfl (op_move rfl) ?_
  obtain ⟨x16, hx16, hm⟩ := bindS hm
  refine TL_pure rfl rfl rfl rfl (op_indexT el31 rfl rfl hx16 rfl) ?_
  refine TL_pure rfl rfl rfl rfl (op_assign rfl) ?_
  refine TL_nil ?_
  refine T_seq ?_
  refine T_drawZ [8] mix (by kernel_rfl) rfl ?_
  obtain ⟨r23, hr23, hm⟩ := bindS hm
  obtain ⟨x24, hx24, hm⟩ := bindS hm
  refine TZ_pure 0 (by kernel_rfl) rfl rfl rfl rfl rfl (op_move rfl) ?_
  refine TZ_pure 1 (by kernel_rfl) rfl rfl rfl rfl rfl (op_nilCheck rfl rfl) ?_
  refine TZ_pure 2 (by kernel_rfl) rfl rfl rfl rfl rfl (op_fieldAddr fa123_2 rfl rfl) ?_
  refine TZ_pure 3 (by kernel_rfl) rfl rfl rfl rfl rfl (op_load_one ag27 rfl rfl) ?_
  refine TZ_pure 4 (by kernel_rfl) rfl rfl rfl rfl rfl (op_move rfl) ?_
  refine TZ_pure 5 (by kernel_rfl) rfl rfl rfl rfl rfl (op_move rfl) ?_
  refine TZ_one 6 (by kernel_rfl) rfl ?_
  refine TL_callF (c_spec_l09Maker_at p0 r23 hr23) Try.call66 rfl rfl rfl rfl rfl ?_
  refine TL_nil ?_
  refine TZ_pure 7 (by kernel_rfl) rfl rfl rfl rfl rfl (op_indexO el27 rfl rfl rfl hx24) ?_
  refine TZ_one 8 (by kernel_rfl) rfl ?_
  refine TL_storeFT sz2 rfl rfl ((getI_spec hx24).2) (v' := r23) rfl rfl rfl rfl rfl rfl rfl rfl rfl ?_
  refine TL_nil ?_
  refine TZ_done (by kernel_rfl) ?_
  refine T_seq ?_
  refine T_region ?_
  refine TL_pure rfl rfl rfl rfl (op_move rfl) ?_
  refine TL_pure rfl rfl rfl rfl (op_addW rfl rfl) ?_
  refine TL_pure rfl rfl rfl rfl (op_assign rfl) ?_
  refine TL_nil ?_
  refine T_join (fun (j1 : (List Stmt) × (List Instr) × (List Int) × (List Int) × (List Point) × Int) => ⟨[(0, .ptr 0 0 0), (1, .int .i64 p1), (6, .int .i64 j1.2.2.2.2.2)], [(0, .box [.sl 8 (List.map a_Stmt j1.1), .ow 1, .ow 2, .ow 3, .ow 4]), (1, .arr ⟨false, true⟩ 2 172 (List.map a_Instr j1.2.1)), (2, .arr ⟨false, true⟩ 1 2 (List.map a_i64 j1.2.2.1)), (3, .arr ⟨false, true⟩ 1 2 (List.map a_i64 j1.2.2.2.1)), (4, .arr ⟨false, true⟩ 2 71 (List.map a_Point j1.2.2.2.2.1))]⟩) (fun j1 => m_spec_l09Maker_build_F_J1 p1 j1 = some out) (fun j1 hm => ?_) (fun hj1 => ?_)
  · unfold m_spec_l09Maker_build_F_J1 at hm
    refine T_seq ?_
    refine T_drawZ [8] mix (by kernel_rfl) rfl ?_
    obtain ⟨r186, hr186, hm⟩ := bindS hm
    obtain ⟨x187, hx187, hm⟩ := bindS hm
    refine TZ_pure 0 (by kernel_rfl) rfl rfl rfl rfl rfl (op_move rfl) ?_
    refine TZ_pure 1 (by kernel_rfl) rfl rfl rfl rfl rfl (op_nilCheck rfl rfl) ?_
    refine TZ_pure 2 (by kernel_rfl) rfl rfl rfl rfl rfl (op_fieldAddr fa123_3 rfl rfl) ?_
    refine TZ_pure 3 (by kernel_rfl) rfl rfl rfl rfl rfl (op_load_one ag27 rfl rfl) ?_
    refine TZ_pure 4 (by kernel_rfl) rfl rfl rfl rfl rfl (op_move rfl) ?_
    refine TZ_pure 5 (by kernel_rfl) rfl rfl rfl rfl rfl (op_move rfl) ?_
    refine TZ_one 6 (by kernel_rfl) rfl ?_
    refine TL_callF (c_spec_l09Maker_at (l09Maker.mk j1.1 j1.2.1 j1.2.2.1 j1.2.2.2.1 j1.2.2.2.2.1) r186 hr186) Try.call66 rfl rfl rfl rfl rfl ?_
    refine TL_nil ?_
    refine TZ_pure 7 (by kernel_rfl) rfl rfl rfl rfl rfl (op_indexO el27 rfl rfl rfl hx187) ?_
    refine TZ_one 8 (by kernel_rfl) rfl ?_
    refine TL_storeFT sz2 rfl rfl ((getI_spec hx187).2) (v' := r186) rfl rfl rfl rfl rfl rfl rfl rfl rfl ?_
    refine TL_nil ?_
    refine TZ_done (by kernel_rfl) ?_
    refine T_seq ?_
    refine T_region ?_
    refine TL_pure rfl rfl rfl rfl (op_move rfl) ?_
    refine TL_pure rfl rfl rfl rfl (op_assign rfl) ?_
    refine TL_nil ?_
    refine T_keepH [4] [0, 1, 2, 3, 4] rfl rfl rfl rfl (by rw [hF]; rfl) ?_
    refine T_ret ?_
    obtain rfl := someI hm
    refine ⟨[_], [0, 1, 2, 3, 4], ⟨rfl, trivial⟩, ?_, rfl, rfl, rfl, rfl⟩
    rfl
  · refine T_seq ?_
    refine T_region ?_
    refine TL_pure rfl rfl rfl rfl (op_move rfl) ?_
    refine TL_pure rfl rfl rfl rfl (op_nilCheck rfl rfl) ?_
    refine TL_pure rfl rfl rfl rfl (op_fieldAddrC (n := 1) fa69_0 rfl rfl rfl) ?_
    refine TL_pure rfl rfl rfl rfl (op_load_one ag2 rfl rfl) ?_
    refine TL_nil ?_
    refine T_block ?_
    refine T_seq ?_
    refine T_region ?_
    refine TL_pure rfl rfl rfl rfl (op_eql rfl rfl) ?_
    refine TL_pure rfl rfl rfl rfl (op_assign rfl) ?_
    refine TL_nil ?_
    refine T_cond rfl (fun hq => ?_) (fun hq => ?_)
    · replace hm := condT hq hm
      refine T_region ?_
      refine TL_pure rfl rfl rfl rfl (op_move rfl) ?_
      refine TL_pure rfl rfl rfl rfl (op_move rfl) ?_
      refine TL_pure rfl rfl rfl rfl (op_move rfl) ?_
      obtain ⟨r36, hr36, hm⟩ := bindS hm
      refine TL_call [(0, 0), (1, 1), (2, 2), (3, 3), (4, 4)] [] [1, 2, 3, 4] (hrec_spec_l09Maker_build (l09Maker.mk p0.body p0.code (p0.begin.set ((p1).toNat) r23) p0.end_ p0.heads) (w64 (p1 + (1 : Int))) r36 hr36) Try.call91 rfl rfl rfl rfl rfl ⟨rfl, rfl, rfl, rfl, rfl, trivial⟩ rfl rfl rfl rfl rfl rfl rfl rfl rfl rfl rfl ?_
      obtain ⟨r37, hr37, hm⟩ := bindS hm
      refine TL_call [(0, 0), (1, 1), (2, 2), (3, 3), (4, 4)] [] [1, 2, 3, 4] (hrec_spec_l09Maker_build r36.2 r36.1 r37 hr37) Try.call91 rfl rfl rfl rfl rfl ⟨rfl, rfl, rfl, rfl, rfl, trivial⟩ rfl rfl rfl rfl rfl rfl rfl rfl rfl rfl rfl ?_
      refine TL_pure rfl rfl rfl rfl (op_assign rfl) ?_
      refine TL_nil ?_
      refine T_keepH [0, 1, 6] [0, 1, 2, 3, 4] rfl rfl rfl rfl (by rw [hF]; rfl) ?_
      exact hj1 (r37.2.body, r37.2.code, r37.2.begin, r37.2.end_, r37.2.heads, r37.1) hm
    · replace hm := condF hq hm
      refine T_seq ?_
      refine T_region ?_
      refine TL_pure rfl rfl rfl rfl (op_eql rfl rfl) ?_
      refine TL_pure rfl rfl rfl rfl (op_assign rfl) ?_
      refine TL_nil ?_
      refine T_cond rfl (fun hq => ?_) (fun hq => ?_)
      · replace hm := condT hq hm
        refine T_seq ?_
        refine T_region ?_
        refine TL_pure rfl rfl rfl rfl (op_move rfl) ?_
        refine TL_pure rfl rfl rfl rfl (op_move rfl) ?_
        refine TL_pure rfl rfl rfl rfl (op_nilCheck rfl rfl) ?_
        refine TL_pure rfl rfl rfl rfl (op_fieldAddrC (n := 2) fa69_3 rfl rfl rfl) ?_
        obtain ⟨r44, hr44, hm⟩ := bindS hm
        refine TL_call [(0, 0), (1, 1), (2, 2), (3, 3), (4, 4)] [] [1, 2, 3, 4] (c_spec_l09Maker_term (l09Maker.mk p0.body p0.code (p0.begin.set ((p1).toNat) r23) p0.end_ p0.heads) x16.Sum r44 hr44) Try.call114 rfl rfl rfl rfl rfl ⟨rfl, rfl, rfl, rfl, rfl, trivial⟩ rfl rfl rfl rfl rfl rfl rfl rfl rfl rfl rfl ?_
        refine TL_nil ?_
        refine T_region ?_
        refine TL_pure rfl rfl rfl rfl (op_move rfl) ?_
        refine TL_pure rfl rfl rfl rfl (op_move rfl) ?_
        refine TL_pure rfl rfl rfl rfl (op_nilCheck rfl rfl) ?_
        refine TL_pure rfl rfl rfl rfl (op_fieldAddrC (n := 1) fa69_1 rfl rfl rfl) ?_
        refine TL_pure rfl rfl rfl rfl (op_load_one ag2 rfl rfl) ?_
        obtain ⟨r50, hr50, hm⟩ := bindS hm
        refine TL_call [(0, 0), (1, 1), (2, 2), (3, 3), (4, 4)] [] [1, 2, 3, 4] (c_spec_l09Maker_add r44 (2 : Int) x16.Var r50 hr50) Try.call92 rfl rfl rfl rfl rfl ⟨rfl, rfl, rfl, rfl, rfl, trivial⟩ rfl rfl rfl rfl rfl rfl rfl rfl rfl rfl rfl ?_
        refine TL_nil ?_
        refine T_keepH [0, 1, 6] [0, 1, 2, 3, 4] rfl rfl rfl rfl (by rw [hF]; rfl) ?_
        exact hj1 (r50.body, r50.code, r50.begin, r50.end_, r50.heads, (w64 (p1 + (1 : Int)))) hm
      · replace hm := condF hq hm
        refine T_seq ?_
        refine T_region ?_
        refine TL_pure rfl rfl rfl rfl (op_eql rfl rfl) ?_
        refine TL_pure rfl rfl rfl rfl (op_assign rfl) ?_
        refine TL_nil ?_
        refine T_cond rfl (fun hq => ?_) (fun hq => ?_)
        · replace hm := condT hq hm
          refine T_seq ?_
          refine T_region ?_
          refine TL_pure rfl rfl rfl rfl (op_move rfl) ?_
          refine TL_pure rfl rfl rfl rfl (op_move rfl) ?_
          refine TL_pure rfl rfl rfl rfl (op_nilCheck rfl rfl) ?_
          refine TL_pure rfl rfl rfl rfl (op_fieldAddrC (n := 2) fa69_4 rfl rfl rfl) ?_
          obtain ⟨r57, hr57, hm⟩ := bindS hm
          refine TL_call [(0, 0), (1, 1), (2, 2), (3, 3), (4, 4)] [] [1, 2, 3, 4] (c_spec_l09Maker_term (l09Maker.mk p0.body p0.code (p0.begin.set ((p1).toNat) r23) p0.end_ p0.heads) x16.Index r57 hr57) Try.call114 rfl rfl rfl rfl rfl ⟨rfl, rfl, rfl, rfl, rfl, trivial⟩ rfl rfl rfl rfl rfl rfl rfl rfl rfl rfl rfl ?_
          refine TL_nil ?_
          refine T_seq ?_
          refine T_region ?_
          refine TL_pure rfl rfl rfl rfl (op_move rfl) ?_
          obtain ⟨r59, hr59, hm⟩ := bindS hm
          refine TL_call [(0, 0), (1, 1), (2, 2), (3, 3), (4, 4)] [] [1, 2, 3, 4] (c_spec_l09Maker_add r57 (7 : Int) (0 : Int) r59 hr59) Try.call92 rfl rfl rfl rfl rfl ⟨rfl, rfl, rfl, rfl, rfl, trivial⟩ rfl rfl rfl rfl rfl rfl rfl rfl rfl rfl rfl ?_
          refine TL_nil ?_
          refine T_region ?_
          refine TL_pure rfl rfl rfl rfl (op_move rfl) ?_
          refine TL_pure rfl rfl rfl rfl (op_move rfl) ?_
          refine TL_pure rfl rfl rfl rfl (op_nilCheck rfl rfl) ?_
          refine TL_pure rfl rfl rfl rfl (op_fieldAddrC (n := 1) fa69_1 rfl rfl rfl) ?_
          refine TL_pure rfl rfl rfl rfl (op_load_one ag2 rfl rfl) ?_
          obtain ⟨r65, hr65, hm⟩ := bindS hm
          refine TL_call [(0, 0), (1, 1), (2, 2), (3, 3), (4, 4)] [] [1, 2, 3, 4] (c_spec_l09Maker_add r59 (2 : Int) x16.Var r65 hr65) Try.call92 rfl rfl rfl rfl rfl ⟨rfl, rfl, rfl, rfl, rfl, trivial⟩ rfl rfl rfl rfl rfl rfl rfl rfl rfl rfl rfl ?_
          refine TL_nil ?_
          refine T_keepH [0, 1, 6] [0, 1, 2, 3, 4] rfl rfl rfl rfl (by rw [hF]; rfl) ?_
          exact hj1 (r65.body, r65.code, r65.begin, r65.end_, r65.heads, (w64 (p1 + (1 : Int)))) hm
        · replace hm := condF hq hm
          refine T_seq ?_
          refine T_region ?_
          refine TL_pure rfl rfl rfl rfl (op_eql rfl rfl) ?_
          refine TL_pure rfl rfl rfl rfl (op_assign rfl) ?_
          refine TL_nil ?_
          refine T_cond rfl (fun hq => ?_) (fun hq => ?_)
          · replace hm := condT hq hm
            refine T_seq ?_
            refine T_region ?_
            refine TL_pure rfl rfl rfl rfl (op_move rfl) ?_
            refine TL_pure rfl rfl rfl rfl (op_move rfl) ?_
            refine TL_pure rfl rfl rfl rfl (op_nilCheck rfl rfl) ?_
            refine TL_pure rfl rfl rfl rfl (op_fieldAddrC (n := 2) fa69_4 rfl rfl rfl) ?_
            obtain ⟨r72, hr72, hm⟩ := bindS hm
            refine TL_call [(0, 0), (1, 1), (2, 2), (3, 3), (4, 4)] [] [1, 2, 3, 4] (c_spec_l09Maker_term (l09Maker.mk p0.body p0.code (p0.begin.set ((p1).toNat) r23) p0.end_ p0.heads) x16.Index r72 hr72) Try.call114 rfl rfl rfl rfl rfl ⟨rfl, rfl, rfl, rfl, rfl, trivial⟩ rfl rfl rfl rfl rfl rfl rfl rfl rfl rfl rfl ?_
            refine TL_nil ?_
            refine T_seq ?_
            refine T_region ?_
            refine TL_pure rfl rfl rfl rfl (op_move rfl) ?_
            refine TL_pure rfl rfl rfl rfl (op_move rfl) ?_
            refine TL_pure rfl rfl rfl rfl (op_nilCheck rfl rfl) ?_
            refine TL_pure rfl rfl rfl rfl (op_fieldAddrC (n := 2) fa69_3 rfl rfl rfl) ?_
            obtain ⟨r77, hr77, hm⟩ := bindS hm
            refine TL_call [(0, 0), (1, 1), (2, 2), (3, 3), (4, 4)] [] [1, 2, 3, 4] (c_spec_l09Maker_term r72 x16.Sum r77 hr77) Try.call114 rfl rfl rfl rfl rfl ⟨rfl, rfl, rfl, rfl, rfl, trivial⟩ rfl rfl rfl rfl rfl rfl rfl rfl rfl rfl rfl ?_
            refine TL_nil ?_
            refine T_region ?_
            refine TL_pure rfl rfl rfl rfl (op_move rfl) ?_
            obtain ⟨r79, hr79, hm⟩ := bindS hm
            refine TL_call [(0, 0), (1, 1), (2, 2), (3, 3), (4, 4)] [] [1, 2, 3, 4] (c_spec_l09Maker_add r77 (8 : Int) (0 : Int) r79 hr79) Try.call92 rfl rfl rfl rfl rfl ⟨rfl, rfl, rfl, rfl, rfl, trivial⟩ rfl rfl rfl rfl rfl rfl rfl rfl rfl rfl rfl ?_
            refine TL_nil ?_
            refine T_keepH [0, 1, 6] [0, 1, 2, 3, 4] rfl rfl rfl rfl (by rw [hF]; rfl) ?_
            exact hj1 (r79.body, r79.code, r79.begin, r79.end_, r79.heads, (w64 (p1 + (1 : Int)))) hm
          · replace hm := condF hq hm
            refine T_seq ?_
            refine T_region ?_
            refine TL_pure rfl rfl rfl rfl (op_eql rfl rfl) ?_
            refine TL_pure rfl rfl rfl rfl (op_assign rfl) ?_
            refine TL_nil ?_
            refine T_cond rfl (fun hq => ?_) (fun hq => ?_)
            · replace hm := condT hq hm
              refine T_region ?_
              refine TL_pure rfl rfl rfl rfl (op_move rfl) ?_
              refine TL_pure rfl rfl rfl rfl (op_move rfl) ?_
              refine TL_pure rfl rfl rfl rfl (op_nilCheck rfl rfl) ?_
              refine TL_pure rfl rfl rfl rfl (op_fieldAddrC (n := 1) fa69_2 rfl rfl rfl) ?_
              refine TL_pure rfl rfl rfl rfl (op_load_one ag2 rfl rfl) ?_
              obtain ⟨r87, hr87, hm⟩ := bindS hm
              refine TL_call [(0, 0), (1, 1), (2, 2), (3, 3), (4, 4)] [] [1, 2, 3, 4] (c_spec_l09Maker_add (l09Maker.mk p0.body p0.code (p0.begin.set ((p1).toNat) r23) p0.end_ p0.heads) (9 : Int) x16.Event r87 hr87) Try.call92 rfl rfl rfl rfl rfl ⟨rfl, rfl, rfl, rfl, rfl, trivial⟩ rfl rfl rfl rfl rfl rfl rfl rfl rfl rfl rfl ?_
              refine TL_nil ?_
              refine T_keepH [0, 1, 6] [0, 1, 2, 3, 4] rfl rfl rfl rfl (by rw [hF]; rfl) ?_
              exact hj1 (r87.body, r87.code, r87.begin, r87.end_, r87.heads, (w64 (p1 + (1 : Int)))) hm
            · replace hm := condF hq hm
              refine T_seq ?_
              refine T_region ?_
              refine TL_pure rfl rfl rfl rfl (op_eql rfl rfl) ?_
              refine TL_pure rfl rfl rfl rfl (op_assign rfl) ?_
              refine TL_nil ?_
              refine T_cond rfl (fun hq => ?_) (fun hq => ?_)
              · replace hm := condT hq hm
                refine T_seq ?_
                refine T_region ?_
                refine TL_pure rfl rfl rfl rfl (op_move rfl) ?_
                refine TL_pure rfl rfl rfl rfl (op_move rfl) ?_
                refine TL_pure rfl rfl rfl rfl (op_nilCheck rfl rfl) ?_
                refine TL_pure rfl rfl rfl rfl (op_fieldAddrC (n := 2) fa69_3 rfl rfl rfl) ?_
                obtain ⟨r94, hr94, hm⟩ := bindS hm
                refine TL_call [(0, 0), (1, 1), (2, 2), (3, 3), (4, 4)] [] [1, 2, 3, 4] (c_spec_l09Maker_term (l09Maker.mk p0.body p0.code (p0.begin.set ((p1).toNat) r23) p0.end_ p0.heads) x16.Sum r94 hr94) Try.call114 rfl rfl rfl rfl rfl ⟨rfl, rfl, rfl, rfl, rfl, trivial⟩ rfl rfl rfl rfl rfl rfl rfl rfl rfl rfl rfl ?_
                refine TL_nil ?_
                refine T_region ?_
                refine TL_pure rfl rfl rfl rfl (op_move rfl) ?_
                obtain ⟨r96, hr96, hm⟩ := bindS hm
                refine TL_call [(0, 0), (1, 1), (2, 2), (3, 3), (4, 4)] [] [1, 2, 3, 4] (c_spec_l09Maker_add r94 (10 : Int) (0 : Int) r96 hr96) Try.call92 rfl rfl rfl rfl rfl ⟨rfl, rfl, rfl, rfl, rfl, trivial⟩ rfl rfl rfl rfl rfl rfl rfl rfl rfl rfl rfl ?_
                refine TL_nil ?_
                refine T_keepH [0, 1, 6] [0, 1, 2, 3, 4] rfl rfl rfl rfl (by rw [hF]; rfl) ?_
                exact hj1 (r96.body, r96.code, r96.begin, r96.end_, r96.heads, (w64 (p1 + (1 : Int)))) hm
              · replace hm := condF hq hm
                refine T_seq ?_
                refine T_region ?_
                refine TL_pure rfl rfl rfl rfl (op_eql rfl rfl) ?_
                refine TL_pure rfl rfl rfl rfl (op_assign rfl) ?_
                refine TL_nil ?_
                refine T_cond rfl (fun hq => ?_) (fun hq => ?_)
                · replace hm := condT hq hm
                  refine T_seq ?_
                  refine T_region ?_
                  refine TL_pure rfl rfl rfl rfl (op_move rfl) ?_
                  refine TL_pure rfl rfl rfl rfl (op_move rfl) ?_
                  refine TL_pure rfl rfl rfl rfl (op_nilCheck rfl rfl) ?_
                  refine TL_pure rfl rfl rfl rfl (op_fieldAddrC (n := 2) fa69_3 rfl rfl rfl) ?_
                  obtain ⟨r103, hr103, hm⟩ := bindS hm
                  refine TL_call [(0, 0), (1, 1), (2, 2), (3, 3), (4, 4)] [] [1, 2, 3, 4] (c_spec_l09Maker_term (l09Maker.mk p0.body p0.code (p0.begin.set ((p1).toNat) r23) p0.end_ p0.heads) x16.Sum r103 hr103) Try.call114 rfl rfl rfl rfl rfl ⟨rfl, rfl, rfl, rfl, rfl, trivial⟩ rfl rfl rfl rfl rfl rfl rfl rfl rfl rfl rfl ?_
                  refine TL_nil ?_
                  refine T_seq ?_
                  refine T_region ?_
                  refine TL_pure rfl rfl rfl rfl (op_move rfl) ?_
                  obtain ⟨r105, hr105, hm⟩ := bindS hm
                  refine TL_callF (c_spec_l09Maker_at r103 r105 hr105) Try.call66 rfl rfl rfl rfl rfl ?_
                  refine TL_pure rfl rfl rfl rfl (op_assign rfl) ?_
                  refine TL_nil ?_
                  refine T_seq ?_
                  refine T_region ?_
                  refine TL_pure rfl rfl rfl rfl (op_move rfl) ?_
                  obtain ⟨r107, hr107, hm⟩ := bindS hm
                  refine TL_call [(0, 0), (1, 1), (2, 2), (3, 3), (4, 4)] [] [1, 2, 3, 4] (c_spec_l09Maker_add r103 (6 : Int) (0 : Int) r107 hr107) Try.call92 rfl rfl rfl rfl rfl ⟨rfl, rfl, rfl, rfl, rfl, trivial⟩ rfl rfl rfl rfl rfl rfl rfl rfl rfl rfl rfl ?_
                  refine TL_nil ?_
                  refine T_seq ?_
                  refine T_region ?_
                  refine TL_pure rfl rfl rfl rfl (op_move rfl) ?_
                  refine TL_pure rfl rfl rfl rfl (op_move rfl) ?_
                  obtain ⟨r110, hr110, hm⟩ := bindS hm
                  refine TL_call [(0, 0), (1, 1), (2, 2), (3, 3), (4, 4)] [] [1, 2, 3, 4] (hrec_spec_l09Maker_build r107 (w64 (p1 + (1 : Int))) r110 hr110) Try.call91 rfl rfl rfl rfl rfl ⟨rfl, rfl, rfl, rfl, rfl, trivial⟩ rfl rfl rfl rfl rfl rfl rfl rfl rfl rfl rfl ?_
                  refine TL_pure rfl rfl rfl rfl (op_assign rfl) ?_
                  refine TL_nil ?_
                  refine T_seq ?_
                  refine T_region ?_
                  refine TL_pure rfl rfl rfl rfl (op_move rfl) ?_
                  obtain ⟨r112, hr112, hm⟩ := bindS hm
                  refine TL_callF (c_spec_l09Maker_at r110.2 r112 hr112) Try.call66 rfl rfl rfl rfl rfl ?_
                  refine TL_pure rfl rfl rfl rfl (op_assign rfl) ?_
                  refine TL_nil ?_
                  refine T_seq ?_
                  refine T_region ?_
                  refine TL_pure rfl rfl rfl rfl (op_move rfl) ?_
                  obtain ⟨r114, hr114, hm⟩ := bindS hm
                  refine TL_call [(0, 0), (1, 1), (2, 2), (3, 3), (4, 4)] [] [1, 2, 3, 4] (c_spec_l09Maker_add r110.2 (5 : Int) (0 : Int) r114 hr114) Try.call92 rfl rfl rfl rfl rfl ⟨rfl, rfl, rfl, rfl, rfl, trivial⟩ rfl rfl rfl rfl rfl rfl rfl rfl rfl rfl rfl ?_
                  refine TL_nil ?_
                  refine T_seq ?_
                  refine T_drawZ [9] mix (by kernel_rfl) rfl ?_
                  obtain ⟨r121, hr121, hm⟩ := bindS hm
                  obtain ⟨x122, hx122, hm⟩ := bindS hm
                  refine TZ_pure 0 (by kernel_rfl) rfl rfl rfl rfl rfl (op_move rfl) ?_
                  refine TZ_pure 1 (by kernel_rfl) rfl rfl rfl rfl rfl (op_nilCheck rfl rfl) ?_
                  refine TZ_pure 2 (by kernel_rfl) rfl rfl rfl rfl rfl (op_fieldAddr fa123_1 rfl rfl) ?_
                  refine TZ_pure 3 (by kernel_rfl) rfl rfl rfl rfl rfl (op_load_one ag60 rfl rfl) ?_
                  refine TZ_pure 4 (by kernel_rfl) rfl rfl rfl rfl rfl (op_move rfl) ?_
                  refine TZ_pure 5 (by kernel_rfl) rfl rfl rfl rfl rfl (op_move rfl) ?_
                  refine TZ_one 6 (by kernel_rfl) rfl ?_
                  refine TL_callF (c_spec_l09Maker_at r114 r121 hr121) Try.call66 rfl rfl rfl rfl rfl ?_
                  refine TL_nil ?_
                  refine TZ_pure 7 (by kernel_rfl) rfl rfl rfl rfl rfl (op_indexO el60 rfl rfl rfl hx122) ?_
                  refine TZ_pure 8 (by kernel_rfl) rfl rfl rfl rfl rfl (op_fieldAddr fa172_1 rfl rfl) ?_
                  refine TZ_one 9 (by kernel_rfl) rfl ?_
                  refine TL_storeFT sz2 rfl rfl ((getI_spec hx122).2) (v' := (Instr.mk x122.Op r121)) rfl rfl rfl rfl rfl rfl rfl rfl rfl ?_
                  refine TL_nil ?_
                  refine TZ_done (by kernel_rfl) ?_
                  refine T_seq ?_
                  refine T_region ?_
                  refine TL_pure rfl rfl rfl rfl (op_move rfl) ?_
                  refine TL_pure rfl rfl rfl rfl (op_move rfl) ?_
                  obtain ⟨r126, hr126, hm⟩ := bindS hm
                  refine TL_call [(0, 0), (1, 1), (2, 2), (3, 3), (4, 4)] [] [1, 2, 3, 4] (hrec_spec_l09Maker_build (l09Maker.mk r114.body (r114.code.set ((r105).toNat) (Instr.mk x122.Op r121)) r114.begin r114.end_ r114.heads) r110.1 r126 hr126) Try.call91 rfl rfl rfl rfl rfl ⟨rfl, rfl, rfl, rfl, rfl, trivial⟩ rfl rfl rfl rfl rfl rfl rfl rfl rfl rfl rfl ?_
                  refine TL_pure rfl rfl rfl rfl (op_assign rfl) ?_
                  refine TL_nil ?_
                  refine T_drawZ [9] mix (by kernel_rfl) rfl ?_
                  obtain ⟨r133, hr133, hm⟩ := bindS hm
                  obtain ⟨x134, hx134, hm⟩ := bindS hm
                  refine TZ_pure 0 (by kernel_rfl) rfl rfl rfl rfl rfl (op_move rfl) ?_
                  refine TZ_pure 1 (by kernel_rfl) rfl rfl rfl rfl rfl (op_nilCheck rfl rfl) ?_
                  refine TZ_pure 2 (by kernel_rfl) rfl rfl rfl rfl rfl (op_fieldAddr fa123_1 rfl rfl) ?_
                  refine TZ_pure 3 (by kernel_rfl) rfl rfl rfl rfl rfl (op_load_one ag60 rfl rfl) ?_
                  refine TZ_pure 4 (by kernel_rfl) rfl rfl rfl rfl rfl (op_move rfl) ?_
                  refine TZ_pure 5 (by kernel_rfl) rfl rfl rfl rfl rfl (op_move rfl) ?_
                  refine TZ_one 6 (by kernel_rfl) rfl ?_
                  refine TL_callF (c_spec_l09Maker_at r126.2 r133 hr133) Try.call66 rfl rfl rfl rfl rfl ?_
                  refine TL_nil ?_
                  refine TZ_pure 7 (by kernel_rfl) rfl rfl rfl rfl rfl (op_indexO el60 rfl rfl rfl hx134) ?_
                  refine TZ_pure 8 (by kernel_rfl) rfl rfl rfl rfl rfl (op_fieldAddr fa172_1 rfl rfl) ?_
                  refine TZ_one 9 (by kernel_rfl) rfl ?_
                  refine TL_storeFT sz2 rfl rfl ((getI_spec hx134).2) (v' := (Instr.mk x134.Op r133)) rfl rfl rfl rfl rfl rfl rfl rfl rfl ?_
                  refine TL_nil ?_
                  refine TZ_done (by kernel_rfl) ?_
                  refine T_keepH [0, 1, 6] [0, 1, 2, 3, 4] rfl rfl rfl rfl (by rw [hF]; rfl) ?_
                  exact hj1 (r126.2.body, (r126.2.code.set ((r112).toNat) (Instr.mk x134.Op r133)), r126.2.begin, r126.2.end_, r126.2.heads, r126.1) hm
                · replace hm := condF hq hm
                  refine T_seq ?_
                  refine T_region ?_
                  refine TL_pure rfl rfl rfl rfl (op_eql rfl rfl) ?_
                  refine TL_pure rfl rfl rfl rfl (op_assign rfl) ?_
                  refine TL_nil ?_
                  refine T_cond rfl (fun hq => ?_) (fun hq => ?_)
                  · replace hm := condT hq hm
                    refine T_seq ?_
                    refine T_region ?_
                    refine TL_pure rfl rfl rfl rfl (op_move rfl) ?_
                    obtain ⟨r139, hr139, hm⟩ := bindS hm
                    refine TL_callF (c_spec_l09Maker_at (l09Maker.mk p0.body p0.code (p0.begin.set ((p1).toNat) r23) p0.end_ p0.heads) r139 hr139) Try.call66 rfl rfl rfl rfl rfl ?_
                    refine TL_pure rfl rfl rfl rfl (op_assign rfl) ?_
                    refine TL_nil ?_
                    refine T_join (fun (j0 : List Point) => ⟨[(0, .ptr 0 0 0), (1, .int .i64 p1), (5, .cp [.int .i64 x16.Kind, .int .i64 x16.Var, .int .i64 x16.Event, .int .i64 x16.Sum.Const, .sl 1 (List.map a_i64 x16.Sum.Coeffs), .int .i64 x16.Index.Const, .sl 1 (List.map a_i64 x16.Index.Coeffs), .sl 2 (List.map a_Term x16.Facts)]), (6, .int .i64 (w64 (p1 + (1 : Int)))), (9, .int .i64 r139)], [(0, .box [.sl 8 (List.map a_Stmt p0.body), .ow 1, .ow 2, .ow 3, .ow 4]), (1, .arr ⟨false, true⟩ 2 172 (List.map a_Instr p0.code)), (2, .arr ⟨false, true⟩ 1 2 (List.map a_i64 (p0.begin.set ((p1).toNat) r23))), (3, .arr ⟨false, true⟩ 1 2 (List.map a_i64 p0.end_)), (4, .arr ⟨false, true⟩ 2 71 (List.map a_Point j0))]⟩) (fun j0 => m_spec_l09Maker_build_F_J0 rec_spec_l09Maker_build p0 p1 x16 r23 r139 j0 = some out) (fun j0 hm => ?_) (fun hj0 => ?_)
                    · unfold m_spec_l09Maker_build_F_J0 at hm
                      refine T_seq ?_
                      refine T_region ?_
                      refine TL_pure rfl rfl rfl rfl (op_move rfl) ?_
                      refine TL_pure rfl rfl rfl rfl (op_move rfl) ?_
                      refine TL_pure rfl rfl rfl rfl (op_nilCheck rfl rfl) ?_
                      refine TL_pure rfl rfl rfl rfl (op_fieldAddrC (n := 2) fa69_3 rfl rfl rfl) ?_
                      obtain ⟨r160, hr160, hm⟩ := bindS hm
                      refine TL_call [(0, 0), (1, 1), (2, 2), (3, 3), (4, 4)] [] [1, 2, 3, 4] (c_spec_l09Maker_term (l09Maker.mk p0.body p0.code (p0.begin.set ((p1).toNat) r23) p0.end_ j0) x16.Sum r160 hr160) Try.call114 rfl rfl rfl rfl rfl ⟨rfl, rfl, rfl, rfl, rfl, trivial⟩ rfl rfl rfl rfl rfl rfl rfl rfl rfl rfl rfl ?_
                      refine TL_nil ?_
                      refine T_seq ?_
                      refine T_region ?_
                      refine TL_pure rfl rfl rfl rfl (op_move rfl) ?_
                      obtain ⟨r162, hr162, hm⟩ := bindS hm
                      refine TL_callF (c_spec_l09Maker_at r160 r162 hr162) Try.call66 rfl rfl rfl rfl rfl ?_
                      refine TL_pure rfl rfl rfl rfl (op_assign rfl) ?_
                      refine TL_nil ?_
                      refine T_seq ?_
                      refine T_region ?_
                      refine TL_pure rfl rfl rfl rfl (op_move rfl) ?_
                      obtain ⟨r164, hr164, hm⟩ := bindS hm
                      refine TL_call [(0, 0), (1, 1), (2, 2), (3, 3), (4, 4)] [] [1, 2, 3, 4] (c_spec_l09Maker_add r160 (6 : Int) (0 : Int) r164 hr164) Try.call92 rfl rfl rfl rfl rfl ⟨rfl, rfl, rfl, rfl, rfl, trivial⟩ rfl rfl rfl rfl rfl rfl rfl rfl rfl rfl rfl ?_
                      refine TL_nil ?_
                      refine T_seq ?_
                      refine T_region ?_
                      refine TL_pure rfl rfl rfl rfl (op_move rfl) ?_
                      refine TL_pure rfl rfl rfl rfl (op_move rfl) ?_
                      obtain ⟨r167, hr167, hm⟩ := bindS hm
                      refine TL_call [(0, 0), (1, 1), (2, 2), (3, 3), (4, 4)] [] [1, 2, 3, 4] (hrec_spec_l09Maker_build r164 (w64 (p1 + (1 : Int))) r167 hr167) Try.call91 rfl rfl rfl rfl rfl ⟨rfl, rfl, rfl, rfl, rfl, trivial⟩ rfl rfl rfl rfl rfl rfl rfl rfl rfl rfl rfl ?_
                      refine TL_pure rfl rfl rfl rfl (op_assign rfl) ?_
                      refine TL_nil ?_
                      refine T_seq ?_
                      refine T_region ?_
                      refine TL_pure rfl rfl rfl rfl (op_move rfl) ?_
                      refine TL_pure rfl rfl rfl rfl (op_move rfl) ?_
                      obtain ⟨r170, hr170, hm⟩ := bindS hm
                      refine TL_call [(0, 0), (1, 1), (2, 2), (3, 3), (4, 4)] [] [1, 2, 3, 4] (c_spec_l09Maker_add r167.2 (5 : Int) r139 r170 hr170) Try.call92 rfl rfl rfl rfl rfl ⟨rfl, rfl, rfl, rfl, rfl, trivial⟩ rfl rfl rfl rfl rfl rfl rfl rfl rfl rfl rfl ?_
                      refine TL_nil ?_
                      refine T_drawZ [9] mix (by kernel_rfl) rfl ?_
                      obtain ⟨r177, hr177, hm⟩ := bindS hm
                      obtain ⟨x178, hx178, hm⟩ := bindS hm
                      refine TZ_pure 0 (by kernel_rfl) rfl rfl rfl rfl rfl (op_move rfl) ?_
                      refine TZ_pure 1 (by kernel_rfl) rfl rfl rfl rfl rfl (op_nilCheck rfl rfl) ?_
                      refine TZ_pure 2 (by kernel_rfl) rfl rfl rfl rfl rfl (op_fieldAddr fa123_1 rfl rfl) ?_
                      refine TZ_pure 3 (by kernel_rfl) rfl rfl rfl rfl rfl (op_load_one ag60 rfl rfl) ?_
                      refine TZ_pure 4 (by kernel_rfl) rfl rfl rfl rfl rfl (op_move rfl) ?_
                      refine TZ_pure 5 (by kernel_rfl) rfl rfl rfl rfl rfl (op_move rfl) ?_
                      refine TZ_one 6 (by kernel_rfl) rfl ?_
                      refine TL_callF (c_spec_l09Maker_at r170 r177 hr177) Try.call66 rfl rfl rfl rfl rfl ?_
                      refine TL_nil ?_
                      refine TZ_pure 7 (by kernel_rfl) rfl rfl rfl rfl rfl (op_indexO el60 rfl rfl rfl hx178) ?_
                      refine TZ_pure 8 (by kernel_rfl) rfl rfl rfl rfl rfl (op_fieldAddr fa172_1 rfl rfl) ?_
                      refine TZ_one 9 (by kernel_rfl) rfl ?_
                      refine TL_storeFT sz2 rfl rfl ((getI_spec hx178).2) (v' := (Instr.mk x178.Op r177)) rfl rfl rfl rfl rfl rfl rfl rfl rfl ?_
                      refine TL_nil ?_
                      refine TZ_done (by kernel_rfl) ?_
                      refine T_keepH [0, 1, 6] [0, 1, 2, 3, 4] rfl rfl rfl rfl (by rw [hF]; rfl) ?_
                      exact hj1 (r170.body, (r170.code.set ((r162).toNat) (Instr.mk x178.Op r177)), r170.begin, r170.end_, r170.heads, r167.1) hm
                    · refine T_drawZ [12, 13, 16] mix (by kernel_rfl) rfl ?_
                      obtain ⟨r150, hr150, hm⟩ := bindS hm
                      obtain ⟨q153, hq153, hm⟩ := bindS hm
                      refine TZ_pure 0 (by kernel_rfl) rfl rfl rfl rfl rfl (op_move rfl) ?_
                      refine TZ_pure 1 (by kernel_rfl) rfl rfl rfl rfl rfl (op_move rfl) ?_
                      refine TZ_pure 2 (by kernel_rfl) rfl rfl rfl rfl rfl (op_nilCheck rfl rfl) ?_
                      refine TZ_pure 3 (by kernel_rfl) rfl rfl rfl rfl rfl (op_fieldAddr fa123_4 rfl rfl) ?_
                      refine TZ_pure 5 (by kernel_rfl) rfl rfl rfl rfl rfl (op_move rfl) ?_
                      refine TZ_pure 6 (by kernel_rfl) rfl rfl rfl rfl rfl (op_move rfl) ?_
                      refine TZ_pure 7 (by kernel_rfl) rfl rfl rfl rfl rfl (op_nilCheck rfl rfl) ?_
                      refine TZ_pure 8 (by kernel_rfl) rfl rfl rfl rfl rfl (op_fieldAddr fa69_5 rfl rfl) ?_
                      refine TZ_cut 8 [true, true, true, true, true, true, true, true, true, false, false, false, false, false, false, false, false] ⟨[(0, .ptr 0 0 0), (1, .int .i64 p1), (4, .int .i64 (0 : Int)), (5, .cp [.int .i64 x16.Kind, .int .i64 x16.Var, .int .i64 x16.Event, .int .i64 x16.Sum.Const, .sl 1 (List.map a_i64 x16.Sum.Coeffs), .int .i64 x16.Index.Const, .sl 1 (List.map a_i64 x16.Index.Coeffs), .sl 2 (List.map a_Term x16.Facts)]), (6, .int .i64 (w64 (p1 + (1 : Int)))), (9, .int .i64 r139), (11, .ptr 0 0 0), (12, .ptr 0 0 0), (13, .ptr 0 0 0), (14, .sl 8 (List.map a_Stmt p0.body)), (15, .int .i64 p1), (16, .cp [.int .i64 x16.Kind, .int .i64 x16.Var, .int .i64 x16.Event, .int .i64 x16.Sum.Const, .sl 1 (List.map a_i64 x16.Sum.Coeffs), .int .i64 x16.Index.Const, .sl 1 (List.map a_i64 x16.Index.Coeffs), .sl 2 (List.map a_Term x16.Facts)]), (17, .ptr 0 0 0), (18, .ptr 0 0 0), (19, .ptr 0 0 2), (20, .ow 2), (21, .int .i64 p1), (22, .ptr 0 0 0), (23, .int .i64 r23), (24, .ptr 2 ((p1).toNat) 0), (25, .int .i64 p1), (26, .int .i64 (w64 (p1 + (1 : Int)))), (27, .cp [.int .i64 x16.Kind, .int .i64 x16.Var, .int .i64 x16.Event, .int .i64 x16.Sum.Const, .sl 1 (List.map a_i64 x16.Sum.Coeffs), .int .i64 x16.Index.Const, .sl 1 (List.map a_i64 x16.Index.Coeffs), .sl 2 (List.map a_Term x16.Facts)]), (28, .cp [.int .i64 x16.Kind, .int .i64 x16.Var, .int .i64 x16.Event, .int .i64 x16.Sum.Const, .sl 1 (List.map a_i64 x16.Sum.Coeffs), .int .i64 x16.Index.Const, .sl 1 (List.map a_i64 x16.Index.Coeffs), .sl 2 (List.map a_Term x16.Facts)]), (29, .cp [.int .i64 x16.Kind]), (30, .int .i64 x16.Kind), (31, .bool (decide (x16.Kind = (1 : Int)))), (32, .bool (decide (x16.Kind = (1 : Int)))), (38, .bool (decide (x16.Kind = (2 : Int)))), (39, .bool (decide (x16.Kind = (2 : Int)))), (51, .bool (decide (x16.Kind = (3 : Int)))), (52, .bool (decide (x16.Kind = (3 : Int)))), (66, .bool (decide (x16.Kind = (4 : Int)))), (67, .bool (decide (x16.Kind = (4 : Int)))), (80, .bool (decide (x16.Kind = (5 : Int)))), (81, .bool (decide (x16.Kind = (5 : Int)))), (88, .bool (decide (x16.Kind = (6 : Int)))), (89, .bool (decide (x16.Kind = (6 : Int)))), (97, .bool (decide (x16.Kind = (7 : Int)))), (98, .bool (decide (x16.Kind = (7 : Int)))), (136, .bool (decide (x16.Kind = (8 : Int)))), (137, .bool (decide (x16.Kind = (8 : Int)))), (138, .ptr 0 0 0), (139, .int .i64 r139), (140, .ptr 0 0 0), (141, .ptr 0 0 0), (142, .ptr 0 0 0), (143, .ptr 0 0 4), (144, .ow 4), (145, .int .i64 r139), (146, .cp [.int .i64 x16.Kind, .int .i64 x16.Var, .int .i64 x16.Event, .int .i64 x16.Sum.Const, .sl 1 (List.map a_i64 x16.Sum.Coeffs), .int .i64 x16.Index.Const, .sl 1 (List.map a_i64 x16.Index.Coeffs), .sl 2 (List.map a_Term x16.Facts)]), (147, .cp [.int .i64 x16.Kind, .int .i64 x16.Var, .int .i64 x16.Event, .int .i64 x16.Sum.Const, .sl 1 (List.map a_i64 x16.Sum.Coeffs), .int .i64 x16.Index.Const, .sl 1 (List.map a_i64 x16.Index.Coeffs), .sl 2 (List.map a_Term x16.Facts)]), (148, .cp [.sl 2 (List.map a_Term x16.Facts)])], [(0, .box [.sl 8 (List.map a_Stmt p0.body), .ow 1, .ow 2, .ow 3, .ow 4]), (1, .arr ⟨false, true⟩ 2 172 (List.map a_Instr p0.code)), (2, .arr ⟨false, true⟩ 1 2 (List.map a_i64 (p0.begin.set ((p1).toNat) r23))), (3, .arr ⟨false, true⟩ 1 2 (List.map a_i64 p0.end_)), (4, .arr ⟨false, true⟩ 2 71 (List.map a_Point p0.heads))]⟩ ?_ (fun hS4090_0 => ?_)
                      · refine TZ_one 9 (by kernel_rfl) rfl ?_
                        refine TL_pure rfl rfl rfl rfl (op_load_one ag30 rfl rfl) ?_
                        refine TL_nil ?_
                        refine TZ_one 10 (by kernel_rfl) rfl ?_
                        refine TL_callO [(1000, 4971)] (c_spec_l02OwnAll x16.Facts r150 hr150) Try.call78 rfl rfl rfl rfl rfl rfl rfl rfl rfl rfl rfl rfl rfl ?_
                        refine TL_nil ?_
                        refine TZ_pure 11 (by kernel_rfl) rfl rfl rfl rfl rfl (op_buildP pl71 z71 rfl rfl rfl rfl rfl) ?_
                        refine TZ_one 12 (by kernel_rfl) rfl ?_
                        refine TL_buildSliceD (ids := [4971]) (es := List.map a_Point [(Point.mk r139 r150)]) 5131 el61 z71 rfl rfl rfl rfl rfl rfl (by rw [hF]; intro j hj; simp only [List.mem_cons, List.not_mem_nil, or_false] at hj; rcases hj with rfl <;> rfl) rfl rfl rfl rfl rfl rfl ?_
                        refine TL_nil ?_
                        refine TZ_one 13 (by kernel_rfl) rfl ?_
                        refine TL_appendDT (f := a_Point) (a := p0.heads) (b := [(Point.mk r139 r150)]) el61 z71 rfl rfl rfl rfl rfl rfl rfl rfl (by rw [hF]; rfl) (capI_spec hq153) rfl rfl rfl rfl rfl ?_
                        refine TL_nil ?_
                        refine TZ_pure 14 (by kernel_rfl) rfl rfl rfl rfl rfl (op_nilCheck rfl rfl) ?_
                        refine TZ_pure 15 (by kernel_rfl) rfl rfl rfl rfl rfl (op_fieldAddr fa123_4 rfl rfl) ?_
                        refine TZ_one 16 (by kernel_rfl) rfl ?_
                        refine TL_store_box sz61 rfl rfl rfl rfl rfl rfl rfl rfl rfl ?_
                        refine TL_nil ?_
                        refine TZ_done (by kernel_rfl) ?_
                        refine T_keepH [0, 1, 5, 6, 9] [0, 1, 2, 3, 4] rfl rfl rfl rfl (by rw [hF]; rfl) ?_
                        exact hj0 (p0.heads ++ [(Point.mk r139 r150)]) hm
                      refine TZ_cut 7 [true, true, true, true, true, true, true, true, true, true, false, false, false, false, false, false, false] ⟨[(0, .ptr 0 0 0), (1, .int .i64 p1), (4, .int .i64 (0 : Int)), (5, .cp [.int .i64 x16.Kind, .int .i64 x16.Var, .int .i64 x16.Event, .int .i64 x16.Sum.Const, .sl 1 (List.map a_i64 x16.Sum.Coeffs), .int .i64 x16.Index.Const, .sl 1 (List.map a_i64 x16.Index.Coeffs), .sl 2 (List.map a_Term x16.Facts)]), (6, .int .i64 (w64 (p1 + (1 : Int)))), (9, .int .i64 r139), (11, .ptr 0 0 0), (12, .ptr 0 0 0), (13, .ptr 0 0 0), (14, .sl 8 (List.map a_Stmt p0.body)), (15, .int .i64 p1), (16, .cp [.int .i64 x16.Kind, .int .i64 x16.Var, .int .i64 x16.Event, .int .i64 x16.Sum.Const, .sl 1 (List.map a_i64 x16.Sum.Coeffs), .int .i64 x16.Index.Const, .sl 1 (List.map a_i64 x16.Index.Coeffs), .sl 2 (List.map a_Term x16.Facts)]), (17, .ptr 0 0 0), (18, .ptr 0 0 0), (19, .ptr 0 0 2), (20, .ow 2), (21, .int .i64 p1), (22, .ptr 0 0 0), (23, .int .i64 r23), (24, .ptr 2 ((p1).toNat) 0), (25, .int .i64 p1), (26, .int .i64 (w64 (p1 + (1 : Int)))), (27, .cp [.int .i64 x16.Kind, .int .i64 x16.Var, .int .i64 x16.Event, .int .i64 x16.Sum.Const, .sl 1 (List.map a_i64 x16.Sum.Coeffs), .int .i64 x16.Index.Const, .sl 1 (List.map a_i64 x16.Index.Coeffs), .sl 2 (List.map a_Term x16.Facts)]), (28, .cp [.int .i64 x16.Kind, .int .i64 x16.Var, .int .i64 x16.Event, .int .i64 x16.Sum.Const, .sl 1 (List.map a_i64 x16.Sum.Coeffs), .int .i64 x16.Index.Const, .sl 1 (List.map a_i64 x16.Index.Coeffs), .sl 2 (List.map a_Term x16.Facts)]), (29, .cp [.int .i64 x16.Kind]), (30, .int .i64 x16.Kind), (31, .bool (decide (x16.Kind = (1 : Int)))), (32, .bool (decide (x16.Kind = (1 : Int)))), (38, .bool (decide (x16.Kind = (2 : Int)))), (39, .bool (decide (x16.Kind = (2 : Int)))), (51, .bool (decide (x16.Kind = (3 : Int)))), (52, .bool (decide (x16.Kind = (3 : Int)))), (66, .bool (decide (x16.Kind = (4 : Int)))), (67, .bool (decide (x16.Kind = (4 : Int)))), (80, .bool (decide (x16.Kind = (5 : Int)))), (81, .bool (decide (x16.Kind = (5 : Int)))), (88, .bool (decide (x16.Kind = (6 : Int)))), (89, .bool (decide (x16.Kind = (6 : Int)))), (97, .bool (decide (x16.Kind = (7 : Int)))), (98, .bool (decide (x16.Kind = (7 : Int)))), (136, .bool (decide (x16.Kind = (8 : Int)))), (137, .bool (decide (x16.Kind = (8 : Int)))), (138, .ptr 0 0 0), (139, .int .i64 r139), (140, .ptr 0 0 0), (141, .ptr 0 0 0), (142, .ptr 0 0 0), (143, .ptr 0 0 4), (144, .ow 4), (145, .int .i64 r139), (146, .cp [.int .i64 x16.Kind, .int .i64 x16.Var, .int .i64 x16.Event, .int .i64 x16.Sum.Const, .sl 1 (List.map a_i64 x16.Sum.Coeffs), .int .i64 x16.Index.Const, .sl 1 (List.map a_i64 x16.Index.Coeffs), .sl 2 (List.map a_Term x16.Facts)]), (147, .cp [.int .i64 x16.Kind, .int .i64 x16.Var, .int .i64 x16.Event, .int .i64 x16.Sum.Const, .sl 1 (List.map a_i64 x16.Sum.Coeffs), .int .i64 x16.Index.Const, .sl 1 (List.map a_i64 x16.Index.Coeffs), .sl 2 (List.map a_Term x16.Facts)]), (148, .cp [.sl 2 (List.map a_Term x16.Facts)]), (149, .sl 2 (List.map a_Term x16.Facts))], [(0, .box [.sl 8 (List.map a_Stmt p0.body), .ow 1, .ow 2, .ow 3, .ow 4]), (1, .arr ⟨false, true⟩ 2 172 (List.map a_Instr p0.code)), (2, .arr ⟨false, true⟩ 1 2 (List.map a_i64 (p0.begin.set ((p1).toNat) r23))), (3, .arr ⟨false, true⟩ 1 2 (List.map a_i64 p0.end_)), (4, .arr ⟨false, true⟩ 2 71 (List.map a_Point p0.heads))]⟩ ?_ (fun hS4090_1 => ?_)
                      · refine TZ_one 10 (by kernel_rfl) rfl ?_
                        refine TL_callO [(1000, 4971)] (c_spec_l02OwnAll x16.Facts r150 hr150) Try.call78 rfl rfl rfl rfl rfl rfl rfl rfl rfl rfl rfl rfl rfl ?_
                        refine TL_nil ?_
                        refine TZ_pure 11 (by kernel_rfl) rfl rfl rfl rfl rfl (op_buildP pl71 z71 rfl rfl rfl rfl rfl) ?_
                        refine TZ_one 12 (by kernel_rfl) rfl ?_
                        refine TL_buildSliceD (ids := [4971]) (es := List.map a_Point [(Point.mk r139 r150)]) 5131 el61 z71 rfl rfl rfl rfl rfl rfl (by rw [hF]; intro j hj; simp only [List.mem_cons, List.not_mem_nil, or_false] at hj; rcases hj with rfl <;> rfl) rfl rfl rfl rfl rfl rfl ?_
                        refine TL_nil ?_
                        refine TZ_one 13 (by kernel_rfl) rfl ?_
                        refine TL_appendDT (f := a_Point) (a := p0.heads) (b := [(Point.mk r139 r150)]) el61 z71 rfl rfl rfl rfl rfl rfl rfl rfl (by rw [hF]; rfl) (capI_spec hq153) rfl rfl rfl rfl rfl ?_
                        refine TL_nil ?_
                        refine TZ_pure 14 (by kernel_rfl) rfl rfl rfl rfl rfl (op_nilCheck rfl rfl) ?_
                        refine TZ_pure 15 (by kernel_rfl) rfl rfl rfl rfl rfl (op_fieldAddr fa123_4 rfl rfl) ?_
                        refine TZ_one 16 (by kernel_rfl) rfl ?_
                        refine TL_store_box sz61 rfl rfl rfl rfl rfl rfl rfl rfl rfl ?_
                        refine TL_nil ?_
                        refine TZ_done (by kernel_rfl) ?_
                        refine T_keepH [0, 1, 5, 6, 9] [0, 1, 2, 3, 4] rfl rfl rfl rfl (by rw [hF]; rfl) ?_
                        exact hj0 (p0.heads ++ [(Point.mk r139 r150)]) hm
                      refine TZ_cut 5 [true, true, true, true, true, true, true, true, true, true, true, true, false, false, false, false, false] ⟨[(0, .ptr 0 0 0), (1, .int .i64 p1), (4, .int .i64 (0 : Int)), (5, .cp [.int .i64 x16.Kind, .int .i64 x16.Var, .int .i64 x16.Event, .int .i64 x16.Sum.Const, .sl 1 (List.map a_i64 x16.Sum.Coeffs), .int .i64 x16.Index.Const, .sl 1 (List.map a_i64 x16.Index.Coeffs), .sl 2 (List.map a_Term x16.Facts)]), (6, .int .i64 (w64 (p1 + (1 : Int)))), (9, .int .i64 r139), (11, .ptr 0 0 0), (12, .ptr 0 0 0), (13, .ptr 0 0 0), (14, .sl 8 (List.map a_Stmt p0.body)), (15, .int .i64 p1), (16, .cp [.int .i64 x16.Kind, .int .i64 x16.Var, .int .i64 x16.Event, .int .i64 x16.Sum.Const, .sl 1 (List.map a_i64 x16.Sum.Coeffs), .int .i64 x16.Index.Const, .sl 1 (List.map a_i64 x16.Index.Coeffs), .sl 2 (List.map a_Term x16.Facts)]), (17, .ptr 0 0 0), (18, .ptr 0 0 0), (19, .ptr 0 0 2), (20, .ow 2), (21, .int .i64 p1), (22, .ptr 0 0 0), (23, .int .i64 r23), (24, .ptr 2 ((p1).toNat) 0), (25, .int .i64 p1), (26, .int .i64 (w64 (p1 + (1 : Int)))), (27, .cp [.int .i64 x16.Kind, .int .i64 x16.Var, .int .i64 x16.Event, .int .i64 x16.Sum.Const, .sl 1 (List.map a_i64 x16.Sum.Coeffs), .int .i64 x16.Index.Const, .sl 1 (List.map a_i64 x16.Index.Coeffs), .sl 2 (List.map a_Term x16.Facts)]), (28, .cp [.int .i64 x16.Kind, .int .i64 x16.Var, .int .i64 x16.Event, .int .i64 x16.Sum.Const, .sl 1 (List.map a_i64 x16.Sum.Coeffs), .int .i64 x16.Index.Const, .sl 1 (List.map a_i64 x16.Index.Coeffs), .sl 2 (List.map a_Term x16.Facts)]), (29, .cp [.int .i64 x16.Kind]), (30, .int .i64 x16.Kind), (31, .bool (decide (x16.Kind = (1 : Int)))), (32, .bool (decide (x16.Kind = (1 : Int)))), (38, .bool (decide (x16.Kind = (2 : Int)))), (39, .bool (decide (x16.Kind = (2 : Int)))), (51, .bool (decide (x16.Kind = (3 : Int)))), (52, .bool (decide (x16.Kind = (3 : Int)))), (66, .bool (decide (x16.Kind = (4 : Int)))), (67, .bool (decide (x16.Kind = (4 : Int)))), (80, .bool (decide (x16.Kind = (5 : Int)))), (81, .bool (decide (x16.Kind = (5 : Int)))), (88, .bool (decide (x16.Kind = (6 : Int)))), (89, .bool (decide (x16.Kind = (6 : Int)))), (97, .bool (decide (x16.Kind = (7 : Int)))), (98, .bool (decide (x16.Kind = (7 : Int)))), (136, .bool (decide (x16.Kind = (8 : Int)))), (137, .bool (decide (x16.Kind = (8 : Int)))), (138, .ptr 0 0 0), (139, .int .i64 r139), (140, .ptr 0 0 0), (141, .ptr 0 0 0), (142, .ptr 0 0 0), (143, .ptr 0 0 4), (144, .ow 4), (145, .int .i64 r139), (146, .cp [.int .i64 x16.Kind, .int .i64 x16.Var, .int .i64 x16.Event, .int .i64 x16.Sum.Const, .sl 1 (List.map a_i64 x16.Sum.Coeffs), .int .i64 x16.Index.Const, .sl 1 (List.map a_i64 x16.Index.Coeffs), .sl 2 (List.map a_Term x16.Facts)]), (147, .cp [.int .i64 x16.Kind, .int .i64 x16.Var, .int .i64 x16.Event, .int .i64 x16.Sum.Const, .sl 1 (List.map a_i64 x16.Sum.Coeffs), .int .i64 x16.Index.Const, .sl 1 (List.map a_i64 x16.Index.Coeffs), .sl 2 (List.map a_Term x16.Facts)]), (148, .cp [.sl 2 (List.map a_Term x16.Facts)]), (149, .sl 2 (List.map a_Term x16.Facts)), (150, .ow 4971), (151, .agg [.int .i64 r139, .ow 4971])], [(0, .box [.sl 8 (List.map a_Stmt p0.body), .ow 1, .ow 2, .ow 3, .ow 4]), (1, .arr ⟨false, true⟩ 2 172 (List.map a_Instr p0.code)), (2, .arr ⟨false, true⟩ 1 2 (List.map a_i64 (p0.begin.set ((p1).toNat) r23))), (3, .arr ⟨false, true⟩ 1 2 (List.map a_i64 p0.end_)), (4, .arr ⟨false, true⟩ 2 71 (List.map a_Point p0.heads)), (4971, .arr ⟨false, true⟩ 2 67 (List.map a_Term r150))]⟩ ?_ (fun hS4090_2 => ?_)
                      · refine TZ_one 12 (by kernel_rfl) rfl ?_
                        refine TL_buildSliceD (ids := [4971]) (es := List.map a_Point [(Point.mk r139 r150)]) 5131 el61 z71 rfl rfl rfl rfl rfl rfl (by rw [hF]; intro j hj; simp only [List.mem_cons, List.not_mem_nil, or_false] at hj; rcases hj with rfl <;> rfl) rfl rfl rfl rfl rfl rfl ?_
                        refine TL_nil ?_
                        refine TZ_one 13 (by kernel_rfl) rfl ?_
                        refine TL_appendDT (f := a_Point) (a := p0.heads) (b := [(Point.mk r139 r150)]) el61 z71 rfl rfl rfl rfl rfl rfl rfl rfl (by rw [hF]; rfl) (capI_spec hq153) rfl rfl rfl rfl rfl ?_
                        refine TL_nil ?_
                        refine TZ_pure 14 (by kernel_rfl) rfl rfl rfl rfl rfl (op_nilCheck rfl rfl) ?_
                        refine TZ_pure 15 (by kernel_rfl) rfl rfl rfl rfl rfl (op_fieldAddr fa123_4 rfl rfl) ?_
                        refine TZ_one 16 (by kernel_rfl) rfl ?_
                        refine TL_store_box sz61 rfl rfl rfl rfl rfl rfl rfl rfl rfl ?_
                        refine TL_nil ?_
                        refine TZ_done (by kernel_rfl) ?_
                        refine T_keepH [0, 1, 5, 6, 9] [0, 1, 2, 3, 4] rfl rfl rfl rfl (by rw [hF]; rfl) ?_
                        exact hj0 (p0.heads ++ [(Point.mk r139 r150)]) hm
                      refine TZ_cut 5 [true, true, true, true, false, true, true, true, true, true, true, true, true, false, false, false, false] ⟨[(0, .ptr 0 0 0), (1, .int .i64 p1), (4, .int .i64 (0 : Int)), (5, .cp [.int .i64 x16.Kind, .int .i64 x16.Var, .int .i64 x16.Event, .int .i64 x16.Sum.Const, .sl 1 (List.map a_i64 x16.Sum.Coeffs), .int .i64 x16.Index.Const, .sl 1 (List.map a_i64 x16.Index.Coeffs), .sl 2 (List.map a_Term x16.Facts)]), (6, .int .i64 (w64 (p1 + (1 : Int)))), (9, .int .i64 r139), (11, .ptr 0 0 0), (12, .ptr 0 0 0), (13, .ptr 0 0 0), (14, .sl 8 (List.map a_Stmt p0.body)), (15, .int .i64 p1), (16, .cp [.int .i64 x16.Kind, .int .i64 x16.Var, .int .i64 x16.Event, .int .i64 x16.Sum.Const, .sl 1 (List.map a_i64 x16.Sum.Coeffs), .int .i64 x16.Index.Const, .sl 1 (List.map a_i64 x16.Index.Coeffs), .sl 2 (List.map a_Term x16.Facts)]), (17, .ptr 0 0 0), (18, .ptr 0 0 0), (19, .ptr 0 0 2), (20, .ow 2), (21, .int .i64 p1), (22, .ptr 0 0 0), (23, .int .i64 r23), (24, .ptr 2 ((p1).toNat) 0), (25, .int .i64 p1), (26, .int .i64 (w64 (p1 + (1 : Int)))), (27, .cp [.int .i64 x16.Kind, .int .i64 x16.Var, .int .i64 x16.Event, .int .i64 x16.Sum.Const, .sl 1 (List.map a_i64 x16.Sum.Coeffs), .int .i64 x16.Index.Const, .sl 1 (List.map a_i64 x16.Index.Coeffs), .sl 2 (List.map a_Term x16.Facts)]), (28, .cp [.int .i64 x16.Kind, .int .i64 x16.Var, .int .i64 x16.Event, .int .i64 x16.Sum.Const, .sl 1 (List.map a_i64 x16.Sum.Coeffs), .int .i64 x16.Index.Const, .sl 1 (List.map a_i64 x16.Index.Coeffs), .sl 2 (List.map a_Term x16.Facts)]), (29, .cp [.int .i64 x16.Kind]), (30, .int .i64 x16.Kind), (31, .bool (decide (x16.Kind = (1 : Int)))), (32, .bool (decide (x16.Kind = (1 : Int)))), (38, .bool (decide (x16.Kind = (2 : Int)))), (39, .bool (decide (x16.Kind = (2 : Int)))), (51, .bool (decide (x16.Kind = (3 : Int)))), (52, .bool (decide (x16.Kind = (3 : Int)))), (66, .bool (decide (x16.Kind = (4 : Int)))), (67, .bool (decide (x16.Kind = (4 : Int)))), (80, .bool (decide (x16.Kind = (5 : Int)))), (81, .bool (decide (x16.Kind = (5 : Int)))), (88, .bool (decide (x16.Kind = (6 : Int)))), (89, .bool (decide (x16.Kind = (6 : Int)))), (97, .bool (decide (x16.Kind = (7 : Int)))), (98, .bool (decide (x16.Kind = (7 : Int)))), (136, .bool (decide (x16.Kind = (8 : Int)))), (137, .bool (decide (x16.Kind = (8 : Int)))), (138, .ptr 0 0 0), (139, .int .i64 r139), (140, .ptr 0 0 0), (141, .ptr 0 0 0), (142, .ptr 0 0 0), (143, .ptr 0 0 4), (145, .int .i64 r139), (146, .cp [.int .i64 x16.Kind, .int .i64 x16.Var, .int .i64 x16.Event, .int .i64 x16.Sum.Const, .sl 1 (List.map a_i64 x16.Sum.Coeffs), .int .i64 x16.Index.Const, .sl 1 (List.map a_i64 x16.Index.Coeffs), .sl 2 (List.map a_Term x16.Facts)]), (147, .cp [.int .i64 x16.Kind, .int .i64 x16.Var, .int .i64 x16.Event, .int .i64 x16.Sum.Const, .sl 1 (List.map a_i64 x16.Sum.Coeffs), .int .i64 x16.Index.Const, .sl 1 (List.map a_i64 x16.Index.Coeffs), .sl 2 (List.map a_Term x16.Facts)]), (148, .cp [.sl 2 (List.map a_Term x16.Facts)]), (149, .sl 2 (List.map a_Term x16.Facts)), (150, .junk), (151, .junk), (152, .ow 5131)], [(0, .box [.sl 8 (List.map a_Stmt p0.body), .ow 1, .ow 2, .ow 3, .ow 4]), (1, .arr ⟨false, true⟩ 2 172 (List.map a_Instr p0.code)), (2, .arr ⟨false, true⟩ 1 2 (List.map a_i64 (p0.begin.set ((p1).toNat) r23))), (3, .arr ⟨false, true⟩ 1 2 (List.map a_i64 p0.end_)), (4, .arr ⟨false, true⟩ 2 71 (List.map a_Point p0.heads)), (5131, .arr ⟨false, true⟩ 2 71 (List.map a_Point [(Point.mk r139 r150)]))]⟩ ?_ (fun hS4090_3 => ?_)
                      · refine TZ_pure 4 (by kernel_rfl) rfl rfl rfl rfl rfl (op_load_one ag61 rfl rfl) ?_
                        refine TZ_one 13 (by kernel_rfl) rfl ?_
                        refine TL_appendDT (f := a_Point) (a := p0.heads) (b := [(Point.mk r139 r150)]) el61 z71 rfl rfl rfl rfl rfl rfl rfl rfl (by rw [hF]; rfl) (capI_spec hq153) rfl rfl rfl rfl rfl ?_
                        refine TL_nil ?_
                        refine TZ_pure 14 (by kernel_rfl) rfl rfl rfl rfl rfl (op_nilCheck rfl rfl) ?_
                        refine TZ_pure 15 (by kernel_rfl) rfl rfl rfl rfl rfl (op_fieldAddr fa123_4 rfl rfl) ?_
                        refine TZ_one 16 (by kernel_rfl) rfl ?_
                        refine TL_store_box sz61 rfl rfl rfl rfl rfl rfl rfl rfl rfl ?_
                        refine TL_nil ?_
                        refine TZ_done (by kernel_rfl) ?_
                        refine T_keepH [0, 1, 5, 6, 9] [0, 1, 2, 3, 4] rfl rfl rfl rfl (by rw [hF]; rfl) ?_
                        exact hj0 (p0.heads ++ [(Point.mk r139 r150)]) hm
                      refine TZ_cut 7 [true, true, true, true, false, true, true, true, true, true, true, false, false, false, false, false, false] ⟨[(0, .ptr 0 0 0), (1, .int .i64 p1), (4, .int .i64 (0 : Int)), (5, .cp [.int .i64 x16.Kind, .int .i64 x16.Var, .int .i64 x16.Event, .int .i64 x16.Sum.Const, .sl 1 (List.map a_i64 x16.Sum.Coeffs), .int .i64 x16.Index.Const, .sl 1 (List.map a_i64 x16.Index.Coeffs), .sl 2 (List.map a_Term x16.Facts)]), (6, .int .i64 (w64 (p1 + (1 : Int)))), (9, .int .i64 r139), (11, .ptr 0 0 0), (12, .ptr 0 0 0), (13, .ptr 0 0 0), (14, .sl 8 (List.map a_Stmt p0.body)), (15, .int .i64 p1), (16, .cp [.int .i64 x16.Kind, .int .i64 x16.Var, .int .i64 x16.Event, .int .i64 x16.Sum.Const, .sl 1 (List.map a_i64 x16.Sum.Coeffs), .int .i64 x16.Index.Const, .sl 1 (List.map a_i64 x16.Index.Coeffs), .sl 2 (List.map a_Term x16.Facts)]), (17, .ptr 0 0 0), (18, .ptr 0 0 0), (19, .ptr 0 0 2), (20, .ow 2), (21, .int .i64 p1), (22, .ptr 0 0 0), (23, .int .i64 r23), (24, .ptr 2 ((p1).toNat) 0), (25, .int .i64 p1), (26, .int .i64 (w64 (p1 + (1 : Int)))), (27, .cp [.int .i64 x16.Kind, .int .i64 x16.Var, .int .i64 x16.Event, .int .i64 x16.Sum.Const, .sl 1 (List.map a_i64 x16.Sum.Coeffs), .int .i64 x16.Index.Const, .sl 1 (List.map a_i64 x16.Index.Coeffs), .sl 2 (List.map a_Term x16.Facts)]), (28, .cp [.int .i64 x16.Kind, .int .i64 x16.Var, .int .i64 x16.Event, .int .i64 x16.Sum.Const, .sl 1 (List.map a_i64 x16.Sum.Coeffs), .int .i64 x16.Index.Const, .sl 1 (List.map a_i64 x16.Index.Coeffs), .sl 2 (List.map a_Term x16.Facts)]), (29, .cp [.int .i64 x16.Kind]), (30, .int .i64 x16.Kind), (31, .bool (decide (x16.Kind = (1 : Int)))), (32, .bool (decide (x16.Kind = (1 : Int)))), (38, .bool (decide (x16.Kind = (2 : Int)))), (39, .bool (decide (x16.Kind = (2 : Int)))), (51, .bool (decide (x16.Kind = (3 : Int)))), (52, .bool (decide (x16.Kind = (3 : Int)))), (66, .bool (decide (x16.Kind = (4 : Int)))), (67, .bool (decide (x16.Kind = (4 : Int)))), (80, .bool (decide (x16.Kind = (5 : Int)))), (81, .bool (decide (x16.Kind = (5 : Int)))), (88, .bool (decide (x16.Kind = (6 : Int)))), (89, .bool (decide (x16.Kind = (6 : Int)))), (97, .bool (decide (x16.Kind = (7 : Int)))), (98, .bool (decide (x16.Kind = (7 : Int)))), (136, .bool (decide (x16.Kind = (8 : Int)))), (137, .bool (decide (x16.Kind = (8 : Int)))), (138, .ptr 0 0 0), (139, .int .i64 r139), (140, .ptr 0 0 0), (141, .ptr 0 0 0), (142, .ptr 0 0 0), (143, .ptr 0 0 4), (145, .int .i64 r139), (146, .cp [.int .i64 x16.Kind, .int .i64 x16.Var, .int .i64 x16.Event, .int .i64 x16.Sum.Const, .sl 1 (List.map a_i64 x16.Sum.Coeffs), .int .i64 x16.Index.Const, .sl 1 (List.map a_i64 x16.Index.Coeffs), .sl 2 (List.map a_Term x16.Facts)]), (147, .cp [.int .i64 x16.Kind, .int .i64 x16.Var, .int .i64 x16.Event, .int .i64 x16.Sum.Const, .sl 1 (List.map a_i64 x16.Sum.Coeffs), .int .i64 x16.Index.Const, .sl 1 (List.map a_i64 x16.Index.Coeffs), .sl 2 (List.map a_Term x16.Facts)]), (148, .cp [.sl 2 (List.map a_Term x16.Facts)]), (149, .sl 2 (List.map a_Term x16.Facts)), (150, .ow 4971)], [(0, .box [.sl 8 (List.map a_Stmt p0.body), .ow 1, .ow 2, .ow 3, .ow 4]), (1, .arr ⟨false, true⟩ 2 172 (List.map a_Instr p0.code)), (2, .arr ⟨false, true⟩ 1 2 (List.map a_i64 (p0.begin.set ((p1).toNat) r23))), (3, .arr ⟨false, true⟩ 1 2 (List.map a_i64 p0.end_)), (4, .arr ⟨false, true⟩ 2 71 (List.map a_Point p0.heads)), (4971, .arr ⟨false, true⟩ 2 67 (List.map a_Term r150))]⟩ ?_ (fun hS4090_4 => ?_)
                      · refine TZ_pure 11 (by kernel_rfl) rfl rfl rfl rfl rfl (op_buildP pl71 z71 rfl rfl rfl rfl rfl) ?_
                        refine TZ_each [4, 12] (by kernel_rfl) rfl ?_
                        refine ⟨?_, ?_⟩
                        · refine ⟨_, rfl, ?_⟩
                          refine TL_pure rfl rfl rfl rfl (op_load_one ag61 rfl rfl) ?_
                          refine TL_nil ?_
                          refine TZ_keepH [0, 1, 4, 5, 6, 9, 11, 12, 13, 14, 15, 16, 17, 18, 19, 20, 21, 22, 23, 24, 25, 26, 27, 28, 29, 30, 31, 32, 38, 39, 51, 52, 66, 67, 80, 81, 88, 89, 97, 98, 136, 137, 138, 139, 140, 141, 142, 143, 144, 145, 146, 147, 148, 149, 150, 151] [0, 1, 2, 3, 4, 4971] rfl rfl rfl rfl (by rw [hF]; rfl) ?_
                          exact hS4090_2
                        · refine ⟨_, rfl, ?_⟩
                          refine TL_buildSliceD (ids := [4971]) (es := List.map a_Point [(Point.mk r139 r150)]) 5131 el61 z71 rfl rfl rfl rfl rfl rfl (by rw [hF]; intro j hj; simp only [List.mem_cons, List.not_mem_nil, or_false] at hj; rcases hj with rfl <;> rfl) rfl rfl rfl rfl rfl rfl ?_
                          refine TL_nil ?_
                          refine TZ_keepH [0, 1, 4, 5, 6, 9, 11, 12, 13, 14, 15, 16, 17, 18, 19, 20, 21, 22, 23, 24, 25, 26, 27, 28, 29, 30, 31, 32, 38, 39, 51, 52, 66, 67, 80, 81, 88, 89, 97, 98, 136, 137, 138, 139, 140, 141, 142, 143, 145, 146, 147, 148, 149, 150, 151, 152] [0, 1, 2, 3, 4, 5131] rfl rfl rfl rfl (by rw [hF]; rfl) ?_
                          exact hS4090_3
                      refine TZ_cut 8 [true, true, true, true, false, true, true, true, true, true, false, false, false, false, false, false, false] ⟨[(0, .ptr 0 0 0), (1, .int .i64 p1), (4, .int .i64 (0 : Int)), (5, .cp [.int .i64 x16.Kind, .int .i64 x16.Var, .int .i64 x16.Event, .int .i64 x16.Sum.Const, .sl 1 (List.map a_i64 x16.Sum.Coeffs), .int .i64 x16.Index.Const, .sl 1 (List.map a_i64 x16.Index.Coeffs), .sl 2 (List.map a_Term x16.Facts)]), (6, .int .i64 (w64 (p1 + (1 : Int)))), (9, .int .i64 r139), (11, .ptr 0 0 0), (12, .ptr 0 0 0), (13, .ptr 0 0 0), (14, .sl 8 (List.map a_Stmt p0.body)), (15, .int .i64 p1), (16, .cp [.int .i64 x16.Kind, .int .i64 x16.Var, .int .i64 x16.Event, .int .i64 x16.Sum.Const, .sl 1 (List.map a_i64 x16.Sum.Coeffs), .int .i64 x16.Index.Const, .sl 1 (List.map a_i64 x16.Index.Coeffs), .sl 2 (List.map a_Term x16.Facts)]), (17, .ptr 0 0 0), (18, .ptr 0 0 0), (19, .ptr 0 0 2), (20, .ow 2), (21, .int .i64 p1), (22, .ptr 0 0 0), (23, .int .i64 r23), (24, .ptr 2 ((p1).toNat) 0), (25, .int .i64 p1), (26, .int .i64 (w64 (p1 + (1 : Int)))), (27, .cp [.int .i64 x16.Kind, .int .i64 x16.Var, .int .i64 x16.Event, .int .i64 x16.Sum.Const, .sl 1 (List.map a_i64 x16.Sum.Coeffs), .int .i64 x16.Index.Const, .sl 1 (List.map a_i64 x16.Index.Coeffs), .sl 2 (List.map a_Term x16.Facts)]), (28, .cp [.int .i64 x16.Kind, .int .i64 x16.Var, .int .i64 x16.Event, .int .i64 x16.Sum.Const, .sl 1 (List.map a_i64 x16.Sum.Coeffs), .int .i64 x16.Index.Const, .sl 1 (List.map a_i64 x16.Index.Coeffs), .sl 2 (List.map a_Term x16.Facts)]), (29, .cp [.int .i64 x16.Kind]), (30, .int .i64 x16.Kind), (31, .bool (decide (x16.Kind = (1 : Int)))), (32, .bool (decide (x16.Kind = (1 : Int)))), (38, .bool (decide (x16.Kind = (2 : Int)))), (39, .bool (decide (x16.Kind = (2 : Int)))), (51, .bool (decide (x16.Kind = (3 : Int)))), (52, .bool (decide (x16.Kind = (3 : Int)))), (66, .bool (decide (x16.Kind = (4 : Int)))), (67, .bool (decide (x16.Kind = (4 : Int)))), (80, .bool (decide (x16.Kind = (5 : Int)))), (81, .bool (decide (x16.Kind = (5 : Int)))), (88, .bool (decide (x16.Kind = (6 : Int)))), (89, .bool (decide (x16.Kind = (6 : Int)))), (97, .bool (decide (x16.Kind = (7 : Int)))), (98, .bool (decide (x16.Kind = (7 : Int)))), (136, .bool (decide (x16.Kind = (8 : Int)))), (137, .bool (decide (x16.Kind = (8 : Int)))), (138, .ptr 0 0 0), (139, .int .i64 r139), (140, .ptr 0 0 0), (141, .ptr 0 0 0), (142, .ptr 0 0 0), (143, .ptr 0 0 4), (145, .int .i64 r139), (146, .cp [.int .i64 x16.Kind, .int .i64 x16.Var, .int .i64 x16.Event, .int .i64 x16.Sum.Const, .sl 1 (List.map a_i64 x16.Sum.Coeffs), .int .i64 x16.Index.Const, .sl 1 (List.map a_i64 x16.Index.Coeffs), .sl 2 (List.map a_Term x16.Facts)]), (147, .cp [.int .i64 x16.Kind, .int .i64 x16.Var, .int .i64 x16.Event, .int .i64 x16.Sum.Const, .sl 1 (List.map a_i64 x16.Sum.Coeffs), .int .i64 x16.Index.Const, .sl 1 (List.map a_i64 x16.Index.Coeffs), .sl 2 (List.map a_Term x16.Facts)]), (148, .cp [.sl 2 (List.map a_Term x16.Facts)]), (149, .sl 2 (List.map a_Term x16.Facts))], [(0, .box [.sl 8 (List.map a_Stmt p0.body), .ow 1, .ow 2, .ow 3, .ow 4]), (1, .arr ⟨false, true⟩ 2 172 (List.map a_Instr p0.code)), (2, .arr ⟨false, true⟩ 1 2 (List.map a_i64 (p0.begin.set ((p1).toNat) r23))), (3, .arr ⟨false, true⟩ 1 2 (List.map a_i64 p0.end_)), (4, .arr ⟨false, true⟩ 2 71 (List.map a_Point p0.heads))]⟩ ?_ (fun hS4090_5 => ?_)
                      · refine TZ_each [4, 10] (by kernel_rfl) rfl ?_
                        refine ⟨?_, ?_⟩
                        · refine ⟨_, rfl, ?_⟩
                          refine TL_pure rfl rfl rfl rfl (op_load_one ag61 rfl rfl) ?_
                          refine TL_nil ?_
                          refine TZ_keepH [0, 1, 4, 5, 6, 9, 11, 12, 13, 14, 15, 16, 17, 18, 19, 20, 21, 22, 23, 24, 25, 26, 27, 28, 29, 30, 31, 32, 38, 39, 51, 52, 66, 67, 80, 81, 88, 89, 97, 98, 136, 137, 138, 139, 140, 141, 142, 143, 144, 145, 146, 147, 148, 149] [0, 1, 2, 3, 4] rfl rfl rfl rfl (by rw [hF]; rfl) ?_
                          exact hS4090_1
                        · refine ⟨_, rfl, ?_⟩
                          refine TL_callO [(1000, 4971)] (c_spec_l02OwnAll x16.Facts r150 hr150) Try.call78 rfl rfl rfl rfl rfl rfl rfl rfl rfl rfl rfl rfl rfl ?_
                          refine TL_nil ?_
                          refine TZ_keepH [0, 1, 4, 5, 6, 9, 11, 12, 13, 14, 15, 16, 17, 18, 19, 20, 21, 22, 23, 24, 25, 26, 27, 28, 29, 30, 31, 32, 38, 39, 51, 52, 66, 67, 80, 81, 88, 89, 97, 98, 136, 137, 138, 139, 140, 141, 142, 143, 145, 146, 147, 148, 149, 150] [0, 1, 2, 3, 4, 4971] rfl rfl rfl rfl (by rw [hF]; rfl) ?_
                          exact hS4090_4
                      refine TZ_each [4, 9] (by kernel_rfl) rfl ?_
                      refine ⟨?_, ?_⟩
                      · refine ⟨_, rfl, ?_⟩
                        refine TL_pure rfl rfl rfl rfl (op_load_one ag61 rfl rfl) ?_
                        refine TL_nil ?_
                        refine TZ_keepH [0, 1, 4, 5, 6, 9, 11, 12, 13, 14, 15, 16, 17, 18, 19, 20, 21, 22, 23, 24, 25, 26, 27, 28, 29, 30, 31, 32, 38, 39, 51, 52, 66, 67, 80, 81, 88, 89, 97, 98, 136, 137, 138, 139, 140, 141, 142, 143, 144, 145, 146, 147, 148] [0, 1, 2, 3, 4] rfl rfl rfl rfl (by rw [hF]; rfl) ?_
                        exact hS4090_0
                      · refine ⟨_, rfl, ?_⟩
                        refine TL_pure rfl rfl rfl rfl (op_load_one ag30 rfl rfl) ?_
                        refine TL_nil ?_
                        refine TZ_keepH [0, 1, 4, 5, 6, 9, 11, 12, 13, 14, 15, 16, 17, 18, 19, 20, 21, 22, 23, 24, 25, 26, 27, 28, 29, 30, 31, 32, 38, 39, 51, 52, 66, 67, 80, 81, 88, 89, 97, 98, 136, 137, 138, 139, 140, 141, 142, 143, 145, 146, 147, 148, 149] [0, 1, 2, 3, 4] rfl rfl rfl rfl (by rw [hF]; rfl) ?_
                        exact hS4090_5
                  · replace hm := condF hq hm
                    refine T_skip ?_
                    refine T_keepH [0, 1, 6] [0, 1, 2, 3, 4] rfl rfl rfl rfl (by rw [hF]; rfl) ?_
                    exact hj1 (p0.body, p0.code, (p0.begin.set ((p1).toNat) r23), p0.end_, p0.heads, (w64 (p1 + (1 : Int)))) hm
theorem c_spec_l09Maker_build : ∀ (n : Nat) (p0 : l09Maker) (p1 : Int) (out : Int × l09Maker), m_spec_l09Maker_build n p0 p1 = some out → ACall Try.prog 91 [.ptr 0 0 0, .int .i64 p1] [(0, .box [.sl 8 (List.map a_Stmt p0.body), .ow 1, .ow 2, .ow 3, .ow 4]), (1, .arr ⟨false, true⟩ 2 172 (List.map a_Instr p0.code)), (2, .arr ⟨false, true⟩ 1 2 (List.map a_i64 p0.begin)), (3, .arr ⟨false, true⟩ 1 2 (List.map a_i64 p0.end_)), (4, .arr ⟨false, true⟩ 2 71 (List.map a_Point p0.heads))] (.int .i64 out.1) [(0, .box [.sl 8 (List.map a_Stmt out.2.body), .ow 1, .ow 2, .ow 3, .ow 4]), (1, .arr ⟨false, true⟩ 2 172 (List.map a_Instr out.2.code)), (2, .arr ⟨false, true⟩ 1 2 (List.map a_i64 out.2.begin)), (3, .arr ⟨false, true⟩ 1 2 (List.map a_i64 out.2.end_)), (4, .arr ⟨false, true⟩ 2 71 (List.map a_Point out.2.heads))] := by
  intro n
  induction n with
  | zero => intro p0 p1 out hm; cases hm
  | succ n ih => intro p0 p1 out hm; exact c_spec_l09Maker_build_F (m_spec_l09Maker_build n) ih p0 p1 out hm
theorem c_spec_l09Make (p0 : Program) (out : l09Maker) (hm : m_spec_l09Make p0 = some out) : ACall Try.prog 65 [.cp [.sl 2 (List.map a_Term p0.Pre), .sl 8 (List.map a_Stmt p0.Body), .sl 2 (List.map a_Term p0.Post)]] [] (.ptr 1000 0 0) [(1000, .box [.sl 8 (List.map a_Stmt out.body), .ow 1001, .ow 1002, .ow 1003, .ow 1004]), (1001, .arr ⟨false, true⟩ 2 172 (List.map a_Instr out.code)), (1002, .arr ⟨false, true⟩ 1 2 (List.map a_i64 out.begin)), (1003, .arr ⟨false, true⟩ 1 2 (List.map a_i64 out.end_)), (1004, .arr ⟨false, true⟩ 2 71 (List.map a_Point out.heads))] := by
  refine ACall.intro Try.func65 rfl Try.ntmps65 rfl (fun F hF => ?_)
  unfold m_spec_l09Make at hm
  refine T_seq ?_
  refine T_region ?_
  refine TL_pure rfl rfl rfl rfl (op_assign rfl) ?_
  refine TL_nil ?_
  refine T_seq ?_
  refine T_region ?_
  refine TL_pure rfl rfl rfl rfl (op_move rfl) ?_
  refine TL_pure rfl rfl rfl rfl (op_nilCheck rfl rfl) ?_
  refine TL_pure rfl rfl rfl rfl (op_fieldAddrC (n := 1) fa33_1 rfl rfl rfl) ?_
  refine TL_pure rfl rfl rfl rfl (op_load_one ag31 rfl rfl) ?_
  refine TL_pure rfl rfl rfl rfl (op_lenT Try.underlying31 rfl (List.length_map _)) ?_
  refine TL_fact (fun _ _ _ hr => RelP.slLen (i := 8) rfl hr) (fun hlen9 => ?_)
  rw [List.length_map] at hlen9
  refine TL_pure rfl rfl rfl rfl (op_assign rfl) ?_
  refine TL_nil ?_
  refine T_join (fun (j0 : (List Int) × (List Int)) => ⟨[(4, .ptr 971 0 0)], [(411, .arr ⟨false, false⟩ 2 172 (List.map a_Instr ([] : List Instr))), (571, .arr ⟨false, false⟩ 1 2 (List.map a_i64 j0.1)), (731, .arr ⟨false, false⟩ 1 2 (List.map a_i64 j0.2)), (811, .arr ⟨false, false⟩ 2 71 (List.map a_Point ([] : List Point))), (971, .box [.sl 8 (List.map a_Stmt p0.Body), .ow 411, .ow 571, .ow 731, .ow 811])]⟩) (fun j0 => m_spec_l09Make_J0 p0 j0 = some out) (fun j0 hm => ?_) (fun hj0 => ?_)
  · unfold m_spec_l09Make_J0 at hm
    refine T_seq ?_
    refine T_region ?_
    refine TL_pure rfl rfl rfl rfl (op_move rfl) ?_
    refine TL_deepen 411 (p' := false) (List.map a_Instr ([] : List Instr)) (by rw [hF]; rfl) rfl (ElR.nil) rfl rfl rfl ?_
    refine TL_deepen 571 (p' := false) (List.map a_i64 j0.1) (by rw [hF]; rfl) rfl (ElR.map (f := a_i64) (g := a_i64) (fun _ => ⟨⟨rfl, rfl⟩, trivial⟩) j0.1) rfl rfl rfl ?_
    refine TL_deepen 731 (p' := false) (List.map a_i64 j0.2) (by rw [hF]; rfl) rfl (ElR.map (f := a_i64) (g := a_i64) (fun _ => ⟨⟨rfl, rfl⟩, trivial⟩) j0.2) rfl rfl rfl ?_
    refine TL_deepen 811 (p' := false) (List.map a_Point ([] : List Point)) (by rw [hF]; rfl) rfl (ElR.nil) rfl rfl rfl ?_
    obtain ⟨r23, hr23, hm⟩ := bindS hm
    refine TL_call [(0, 971), (1, 411), (2, 571), (3, 731), (4, 811)] [] [411, 571, 731, 811] (c_spec_l09Maker_build 1000 (l09Maker.mk p0.Body ([] : List Instr) j0.1 j0.2 ([] : List Point)) (0 : Int) r23 hr23) Try.call91 rfl rfl rfl rfl rfl ⟨rfl, rfl, rfl, rfl, rfl, trivial⟩ rfl rfl rfl rfl rfl rfl rfl rfl rfl rfl rfl ?_
    refine TL_nil ?_
    refine T_seq ?_
    refine T_region ?_
    refine TL_pure rfl rfl rfl rfl (op_move rfl) ?_
    obtain ⟨r25, hr25, hm⟩ := bindS hm
    refine TL_call [(0, 971), (1, 411), (2, 571), (3, 731), (4, 811)] [] [411, 571, 731, 811] (c_spec_l09Maker_add r23.2 (11 : Int) (0 : Int) r25 hr25) Try.call92 rfl rfl rfl rfl rfl ⟨rfl, rfl, rfl, rfl, rfl, trivial⟩ rfl rfl rfl rfl rfl rfl rfl rfl rfl rfl rfl ?_
    refine TL_nil ?_
    refine T_seq ?_
    refine T_region ?_
    refine TL_pure rfl rfl rfl rfl (op_move rfl) ?_
    refine TL_pure rfl rfl rfl rfl (op_assign rfl) ?_
    refine TL_nil ?_
    refine T_keepH [2] [411, 571, 731, 811, 971] rfl rfl rfl rfl (by rw [hF]; rfl) ?_
    refine T_ren [(411, 1001), (571, 1002), (731, 1003), (811, 1004), (971, 1000)] rfl rfl rfl (by rw [hF]; rfl) ?_
    refine T_keepH [2] [1000, 1001, 1002, 1003, 1004] rfl rfl rfl rfl (by rw [hF]; rfl) ?_
    refine T_ret ?_
    obtain rfl := someI hm
    refine ⟨[_], [1000, 1001, 1002, 1003, 1004], ⟨rfl, trivial⟩, ?_, rfl, rfl, rfl, rfl⟩
    rfl
  · refine T_drawZ [4, 9] mix (by kernel_rfl) rfl ?_
    obtain ⟨k16, hk16, hm⟩ := bindS hm
    obtain ⟨k18, hk18, hm⟩ := bindS hm
    refine TZ_pure 0 (by kernel_rfl) rfl rfl rfl rfl rfl (op_move rfl) ?_
    refine TZ_pure 1 (by kernel_rfl) rfl rfl rfl rfl rfl (op_nilCheck rfl rfl) ?_
    refine TZ_pure 2 (by kernel_rfl) rfl rfl rfl rfl rfl (op_fieldAddrC (n := 1) fa33_1 rfl rfl rfl) ?_
    refine TZ_pure 5 (by kernel_rfl) rfl rfl rfl rfl rfl (op_move rfl) ?_
    refine TZ_pure 7 (by kernel_rfl) rfl rfl rfl rfl rfl (op_move rfl) ?_
    refine TZ_cut 4 [true, true, true, true, true, true, true, true, true, false, false, false, false] ⟨[(0, .cp [.sl 2 (List.map a_Term p0.Pre), .sl 8 (List.map a_Stmt p0.Body), .sl 2 (List.map a_Term p0.Post)]), (2, .nilp), (3, .int .i64 (p0.Body.length : Int)), (5, .cp [.sl 2 (List.map a_Term p0.Pre), .sl 8 (List.map a_Stmt p0.Body), .sl 2 (List.map a_Term p0.Post)]), (6, .cp [.sl 2 (List.map a_Term p0.Pre), .sl 8 (List.map a_Stmt p0.Body), .sl 2 (List.map a_Term p0.Post)]), (7, .cp [.sl 8 (List.map a_Stmt p0.Body)]), (8, .sl 8 (List.map a_Stmt p0.Body)), (9, .int .i64 (p0.Body.length : Int)), (10, .cp [.sl 2 (List.map a_Term p0.Pre), .sl 8 (List.map a_Stmt p0.Body), .sl 2 (List.map a_Term p0.Post)]), (11, .cp [.sl 2 (List.map a_Term p0.Pre), .sl 8 (List.map a_Stmt p0.Body), .sl 2 (List.map a_Term p0.Post)]), (12, .cp [.sl 8 (List.map a_Stmt p0.Body)]), (13, .sl 8 (List.map a_Stmt p0.Body)), (14, .ow 1451), (15, .int .i64 (p0.Body.length : Int)), (16, .ow 1611), (17, .int .i64 (p0.Body.length : Int)), (18, .ow 1771)], [(1451, .arr ⟨false, false⟩ 2 172 (List.map a_Instr ([] : List Instr))), (1611, .arr ⟨false, false⟩ 1 2 (List.map a_i64 (List.replicate k16 (0 : Int)))), (1771, .arr ⟨false, false⟩ 1 2 (List.map a_i64 (List.replicate k18 (0 : Int))))]⟩ ?_ (fun hS1050_0 => ?_)
    · refine TZ_one 9 (by kernel_rfl) rfl ?_
      refine TL_buildSlice 1851 (es := List.map a_Point ([] : List Point)) el61 z71 rfl rfl rfl rfl rfl rfl rfl rfl rfl ?_
      refine TL_nil ?_
      refine TZ_pure 10 (by kernel_rfl) rfl rfl rfl rfl rfl (op_buildP pl123 z123 rfl rfl rfl rfl rfl) ?_
      refine TZ_one 11 (by kernel_rfl) rfl ?_
      refine TL_box 2011 rfl rfl rfl rfl rfl rfl rfl ?_
      refine TL_nil ?_
      refine TZ_pure 12 (by kernel_rfl) rfl rfl rfl rfl rfl (op_assign rfl) ?_
      refine TZ_done (by kernel_rfl) ?_
      refine T_keepH [4] [1451, 1611, 1771, 1851, 2011] rfl rfl rfl rfl (by rw [hF]; rfl) ?_
      refine T_ren [(1451, 411), (1611, 571), (1771, 731), (1851, 811), (2011, 971)] rfl rfl rfl (by rw [hF]; rfl) ?_
      exact hj0 ((List.replicate k16 (0 : Int)), (List.replicate k18 (0 : Int))) hm
    refine TZ_cut 4 [true, true, true, true, true, true, true, true, false, true, false, false, false] ⟨[(0, .cp [.sl 2 (List.map a_Term p0.Pre), .sl 8 (List.map a_Stmt p0.Body), .sl 2 (List.map a_Term p0.Post)]), (2, .nilp), (3, .int .i64 (p0.Body.length : Int)), (5, .cp [.sl 2 (List.map a_Term p0.Pre), .sl 8 (List.map a_Stmt p0.Body), .sl 2 (List.map a_Term p0.Post)]), (6, .cp [.sl 2 (List.map a_Term p0.Pre), .sl 8 (List.map a_Stmt p0.Body), .sl 2 (List.map a_Term p0.Post)]), (7, .cp [.sl 8 (List.map a_Stmt p0.Body)]), (8, .sl 8 (List.map a_Stmt p0.Body)), (9, .int .i64 (p0.Body.length : Int)), (10, .cp [.sl 2 (List.map a_Term p0.Pre), .sl 8 (List.map a_Stmt p0.Body), .sl 2 (List.map a_Term p0.Post)]), (11, .cp [.sl 2 (List.map a_Term p0.Pre), .sl 8 (List.map a_Stmt p0.Body), .sl 2 (List.map a_Term p0.Post)]), (12, .cp [.sl 8 (List.map a_Stmt p0.Body)]), (13, .sl 8 (List.map a_Stmt p0.Body)), (14, .ow 1451), (15, .int .i64 (p0.Body.length : Int)), (16, .ow 1611), (17, .int .i64 (p0.Body.length : Int)), (19, .ow 1851)], [(1451, .arr ⟨false, false⟩ 2 172 (List.map a_Instr ([] : List Instr))), (1611, .arr ⟨false, false⟩ 1 2 (List.map a_i64 (List.replicate k16 (0 : Int)))), (1851, .arr ⟨false, false⟩ 2 71 (List.map a_Point ([] : List Point)))]⟩ ?_ (fun hS1050_1 => ?_)
    · refine TZ_one 8 (by kernel_rfl) rfl ?_
      refine TL_make 1771 (n := k18) el27 z2 rfl rfl rfl rfl rfl rfl (makeI_spec hk18).1 (makeI_spec hk18).1 (makeI_spec hk18).2 rfl rfl rfl rfl ?_
      refine TL_nils 1771 (List.map a_i64 (List.replicate k18 (0 : Int))) (by rw [hF]; rfl) rfl (ElR.rep (z := .int .i64 (0 : Int)) (g := a_i64) (x := (0 : Int)) ⟨⟨rfl, rfl⟩, trivial⟩ k18) rfl ?_
      refine TL_nil ?_
      refine TZ_pure 10 (by kernel_rfl) rfl rfl rfl rfl rfl (op_buildP pl123 z123 rfl rfl rfl rfl rfl) ?_
      refine TZ_one 11 (by kernel_rfl) rfl ?_
      refine TL_box 2011 rfl rfl rfl rfl rfl rfl rfl ?_
      refine TL_nil ?_
      refine TZ_pure 12 (by kernel_rfl) rfl rfl rfl rfl rfl (op_assign rfl) ?_
      refine TZ_done (by kernel_rfl) ?_
      refine T_keepH [4] [1451, 1611, 1771, 1851, 2011] rfl rfl rfl rfl (by rw [hF]; rfl) ?_
      refine T_ren [(1451, 411), (1611, 571), (1771, 731), (1851, 811), (2011, 971)] rfl rfl rfl (by rw [hF]; rfl) ?_
      exact hj0 ((List.replicate k16 (0 : Int)), (List.replicate k18 (0 : Int))) hm
    refine TZ_cut 5 [true, true, true, true, true, true, true, true, false, false, false, false, false] ⟨[(0, .cp [.sl 2 (List.map a_Term p0.Pre), .sl 8 (List.map a_Stmt p0.Body), .sl 2 (List.map a_Term p0.Post)]), (2, .nilp), (3, .int .i64 (p0.Body.length : Int)), (5, .cp [.sl 2 (List.map a_Term p0.Pre), .sl 8 (List.map a_Stmt p0.Body), .sl 2 (List.map a_Term p0.Post)]), (6, .cp [.sl 2 (List.map a_Term p0.Pre), .sl 8 (List.map a_Stmt p0.Body), .sl 2 (List.map a_Term p0.Post)]), (7, .cp [.sl 8 (List.map a_Stmt p0.Body)]), (8, .sl 8 (List.map a_Stmt p0.Body)), (9, .int .i64 (p0.Body.length : Int)), (10, .cp [.sl 2 (List.map a_Term p0.Pre), .sl 8 (List.map a_Stmt p0.Body), .sl 2 (List.map a_Term p0.Post)]), (11, .cp [.sl 2 (List.map a_Term p0.Pre), .sl 8 (List.map a_Stmt p0.Body), .sl 2 (List.map a_Term p0.Post)]), (12, .cp [.sl 8 (List.map a_Stmt p0.Body)]), (13, .sl 8 (List.map a_Stmt p0.Body)), (14, .ow 1451), (15, .int .i64 (p0.Body.length : Int)), (16, .ow 1611), (17, .int .i64 (p0.Body.length : Int))], [(1451, .arr ⟨false, false⟩ 2 172 (List.map a_Instr ([] : List Instr))), (1611, .arr ⟨false, false⟩ 1 2 (List.map a_i64 (List.replicate k16 (0 : Int))))]⟩ ?_ (fun hS1050_2 => ?_)
    · refine TZ_each [8, 9] (by kernel_rfl) rfl ?_
      refine ⟨?_, ?_⟩
      · refine ⟨_, rfl, ?_⟩
        refine TL_make 1771 (n := k18) el27 z2 rfl rfl rfl rfl rfl rfl (makeI_spec hk18).1 (makeI_spec hk18).1 (makeI_spec hk18).2 rfl rfl rfl rfl ?_
        refine TL_nils 1771 (List.map a_i64 (List.replicate k18 (0 : Int))) (by rw [hF]; rfl) rfl (ElR.rep (z := .int .i64 (0 : Int)) (g := a_i64) (x := (0 : Int)) ⟨⟨rfl, rfl⟩, trivial⟩ k18) rfl ?_
        refine TL_nil ?_
        refine TZ_keepH [0, 2, 3, 5, 6, 7, 8, 9, 10, 11, 12, 13, 14, 15, 16, 17, 18] [1451, 1611, 1771] rfl rfl rfl rfl (by rw [hF]; rfl) ?_
        exact hS1050_0
      · refine ⟨_, rfl, ?_⟩
        refine TL_buildSlice 1851 (es := List.map a_Point ([] : List Point)) el61 z71 rfl rfl rfl rfl rfl rfl rfl rfl rfl ?_
        refine TL_nil ?_
        refine TZ_keepH [0, 2, 3, 5, 6, 7, 8, 9, 10, 11, 12, 13, 14, 15, 16, 17, 19] [1451, 1611, 1851] rfl rfl rfl rfl (by rw [hF]; rfl) ?_
        exact hS1050_1
    refine TZ_cut 4 [true, true, true, true, true, true, false, true, true, true, false, false, false] ⟨[(0, .cp [.sl 2 (List.map a_Term p0.Pre), .sl 8 (List.map a_Stmt p0.Body), .sl 2 (List.map a_Term p0.Post)]), (2, .nilp), (3, .int .i64 (p0.Body.length : Int)), (5, .cp [.sl 2 (List.map a_Term p0.Pre), .sl 8 (List.map a_Stmt p0.Body), .sl 2 (List.map a_Term p0.Post)]), (6, .cp [.sl 2 (List.map a_Term p0.Pre), .sl 8 (List.map a_Stmt p0.Body), .sl 2 (List.map a_Term p0.Post)]), (7, .cp [.sl 8 (List.map a_Stmt p0.Body)]), (8, .sl 8 (List.map a_Stmt p0.Body)), (9, .int .i64 (p0.Body.length : Int)), (10, .cp [.sl 2 (List.map a_Term p0.Pre), .sl 8 (List.map a_Stmt p0.Body), .sl 2 (List.map a_Term p0.Post)]), (11, .cp [.sl 2 (List.map a_Term p0.Pre), .sl 8 (List.map a_Stmt p0.Body), .sl 2 (List.map a_Term p0.Post)]), (12, .cp [.sl 8 (List.map a_Stmt p0.Body)]), (13, .sl 8 (List.map a_Stmt p0.Body)), (14, .ow 1451), (15, .int .i64 (p0.Body.length : Int)), (17, .int .i64 (p0.Body.length : Int)), (18, .ow 1771), (19, .ow 1851)], [(1451, .arr ⟨false, false⟩ 2 172 (List.map a_Instr ([] : List Instr))), (1771, .arr ⟨false, false⟩ 1 2 (List.map a_i64 (List.replicate k18 (0 : Int)))), (1851, .arr ⟨false, false⟩ 2 71 (List.map a_Point ([] : List Point)))]⟩ ?_ (fun hS1050_3 => ?_)
    · refine TZ_one 6 (by kernel_rfl) rfl ?_
      refine TL_make 1611 (n := k16) el27 z2 rfl rfl rfl rfl rfl rfl (makeI_spec hk16).1 (makeI_spec hk16).1 (makeI_spec hk16).2 rfl rfl rfl rfl ?_
      refine TL_nils 1611 (List.map a_i64 (List.replicate k16 (0 : Int))) (by rw [hF]; rfl) rfl (ElR.rep (z := .int .i64 (0 : Int)) (g := a_i64) (x := (0 : Int)) ⟨⟨rfl, rfl⟩, trivial⟩ k16) rfl ?_
      refine TL_nil ?_
      refine TZ_pure 10 (by kernel_rfl) rfl rfl rfl rfl rfl (op_buildP pl123 z123 rfl rfl rfl rfl rfl) ?_
      refine TZ_one 11 (by kernel_rfl) rfl ?_
      refine TL_box 2011 rfl rfl rfl rfl rfl rfl rfl ?_
      refine TL_nil ?_
      refine TZ_pure 12 (by kernel_rfl) rfl rfl rfl rfl rfl (op_assign rfl) ?_
      refine TZ_done (by kernel_rfl) ?_
      refine T_keepH [4] [1451, 1611, 1771, 1851, 2011] rfl rfl rfl rfl (by rw [hF]; rfl) ?_
      refine T_ren [(1451, 411), (1611, 571), (1771, 731), (1851, 811), (2011, 971)] rfl rfl rfl (by rw [hF]; rfl) ?_
      exact hj0 ((List.replicate k16 (0 : Int)), (List.replicate k18 (0 : Int))) hm
    refine TZ_cut 5 [true, true, true, true, true, true, false, true, true, false, false, false, false] ⟨[(0, .cp [.sl 2 (List.map a_Term p0.Pre), .sl 8 (List.map a_Stmt p0.Body), .sl 2 (List.map a_Term p0.Post)]), (2, .nilp), (3, .int .i64 (p0.Body.length : Int)), (5, .cp [.sl 2 (List.map a_Term p0.Pre), .sl 8 (List.map a_Stmt p0.Body), .sl 2 (List.map a_Term p0.Post)]), (6, .cp [.sl 2 (List.map a_Term p0.Pre), .sl 8 (List.map a_Stmt p0.Body), .sl 2 (List.map a_Term p0.Post)]), (7, .cp [.sl 8 (List.map a_Stmt p0.Body)]), (8, .sl 8 (List.map a_Stmt p0.Body)), (9, .int .i64 (p0.Body.length : Int)), (10, .cp [.sl 2 (List.map a_Term p0.Pre), .sl 8 (List.map a_Stmt p0.Body), .sl 2 (List.map a_Term p0.Post)]), (11, .cp [.sl 2 (List.map a_Term p0.Pre), .sl 8 (List.map a_Stmt p0.Body), .sl 2 (List.map a_Term p0.Post)]), (12, .cp [.sl 8 (List.map a_Stmt p0.Body)]), (13, .sl 8 (List.map a_Stmt p0.Body)), (14, .ow 1451), (15, .int .i64 (p0.Body.length : Int)), (17, .int .i64 (p0.Body.length : Int)), (18, .ow 1771)], [(1451, .arr ⟨false, false⟩ 2 172 (List.map a_Instr ([] : List Instr))), (1771, .arr ⟨false, false⟩ 1 2 (List.map a_i64 (List.replicate k18 (0 : Int))))]⟩ ?_ (fun hS1050_4 => ?_)
    · refine TZ_each [6, 9] (by kernel_rfl) rfl ?_
      refine ⟨?_, ?_⟩
      · refine ⟨_, rfl, ?_⟩
        refine TL_make 1611 (n := k16) el27 z2 rfl rfl rfl rfl rfl rfl (makeI_spec hk16).1 (makeI_spec hk16).1 (makeI_spec hk16).2 rfl rfl rfl rfl ?_
        refine TL_nils 1611 (List.map a_i64 (List.replicate k16 (0 : Int))) (by rw [hF]; rfl) rfl (ElR.rep (z := .int .i64 (0 : Int)) (g := a_i64) (x := (0 : Int)) ⟨⟨rfl, rfl⟩, trivial⟩ k16) rfl ?_
        refine TL_nil ?_
        refine TZ_keepH [0, 2, 3, 5, 6, 7, 8, 9, 10, 11, 12, 13, 14, 15, 16, 17, 18] [1451, 1611, 1771] rfl rfl rfl rfl (by rw [hF]; rfl) ?_
        exact hS1050_0
      · refine ⟨_, rfl, ?_⟩
        refine TL_buildSlice 1851 (es := List.map a_Point ([] : List Point)) el61 z71 rfl rfl rfl rfl rfl rfl rfl rfl rfl ?_
        refine TL_nil ?_
        refine TZ_keepH [0, 2, 3, 5, 6, 7, 8, 9, 10, 11, 12, 13, 14, 15, 17, 18, 19] [1451, 1771, 1851] rfl rfl rfl rfl (by rw [hF]; rfl) ?_
        exact hS1050_3
    refine TZ_cut 5 [true, true, true, true, true, true, false, true, false, true, false, false, false] ⟨[(0, .cp [.sl 2 (List.map a_Term p0.Pre), .sl 8 (List.map a_Stmt p0.Body), .sl 2 (List.map a_Term p0.Post)]), (2, .nilp), (3, .int .i64 (p0.Body.length : Int)), (5, .cp [.sl 2 (List.map a_Term p0.Pre), .sl 8 (List.map a_Stmt p0.Body), .sl 2 (List.map a_Term p0.Post)]), (6, .cp [.sl 2 (List.map a_Term p0.Pre), .sl 8 (List.map a_Stmt p0.Body), .sl 2 (List.map a_Term p0.Post)]), (7, .cp [.sl 8 (List.map a_Stmt p0.Body)]), (8, .sl 8 (List.map a_Stmt p0.Body)), (9, .int .i64 (p0.Body.length : Int)), (10, .cp [.sl 2 (List.map a_Term p0.Pre), .sl 8 (List.map a_Stmt p0.Body), .sl 2 (List.map a_Term p0.Post)]), (11, .cp [.sl 2 (List.map a_Term p0.Pre), .sl 8 (List.map a_Stmt p0.Body), .sl 2 (List.map a_Term p0.Post)]), (12, .cp [.sl 8 (List.map a_Stmt p0.Body)]), (13, .sl 8 (List.map a_Stmt p0.Body)), (14, .ow 1451), (15, .int .i64 (p0.Body.length : Int)), (17, .int .i64 (p0.Body.length : Int)), (19, .ow 1851)], [(1451, .arr ⟨false, false⟩ 2 172 (List.map a_Instr ([] : List Instr))), (1851, .arr ⟨false, false⟩ 2 71 (List.map a_Point ([] : List Point)))]⟩ ?_ (fun hS1050_5 => ?_)
    · refine TZ_each [6, 8] (by kernel_rfl) rfl ?_
      refine ⟨?_, ?_⟩
      · refine ⟨_, rfl, ?_⟩
        refine TL_make 1611 (n := k16) el27 z2 rfl rfl rfl rfl rfl rfl (makeI_spec hk16).1 (makeI_spec hk16).1 (makeI_spec hk16).2 rfl rfl rfl rfl ?_
        refine TL_nils 1611 (List.map a_i64 (List.replicate k16 (0 : Int))) (by rw [hF]; rfl) rfl (ElR.rep (z := .int .i64 (0 : Int)) (g := a_i64) (x := (0 : Int)) ⟨⟨rfl, rfl⟩, trivial⟩ k16) rfl ?_
        refine TL_nil ?_
        refine TZ_keepH [0, 2, 3, 5, 6, 7, 8, 9, 10, 11, 12, 13, 14, 15, 16, 17, 19] [1451, 1611, 1851] rfl rfl rfl rfl (by rw [hF]; rfl) ?_
        exact hS1050_1
      · refine ⟨_, rfl, ?_⟩
        refine TL_make 1771 (n := k18) el27 z2 rfl rfl rfl rfl rfl rfl (makeI_spec hk18).1 (makeI_spec hk18).1 (makeI_spec hk18).2 rfl rfl rfl rfl ?_
        refine TL_nils 1771 (List.map a_i64 (List.replicate k18 (0 : Int))) (by rw [hF]; rfl) rfl (ElR.rep (z := .int .i64 (0 : Int)) (g := a_i64) (x := (0 : Int)) ⟨⟨rfl, rfl⟩, trivial⟩ k18) rfl ?_
        refine TL_nil ?_
        refine TZ_keepH [0, 2, 3, 5, 6, 7, 8, 9, 10, 11, 12, 13, 14, 15, 17, 18, 19] [1451, 1771, 1851] rfl rfl rfl rfl (by rw [hF]; rfl) ?_
        exact hS1050_3
    refine TZ_cut 6 [true, true, true, true, true, true, false, true, false, false, false, false, false] ⟨[(0, .cp [.sl 2 (List.map a_Term p0.Pre), .sl 8 (List.map a_Stmt p0.Body), .sl 2 (List.map a_Term p0.Post)]), (2, .nilp), (3, .int .i64 (p0.Body.length : Int)), (5, .cp [.sl 2 (List.map a_Term p0.Pre), .sl 8 (List.map a_Stmt p0.Body), .sl 2 (List.map a_Term p0.Post)]), (6, .cp [.sl 2 (List.map a_Term p0.Pre), .sl 8 (List.map a_Stmt p0.Body), .sl 2 (List.map a_Term p0.Post)]), (7, .cp [.sl 8 (List.map a_Stmt p0.Body)]), (8, .sl 8 (List.map a_Stmt p0.Body)), (9, .int .i64 (p0.Body.length : Int)), (10, .cp [.sl 2 (List.map a_Term p0.Pre), .sl 8 (List.map a_Stmt p0.Body), .sl 2 (List.map a_Term p0.Post)]), (11, .cp [.sl 2 (List.map a_Term p0.Pre), .sl 8 (List.map a_Stmt p0.Body), .sl 2 (List.map a_Term p0.Post)]), (12, .cp [.sl 8 (List.map a_Stmt p0.Body)]), (13, .sl 8 (List.map a_Stmt p0.Body)), (14, .ow 1451), (15, .int .i64 (p0.Body.length : Int)), (17, .int .i64 (p0.Body.length : Int))], [(1451, .arr ⟨false, false⟩ 2 172 (List.map a_Instr ([] : List Instr)))]⟩ ?_ (fun hS1050_6 => ?_)
    · refine TZ_each [6, 8, 9] (by kernel_rfl) rfl ?_
      refine ⟨?_, ?_, ?_⟩
      · refine ⟨_, rfl, ?_⟩
        refine TL_make 1611 (n := k16) el27 z2 rfl rfl rfl rfl rfl rfl (makeI_spec hk16).1 (makeI_spec hk16).1 (makeI_spec hk16).2 rfl rfl rfl rfl ?_
        refine TL_nils 1611 (List.map a_i64 (List.replicate k16 (0 : Int))) (by rw [hF]; rfl) rfl (ElR.rep (z := .int .i64 (0 : Int)) (g := a_i64) (x := (0 : Int)) ⟨⟨rfl, rfl⟩, trivial⟩ k16) rfl ?_
        refine TL_nil ?_
        refine TZ_keepH [0, 2, 3, 5, 6, 7, 8, 9, 10, 11, 12, 13, 14, 15, 16, 17] [1451, 1611] rfl rfl rfl rfl (by rw [hF]; rfl) ?_
        exact hS1050_2
      · refine ⟨_, rfl, ?_⟩
        refine TL_make 1771 (n := k18) el27 z2 rfl rfl rfl rfl rfl rfl (makeI_spec hk18).1 (makeI_spec hk18).1 (makeI_spec hk18).2 rfl rfl rfl rfl ?_
        refine TL_nils 1771 (List.map a_i64 (List.replicate k18 (0 : Int))) (by rw [hF]; rfl) rfl (ElR.rep (z := .int .i64 (0 : Int)) (g := a_i64) (x := (0 : Int)) ⟨⟨rfl, rfl⟩, trivial⟩ k18) rfl ?_
        refine TL_nil ?_
        refine TZ_keepH [0, 2, 3, 5, 6, 7, 8, 9, 10, 11, 12, 13, 14, 15, 17, 18] [1451, 1771] rfl rfl rfl rfl (by rw [hF]; rfl) ?_
        exact hS1050_4
      · refine ⟨_, rfl, ?_⟩
        refine TL_buildSlice 1851 (es := List.map a_Point ([] : List Point)) el61 z71 rfl rfl rfl rfl rfl rfl rfl rfl rfl ?_
        refine TL_nil ?_
        refine TZ_keepH [0, 2, 3, 5, 6, 7, 8, 9, 10, 11, 12, 13, 14, 15, 17, 19] [1451, 1851] rfl rfl rfl rfl (by rw [hF]; rfl) ?_
        exact hS1050_5
    refine TZ_cut 4 [true, true, true, true, false, true, true, true, true, true, false, false, false] ⟨[(0, .cp [.sl 2 (List.map a_Term p0.Pre), .sl 8 (List.map a_Stmt p0.Body), .sl 2 (List.map a_Term p0.Post)]), (2, .nilp), (3, .int .i64 (p0.Body.length : Int)), (5, .cp [.sl 2 (List.map a_Term p0.Pre), .sl 8 (List.map a_Stmt p0.Body), .sl 2 (List.map a_Term p0.Post)]), (6, .cp [.sl 2 (List.map a_Term p0.Pre), .sl 8 (List.map a_Stmt p0.Body), .sl 2 (List.map a_Term p0.Post)]), (7, .cp [.sl 8 (List.map a_Stmt p0.Body)]), (8, .sl 8 (List.map a_Stmt p0.Body)), (9, .int .i64 (p0.Body.length : Int)), (10, .cp [.sl 2 (List.map a_Term p0.Pre), .sl 8 (List.map a_Stmt p0.Body), .sl 2 (List.map a_Term p0.Post)]), (11, .cp [.sl 2 (List.map a_Term p0.Pre), .sl 8 (List.map a_Stmt p0.Body), .sl 2 (List.map a_Term p0.Post)]), (12, .cp [.sl 8 (List.map a_Stmt p0.Body)]), (13, .sl 8 (List.map a_Stmt p0.Body)), (15, .int .i64 (p0.Body.length : Int)), (16, .ow 1611), (17, .int .i64 (p0.Body.length : Int)), (18, .ow 1771), (19, .ow 1851)], [(1611, .arr ⟨false, false⟩ 1 2 (List.map a_i64 (List.replicate k16 (0 : Int)))), (1771, .arr ⟨false, false⟩ 1 2 (List.map a_i64 (List.replicate k18 (0 : Int)))), (1851, .arr ⟨false, false⟩ 2 71 (List.map a_Point ([] : List Point)))]⟩ ?_ (fun hS1050_7 => ?_)
    · refine TZ_one 4 (by kernel_rfl) rfl ?_
      refine TL_buildSlice 1451 (es := List.map a_Instr ([] : List Instr)) el60 z172 rfl rfl rfl rfl rfl rfl rfl rfl rfl ?_
      refine TL_nil ?_
      refine TZ_pure 10 (by kernel_rfl) rfl rfl rfl rfl rfl (op_buildP pl123 z123 rfl rfl rfl rfl rfl) ?_
      refine TZ_one 11 (by kernel_rfl) rfl ?_
      refine TL_box 2011 rfl rfl rfl rfl rfl rfl rfl ?_
      refine TL_nil ?_
      refine TZ_pure 12 (by kernel_rfl) rfl rfl rfl rfl rfl (op_assign rfl) ?_
      refine TZ_done (by kernel_rfl) ?_
      refine T_keepH [4] [1451, 1611, 1771, 1851, 2011] rfl rfl rfl rfl (by rw [hF]; rfl) ?_
      refine T_ren [(1451, 411), (1611, 571), (1771, 731), (1851, 811), (2011, 971)] rfl rfl rfl (by rw [hF]; rfl) ?_
      exact hj0 ((List.replicate k16 (0 : Int)), (List.replicate k18 (0 : Int))) hm
    refine TZ_cut 5 [true, true, true, true, false, true, true, true, true, false, false, false, false] ⟨[(0, .cp [.sl 2 (List.map a_Term p0.Pre), .sl 8 (List.map a_Stmt p0.Body), .sl 2 (List.map a_Term p0.Post)]), (2, .nilp), (3, .int .i64 (p0.Body.length : Int)), (5, .cp [.sl 2 (List.map a_Term p0.Pre), .sl 8 (List.map a_Stmt p0.Body), .sl 2 (List.map a_Term p0.Post)]), (6, .cp [.sl 2 (List.map a_Term p0.Pre), .sl 8 (List.map a_Stmt p0.Body), .sl 2 (List.map a_Term p0.Post)]), (7, .cp [.sl 8 (List.map a_Stmt p0.Body)]), (8, .sl 8 (List.map a_Stmt p0.Body)), (9, .int .i64 (p0.Body.length : Int)), (10, .cp [.sl 2 (List.map a_Term p0.Pre), .sl 8 (List.map a_Stmt p0.Body), .sl 2 (List.map a_Term p0.Post)]), (11, .cp [.sl 2 (List.map a_Term p0.Pre), .sl 8 (List.map a_Stmt p0.Body), .sl 2 (List.map a_Term p0.Post)]), (12, .cp [.sl 8 (List.map a_Stmt p0.Body)]), (13, .sl 8 (List.map a_Stmt p0.Body)), (15, .int .i64 (p0.Body.length : Int)), (16, .ow 1611), (17, .int .i64 (p0.Body.length : Int)), (18, .ow 1771)], [(1611, .arr ⟨false, false⟩ 1 2 (List.map a_i64 (List.replicate k16 (0 : Int)))), (1771, .arr ⟨false, false⟩ 1 2 (List.map a_i64 (List.replicate k18 (0 : Int))))]⟩ ?_ (fun hS1050_8 => ?_)
    · refine TZ_each [4, 9] (by kernel_rfl) rfl ?_
      refine ⟨?_, ?_⟩
      · refine ⟨_, rfl, ?_⟩
        refine TL_buildSlice 1451 (es := List.map a_Instr ([] : List Instr)) el60 z172 rfl rfl rfl rfl rfl rfl rfl rfl rfl ?_
        refine TL_nil ?_
        refine TZ_keepH [0, 2, 3, 5, 6, 7, 8, 9, 10, 11, 12, 13, 14, 15, 16, 17, 18] [1451, 1611, 1771] rfl rfl rfl rfl (by rw [hF]; rfl) ?_
        exact hS1050_0
      · refine ⟨_, rfl, ?_⟩
        refine TL_buildSlice 1851 (es := List.map a_Point ([] : List Point)) el61 z71 rfl rfl rfl rfl rfl rfl rfl rfl rfl ?_
        refine TL_nil ?_
        refine TZ_keepH [0, 2, 3, 5, 6, 7, 8, 9, 10, 11, 12, 13, 15, 16, 17, 18, 19] [1611, 1771, 1851] rfl rfl rfl rfl (by rw [hF]; rfl) ?_
        exact hS1050_7
    refine TZ_cut 5 [true, true, true, true, false, true, true, true, false, true, false, false, false] ⟨[(0, .cp [.sl 2 (List.map a_Term p0.Pre), .sl 8 (List.map a_Stmt p0.Body), .sl 2 (List.map a_Term p0.Post)]), (2, .nilp), (3, .int .i64 (p0.Body.length : Int)), (5, .cp [.sl 2 (List.map a_Term p0.Pre), .sl 8 (List.map a_Stmt p0.Body), .sl 2 (List.map a_Term p0.Post)]), (6, .cp [.sl 2 (List.map a_Term p0.Pre), .sl 8 (List.map a_Stmt p0.Body), .sl 2 (List.map a_Term p0.Post)]), (7, .cp [.sl 8 (List.map a_Stmt p0.Body)]), (8, .sl 8 (List.map a_Stmt p0.Body)), (9, .int .i64 (p0.Body.length : Int)), (10, .cp [.sl 2 (List.map a_Term p0.Pre), .sl 8 (List.map a_Stmt p0.Body), .sl 2 (List.map a_Term p0.Post)]), (11, .cp [.sl 2 (List.map a_Term p0.Pre), .sl 8 (List.map a_Stmt p0.Body), .sl 2 (List.map a_Term p0.Post)]), (12, .cp [.sl 8 (List.map a_Stmt p0.Body)]), (13, .sl 8 (List.map a_Stmt p0.Body)), (15, .int .i64 (p0.Body.length : Int)), (16, .ow 1611), (17, .int .i64 (p0.Body.length : Int)), (19, .ow 1851)], [(1611, .arr ⟨false, false⟩ 1 2 (List.map a_i64 (List.replicate k16 (0 : Int)))), (1851, .arr ⟨false, false⟩ 2 71 (List.map a_Point ([] : List Point)))]⟩ ?_ (fun hS1050_9 => ?_)
    · refine TZ_each [4, 8] (by kernel_rfl) rfl ?_
      refine ⟨?_, ?_⟩
      · refine ⟨_, rfl, ?_⟩
        refine TL_buildSlice 1451 (es := List.map a_Instr ([] : List Instr)) el60 z172 rfl rfl rfl rfl rfl rfl rfl rfl rfl ?_
        refine TL_nil ?_
        refine TZ_keepH [0, 2, 3, 5, 6, 7, 8, 9, 10, 11, 12, 13, 14, 15, 16, 17, 19] [1451, 1611, 1851] rfl rfl rfl rfl (by rw [hF]; rfl) ?_
        exact hS1050_1
      · refine ⟨_, rfl, ?_⟩
        refine TL_make 1771 (n := k18) el27 z2 rfl rfl rfl rfl rfl rfl (makeI_spec hk18).1 (makeI_spec hk18).1 (makeI_spec hk18).2 rfl rfl rfl rfl ?_
        refine TL_nils 1771 (List.map a_i64 (List.replicate k18 (0 : Int))) (by rw [hF]; rfl) rfl (ElR.rep (z := .int .i64 (0 : Int)) (g := a_i64) (x := (0 : Int)) ⟨⟨rfl, rfl⟩, trivial⟩ k18) rfl ?_
        refine TL_nil ?_
        refine TZ_keepH [0, 2, 3, 5, 6, 7, 8, 9, 10, 11, 12, 13, 15, 16, 17, 18, 19] [1611, 1771, 1851] rfl rfl rfl rfl (by rw [hF]; rfl) ?_
        exact hS1050_7
    refine TZ_cut 6 [true, true, true, true, false, true, true, true, false, false, false, false, false] ⟨[(0, .cp [.sl 2 (List.map a_Term p0.Pre), .sl 8 (List.map a_Stmt p0.Body), .sl 2 (List.map a_Term p0.Post)]), (2, .nilp), (3, .int .i64 (p0.Body.length : Int)), (5, .cp [.sl 2 (List.map a_Term p0.Pre), .sl 8 (List.map a_Stmt p0.Body), .sl 2 (List.map a_Term p0.Post)]), (6, .cp [.sl 2 (List.map a_Term p0.Pre), .sl 8 (List.map a_Stmt p0.Body), .sl 2 (List.map a_Term p0.Post)]), (7, .cp [.sl 8 (List.map a_Stmt p0.Body)]), (8, .sl 8 (List.map a_Stmt p0.Body)), (9, .int .i64 (p0.Body.length : Int)), (10, .cp [.sl 2 (List.map a_Term p0.Pre), .sl 8 (List.map a_Stmt p0.Body), .sl 2 (List.map a_Term p0.Post)]), (11, .cp [.sl 2 (List.map a_Term p0.Pre), .sl 8 (List.map a_Stmt p0.Body), .sl 2 (List.map a_Term p0.Post)]), (12, .cp [.sl 8 (List.map a_Stmt p0.Body)]), (13, .sl 8 (List.map a_Stmt p0.Body)), (15, .int .i64 (p0.Body.length : Int)), (16, .ow 1611), (17, .int .i64 (p0.Body.length : Int))], [(1611, .arr ⟨false, false⟩ 1 2 (List.map a_i64 (List.replicate k16 (0 : Int))))]⟩ ?_ (fun hS1050_10 => ?_)
    · refine TZ_each [4, 8, 9] (by kernel_rfl) rfl ?_
      refine ⟨?_, ?_, ?_⟩
      · refine ⟨_, rfl, ?_⟩
        refine TL_buildSlice 1451 (es := List.map a_Instr ([] : List Instr)) el60 z172 rfl rfl rfl rfl rfl rfl rfl rfl rfl ?_
        refine TL_nil ?_
        refine TZ_keepH [0, 2, 3, 5, 6, 7, 8, 9, 10, 11, 12, 13, 14, 15, 16, 17] [1451, 1611] rfl rfl rfl rfl (by rw [hF]; rfl) ?_
        exact hS1050_2
      · refine ⟨_, rfl, ?_⟩
        refine TL_make 1771 (n := k18) el27 z2 rfl rfl rfl rfl rfl rfl (makeI_spec hk18).1 (makeI_spec hk18).1 (makeI_spec hk18).2 rfl rfl rfl rfl ?_
        refine TL_nils 1771 (List.map a_i64 (List.replicate k18 (0 : Int))) (by rw [hF]; rfl) rfl (ElR.rep (z := .int .i64 (0 : Int)) (g := a_i64) (x := (0 : Int)) ⟨⟨rfl, rfl⟩, trivial⟩ k18) rfl ?_
        refine TL_nil ?_
        refine TZ_keepH [0, 2, 3, 5, 6, 7, 8, 9, 10, 11, 12, 13, 15, 16, 17, 18] [1611, 1771] rfl rfl rfl rfl (by rw [hF]; rfl) ?_
        exact hS1050_8
      · refine ⟨_, rfl, ?_⟩
        refine TL_buildSlice 1851 (es := List.map a_Point ([] : List Point)) el61 z71 rfl rfl rfl rfl rfl rfl rfl rfl rfl ?_
        refine TL_nil ?_
        refine TZ_keepH [0, 2, 3, 5, 6, 7, 8, 9, 10, 11, 12, 13, 15, 16, 17, 19] [1611, 1851] rfl rfl rfl rfl (by rw [hF]; rfl) ?_
        exact hS1050_9
    refine TZ_cut 5 [true, true, true, true, false, true, false, true, true, true, false, false, false] ⟨[(0, .cp [.sl 2 (List.map a_Term p0.Pre), .sl 8 (List.map a_Stmt p0.Body), .sl 2 (List.map a_Term p0.Post)]), (2, .nilp), (3, .int .i64 (p0.Body.length : Int)), (5, .cp [.sl 2 (List.map a_Term p0.Pre), .sl 8 (List.map a_Stmt p0.Body), .sl 2 (List.map a_Term p0.Post)]), (6, .cp [.sl 2 (List.map a_Term p0.Pre), .sl 8 (List.map a_Stmt p0.Body), .sl 2 (List.map a_Term p0.Post)]), (7, .cp [.sl 8 (List.map a_Stmt p0.Body)]), (8, .sl 8 (List.map a_Stmt p0.Body)), (9, .int .i64 (p0.Body.length : Int)), (10, .cp [.sl 2 (List.map a_Term p0.Pre), .sl 8 (List.map a_Stmt p0.Body), .sl 2 (List.map a_Term p0.Post)]), (11, .cp [.sl 2 (List.map a_Term p0.Pre), .sl 8 (List.map a_Stmt p0.Body), .sl 2 (List.map a_Term p0.Post)]), (12, .cp [.sl 8 (List.map a_Stmt p0.Body)]), (13, .sl 8 (List.map a_Stmt p0.Body)), (15, .int .i64 (p0.Body.length : Int)), (17, .int .i64 (p0.Body.length : Int)), (18, .ow 1771), (19, .ow 1851)], [(1771, .arr ⟨false, false⟩ 1 2 (List.map a_i64 (List.replicate k18 (0 : Int)))), (1851, .arr ⟨false, false⟩ 2 71 (List.map a_Point ([] : List Point)))]⟩ ?_ (fun hS1050_11 => ?_)
    · refine TZ_each [4, 6] (by kernel_rfl) rfl ?_
      refine ⟨?_, ?_⟩
      · refine ⟨_, rfl, ?_⟩
        refine TL_buildSlice 1451 (es := List.map a_Instr ([] : List Instr)) el60 z172 rfl rfl rfl rfl rfl rfl rfl rfl rfl ?_
        refine TL_nil ?_
        refine TZ_keepH [0, 2, 3, 5, 6, 7, 8, 9, 10, 11, 12, 13, 14, 15, 17, 18, 19] [1451, 1771, 1851] rfl rfl rfl rfl (by rw [hF]; rfl) ?_
        exact hS1050_3
      · refine ⟨_, rfl, ?_⟩
        refine TL_make 1611 (n := k16) el27 z2 rfl rfl rfl rfl rfl rfl (makeI_spec hk16).1 (makeI_spec hk16).1 (makeI_spec hk16).2 rfl rfl rfl rfl ?_
        refine TL_nils 1611 (List.map a_i64 (List.replicate k16 (0 : Int))) (by rw [hF]; rfl) rfl (ElR.rep (z := .int .i64 (0 : Int)) (g := a_i64) (x := (0 : Int)) ⟨⟨rfl, rfl⟩, trivial⟩ k16) rfl ?_
        refine TL_nil ?_
        refine TZ_keepH [0, 2, 3, 5, 6, 7, 8, 9, 10, 11, 12, 13, 15, 16, 17, 18, 19] [1611, 1771, 1851] rfl rfl rfl rfl (by rw [hF]; rfl) ?_
        exact hS1050_7
    refine TZ_cut 6 [true, true, true, true, false, true, false, true, true, false, false, false, false] ⟨[(0, .cp [.sl 2 (List.map a_Term p0.Pre), .sl 8 (List.map a_Stmt p0.Body), .sl 2 (List.map a_Term p0.Post)]), (2, .nilp), (3, .int .i64 (p0.Body.length : Int)), (5, .cp [.sl 2 (List.map a_Term p0.Pre), .sl 8 (List.map a_Stmt p0.Body), .sl 2 (List.map a_Term p0.Post)]), (6, .cp [.sl 2 (List.map a_Term p0.Pre), .sl 8 (List.map a_Stmt p0.Body), .sl 2 (List.map a_Term p0.Post)]), (7, .cp [.sl 8 (List.map a_Stmt p0.Body)]), (8, .sl 8 (List.map a_Stmt p0.Body)), (9, .int .i64 (p0.Body.length : Int)), (10, .cp [.sl 2 (List.map a_Term p0.Pre), .sl 8 (List.map a_Stmt p0.Body), .sl 2 (List.map a_Term p0.Post)]), (11, .cp [.sl 2 (List.map a_Term p0.Pre), .sl 8 (List.map a_Stmt p0.Body), .sl 2 (List.map a_Term p0.Post)]), (12, .cp [.sl 8 (List.map a_Stmt p0.Body)]), (13, .sl 8 (List.map a_Stmt p0.Body)), (15, .int .i64 (p0.Body.length : Int)), (17, .int .i64 (p0.Body.length : Int)), (18, .ow 1771)], [(1771, .arr ⟨false, false⟩ 1 2 (List.map a_i64 (List.replicate k18 (0 : Int))))]⟩ ?_ (fun hS1050_12 => ?_)
    · refine TZ_each [4, 6, 9] (by kernel_rfl) rfl ?_
      refine ⟨?_, ?_, ?_⟩
      · refine ⟨_, rfl, ?_⟩
        refine TL_buildSlice 1451 (es := List.map a_Instr ([] : List Instr)) el60 z172 rfl rfl rfl rfl rfl rfl rfl rfl rfl ?_
        refine TL_nil ?_
        refine TZ_keepH [0, 2, 3, 5, 6, 7, 8, 9, 10, 11, 12, 13, 14, 15, 17, 18] [1451, 1771] rfl rfl rfl rfl (by rw [hF]; rfl) ?_
        exact hS1050_4
      · refine ⟨_, rfl, ?_⟩
        refine TL_make 1611 (n := k16) el27 z2 rfl rfl rfl rfl rfl rfl (makeI_spec hk16).1 (makeI_spec hk16).1 (makeI_spec hk16).2 rfl rfl rfl rfl ?_
        refine TL_nils 1611 (List.map a_i64 (List.replicate k16 (0 : Int))) (by rw [hF]; rfl) rfl (ElR.rep (z := .int .i64 (0 : Int)) (g := a_i64) (x := (0 : Int)) ⟨⟨rfl, rfl⟩, trivial⟩ k16) rfl ?_
        refine TL_nil ?_
        refine TZ_keepH [0, 2, 3, 5, 6, 7, 8, 9, 10, 11, 12, 13, 15, 16, 17, 18] [1611, 1771] rfl rfl rfl rfl (by rw [hF]; rfl) ?_
        exact hS1050_8
      · refine ⟨_, rfl, ?_⟩
        refine TL_buildSlice 1851 (es := List.map a_Point ([] : List Point)) el61 z71 rfl rfl rfl rfl rfl rfl rfl rfl rfl ?_
        refine TL_nil ?_
        refine TZ_keepH [0, 2, 3, 5, 6, 7, 8, 9, 10, 11, 12, 13, 15, 17, 18, 19] [1771, 1851] rfl rfl rfl rfl (by rw [hF]; rfl) ?_
        exact hS1050_11
    refine TZ_cut 6 [true, true, true, true, false, true, false, true, false, true, false, false, false] ⟨[(0, .cp [.sl 2 (List.map a_Term p0.Pre), .sl 8 (List.map a_Stmt p0.Body), .sl 2 (List.map a_Term p0.Post)]), (2, .nilp), (3, .int .i64 (p0.Body.length : Int)), (5, .cp [.sl 2 (List.map a_Term p0.Pre), .sl 8 (List.map a_Stmt p0.Body), .sl 2 (List.map a_Term p0.Post)]), (6, .cp [.sl 2 (List.map a_Term p0.Pre), .sl 8 (List.map a_Stmt p0.Body), .sl 2 (List.map a_Term p0.Post)]), (7, .cp [.sl 8 (List.map a_Stmt p0.Body)]), (8, .sl 8 (List.map a_Stmt p0.Body)), (9, .int .i64 (p0.Body.length : Int)), (10, .cp [.sl 2 (List.map a_Term p0.Pre), .sl 8 (List.map a_Stmt p0.Body), .sl 2 (List.map a_Term p0.Post)]), (11, .cp [.sl 2 (List.map a_Term p0.Pre), .sl 8 (List.map a_Stmt p0.Body), .sl 2 (List.map a_Term p0.Post)]), (12, .cp [.sl 8 (List.map a_Stmt p0.Body)]), (13, .sl 8 (List.map a_Stmt p0.Body)), (15, .int .i64 (p0.Body.length : Int)), (17, .int .i64 (p0.Body.length : Int)), (19, .ow 1851)], [(1851, .arr ⟨false, false⟩ 2 71 (List.map a_Point ([] : List Point)))]⟩ ?_ (fun hS1050_13 => ?_)
    · refine TZ_each [4, 6, 8] (by kernel_rfl) rfl ?_
      refine ⟨?_, ?_, ?_⟩
      · refine ⟨_, rfl, ?_⟩
        refine TL_buildSlice 1451 (es := List.map a_Instr ([] : List Instr)) el60 z172 rfl rfl rfl rfl rfl rfl rfl rfl rfl ?_
        refine TL_nil ?_
        refine TZ_keepH [0, 2, 3, 5, 6, 7, 8, 9, 10, 11, 12, 13, 14, 15, 17, 19] [1451, 1851] rfl rfl rfl rfl (by rw [hF]; rfl) ?_
        exact hS1050_5
      · refine ⟨_, rfl, ?_⟩
        refine TL_make 1611 (n := k16) el27 z2 rfl rfl rfl rfl rfl rfl (makeI_spec hk16).1 (makeI_spec hk16).1 (makeI_spec hk16).2 rfl rfl rfl rfl ?_
        refine TL_nils 1611 (List.map a_i64 (List.replicate k16 (0 : Int))) (by rw [hF]; rfl) rfl (ElR.rep (z := .int .i64 (0 : Int)) (g := a_i64) (x := (0 : Int)) ⟨⟨rfl, rfl⟩, trivial⟩ k16) rfl ?_
        refine TL_nil ?_
        refine TZ_keepH [0, 2, 3, 5, 6, 7, 8, 9, 10, 11, 12, 13, 15, 16, 17, 19] [1611, 1851] rfl rfl rfl rfl (by rw [hF]; rfl) ?_
        exact hS1050_9
      · refine ⟨_, rfl, ?_⟩
        refine TL_make 1771 (n := k18) el27 z2 rfl rfl rfl rfl rfl rfl (makeI_spec hk18).1 (makeI_spec hk18).1 (makeI_spec hk18).2 rfl rfl rfl rfl ?_
        refine TL_nils 1771 (List.map a_i64 (List.replicate k18 (0 : Int))) (by rw [hF]; rfl) rfl (ElR.rep (z := .int .i64 (0 : Int)) (g := a_i64) (x := (0 : Int)) ⟨⟨rfl, rfl⟩, trivial⟩ k18) rfl ?_
        refine TL_nil ?_
        refine TZ_keepH [0, 2, 3, 5, 6, 7, 8, 9, 10, 11, 12, 13, 15, 17, 18, 19] [1771, 1851] rfl rfl rfl rfl (by rw [hF]; rfl) ?_
        exact hS1050_11
    refine TZ_cut 7 [true, true, true, true, false, true, false, true, false, false, false, false, false] ⟨[(0, .cp [.sl 2 (List.map a_Term p0.Pre), .sl 8 (List.map a_Stmt p0.Body), .sl 2 (List.map a_Term p0.Post)]), (2, .nilp), (3, .int .i64 (p0.Body.length : Int)), (5, .cp [.sl 2 (List.map a_Term p0.Pre), .sl 8 (List.map a_Stmt p0.Body), .sl 2 (List.map a_Term p0.Post)]), (6, .cp [.sl 2 (List.map a_Term p0.Pre), .sl 8 (List.map a_Stmt p0.Body), .sl 2 (List.map a_Term p0.Post)]), (7, .cp [.sl 8 (List.map a_Stmt p0.Body)]), (8, .sl 8 (List.map a_Stmt p0.Body)), (9, .int .i64 (p0.Body.length : Int)), (10, .cp [.sl 2 (List.map a_Term p0.Pre), .sl 8 (List.map a_Stmt p0.Body), .sl 2 (List.map a_Term p0.Post)]), (11, .cp [.sl 2 (List.map a_Term p0.Pre), .sl 8 (List.map a_Stmt p0.Body), .sl 2 (List.map a_Term p0.Post)]), (12, .cp [.sl 8 (List.map a_Stmt p0.Body)]), (13, .sl 8 (List.map a_Stmt p0.Body)), (15, .int .i64 (p0.Body.length : Int)), (17, .int .i64 (p0.Body.length : Int))], []⟩ ?_ (fun hS1050_14 => ?_)
    · refine TZ_each [4, 6, 8, 9] (by kernel_rfl) rfl ?_
      refine ⟨?_, ?_, ?_, ?_⟩
      · refine ⟨_, rfl, ?_⟩
        refine TL_buildSlice 1451 (es := List.map a_Instr ([] : List Instr)) el60 z172 rfl rfl rfl rfl rfl rfl rfl rfl rfl ?_
        refine TL_nil ?_
        refine TZ_keepH [0, 2, 3, 5, 6, 7, 8, 9, 10, 11, 12, 13, 14, 15, 17] [1451] rfl rfl rfl rfl (by rw [hF]; rfl) ?_
        exact hS1050_6
      · refine ⟨_, rfl, ?_⟩
        refine TL_make 1611 (n := k16) el27 z2 rfl rfl rfl rfl rfl rfl (makeI_spec hk16).1 (makeI_spec hk16).1 (makeI_spec hk16).2 rfl rfl rfl rfl ?_
        refine TL_nils 1611 (List.map a_i64 (List.replicate k16 (0 : Int))) (by rw [hF]; rfl) rfl (ElR.rep (z := .int .i64 (0 : Int)) (g := a_i64) (x := (0 : Int)) ⟨⟨rfl, rfl⟩, trivial⟩ k16) rfl ?_
        refine TL_nil ?_
        refine TZ_keepH [0, 2, 3, 5, 6, 7, 8, 9, 10, 11, 12, 13, 15, 16, 17] [1611] rfl rfl rfl rfl (by rw [hF]; rfl) ?_
        exact hS1050_10
      · refine ⟨_, rfl, ?_⟩
        refine TL_make 1771 (n := k18) el27 z2 rfl rfl rfl rfl rfl rfl (makeI_spec hk18).1 (makeI_spec hk18).1 (makeI_spec hk18).2 rfl rfl rfl rfl ?_
        refine TL_nils 1771 (List.map a_i64 (List.replicate k18 (0 : Int))) (by rw [hF]; rfl) rfl (ElR.rep (z := .int .i64 (0 : Int)) (g := a_i64) (x := (0 : Int)) ⟨⟨rfl, rfl⟩, trivial⟩ k18) rfl ?_
        refine TL_nil ?_
        refine TZ_keepH [0, 2, 3, 5, 6, 7, 8, 9, 10, 11, 12, 13, 15, 17, 18] [1771] rfl rfl rfl rfl (by rw [hF]; rfl) ?_
        exact hS1050_12
      · refine ⟨_, rfl, ?_⟩
        refine TL_buildSlice 1851 (es := List.map a_Point ([] : List Point)) el61 z71 rfl rfl rfl rfl rfl rfl rfl rfl rfl ?_
        refine TL_nil ?_
        refine TZ_keepH [0, 2, 3, 5, 6, 7, 8, 9, 10, 11, 12, 13, 15, 17, 19] [1851] rfl rfl rfl rfl (by rw [hF]; rfl) ?_
        exact hS1050_13
    refine TZ_cut 4 [true, true, true, false, true, true, true, true, true, true, false, false, false] ⟨[(0, .cp [.sl 2 (List.map a_Term p0.Pre), .sl 8 (List.map a_Stmt p0.Body), .sl 2 (List.map a_Term p0.Post)]), (2, .nilp), (3, .int .i64 (p0.Body.length : Int)), (5, .cp [.sl 2 (List.map a_Term p0.Pre), .sl 8 (List.map a_Stmt p0.Body), .sl 2 (List.map a_Term p0.Post)]), (6, .cp [.sl 2 (List.map a_Term p0.Pre), .sl 8 (List.map a_Stmt p0.Body), .sl 2 (List.map a_Term p0.Post)]), (7, .cp [.sl 8 (List.map a_Stmt p0.Body)]), (8, .sl 8 (List.map a_Stmt p0.Body)), (9, .int .i64 (p0.Body.length : Int)), (10, .cp [.sl 2 (List.map a_Term p0.Pre), .sl 8 (List.map a_Stmt p0.Body), .sl 2 (List.map a_Term p0.Post)]), (11, .cp [.sl 2 (List.map a_Term p0.Pre), .sl 8 (List.map a_Stmt p0.Body), .sl 2 (List.map a_Term p0.Post)]), (12, .cp [.sl 8 (List.map a_Stmt p0.Body)]), (14, .ow 1451), (15, .int .i64 (p0.Body.length : Int)), (16, .ow 1611), (17, .int .i64 (p0.Body.length : Int)), (18, .ow 1771), (19, .ow 1851)], [(1451, .arr ⟨false, false⟩ 2 172 (List.map a_Instr ([] : List Instr))), (1611, .arr ⟨false, false⟩ 1 2 (List.map a_i64 (List.replicate k16 (0 : Int)))), (1771, .arr ⟨false, false⟩ 1 2 (List.map a_i64 (List.replicate k18 (0 : Int)))), (1851, .arr ⟨false, false⟩ 2 71 (List.map a_Point ([] : List Point)))]⟩ ?_ (fun hS1050_15 => ?_)
    · refine TZ_pure 3 (by kernel_rfl) rfl rfl rfl rfl rfl (op_load_one ag31 rfl rfl) ?_
      refine TZ_pure 10 (by kernel_rfl) rfl rfl rfl rfl rfl (op_buildP pl123 z123 rfl rfl rfl rfl rfl) ?_
      refine TZ_one 11 (by kernel_rfl) rfl ?_
      refine TL_box 2011 rfl rfl rfl rfl rfl rfl rfl ?_
      refine TL_nil ?_
      refine TZ_pure 12 (by kernel_rfl) rfl rfl rfl rfl rfl (op_assign rfl) ?_
      refine TZ_done (by kernel_rfl) ?_
      refine T_keepH [4] [1451, 1611, 1771, 1851, 2011] rfl rfl rfl rfl (by rw [hF]; rfl) ?_
      refine T_ren [(1451, 411), (1611, 571), (1771, 731), (1851, 811), (2011, 971)] rfl rfl rfl (by rw [hF]; rfl) ?_
      exact hj0 ((List.replicate k16 (0 : Int)), (List.replicate k18 (0 : Int))) hm
    refine TZ_cut 5 [true, true, true, false, true, true, true, true, true, false, false, false, false] ⟨[(0, .cp [.sl 2 (List.map a_Term p0.Pre), .sl 8 (List.map a_Stmt p0.Body), .sl 2 (List.map a_Term p0.Post)]), (2, .nilp), (3, .int .i64 (p0.Body.length : Int)), (5, .cp [.sl 2 (List.map a_Term p0.Pre), .sl 8 (List.map a_Stmt p0.Body), .sl 2 (List.map a_Term p0.Post)]), (6, .cp [.sl 2 (List.map a_Term p0.Pre), .sl 8 (List.map a_Stmt p0.Body), .sl 2 (List.map a_Term p0.Post)]), (7, .cp [.sl 8 (List.map a_Stmt p0.Body)]), (8, .sl 8 (List.map a_Stmt p0.Body)), (9, .int .i64 (p0.Body.length : Int)), (10, .cp [.sl 2 (List.map a_Term p0.Pre), .sl 8 (List.map a_Stmt p0.Body), .sl 2 (List.map a_Term p0.Post)]), (11, .cp [.sl 2 (List.map a_Term p0.Pre), .sl 8 (List.map a_Stmt p0.Body), .sl 2 (List.map a_Term p0.Post)]), (12, .cp [.sl 8 (List.map a_Stmt p0.Body)]), (14, .ow 1451), (15, .int .i64 (p0.Body.length : Int)), (16, .ow 1611), (17, .int .i64 (p0.Body.length : Int)), (18, .ow 1771)], [(1451, .arr ⟨false, false⟩ 2 172 (List.map a_Instr ([] : List Instr))), (1611, .arr ⟨false, false⟩ 1 2 (List.map a_i64 (List.replicate k16 (0 : Int)))), (1771, .arr ⟨false, false⟩ 1 2 (List.map a_i64 (List.replicate k18 (0 : Int))))]⟩ ?_ (fun hS1050_16 => ?_)
    · refine TZ_each [3, 9] (by kernel_rfl) rfl ?_
      refine ⟨?_, ?_⟩
      · refine ⟨_, rfl, ?_⟩
        refine TL_pure rfl rfl rfl rfl (op_load_one ag31 rfl rfl) ?_
        refine TL_nil ?_
        refine TZ_keepH [0, 2, 3, 5, 6, 7, 8, 9, 10, 11, 12, 13, 14, 15, 16, 17, 18] [1451, 1611, 1771] rfl rfl rfl rfl (by rw [hF]; rfl) ?_
        exact hS1050_0
      · refine ⟨_, rfl, ?_⟩
        refine TL_buildSlice 1851 (es := List.map a_Point ([] : List Point)) el61 z71 rfl rfl rfl rfl rfl rfl rfl rfl rfl ?_
        refine TL_nil ?_
        refine TZ_keepH [0, 2, 3, 5, 6, 7, 8, 9, 10, 11, 12, 14, 15, 16, 17, 18, 19] [1451, 1611, 1771, 1851] rfl rfl rfl rfl (by rw [hF]; rfl) ?_
        exact hS1050_15
    refine TZ_cut 5 [true, true, true, false, true, true, true, true, false, true, false, false, false] ⟨[(0, .cp [.sl 2 (List.map a_Term p0.Pre), .sl 8 (List.map a_Stmt p0.Body), .sl 2 (List.map a_Term p0.Post)]), (2, .nilp), (3, .int .i64 (p0.Body.length : Int)), (5, .cp [.sl 2 (List.map a_Term p0.Pre), .sl 8 (List.map a_Stmt p0.Body), .sl 2 (List.map a_Term p0.Post)]), (6, .cp [.sl 2 (List.map a_Term p0.Pre), .sl 8 (List.map a_Stmt p0.Body), .sl 2 (List.map a_Term p0.Post)]), (7, .cp [.sl 8 (List.map a_Stmt p0.Body)]), (8, .sl 8 (List.map a_Stmt p0.Body)), (9, .int .i64 (p0.Body.length : Int)), (10, .cp [.sl 2 (List.map a_Term p0.Pre), .sl 8 (List.map a_Stmt p0.Body), .sl 2 (List.map a_Term p0.Post)]), (11, .cp [.sl 2 (List.map a_Term p0.Pre), .sl 8 (List.map a_Stmt p0.Body), .sl 2 (List.map a_Term p0.Post)]), (12, .cp [.sl 8 (List.map a_Stmt p0.Body)]), (14, .ow 1451), (15, .int .i64 (p0.Body.length : Int)), (16, .ow 1611), (17, .int .i64 (p0.Body.length : Int)), (19, .ow 1851)], [(1451, .arr ⟨false, false⟩ 2 172 (List.map a_Instr ([] : List Instr))), (1611, .arr ⟨false, false⟩ 1 2 (List.map a_i64 (List.replicate k16 (0 : Int)))), (1851, .arr ⟨false, false⟩ 2 71 (List.map a_Point ([] : List Point)))]⟩ ?_ (fun hS1050_17 => ?_)
    · refine TZ_pure 3 (by kernel_rfl) rfl rfl rfl rfl rfl (op_load_one ag31 rfl rfl) ?_
      refine TZ_one 8 (by kernel_rfl) rfl ?_
      refine TL_make 1771 (n := k18) el27 z2 rfl rfl rfl rfl rfl rfl (makeI_spec hk18).1 (makeI_spec hk18).1 (makeI_spec hk18).2 rfl rfl rfl rfl ?_
      refine TL_nils 1771 (List.map a_i64 (List.replicate k18 (0 : Int))) (by rw [hF]; rfl) rfl (ElR.rep (z := .int .i64 (0 : Int)) (g := a_i64) (x := (0 : Int)) ⟨⟨rfl, rfl⟩, trivial⟩ k18) rfl ?_
      refine TL_nil ?_
      refine TZ_pure 10 (by kernel_rfl) rfl rfl rfl rfl rfl (op_buildP pl123 z123 rfl rfl rfl rfl rfl) ?_
      refine TZ_one 11 (by kernel_rfl) rfl ?_
      refine TL_box 2011 rfl rfl rfl rfl rfl rfl rfl ?_
      refine TL_nil ?_
      refine TZ_pure 12 (by kernel_rfl) rfl rfl rfl rfl rfl (op_assign rfl) ?_
      refine TZ_done (by kernel_rfl) ?_
      refine T_keepH [4] [1451, 1611, 1771, 1851, 2011] rfl rfl rfl rfl (by rw [hF]; rfl) ?_
      refine T_ren [(1451, 411), (1611, 571), (1771, 731), (1851, 811), (2011, 971)] rfl rfl rfl (by rw [hF]; rfl) ?_
      exact hj0 ((List.replicate k16 (0 : Int)), (List.replicate k18 (0 : Int))) hm
    refine TZ_cut 6 [true, true, true, false, true, true, true, true, false, false, false, false, false] ⟨[(0, .cp [.sl 2 (List.map a_Term p0.Pre), .sl 8 (List.map a_Stmt p0.Body), .sl 2 (List.map a_Term p0.Post)]), (2, .nilp), (3, .int .i64 (p0.Body.length : Int)), (5, .cp [.sl 2 (List.map a_Term p0.Pre), .sl 8 (List.map a_Stmt p0.Body), .sl 2 (List.map a_Term p0.Post)]), (6, .cp [.sl 2 (List.map a_Term p0.Pre), .sl 8 (List.map a_Stmt p0.Body), .sl 2 (List.map a_Term p0.Post)]), (7, .cp [.sl 8 (List.map a_Stmt p0.Body)]), (8, .sl 8 (List.map a_Stmt p0.Body)), (9, .int .i64 (p0.Body.length : Int)), (10, .cp [.sl 2 (List.map a_Term p0.Pre), .sl 8 (List.map a_Stmt p0.Body), .sl 2 (List.map a_Term p0.Post)]), (11, .cp [.sl 2 (List.map a_Term p0.Pre), .sl 8 (List.map a_Stmt p0.Body), .sl 2 (List.map a_Term p0.Post)]), (12, .cp [.sl 8 (List.map a_Stmt p0.Body)]), (14, .ow 1451), (15, .int .i64 (p0.Body.length : Int)), (16, .ow 1611), (17, .int .i64 (p0.Body.length : Int))], [(1451, .arr ⟨false, false⟩ 2 172 (List.map a_Instr ([] : List Instr))), (1611, .arr ⟨false, false⟩ 1 2 (List.map a_i64 (List.replicate k16 (0 : Int))))]⟩ ?_ (fun hS1050_18 => ?_)
    · refine TZ_each [3, 8, 9] (by kernel_rfl) rfl ?_
      refine ⟨?_, ?_, ?_⟩
      · refine ⟨_, rfl, ?_⟩
        refine TL_pure rfl rfl rfl rfl (op_load_one ag31 rfl rfl) ?_
        refine TL_nil ?_
        refine TZ_keepH [0, 2, 3, 5, 6, 7, 8, 9, 10, 11, 12, 13, 14, 15, 16, 17] [1451, 1611] rfl rfl rfl rfl (by rw [hF]; rfl) ?_
        exact hS1050_2
      · refine ⟨_, rfl, ?_⟩
        refine TL_make 1771 (n := k18) el27 z2 rfl rfl rfl rfl rfl rfl (makeI_spec hk18).1 (makeI_spec hk18).1 (makeI_spec hk18).2 rfl rfl rfl rfl ?_
        refine TL_nils 1771 (List.map a_i64 (List.replicate k18 (0 : Int))) (by rw [hF]; rfl) rfl (ElR.rep (z := .int .i64 (0 : Int)) (g := a_i64) (x := (0 : Int)) ⟨⟨rfl, rfl⟩, trivial⟩ k18) rfl ?_
        refine TL_nil ?_
        refine TZ_keepH [0, 2, 3, 5, 6, 7, 8, 9, 10, 11, 12, 14, 15, 16, 17, 18] [1451, 1611, 1771] rfl rfl rfl rfl (by rw [hF]; rfl) ?_
        exact hS1050_16
      · refine ⟨_, rfl, ?_⟩
        refine TL_buildSlice 1851 (es := List.map a_Point ([] : List Point)) el61 z71 rfl rfl rfl rfl rfl rfl rfl rfl rfl ?_
        refine TL_nil ?_
        refine TZ_keepH [0, 2, 3, 5, 6, 7, 8, 9, 10, 11, 12, 14, 15, 16, 17, 19] [1451, 1611, 1851] rfl rfl rfl rfl (by rw [hF]; rfl) ?_
        exact hS1050_17
    refine TZ_cut 5 [true, true, true, false, true, true, false, true, true, true, false, false, false] ⟨[(0, .cp [.sl 2 (List.map a_Term p0.Pre), .sl 8 (List.map a_Stmt p0.Body), .sl 2 (List.map a_Term p0.Post)]), (2, .nilp), (3, .int .i64 (p0.Body.length : Int)), (5, .cp [.sl 2 (List.map a_Term p0.Pre), .sl 8 (List.map a_Stmt p0.Body), .sl 2 (List.map a_Term p0.Post)]), (6, .cp [.sl 2 (List.map a_Term p0.Pre), .sl 8 (List.map a_Stmt p0.Body), .sl 2 (List.map a_Term p0.Post)]), (7, .cp [.sl 8 (List.map a_Stmt p0.Body)]), (8, .sl 8 (List.map a_Stmt p0.Body)), (9, .int .i64 (p0.Body.length : Int)), (10, .cp [.sl 2 (List.map a_Term p0.Pre), .sl 8 (List.map a_Stmt p0.Body), .sl 2 (List.map a_Term p0.Post)]), (11, .cp [.sl 2 (List.map a_Term p0.Pre), .sl 8 (List.map a_Stmt p0.Body), .sl 2 (List.map a_Term p0.Post)]), (12, .cp [.sl 8 (List.map a_Stmt p0.Body)]), (14, .ow 1451), (15, .int .i64 (p0.Body.length : Int)), (17, .int .i64 (p0.Body.length : Int)), (18, .ow 1771), (19, .ow 1851)], [(1451, .arr ⟨false, false⟩ 2 172 (List.map a_Instr ([] : List Instr))), (1771, .arr ⟨false, false⟩ 1 2 (List.map a_i64 (List.replicate k18 (0 : Int)))), (1851, .arr ⟨false, false⟩ 2 71 (List.map a_Point ([] : List Point)))]⟩ ?_ (fun hS1050_19 => ?_)
    · refine TZ_pure 3 (by kernel_rfl) rfl rfl rfl rfl rfl (op_load_one ag31 rfl rfl) ?_
      refine TZ_one 6 (by kernel_rfl) rfl ?_
      refine TL_make 1611 (n := k16) el27 z2 rfl rfl rfl rfl rfl rfl (makeI_spec hk16).1 (makeI_spec hk16).1 (makeI_spec hk16).2 rfl rfl rfl rfl ?_
      refine TL_nils 1611 (List.map a_i64 (List.replicate k16 (0 : Int))) (by rw [hF]; rfl) rfl (ElR.rep (z := .int .i64 (0 : Int)) (g := a_i64) (x := (0 : Int)) ⟨⟨rfl, rfl⟩, trivial⟩ k16) rfl ?_
      refine TL_nil ?_
      refine TZ_pure 10 (by kernel_rfl) rfl rfl rfl rfl rfl (op_buildP pl123 z123 rfl rfl rfl rfl rfl) ?_
      refine TZ_one 11 (by kernel_rfl) rfl ?_
      refine TL_box 2011 rfl rfl rfl rfl rfl rfl rfl ?_
      refine TL_nil ?_
      refine TZ_pure 12 (by kernel_rfl) rfl rfl rfl rfl rfl (op_assign rfl) ?_
      refine TZ_done (by kernel_rfl) ?_
      refine T_keepH [4] [1451, 1611, 1771, 1851, 2011] rfl rfl rfl rfl (by rw [hF]; rfl) ?_
      refine T_ren [(1451, 411), (1611, 571), (1771, 731), (1851, 811), (2011, 971)] rfl rfl rfl (by rw [hF]; rfl) ?_
      exact hj0 ((List.replicate k16 (0 : Int)), (List.replicate k18 (0 : Int))) hm
    refine TZ_cut 6 [true, true, true, false, true, true, false, true, true, false, false, false, false] ⟨[(0, .cp [.sl 2 (List.map a_Term p0.Pre), .sl 8 (List.map a_Stmt p0.Body), .sl 2 (List.map a_Term p0.Post)]), (2, .nilp), (3, .int .i64 (p0.Body.length : Int)), (5, .cp [.sl 2 (List.map a_Term p0.Pre), .sl 8 (List.map a_Stmt p0.Body), .sl 2 (List.map a_Term p0.Post)]), (6, .cp [.sl 2 (List.map a_Term p0.Pre), .sl 8 (List.map a_Stmt p0.Body), .sl 2 (List.map a_Term p0.Post)]), (7, .cp [.sl 8 (List.map a_Stmt p0.Body)]), (8, .sl 8 (List.map a_Stmt p0.Body)), (9, .int .i64 (p0.Body.length : Int)), (10, .cp [.sl 2 (List.map a_Term p0.Pre), .sl 8 (List.map a_Stmt p0.Body), .sl 2 (List.map a_Term p0.Post)]), (11, .cp [.sl 2 (List.map a_Term p0.Pre), .sl 8 (List.map a_Stmt p0.Body), .sl 2 (List.map a_Term p0.Post)]), (12, .cp [.sl 8 (List.map a_Stmt p0.Body)]), (14, .ow 1451), (15, .int .i64 (p0.Body.length : Int)), (17, .int .i64 (p0.Body.length : Int)), (18, .ow 1771)], [(1451, .arr ⟨false, false⟩ 2 172 (List.map a_Instr ([] : List Instr))), (1771, .arr ⟨false, false⟩ 1 2 (List.map a_i64 (List.replicate k18 (0 : Int))))]⟩ ?_ (fun hS1050_20 => ?_)
    · refine TZ_each [3, 6, 9] (by kernel_rfl) rfl ?_
      refine ⟨?_, ?_, ?_⟩
      · refine ⟨_, rfl, ?_⟩
        refine TL_pure rfl rfl rfl rfl (op_load_one ag31 rfl rfl) ?_
        refine TL_nil ?_
        refine TZ_keepH [0, 2, 3, 5, 6, 7, 8, 9, 10, 11, 12, 13, 14, 15, 17, 18] [1451, 1771] rfl rfl rfl rfl (by rw [hF]; rfl) ?_
        exact hS1050_4
      · refine ⟨_, rfl, ?_⟩
        refine TL_make 1611 (n := k16) el27 z2 rfl rfl rfl rfl rfl rfl (makeI_spec hk16).1 (makeI_spec hk16).1 (makeI_spec hk16).2 rfl rfl rfl rfl ?_
        refine TL_nils 1611 (List.map a_i64 (List.replicate k16 (0 : Int))) (by rw [hF]; rfl) rfl (ElR.rep (z := .int .i64 (0 : Int)) (g := a_i64) (x := (0 : Int)) ⟨⟨rfl, rfl⟩, trivial⟩ k16) rfl ?_
        refine TL_nil ?_
        refine TZ_keepH [0, 2, 3, 5, 6, 7, 8, 9, 10, 11, 12, 14, 15, 16, 17, 18] [1451, 1611, 1771] rfl rfl rfl rfl (by rw [hF]; rfl) ?_
        exact hS1050_16
      · refine ⟨_, rfl, ?_⟩
        refine TL_buildSlice 1851 (es := List.map a_Point ([] : List Point)) el61 z71 rfl rfl rfl rfl rfl rfl rfl rfl rfl ?_
        refine TL_nil ?_
        refine TZ_keepH [0, 2, 3, 5, 6, 7, 8, 9, 10, 11, 12, 14, 15, 17, 18, 19] [1451, 1771, 1851] rfl rfl rfl rfl (by rw [hF]; rfl) ?_
        exact hS1050_19
    refine TZ_cut 6 [true, true, true, false, true, true, false, true, false, true, false, false, false] ⟨[(0, .cp [.sl 2 (List.map a_Term p0.Pre), .sl 8 (List.map a_Stmt p0.Body), .sl 2 (List.map a_Term p0.Post)]), (2, .nilp), (3, .int .i64 (p0.Body.length : Int)), (5, .cp [.sl 2 (List.map a_Term p0.Pre), .sl 8 (List.map a_Stmt p0.Body), .sl 2 (List.map a_Term p0.Post)]), (6, .cp [.sl 2 (List.map a_Term p0.Pre), .sl 8 (List.map a_Stmt p0.Body), .sl 2 (List.map a_Term p0.Post)]), (7, .cp [.sl 8 (List.map a_Stmt p0.Body)]), (8, .sl 8 (List.map a_Stmt p0.Body)), (9, .int .i64 (p0.Body.length : Int)), (10, .cp [.sl 2 (List.map a_Term p0.Pre), .sl 8 (List.map a_Stmt p0.Body), .sl 2 (List.map a_Term p0.Post)]), (11, .cp [.sl 2 (List.map a_Term p0.Pre), .sl 8 (List.map a_Stmt p0.Body), .sl 2 (List.map a_Term p0.Post)]), (12, .cp [.sl 8 (List.map a_Stmt p0.Body)]), (14, .ow 1451), (15, .int .i64 (p0.Body.length : Int)), (17, .int .i64 (p0.Body.length : Int)), (19, .ow 1851)], [(1451, .arr ⟨false, false⟩ 2 172 (List.map a_Instr ([] : List Instr))), (1851, .arr ⟨false, false⟩ 2 71 (List.map a_Point ([] : List Point)))]⟩ ?_ (fun hS1050_21 => ?_)
    · refine TZ_pure 3 (by kernel_rfl) rfl rfl rfl rfl rfl (op_load_one ag31 rfl rfl) ?_
      refine TZ_each [6, 8] (by kernel_rfl) rfl ?_
      refine ⟨?_, ?_⟩
      · refine ⟨_, rfl, ?_⟩
        refine TL_make 1611 (n := k16) el27 z2 rfl rfl rfl rfl rfl rfl (makeI_spec hk16).1 (makeI_spec hk16).1 (makeI_spec hk16).2 rfl rfl rfl rfl ?_
        refine TL_nils 1611 (List.map a_i64 (List.replicate k16 (0 : Int))) (by rw [hF]; rfl) rfl (ElR.rep (z := .int .i64 (0 : Int)) (g := a_i64) (x := (0 : Int)) ⟨⟨rfl, rfl⟩, trivial⟩ k16) rfl ?_
        refine TL_nil ?_
        refine TZ_keepH [0, 2, 3, 5, 6, 7, 8, 9, 10, 11, 12, 13, 14, 15, 16, 17, 19] [1451, 1611, 1851] rfl rfl rfl rfl (by rw [hF]; rfl) ?_
        exact hS1050_1
      · refine ⟨_, rfl, ?_⟩
        refine TL_make 1771 (n := k18) el27 z2 rfl rfl rfl rfl rfl rfl (makeI_spec hk18).1 (makeI_spec hk18).1 (makeI_spec hk18).2 rfl rfl rfl rfl ?_
        refine TL_nils 1771 (List.map a_i64 (List.replicate k18 (0 : Int))) (by rw [hF]; rfl) rfl (ElR.rep (z := .int .i64 (0 : Int)) (g := a_i64) (x := (0 : Int)) ⟨⟨rfl, rfl⟩, trivial⟩ k18) rfl ?_
        refine TL_nil ?_
        refine TZ_keepH [0, 2, 3, 5, 6, 7, 8, 9, 10, 11, 12, 13, 14, 15, 17, 18, 19] [1451, 1771, 1851] rfl rfl rfl rfl (by rw [hF]; rfl) ?_
        exact hS1050_3
    refine TZ_cut 7 [true, true, true, false, true, true, false, true, false, false, false, false, false] ⟨[(0, .cp [.sl 2 (List.map a_Term p0.Pre), .sl 8 (List.map a_Stmt p0.Body), .sl 2 (List.map a_Term p0.Post)]), (2, .nilp), (3, .int .i64 (p0.Body.length : Int)), (5, .cp [.sl 2 (List.map a_Term p0.Pre), .sl 8 (List.map a_Stmt p0.Body), .sl 2 (List.map a_Term p0.Post)]), (6, .cp [.sl 2 (List.map a_Term p0.Pre), .sl 8 (List.map a_Stmt p0.Body), .sl 2 (List.map a_Term p0.Post)]), (7, .cp [.sl 8 (List.map a_Stmt p0.Body)]), (8, .sl 8 (List.map a_Stmt p0.Body)), (9, .int .i64 (p0.Body.length : Int)), (10, .cp [.sl 2 (List.map a_Term p0.Pre), .sl 8 (List.map a_Stmt p0.Body), .sl 2 (List.map a_Term p0.Post)]), (11, .cp [.sl 2 (List.map a_Term p0.Pre), .sl 8 (List.map a_Stmt p0.Body), .sl 2 (List.map a_Term p0.Post)]), (12, .cp [.sl 8 (List.map a_Stmt p0.Body)]), (14, .ow 1451), (15, .int .i64 (p0.Body.length : Int)), (17, .int .i64 (p0.Body.length : Int))], [(1451, .arr ⟨false, false⟩ 2 172 (List.map a_Instr ([] : List Instr)))]⟩ ?_ (fun hS1050_22 => ?_)
    · refine TZ_each [3, 6, 8, 9] (by kernel_rfl) rfl ?_
      refine ⟨?_, ?_, ?_, ?_⟩
      · refine ⟨_, rfl, ?_⟩
        refine TL_pure rfl rfl rfl rfl (op_load_one ag31 rfl rfl) ?_
        refine TL_nil ?_
        refine TZ_keepH [0, 2, 3, 5, 6, 7, 8, 9, 10, 11, 12, 13, 14, 15, 17] [1451] rfl rfl rfl rfl (by rw [hF]; rfl) ?_
        exact hS1050_6
      · refine ⟨_, rfl, ?_⟩
        refine TL_make 1611 (n := k16) el27 z2 rfl rfl rfl rfl rfl rfl (makeI_spec hk16).1 (makeI_spec hk16).1 (makeI_spec hk16).2 rfl rfl rfl rfl ?_
        refine TL_nils 1611 (List.map a_i64 (List.replicate k16 (0 : Int))) (by rw [hF]; rfl) rfl (ElR.rep (z := .int .i64 (0 : Int)) (g := a_i64) (x := (0 : Int)) ⟨⟨rfl, rfl⟩, trivial⟩ k16) rfl ?_
        refine TL_nil ?_
        refine TZ_keepH [0, 2, 3, 5, 6, 7, 8, 9, 10, 11, 12, 14, 15, 16, 17] [1451, 1611] rfl rfl rfl rfl (by rw [hF]; rfl) ?_
        exact hS1050_18
      · refine ⟨_, rfl, ?_⟩
        refine TL_make 1771 (n := k18) el27 z2 rfl rfl rfl rfl rfl rfl (makeI_spec hk18).1 (makeI_spec hk18).1 (makeI_spec hk18).2 rfl rfl rfl rfl ?_
        refine TL_nils 1771 (List.map a_i64 (List.replicate k18 (0 : Int))) (by rw [hF]; rfl) rfl (ElR.rep (z := .int .i64 (0 : Int)) (g := a_i64) (x := (0 : Int)) ⟨⟨rfl, rfl⟩, trivial⟩ k18) rfl ?_
        refine TL_nil ?_
        refine TZ_keepH [0, 2, 3, 5, 6, 7, 8, 9, 10, 11, 12, 14, 15, 17, 18] [1451, 1771] rfl rfl rfl rfl (by rw [hF]; rfl) ?_
        exact hS1050_20
      · refine ⟨_, rfl, ?_⟩
        refine TL_buildSlice 1851 (es := List.map a_Point ([] : List Point)) el61 z71 rfl rfl rfl rfl rfl rfl rfl rfl rfl ?_
        refine TL_nil ?_
        refine TZ_keepH [0, 2, 3, 5, 6, 7, 8, 9, 10, 11, 12, 14, 15, 17, 19] [1451, 1851] rfl rfl rfl rfl (by rw [hF]; rfl) ?_
        exact hS1050_21
    refine TZ_cut 5 [true, true, true, false, false, true, true, true, true, true, false, false, false] ⟨[(0, .cp [.sl 2 (List.map a_Term p0.Pre), .sl 8 (List.map a_Stmt p0.Body), .sl 2 (List.map a_Term p0.Post)]), (2, .nilp), (3, .int .i64 (p0.Body.length : Int)), (5, .cp [.sl 2 (List.map a_Term p0.Pre), .sl 8 (List.map a_Stmt p0.Body), .sl 2 (List.map a_Term p0.Post)]), (6, .cp [.sl 2 (List.map a_Term p0.Pre), .sl 8 (List.map a_Stmt p0.Body), .sl 2 (List.map a_Term p0.Post)]), (7, .cp [.sl 8 (List.map a_Stmt p0.Body)]), (8, .sl 8 (List.map a_Stmt p0.Body)), (9, .int .i64 (p0.Body.length : Int)), (10, .cp [.sl 2 (List.map a_Term p0.Pre), .sl 8 (List.map a_Stmt p0.Body), .sl 2 (List.map a_Term p0.Post)]), (11, .cp [.sl 2 (List.map a_Term p0.Pre), .sl 8 (List.map a_Stmt p0.Body), .sl 2 (List.map a_Term p0.Post)]), (12, .cp [.sl 8 (List.map a_Stmt p0.Body)]), (15, .int .i64 (p0.Body.length : Int)), (16, .ow 1611), (17, .int .i64 (p0.Body.length : Int)), (18, .ow 1771), (19, .ow 1851)], [(1611, .arr ⟨false, false⟩ 1 2 (List.map a_i64 (List.replicate k16 (0 : Int)))), (1771, .arr ⟨false, false⟩ 1 2 (List.map a_i64 (List.replicate k18 (0 : Int)))), (1851, .arr ⟨false, false⟩ 2 71 (List.map a_Point ([] : List Point)))]⟩ ?_ (fun hS1050_23 => ?_)
    · refine TZ_each [3, 4] (by kernel_rfl) rfl ?_
      refine ⟨?_, ?_⟩
      · refine ⟨_, rfl, ?_⟩
        refine TL_pure rfl rfl rfl rfl (op_load_one ag31 rfl rfl) ?_
        refine TL_nil ?_
        refine TZ_keepH [0, 2, 3, 5, 6, 7, 8, 9, 10, 11, 12, 13, 15, 16, 17, 18, 19] [1611, 1771, 1851] rfl rfl rfl rfl (by rw [hF]; rfl) ?_
        exact hS1050_7
      · refine ⟨_, rfl, ?_⟩
        refine TL_buildSlice 1451 (es := List.map a_Instr ([] : List Instr)) el60 z172 rfl rfl rfl rfl rfl rfl rfl rfl rfl ?_
        refine TL_nil ?_
        refine TZ_keepH [0, 2, 3, 5, 6, 7, 8, 9, 10, 11, 12, 14, 15, 16, 17, 18, 19] [1451, 1611, 1771, 1851] rfl rfl rfl rfl (by rw [hF]; rfl) ?_
        exact hS1050_15
    refine TZ_cut 6 [true, true, true, false, false, true, true, true, true, false, false, false, false] ⟨[(0, .cp [.sl 2 (List.map a_Term p0.Pre), .sl 8 (List.map a_Stmt p0.Body), .sl 2 (List.map a_Term p0.Post)]), (2, .nilp), (3, .int .i64 (p0.Body.length : Int)), (5, .cp [.sl 2 (List.map a_Term p0.Pre), .sl 8 (List.map a_Stmt p0.Body), .sl 2 (List.map a_Term p0.Post)]), (6, .cp [.sl 2 (List.map a_Term p0.Pre), .sl 8 (List.map a_Stmt p0.Body), .sl 2 (List.map a_Term p0.Post)]), (7, .cp [.sl 8 (List.map a_Stmt p0.Body)]), (8, .sl 8 (List.map a_Stmt p0.Body)), (9, .int .i64 (p0.Body.length : Int)), (10, .cp [.sl 2 (List.map a_Term p0.Pre), .sl 8 (List.map a_Stmt p0.Body), .sl 2 (List.map a_Term p0.Post)]), (11, .cp [.sl 2 (List.map a_Term p0.Pre), .sl 8 (List.map a_Stmt p0.Body), .sl 2 (List.map a_Term p0.Post)]), (12, .cp [.sl 8 (List.map a_Stmt p0.Body)]), (15, .int .i64 (p0.Body.length : Int)), (16, .ow 1611), (17, .int .i64 (p0.Body.length : Int)), (18, .ow 1771)], [(1611, .arr ⟨false, false⟩ 1 2 (List.map a_i64 (List.replicate k16 (0 : Int)))), (1771, .arr ⟨false, false⟩ 1 2 (List.map a_i64 (List.replicate k18 (0 : Int))))]⟩ ?_ (fun hS1050_24 => ?_)
    · refine TZ_each [3, 4, 9] (by kernel_rfl) rfl ?_
      refine ⟨?_, ?_, ?_⟩
      · refine ⟨_, rfl, ?_⟩
        refine TL_pure rfl rfl rfl rfl (op_load_one ag31 rfl rfl) ?_
        refine TL_nil ?_
        refine TZ_keepH [0, 2, 3, 5, 6, 7, 8, 9, 10, 11, 12, 13, 15, 16, 17, 18] [1611, 1771] rfl rfl rfl rfl (by rw [hF]; rfl) ?_
        exact hS1050_8
      · refine ⟨_, rfl, ?_⟩
        refine TL_buildSlice 1451 (es := List.map a_Instr ([] : List Instr)) el60 z172 rfl rfl rfl rfl rfl rfl rfl rfl rfl ?_
        refine TL_nil ?_
        refine TZ_keepH [0, 2, 3, 5, 6, 7, 8, 9, 10, 11, 12, 14, 15, 16, 17, 18] [1451, 1611, 1771] rfl rfl rfl rfl (by rw [hF]; rfl) ?_
        exact hS1050_16
      · refine ⟨_, rfl, ?_⟩
        refine TL_buildSlice 1851 (es := List.map a_Point ([] : List Point)) el61 z71 rfl rfl rfl rfl rfl rfl rfl rfl rfl ?_
        refine TL_nil ?_
        refine TZ_keepH [0, 2, 3, 5, 6, 7, 8, 9, 10, 11, 12, 15, 16, 17, 18, 19] [1611, 1771, 1851] rfl rfl rfl rfl (by rw [hF]; rfl) ?_
        exact hS1050_23
    refine TZ_cut 6 [true, true, true, false, false, true, true, true, false, true, false, false, false] ⟨[(0, .cp [.sl 2 (List.map a_Term p0.Pre), .sl 8 (List.map a_Stmt p0.Body), .sl 2 (List.map a_Term p0.Post)]), (2, .nilp), (3, .int .i64 (p0.Body.length : Int)), (5, .cp [.sl 2 (List.map a_Term p0.Pre), .sl 8 (List.map a_Stmt p0.Body), .sl 2 (List.map a_Term p0.Post)]), (6, .cp [.sl 2 (List.map a_Term p0.Pre), .sl 8 (List.map a_Stmt p0.Body), .sl 2 (List.map a_Term p0.Post)]), (7, .cp [.sl 8 (List.map a_Stmt p0.Body)]), (8, .sl 8 (List.map a_Stmt p0.Body)), (9, .int .i64 (p0.Body.length : Int)), (10, .cp [.sl 2 (List.map a_Term p0.Pre), .sl 8 (List.map a_Stmt p0.Body), .sl 2 (List.map a_Term p0.Post)]), (11, .cp [.sl 2 (List.map a_Term p0.Pre), .sl 8 (List.map a_Stmt p0.Body), .sl 2 (List.map a_Term p0.Post)]), (12, .cp [.sl 8 (List.map a_Stmt p0.Body)]), (15, .int .i64 (p0.Body.length : Int)), (16, .ow 1611), (17, .int .i64 (p0.Body.length : Int)), (19, .ow 1851)], [(1611, .arr ⟨false, false⟩ 1 2 (List.map a_i64 (List.replicate k16 (0 : Int)))), (1851, .arr ⟨false, false⟩ 2 71 (List.map a_Point ([] : List Point)))]⟩ ?_ (fun hS1050_25 => ?_)
    · refine TZ_each [3, 4, 8] (by kernel_rfl) rfl ?_
      refine ⟨?_, ?_, ?_⟩
      · refine ⟨_, rfl, ?_⟩
        refine TL_pure rfl rfl rfl rfl (op_load_one ag31 rfl rfl) ?_
        refine TL_nil ?_
        refine TZ_keepH [0, 2, 3, 5, 6, 7, 8, 9, 10, 11, 12, 13, 15, 16, 17, 19] [1611, 1851] rfl rfl rfl rfl (by rw [hF]; rfl) ?_
        exact hS1050_9
      · refine ⟨_, rfl, ?_⟩
        refine TL_buildSlice 1451 (es := List.map a_Instr ([] : List Instr)) el60 z172 rfl rfl rfl rfl rfl rfl rfl rfl rfl ?_
        refine TL_nil ?_
        refine TZ_keepH [0, 2, 3, 5, 6, 7, 8, 9, 10, 11, 12, 14, 15, 16, 17, 19] [1451, 1611, 1851] rfl rfl rfl rfl (by rw [hF]; rfl) ?_
        exact hS1050_17
      · refine ⟨_, rfl, ?_⟩
        refine TL_make 1771 (n := k18) el27 z2 rfl rfl rfl rfl rfl rfl (makeI_spec hk18).1 (makeI_spec hk18).1 (makeI_spec hk18).2 rfl rfl rfl rfl ?_
        refine TL_nils 1771 (List.map a_i64 (List.replicate k18 (0 : Int))) (by rw [hF]; rfl) rfl (ElR.rep (z := .int .i64 (0 : Int)) (g := a_i64) (x := (0 : Int)) ⟨⟨rfl, rfl⟩, trivial⟩ k18) rfl ?_
        refine TL_nil ?_
        refine TZ_keepH [0, 2, 3, 5, 6, 7, 8, 9, 10, 11, 12, 15, 16, 17, 18, 19] [1611, 1771, 1851] rfl rfl rfl rfl (by rw [hF]; rfl) ?_
        exact hS1050_23
    refine TZ_cut 7 [true, true, true, false, false, true, true, true, false, false, false, false, false] ⟨[(0, .cp [.sl 2 (List.map a_Term p0.Pre), .sl 8 (List.map a_Stmt p0.Body), .sl 2 (List.map a_Term p0.Post)]), (2, .nilp), (3, .int .i64 (p0.Body.length : Int)), (5, .cp [.sl 2 (List.map a_Term p0.Pre), .sl 8 (List.map a_Stmt p0.Body), .sl 2 (List.map a_Term p0.Post)]), (6, .cp [.sl 2 (List.map a_Term p0.Pre), .sl 8 (List.map a_Stmt p0.Body), .sl 2 (List.map a_Term p0.Post)]), (7, .cp [.sl 8 (List.map a_Stmt p0.Body)]), (8, .sl 8 (List.map a_Stmt p0.Body)), (9, .int .i64 (p0.Body.length : Int)), (10, .cp [.sl 2 (List.map a_Term p0.Pre), .sl 8 (List.map a_Stmt p0.Body), .sl 2 (List.map a_Term p0.Post)]), (11, .cp [.sl 2 (List.map a_Term p0.Pre), .sl 8 (List.map a_Stmt p0.Body), .sl 2 (List.map a_Term p0.Post)]), (12, .cp [.sl 8 (List.map a_Stmt p0.Body)]), (15, .int .i64 (p0.Body.length : Int)), (16, .ow 1611), (17, .int .i64 (p0.Body.length : Int))], [(1611, .arr ⟨false, false⟩ 1 2 (List.map a_i64 (List.replicate k16 (0 : Int))))]⟩ ?_ (fun hS1050_26 => ?_)
    · refine TZ_each [3, 4, 8, 9] (by kernel_rfl) rfl ?_
      refine ⟨?_, ?_, ?_, ?_⟩
      · refine ⟨_, rfl, ?_⟩
        refine TL_pure rfl rfl rfl rfl (op_load_one ag31 rfl rfl) ?_
        refine TL_nil ?_
        refine TZ_keepH [0, 2, 3, 5, 6, 7, 8, 9, 10, 11, 12, 13, 15, 16, 17] [1611] rfl rfl rfl rfl (by rw [hF]; rfl) ?_
        exact hS1050_10
      · refine ⟨_, rfl, ?_⟩
        refine TL_buildSlice 1451 (es := List.map a_Instr ([] : List Instr)) el60 z172 rfl rfl rfl rfl rfl rfl rfl rfl rfl ?_
        refine TL_nil ?_
        refine TZ_keepH [0, 2, 3, 5, 6, 7, 8, 9, 10, 11, 12, 14, 15, 16, 17] [1451, 1611] rfl rfl rfl rfl (by rw [hF]; rfl) ?_
        exact hS1050_18
      · refine ⟨_, rfl, ?_⟩
        refine TL_make 1771 (n := k18) el27 z2 rfl rfl rfl rfl rfl rfl (makeI_spec hk18).1 (makeI_spec hk18).1 (makeI_spec hk18).2 rfl rfl rfl rfl ?_
        refine TL_nils 1771 (List.map a_i64 (List.replicate k18 (0 : Int))) (by rw [hF]; rfl) rfl (ElR.rep (z := .int .i64 (0 : Int)) (g := a_i64) (x := (0 : Int)) ⟨⟨rfl, rfl⟩, trivial⟩ k18) rfl ?_
        refine TL_nil ?_
        refine TZ_keepH [0, 2, 3, 5, 6, 7, 8, 9, 10, 11, 12, 15, 16, 17, 18] [1611, 1771] rfl rfl rfl rfl (by rw [hF]; rfl) ?_
        exact hS1050_24
      · refine ⟨_, rfl, ?_⟩
        refine TL_buildSlice 1851 (es := List.map a_Point ([] : List Point)) el61 z71 rfl rfl rfl rfl rfl rfl rfl rfl rfl ?_
        refine TL_nil ?_
        refine TZ_keepH [0, 2, 3, 5, 6, 7, 8, 9, 10, 11, 12, 15, 16, 17, 19] [1611, 1851] rfl rfl rfl rfl (by rw [hF]; rfl) ?_
        exact hS1050_25
    refine TZ_cut 6 [true, true, true, false, false, true, false, true, true, true, false, false, false] ⟨[(0, .cp [.sl 2 (List.map a_Term p0.Pre), .sl 8 (List.map a_Stmt p0.Body), .sl 2 (List.map a_Term p0.Post)]), (2, .nilp), (3, .int .i64 (p0.Body.length : Int)), (5, .cp [.sl 2 (List.map a_Term p0.Pre), .sl 8 (List.map a_Stmt p0.Body), .sl 2 (List.map a_Term p0.Post)]), (6, .cp [.sl 2 (List.map a_Term p0.Pre), .sl 8 (List.map a_Stmt p0.Body), .sl 2 (List.map a_Term p0.Post)]), (7, .cp [.sl 8 (List.map a_Stmt p0.Body)]), (8, .sl 8 (List.map a_Stmt p0.Body)), (9, .int .i64 (p0.Body.length : Int)), (10, .cp [.sl 2 (List.map a_Term p0.Pre), .sl 8 (List.map a_Stmt p0.Body), .sl 2 (List.map a_Term p0.Post)]), (11, .cp [.sl 2 (List.map a_Term p0.Pre), .sl 8 (List.map a_Stmt p0.Body), .sl 2 (List.map a_Term p0.Post)]), (12, .cp [.sl 8 (List.map a_Stmt p0.Body)]), (15, .int .i64 (p0.Body.length : Int)), (17, .int .i64 (p0.Body.length : Int)), (18, .ow 1771), (19, .ow 1851)], [(1771, .arr ⟨false, false⟩ 1 2 (List.map a_i64 (List.replicate k18 (0 : Int)))), (1851, .arr ⟨false, false⟩ 2 71 (List.map a_Point ([] : List Point)))]⟩ ?_ (fun hS1050_27 => ?_)
    · refine TZ_each [3, 4, 6] (by kernel_rfl) rfl ?_
      refine ⟨?_, ?_, ?_⟩
      · refine ⟨_, rfl, ?_⟩
        refine TL_pure rfl rfl rfl rfl (op_load_one ag31 rfl rfl) ?_
        refine TL_nil ?_
        refine TZ_keepH [0, 2, 3, 5, 6, 7, 8, 9, 10, 11, 12, 13, 15, 17, 18, 19] [1771, 1851] rfl rfl rfl rfl (by rw [hF]; rfl) ?_
        exact hS1050_11
      · refine ⟨_, rfl, ?_⟩
        refine TL_buildSlice 1451 (es := List.map a_Instr ([] : List Instr)) el60 z172 rfl rfl rfl rfl rfl rfl rfl rfl rfl ?_
        refine TL_nil ?_
        refine TZ_keepH [0, 2, 3, 5, 6, 7, 8, 9, 10, 11, 12, 14, 15, 17, 18, 19] [1451, 1771, 1851] rfl rfl rfl rfl (by rw [hF]; rfl) ?_
        exact hS1050_19
      · refine ⟨_, rfl, ?_⟩
        refine TL_make 1611 (n := k16) el27 z2 rfl rfl rfl rfl rfl rfl (makeI_spec hk16).1 (makeI_spec hk16).1 (makeI_spec hk16).2 rfl rfl rfl rfl ?_
        refine TL_nils 1611 (List.map a_i64 (List.replicate k16 (0 : Int))) (by rw [hF]; rfl) rfl (ElR.rep (z := .int .i64 (0 : Int)) (g := a_i64) (x := (0 : Int)) ⟨⟨rfl, rfl⟩, trivial⟩ k16) rfl ?_
        refine TL_nil ?_
        refine TZ_keepH [0, 2, 3, 5, 6, 7, 8, 9, 10, 11, 12, 15, 16, 17, 18, 19] [1611, 1771, 1851] rfl rfl rfl rfl (by rw [hF]; rfl) ?_
        exact hS1050_23
    refine TZ_cut 7 [true, true, true, false, false, true, false, true, true, false, false, false, false] ⟨[(0, .cp [.sl 2 (List.map a_Term p0.Pre), .sl 8 (List.map a_Stmt p0.Body), .sl 2 (List.map a_Term p0.Post)]), (2, .nilp), (3, .int .i64 (p0.Body.length : Int)), (5, .cp [.sl 2 (List.map a_Term p0.Pre), .sl 8 (List.map a_Stmt p0.Body), .sl 2 (List.map a_Term p0.Post)]), (6, .cp [.sl 2 (List.map a_Term p0.Pre), .sl 8 (List.map a_Stmt p0.Body), .sl 2 (List.map a_Term p0.Post)]), (7, .cp [.sl 8 (List.map a_Stmt p0.Body)]), (8, .sl 8 (List.map a_Stmt p0.Body)), (9, .int .i64 (p0.Body.length : Int)), (10, .cp [.sl 2 (List.map a_Term p0.Pre), .sl 8 (List.map a_Stmt p0.Body), .sl 2 (List.map a_Term p0.Post)]), (11, .cp [.sl 2 (List.map a_Term p0.Pre), .sl 8 (List.map a_Stmt p0.Body), .sl 2 (List.map a_Term p0.Post)]), (12, .cp [.sl 8 (List.map a_Stmt p0.Body)]), (15, .int .i64 (p0.Body.length : Int)), (17, .int .i64 (p0.Body.length : Int)), (18, .ow 1771)], [(1771, .arr ⟨false, false⟩ 1 2 (List.map a_i64 (List.replicate k18 (0 : Int))))]⟩ ?_ (fun hS1050_28 => ?_)
    · refine TZ_each [3, 4, 6, 9] (by kernel_rfl) rfl ?_
      refine ⟨?_, ?_, ?_, ?_⟩
      · refine ⟨_, rfl, ?_⟩
        refine TL_pure rfl rfl rfl rfl (op_load_one ag31 rfl rfl) ?_
        refine TL_nil ?_
        refine TZ_keepH [0, 2, 3, 5, 6, 7, 8, 9, 10, 11, 12, 13, 15, 17, 18] [1771] rfl rfl rfl rfl (by rw [hF]; rfl) ?_
        exact hS1050_12
      · refine ⟨_, rfl, ?_⟩
        refine TL_buildSlice 1451 (es := List.map a_Instr ([] : List Instr)) el60 z172 rfl rfl rfl rfl rfl rfl rfl rfl rfl ?_
        refine TL_nil ?_
        refine TZ_keepH [0, 2, 3, 5, 6, 7, 8, 9, 10, 11, 12, 14, 15, 17, 18] [1451, 1771] rfl rfl rfl rfl (by rw [hF]; rfl) ?_
        exact hS1050_20
      · refine ⟨_, rfl, ?_⟩
        refine TL_make 1611 (n := k16) el27 z2 rfl rfl rfl rfl rfl rfl (makeI_spec hk16).1 (makeI_spec hk16).1 (makeI_spec hk16).2 rfl rfl rfl rfl ?_
        refine TL_nils 1611 (List.map a_i64 (List.replicate k16 (0 : Int))) (by rw [hF]; rfl) rfl (ElR.rep (z := .int .i64 (0 : Int)) (g := a_i64) (x := (0 : Int)) ⟨⟨rfl, rfl⟩, trivial⟩ k16) rfl ?_
        refine TL_nil ?_
        refine TZ_keepH [0, 2, 3, 5, 6, 7, 8, 9, 10, 11, 12, 15, 16, 17, 18] [1611, 1771] rfl rfl rfl rfl (by rw [hF]; rfl) ?_
        exact hS1050_24
      · refine ⟨_, rfl, ?_⟩
        refine TL_buildSlice 1851 (es := List.map a_Point ([] : List Point)) el61 z71 rfl rfl rfl rfl rfl rfl rfl rfl rfl ?_
        refine TL_nil ?_
        refine TZ_keepH [0, 2, 3, 5, 6, 7, 8, 9, 10, 11, 12, 15, 17, 18, 19] [1771, 1851] rfl rfl rfl rfl (by rw [hF]; rfl) ?_
        exact hS1050_27
    refine TZ_cut 7 [true, true, true, false, false, true, false, true, false, true, false, false, false] ⟨[(0, .cp [.sl 2 (List.map a_Term p0.Pre), .sl 8 (List.map a_Stmt p0.Body), .sl 2 (List.map a_Term p0.Post)]), (2, .nilp), (3, .int .i64 (p0.Body.length : Int)), (5, .cp [.sl 2 (List.map a_Term p0.Pre), .sl 8 (List.map a_Stmt p0.Body), .sl 2 (List.map a_Term p0.Post)]), (6, .cp [.sl 2 (List.map a_Term p0.Pre), .sl 8 (List.map a_Stmt p0.Body), .sl 2 (List.map a_Term p0.Post)]), (7, .cp [.sl 8 (List.map a_Stmt p0.Body)]), (8, .sl 8 (List.map a_Stmt p0.Body)), (9, .int .i64 (p0.Body.length : Int)), (10, .cp [.sl 2 (List.map a_Term p0.Pre), .sl 8 (List.map a_Stmt p0.Body), .sl 2 (List.map a_Term p0.Post)]), (11, .cp [.sl 2 (List.map a_Term p0.Pre), .sl 8 (List.map a_Stmt p0.Body), .sl 2 (List.map a_Term p0.Post)]), (12, .cp [.sl 8 (List.map a_Stmt p0.Body)]), (15, .int .i64 (p0.Body.length : Int)), (17, .int .i64 (p0.Body.length : Int)), (19, .ow 1851)], [(1851, .arr ⟨false, false⟩ 2 71 (List.map a_Point ([] : List Point)))]⟩ ?_ (fun hS1050_29 => ?_)
    · refine TZ_each [3, 4, 6, 8] (by kernel_rfl) rfl ?_
      refine ⟨?_, ?_, ?_, ?_⟩
      · refine ⟨_, rfl, ?_⟩
        refine TL_pure rfl rfl rfl rfl (op_load_one ag31 rfl rfl) ?_
        refine TL_nil ?_
        refine TZ_keepH [0, 2, 3, 5, 6, 7, 8, 9, 10, 11, 12, 13, 15, 17, 19] [1851] rfl rfl rfl rfl (by rw [hF]; rfl) ?_
        exact hS1050_13
      · refine ⟨_, rfl, ?_⟩
        refine TL_buildSlice 1451 (es := List.map a_Instr ([] : List Instr)) el60 z172 rfl rfl rfl rfl rfl rfl rfl rfl rfl ?_
        refine TL_nil ?_
        refine TZ_keepH [0, 2, 3, 5, 6, 7, 8, 9, 10, 11, 12, 14, 15, 17, 19] [1451, 1851] rfl rfl rfl rfl (by rw [hF]; rfl) ?_
        exact hS1050_21
      · refine ⟨_, rfl, ?_⟩
        refine TL_make 1611 (n := k16) el27 z2 rfl rfl rfl rfl rfl rfl (makeI_spec hk16).1 (makeI_spec hk16).1 (makeI_spec hk16).2 rfl rfl rfl rfl ?_
        refine TL_nils 1611 (List.map a_i64 (List.replicate k16 (0 : Int))) (by rw [hF]; rfl) rfl (ElR.rep (z := .int .i64 (0 : Int)) (g := a_i64) (x := (0 : Int)) ⟨⟨rfl, rfl⟩, trivial⟩ k16) rfl ?_
        refine TL_nil ?_
        refine TZ_keepH [0, 2, 3, 5, 6, 7, 8, 9, 10, 11, 12, 15, 16, 17, 19] [1611, 1851] rfl rfl rfl rfl (by rw [hF]; rfl) ?_
        exact hS1050_25
      · refine ⟨_, rfl, ?_⟩
        refine TL_make 1771 (n := k18) el27 z2 rfl rfl rfl rfl rfl rfl (makeI_spec hk18).1 (makeI_spec hk18).1 (makeI_spec hk18).2 rfl rfl rfl rfl ?_
        refine TL_nils 1771 (List.map a_i64 (List.replicate k18 (0 : Int))) (by rw [hF]; rfl) rfl (ElR.rep (z := .int .i64 (0 : Int)) (g := a_i64) (x := (0 : Int)) ⟨⟨rfl, rfl⟩, trivial⟩ k18) rfl ?_
        refine TL_nil ?_
        refine TZ_keepH [0, 2, 3, 5, 6, 7, 8, 9, 10, 11, 12, 15, 17, 18, 19] [1771, 1851] rfl rfl rfl rfl (by rw [hF]; rfl) ?_
        exact hS1050_27
    refine TZ_each [3, 4, 6, 8, 9] (by kernel_rfl) rfl ?_
    refine ⟨?_, ?_, ?_, ?_, ?_⟩
    · refine ⟨_, rfl, ?_⟩
      refine TL_pure rfl rfl rfl rfl (op_load_one ag31 rfl rfl) ?_
      refine TL_nil ?_
      refine TZ_keepH [0, 2, 3, 5, 6, 7, 8, 9, 10, 11, 12, 13, 15, 17] [] rfl rfl rfl rfl (by rw [hF]; rfl) ?_
      exact hS1050_14
    · refine ⟨_, rfl, ?_⟩
      refine TL_buildSlice 1451 (es := List.map a_Instr ([] : List Instr)) el60 z172 rfl rfl rfl rfl rfl rfl rfl rfl rfl ?_
      refine TL_nil ?_
      refine TZ_keepH [0, 2, 3, 5, 6, 7, 8, 9, 10, 11, 12, 14, 15, 17] [1451] rfl rfl rfl rfl (by rw [hF]; rfl) ?_
      exact hS1050_22
    · refine ⟨_, rfl, ?_⟩
      refine TL_make 1611 (n := k16) el27 z2 rfl rfl rfl rfl rfl rfl (makeI_spec hk16).1 (makeI_spec hk16).1 (makeI_spec hk16).2 rfl rfl rfl rfl ?_
      refine TL_nils 1611 (List.map a_i64 (List.replicate k16 (0 : Int))) (by rw [hF]; rfl) rfl (ElR.rep (z := .int .i64 (0 : Int)) (g := a_i64) (x := (0 : Int)) ⟨⟨rfl, rfl⟩, trivial⟩ k16) rfl ?_
      refine TL_nil ?_
      refine TZ_keepH [0, 2, 3, 5, 6, 7, 8, 9, 10, 11, 12, 15, 16, 17] [1611] rfl rfl rfl rfl (by rw [hF]; rfl) ?_
      exact hS1050_26
    · refine ⟨_, rfl, ?_⟩
      refine TL_make 1771 (n := k18) el27 z2 rfl rfl rfl rfl rfl rfl (makeI_spec hk18).1 (makeI_spec hk18).1 (makeI_spec hk18).2 rfl rfl rfl rfl ?_
      refine TL_nils 1771 (List.map a_i64 (List.replicate k18 (0 : Int))) (by rw [hF]; rfl) rfl (ElR.rep (z := .int .i64 (0 : Int)) (g := a_i64) (x := (0 : Int)) ⟨⟨rfl, rfl⟩, trivial⟩ k18) rfl ?_
      refine TL_nil ?_
      refine TZ_keepH [0, 2, 3, 5, 6, 7, 8, 9, 10, 11, 12, 15, 17, 18] [1771] rfl rfl rfl rfl (by rw [hF]; rfl) ?_
      exact hS1050_28
    · refine ⟨_, rfl, ?_⟩
      refine TL_buildSlice 1851 (es := List.map a_Point ([] : List Point)) el61 z71 rfl rfl rfl rfl rfl rfl rfl rfl rfl ?_
      refine TL_nil ?_
      refine TZ_keepH [0, 2, 3, 5, 6, 7, 8, 9, 10, 11, 12, 15, 17, 19] [1851] rfl rfl rfl rfl (by rw [hF]; rfl) ?_
      exact hS1050_29
theorem c_spec_OriginOf (p0 : Program) (p1 : Int) (out : Int × Bool) (hm : m_spec_OriginOf p0 p1 = some out) : ACall Try.prog 36 [.agg [.sl 2 (List.map a_Term p0.Pre), .sl 8 (List.map a_Stmt p0.Body), .sl 2 (List.map a_Term p0.Post)], .int .i64 p1] [] (.tup [.int .i64 out.1, .bool out.2]) [] := by
  refine ACall.intro Try.func36 rfl Try.ntmps36 rfl (fun F hF => ?_)
  unfold m_spec_OriginOf at hm
  refine T_seq ?_
  refine T_region ?_
  refine TL_box 11 rfl rfl rfl rfl rfl rfl rfl ?_
  refine TL_pure rfl rfl rfl rfl (op_assign rfl) ?_
  refine TL_pure rfl rfl rfl rfl (op_assign rfl) ?_
  refine TL_nil ?_
  refine T_seq ?_
  refine T_seq ?_
  refine T_region ?_
  obtain ⟨r8, hr8, hm⟩ := bindS hm
  refine TL_callF (c_spec_l03Is p0 r8 hr8) Try.call40 rfl rfl rfl rfl rfl ?_
  refine TL_pure rfl rfl rfl rfl (op_not rfl) ?_
  refine TL_nil ?_
  refine T_cond rfl (fun hq => ?_) (fun hq => ?_)
  · replace hm := condT hq hm
    refine T_seq ?_
    refine T_region ?_
    refine TL_pure rfl rfl rfl rfl (op_assign rfl) ?_
    refine TL_pure rfl rfl rfl rfl (op_assign rfl) ?_
    refine TL_nil ?_
    refine T_keepH [4, 5] [] rfl rfl rfl rfl (by rw [hF]; rfl) ?_
    refine T_ret ?_
    obtain rfl := someI hm
    refine ⟨[_, _], [], ⟨rfl, rfl, trivial⟩, ?_, rfl, rfl, rfl, rfl⟩
    rfl
  · replace hm := condF hq hm
    refine T_skip ?_
    refine T_seq ?_
    refine T_region ?_
    refine TL_freezeB 11 (by rw [hF]; rfl) rfl rfl rfl rfl ?_
    obtain ⟨r10, hr10, hm⟩ := bindS hm
    refine TLE_call [] [(1000, 12), (1001, 13), (1002, 14), (1003, 15), (1004, 16)] [] (c_spec_l09Make p0 r10 hr10) (fun _ => rfl) Try.call65 rfl rfl rfl rfl rfl trivial rfl rfl rfl rfl rfl rfl rfl rfl rfl rfl rfl ?_
    refine TL_pure rfl rfl rfl rfl (op_assign rfl) ?_
    refine TL_nil ?_
    refine T_seq ?_
    refine T_seq ?_
    refine T_region ?_
    refine TL_pure rfl rfl rfl rfl (op_move rfl) ?_
    refine TL_pure rfl rfl rfl rfl (op_move rfl) ?_
    obtain ⟨r13, hr13, hm⟩ := bindS hm
    refine TL_callF (c_spec_l09Maker_at r10 r13 hr13) Try.call66 rfl rfl rfl rfl rfl ?_
    refine TL_pure rfl rfl rfl rfl (op_subW rfl rfl) ?_
    obtain ⟨r15, hr15, hm⟩ := bindS hm
    refine TL_callF (c_spec_l00In p1 (0 : Int) (w64 (r13 - (1 : Int))) r15 hr15) Try.call67 rfl rfl rfl rfl rfl ?_
    refine TL_pure rfl rfl rfl rfl (op_not rfl) ?_
    refine TL_nil ?_
    refine T_cond rfl (fun hq => ?_) (fun hq => ?_)
    · replace hm := condT hq hm
      refine T_seq ?_
      refine T_region ?_
      refine TL_pure rfl rfl rfl rfl (op_assign rfl) ?_
      refine TL_pure rfl rfl rfl rfl (op_assign rfl) ?_
      refine TL_nil ?_
      refine T_keepH [4, 5] [] rfl rfl rfl rfl (by rw [hF]; rfl) ?_
      refine T_ret ?_
      obtain rfl := someI hm
      refine ⟨[_, _], [], ⟨rfl, rfl, trivial⟩, ?_, rfl, rfl, rfl, rfl⟩
      rfl
    · replace hm := condF hq hm
      refine T_skip ?_
      refine T_seq ?_
      refine T_seq ?_
      refine T_region ?_
      refine TL_pure rfl rfl rfl rfl (op_fieldAddrC (n := 1) fa33_1 rfl rfl rfl) ?_
      refine TL_pure rfl rfl rfl rfl (op_load_one ag31 rfl rfl) ?_
      refine TL_pure rfl rfl rfl rfl (op_lenT Try.underlying31 rfl (List.length_map _)) ?_
      refine TL_fact (fun _ _ _ hr => RelP.slLen (i := 18) rfl hr) (fun hlen19 => ?_)
      rw [List.length_map] at hlen19
      refine TL_pure rfl rfl rfl rfl (op_subW rfl rfl) ?_
      refine TL_pure rfl rfl rfl rfl (op_assign rfl) ?_
      refine TL_nil ?_
      refine T_block ?_
      refine T_keepH [1, 2, 6, 7] [12, 13, 14, 15, 16] rfl rfl rfl rfl (by rw [hF]; rfl) ?_
      refine T_loop ?_
      obtain ⟨u0, hl0, hm⟩ := bindS hm
      refine TR_iter2 (m_spec_OriginOf_L0 p1 r10) (fun (s0 : Int) => ⟨[(1, .int .i64 p1), (2, .cp [.sl 2 (List.map a_Term p0.Pre), .sl 8 (List.map a_Stmt p0.Body), .sl 2 (List.map a_Term p0.Post)]), (6, .ptr 12 0 0), (7, .int .i64 s0)], [(12, .box [.sl 8 (List.map a_Stmt r10.body), .ow 13, .ow 14, .ow 15, .ow 16]), (13, .arr ⟨false, true⟩ 2 172 (List.map a_Instr r10.code)), (14, .arr ⟨false, true⟩ 1 2 (List.map a_i64 r10.begin)), (15, .arr ⟨false, true⟩ 1 2 (List.map a_i64 r10.end_)), (16, .arr ⟨false, true⟩ 2 71 (List.map a_Point r10.heads))]⟩) (fun u0 => match u0 with | .inl u0 => .exit 0 | .inr u0 => .ret) (fun u0 => match u0 with | .inl u0 => ⟨[(2, .cp [.sl 2 (List.map a_Term p0.Pre), .sl 8 (List.map a_Stmt p0.Body), .sl 2 (List.map a_Term p0.Post)])], []⟩ | .inr u0 => ⟨[(4, .int .i64 u0.1), (5, .bool u0.2)], []⟩) (fun u0 => m_spec_OriginOf_A0 p0 u0 = some out) hl0 hm (fun u0 hm => ?_) (fun hx0 s0 c0 hm hc0 => ?_)
      · rcases u0 with u0 | u0
        · unfold m_spec_OriginOf_A0 at hm
          refine T_seq ?_
          refine T_region ?_
          refine TL_pure rfl rfl rfl rfl (op_fieldAddrC (n := 1) fa33_1 rfl rfl rfl) ?_
          refine TL_pure rfl rfl rfl rfl (op_load_one ag31 rfl rfl) ?_
          refine TL_pure rfl rfl rfl rfl (op_lenT Try.underlying31 rfl (List.length_map _)) ?_
          refine TL_pure rfl rfl rfl rfl (op_assign rfl) ?_
          refine TL_pure rfl rfl rfl rfl (op_assign rfl) ?_
          refine TL_nil ?_
          refine T_keepH [4, 5] [] rfl rfl rfl rfl (by rw [hF]; rfl) ?_
          refine T_ret ?_
          obtain rfl := someI hm
          refine ⟨[_, _], [], ⟨rfl, rfl, trivial⟩, ?_, rfl, rfl, rfl, rfl⟩
          rfl
        · unfold m_spec_OriginOf_A0 at hm
          obtain rfl := someI hm
          refine ⟨[_, _], [], ⟨rfl, rfl, trivial⟩, ?_, rfl, rfl, rfl, rfl⟩
          rfl
      · unfold m_spec_OriginOf_L0 at hm
        refine T_seq ?_
        refine T_seq ?_
        refine T_region ?_
        refine TL_pure rfl rfl rfl rfl (op_move rfl) ?_
        refine TL_pure rfl rfl rfl rfl (op_geq rfl rfl) ?_
        refine TL_nil ?_
        refine T_cond rfl (fun hq => ?_) (fun hq => ?_)
        · replace hm := condT hq hm
          refine T_skip ?_
          refine T_seq ?_
          refine T_block ?_
          refine T_seq ?_
          refine T_region ?_
          refine TL_pure rfl rfl rfl rfl (op_move rfl) ?_
          refine TL_pure rfl rfl rfl rfl (op_nilCheck rfl rfl) ?_
          refine TL_pure rfl rfl rfl rfl (op_fieldAddr fa123_2 rfl rfl) ?_
          refine TL_pure rfl rfl rfl rfl (op_load_one ag27 rfl rfl) ?_
          refine TL_pure rfl rfl rfl rfl (op_move rfl) ?_
          obtain ⟨x30, hx30, hm⟩ := bindS hm
          refine TL_pure rfl rfl rfl rfl (op_indexO el27 rfl rfl rfl hx30) ?_
          refine TL_pure rfl rfl rfl rfl (op_loadD1 ag2 rfl rfl ((getI_spec hx30).2) rfl rfl rfl rfl) ?_
          refine TL_pure rfl rfl rfl rfl (op_move rfl) ?_
          refine TL_pure rfl rfl rfl rfl (op_leq rfl rfl) ?_
          refine TL_pure rfl rfl rfl rfl (op_move rfl) ?_
          refine TL_split 34 rfl rfl rfl (fun hq => ?_) (fun hq => ?_)
          · replace hm := condT hq hm
            refine TL_want rfl rfl ?_
            refine TL_pure rfl rfl rfl rfl (op_move rfl) ?_
            refine TL_want rfl rfl ?_
            refine TL_pure rfl rfl rfl rfl (op_move rfl) ?_
            refine TL_want rfl rfl ?_
            refine TL_pure rfl rfl rfl rfl (op_nilCheck rfl rfl) ?_
            refine TL_want rfl rfl ?_
            refine TL_pure rfl rfl rfl rfl (op_fieldAddr fa123_3 rfl rfl) ?_
            refine TL_want rfl rfl ?_
            refine TL_pure rfl rfl rfl rfl (op_load_one ag27 rfl rfl) ?_
            refine TL_want rfl rfl ?_
            refine TL_pure rfl rfl rfl rfl (op_move rfl) ?_
            refine TL_want rfl rfl ?_
            obtain ⟨x41, hx41, hm⟩ := bindS hm
            refine TL_pure rfl rfl rfl rfl (op_indexO el27 rfl rfl rfl hx41) ?_
            refine TL_want rfl rfl ?_
            refine TL_pure rfl rfl rfl rfl (op_loadD1 ag2 rfl rfl ((getI_spec hx41).2) rfl rfl rfl rfl) ?_
            refine TL_want rfl rfl ?_
            refine TL_pure rfl rfl rfl rfl (op_lss rfl rfl) ?_
            refine TL_pure rfl rfl rfl rfl (op_pick_true rfl rfl) ?_
            refine TL_nil ?_
            refine T_cond rfl (fun hq => ?_) (fun hq => ?_)
            · replace hm := condT hq hm
              refine T_seq ?_
              refine T_region ?_
              refine TL_pure rfl rfl rfl rfl (op_move rfl) ?_
              refine TL_pure rfl rfl rfl rfl (op_assign rfl) ?_
              refine TL_pure rfl rfl rfl rfl (op_assign rfl) ?_
              refine TL_nil ?_
              refine T_keepH [4, 5] [] rfl rfl rfl rfl (by rw [hF]; rfl) ?_
              refine T_ret ?_
              obtain rfl := someI hm
              have hn := CtlOK_out hc0
              exact hx0 (.inr (s0, true)) hn
            · replace hm := condF hq hm
              refine T_skip ?_
              refine T_region ?_
              refine TL_pure rfl rfl rfl rfl (op_move rfl) ?_
              refine TL_pure rfl rfl rfl rfl (op_subW rfl rfl) ?_
              refine TL_pure rfl rfl rfl rfl (op_assign rfl) ?_
              refine TL_nil ?_
              refine TR_keepH [1, 2, 6, 7] [12, 13, 14, 15, 16] rfl rfl rfl rfl (by rw [hF]; rfl) ?_
              obtain rfl := someI hm
              have hn := CtlOK_next hc0
              exact hn _ rfl
          · replace hm := condF hq hm
            refine TL_pass rfl rfl rfl rfl rfl rfl rfl ?_
            refine TL_pass rfl rfl rfl rfl rfl rfl rfl ?_
            refine TL_pass rfl rfl rfl rfl rfl rfl rfl ?_
            refine TL_pass rfl rfl rfl rfl rfl rfl rfl ?_
            refine TL_pass rfl rfl rfl rfl rfl rfl rfl ?_
            refine TL_pass rfl rfl rfl rfl rfl rfl rfl ?_
            refine TL_pass rfl rfl rfl rfl rfl rfl rfl ?_
            refine TL_pass rfl rfl rfl rfl rfl rfl rfl ?_
            refine TL_pass rfl rfl rfl rfl rfl rfl rfl ?_
            refine TL_pure rfl rfl rfl rfl (op_pick_false rfl rfl) ?_
            refine TL_nil ?_
            refine T_cond_false rfl ?_
            refine T_skip ?_
            refine T_region ?_
            refine TL_pure rfl rfl rfl rfl (op_move rfl) ?_
            refine TL_pure rfl rfl rfl rfl (op_subW rfl rfl) ?_
            refine TL_pure rfl rfl rfl rfl (op_assign rfl) ?_
            refine TL_nil ?_
            refine TR_keepH [1, 2, 6, 7] [12, 13, 14, 15, 16] rfl rfl rfl rfl (by rw [hF]; rfl) ?_
            obtain rfl := someI hm
            have hn := CtlOK_next hc0
            exact hn _ rfl
        · replace hm := condF hq hm
          refine T_keepH [2] [] rfl rfl rfl rfl (by rw [hF]; rfl) ?_
          refine T_exit ?_
          obtain rfl := someI hm
          have hn := CtlOK_out hc0
          exact hx0 (.inl ()) hn
theorem c_impl_Term_isZero (p0 : Term) (out : Bool) (hm : m_impl_Term_isZero p0 = some out) : ACall Try.prog 128 [.agg [.int .i64 p0.Const, .sl 1 (List.map a_i64 p0.Coeffs)]] [] (.bool out) [] := by
  refine ACall.intro Try.func128 rfl Try.ntmps128 rfl (fun F hF => ?_)
  unfold m_impl_Term_isZero at hm
  refine T_seq ?_
  refine T_region ?_
  refine TL_box 11 rfl rfl rfl rfl rfl rfl rfl ?_
  refine TL_pure rfl rfl rfl rfl (op_assign rfl) ?_
  refine TL_nil ?_
  refine T_seq ?_
  refine T_region ?_
  refine TL_pure rfl rfl rfl rfl (op_fieldAddr fa67_0 rfl rfl) ?_
  refine TL_pure rfl rfl rfl rfl (op_load_one ag2 rfl rfl) ?_
  refine TL_pure rfl rfl rfl rfl (op_eql rfl rfl) ?_
  refine TL_pure rfl rfl rfl rfl (op_move rfl) ?_
  refine TL_join 5 (fun _ : Unit => ⟨[(11, .bool ((decide (p0.Const = (0 : Int))) && (decide ((p0.Coeffs.length : Int) = (0 : Int)))))], []⟩) (fun _ => True) (fun _ _ => ?_) (fun hjj => ?_)
  · refine TL_pure rfl rfl rfl rfl (op_assign rfl) ?_
    refine TL_nil ?_
    refine T_keepH [2] [] rfl rfl rfl rfl (by rw [hF]; rfl) ?_
    refine T_ret ?_
    obtain rfl := someI hm
    refine ⟨[_], [], ⟨rfl, trivial⟩, ?_, rfl, rfl, rfl, rfl⟩
    rfl
  · refine TL_split 6 rfl rfl rfl (fun hq => ?_) (fun hq => ?_)
    · refine TL_want rfl rfl ?_
      refine TL_pure rfl rfl rfl rfl (op_fieldAddr fa67_1 rfl rfl) ?_
      refine TL_want rfl rfl ?_
      refine TL_pure rfl rfl rfl rfl (op_load_one ag27 rfl rfl) ?_
      refine TL_want rfl rfl ?_
      refine TL_pure rfl rfl rfl rfl (op_lenT Try.underlying27 rfl (List.length_map _)) ?_
      refine TL_fact (fun _ _ _ hr => RelP.slLen (i := 8) rfl hr) (fun hlen9 => ?_)
      rw [List.length_map] at hlen9
      refine TL_want rfl rfl ?_
      refine TL_pure rfl rfl rfl rfl (op_eql rfl rfl) ?_
      refine TL_pure rfl rfl rfl rfl (op_pick_true rfl rfl) ?_
      refine TL_keepH [11] [] rfl rfl rfl rfl (by rw [hF]; rfl) ?_
      exact TL_cast _ (by first | (rw [hq, Bool.true_and]; done) | (rw [hq]; rfl)) (hjj () trivial)
    · refine TL_pass rfl rfl rfl rfl rfl rfl rfl ?_
      refine TL_pass rfl rfl rfl rfl rfl rfl rfl ?_
      refine TL_pass rfl rfl rfl rfl rfl rfl rfl ?_
      refine TL_pass rfl rfl rfl rfl rfl rfl rfl ?_
      refine TL_pure rfl rfl rfl rfl (op_pick_false rfl rfl) ?_
      refine TL_keepH [11] [] rfl rfl rfl rfl (by rw [hF]; rfl) ?_
      exact TL_cast _ (by first | (rw [hq, Bool.false_and]; done) | (rw [hq]; rfl)) (hjj () trivial)
theorem c_impl_within (p0 : Int) (p1 : Int) (p2 : Int) (out : Bool) (hm : m_impl_within p0 p1 p2 = some out) : ACall Try.prog 63 [.int .i64 p0, .int .i64 p1, .int .i64 p2] [] (.bool out) [] := by
  refine ACall.intro Try.func63 rfl Try.ntmps63 rfl (fun F hF => ?_)
  unfold m_impl_within at hm
  refine T_seq ?_
  refine T_region ?_
  refine TL_pure rfl rfl rfl rfl (op_assign rfl) ?_
  refine TL_nil ?_
  refine T_seq ?_
  refine T_region ?_
  refine TL_pure rfl rfl rfl rfl (op_move rfl) ?_
  refine TL_pure rfl rfl rfl rfl (op_move rfl) ?_
  refine TL_pure rfl rfl rfl rfl (op_leq rfl rfl) ?_
  refine TL_pure rfl rfl rfl rfl (op_move rfl) ?_
  refine TL_join 4 (fun _ : Unit => ⟨[(14, .bool ((decide (p1 ≤ p0)) && (decide (p0 ≤ p2))))], []⟩) (fun _ => True) (fun _ _ => ?_) (fun hjj => ?_)
  · refine TL_pure rfl rfl rfl rfl (op_assign rfl) ?_
    refine TL_nil ?_
    refine T_keepH [6] [] rfl rfl rfl rfl (by rw [hF]; rfl) ?_
    refine T_ret ?_
    obtain rfl := someI hm
    refine ⟨[_], [], ⟨rfl, trivial⟩, ?_, rfl, rfl, rfl, rfl⟩
    rfl
  · refine TL_split 10 rfl rfl rfl (fun hq => ?_) (fun hq => ?_)
    · refine TL_want rfl rfl ?_
      refine TL_pure rfl rfl rfl rfl (op_move rfl) ?_
      refine TL_want rfl rfl ?_
      refine TL_pure rfl rfl rfl rfl (op_move rfl) ?_
      refine TL_want rfl rfl ?_
      refine TL_pure rfl rfl rfl rfl (op_leq rfl rfl) ?_
      refine TL_pure rfl rfl rfl rfl (op_pick_true rfl rfl) ?_
      refine TL_keepH [14] [] rfl rfl rfl rfl (by rw [hF]; rfl) ?_
      exact TL_cast _ (by first | (rw [hq, Bool.true_and]; done) | (rw [hq]; rfl)) (hjj () trivial)
    · refine TL_pass rfl rfl rfl rfl rfl rfl rfl ?_
      refine TL_pass rfl rfl rfl rfl rfl rfl rfl ?_
      refine TL_pass rfl rfl rfl rfl rfl rfl rfl ?_
      refine TL_pure rfl rfl rfl rfl (op_pick_false rfl rfl) ?_
      refine TL_keepH [14] [] rfl rfl rfl rfl (by rw [hF]; rfl) ?_
      exact TL_cast _ (by first | (rw [hq, Bool.false_and]; done) | (rw [hq]; rfl)) (hjj () trivial)
theorem c_impl_isVar (p0 : Int) (out : Bool) (hm : m_impl_isVar p0 = some out) : ACall Try.prog 129 [.int .i64 p0] [] (.bool out) [] := by
  refine ACall.intro Try.func129 rfl Try.ntmps129 rfl (fun F hF => ?_)
  unfold m_impl_isVar at hm
  refine T_seq ?_
  refine T_region ?_
  refine TL_pure rfl rfl rfl rfl (op_assign rfl) ?_
  refine TL_nil ?_
  refine T_seq ?_
  refine T_region ?_
  refine TL_pure rfl rfl rfl rfl (op_move rfl) ?_
  obtain ⟨r4, hr4, hm⟩ := bindS hm
  refine TL_callF (c_impl_within p0 (0 : Int) (3 : Int) r4 hr4) Try.call63 rfl rfl rfl rfl rfl ?_
  refine TL_pure rfl rfl rfl rfl (op_assign rfl) ?_
  refine TL_nil ?_
  refine T_keepH [2] [] rfl rfl rfl rfl (by rw [hF]; rfl) ?_
  refine T_ret ?_
  obtain rfl := someI hm
  refine ⟨[_], [], ⟨rfl, trivial⟩, ?_, rfl, rfl, rfl, rfl⟩
  rfl
theorem c_impl_isCoeff (p0 : Int) (out : Bool) (hm : m_impl_isCoeff p0 = some out) : ACall Try.prog 131 [.int .i64 p0] [] (.bool out) [] := by
  refine ACall.intro Try.func131 rfl Try.ntmps131 rfl (fun F hF => ?_)
  unfold m_impl_isCoeff at hm
  refine T_seq ?_
  refine T_region ?_
  refine TL_pure rfl rfl rfl rfl (op_assign rfl) ?_
  refine TL_nil ?_
  refine T_seq ?_
  refine T_region ?_
  refine TL_pure rfl rfl rfl rfl (op_move rfl) ?_
  obtain ⟨r4, hr4, hm⟩ := bindS hm
  refine TL_callF (c_impl_within p0 (-1000000 : Int) (1000000 : Int) r4 hr4) Try.call63 rfl rfl rfl rfl rfl ?_
  refine TL_pure rfl rfl rfl rfl (op_assign rfl) ?_
  refine TL_nil ?_
  refine T_keepH [2] [] rfl rfl rfl rfl (by rw [hF]; rfl) ?_
  refine T_ret ?_
  obtain rfl := someI hm
  refine ⟨[_], [], ⟨rfl, trivial⟩, ?_, rfl, rfl, rfl, rfl⟩
  rfl
theorem c_impl_allWithin (p0 : List Int) (p1 : Int) (p2 : Int) (out : Bool) (hm : m_impl_allWithin p0 p1 p2 = some out) : ACall Try.prog 103 [.sl 1 (List.map a_i64 p0), .int .i64 p1, .int .i64 p2] [] (.bool out) [] := by
  refine ACall.intro Try.func103 rfl Try.ntmps103 rfl (fun F hF => ?_)
  unfold m_impl_allWithin at hm
  refine T_seq ?_
  refine T_region ?_
  refine TL_pure rfl rfl rfl rfl (op_assign rfl) ?_
  refine TL_nil ?_
  refine T_seq ?_
  refine T_seq ?_
  refine T_region ?_
  refine TL_pure rfl rfl rfl rfl (op_move rfl) ?_
  refine TL_pure rfl rfl rfl rfl (op_lenT Try.underlying27 rfl (List.length_map _)) ?_
  refine TL_fact (fun _ _ _ hr => RelP.slLen (i := 9) rfl hr) (fun hlen10 => ?_)
  rw [List.length_map] at hlen10
  refine TL_pure rfl rfl rfl rfl (op_move rfl) ?_
  refine TL_nil ?_
  refine T_block ?_
  refine T_keepH [1, 2, 9, 10, 11] [] rfl rfl rfl rfl (by rw [hF]; rfl) ?_
  refine T_loop ?_
  obtain ⟨u0, hl0, hm⟩ := bindS hm
  refine TR_forL2 p0 (m_impl_allWithin_L0 p1 p2) (fun (s0 : Unit) => (.inl ())) (fun n0 (s0 : Unit) => ⟨[(1, .int .i64 p1), (2, .int .i64 p2), (9, .sl 1 (List.map a_i64 p0)), (10, .int .i64 (p0.length : Int)), (11, .int .i64 (n0 : Int))], []⟩) (fun u0 => match u0 with | .inl u0 => .exit 0 | .inr u0 => .ret) (fun u0 => match u0 with | .inl u0 => ⟨[], []⟩ | .inr u0 => ⟨[(6, .bool u0)], []⟩) (fun u0 => m_impl_allWithin_A0 u0 = some out) hl0 hm (fun u0 hm => ?_) (fun hx0 s0 hm => ?_) (fun hx0 n0 x0 s0 c0 hxn0 hlt0 hm hc0 => ?_)
  · rcases u0 with u0 | u0
    · unfold m_impl_allWithin_A0 at hm
      refine T_seq ?_
      refine T_region ?_
      refine TL_pure rfl rfl rfl rfl (op_assign rfl) ?_
      refine TL_nil ?_
      refine T_keepH [6] [] rfl rfl rfl rfl (by rw [hF]; rfl) ?_
      refine T_ret ?_
      obtain rfl := someI hm
      refine ⟨[_], [], ⟨rfl, trivial⟩, ?_, rfl, rfl, rfl, rfl⟩
      rfl
    · unfold m_impl_allWithin_A0 at hm
      obtain rfl := someI hm
      refine ⟨[_], [], ⟨rfl, trivial⟩, ?_, rfl, rfl, rfl, rfl⟩
      rfl
  · refine T_seq ?_
    refine T_region ?_
    refine TL_pure rfl rfl rfl rfl (op_lss rfl rfl) ?_
    refine TL_nil ?_
    refine T_seq ?_
    refine T_if_false rfl (decide_eq_false (by simp)) ?_
    refine T_keepH [] [] rfl rfl rfl rfl (by rw [hF]; rfl) ?_
    refine T_exit ?_
    exact hx0 (.inl ()) hm
  · unfold m_impl_allWithin_L0 at hm
    refine T_seq ?_
    refine T_region ?_
    refine TL_pure rfl rfl rfl rfl (op_lss rfl rfl) ?_
    refine TL_nil ?_
    refine T_seq ?_
    refine T_if_true rfl (decide_eq_true (Int.ofNat_lt.2 hlt0)) ?_
    refine T_skip ?_
    refine T_seq ?_
    refine T_block ?_
    refine T_seq ?_
    refine T_region ?_
    refine TL_pure rfl rfl rfl rfl (op_index_sl el27 rfl rfl rfl (get_map hxn0) rfl) ?_
    refine TL_pure rfl rfl rfl rfl (op_load_one ag2 rfl rfl) ?_
    refine TL_pure rfl rfl rfl rfl (op_assign rfl) ?_
    refine TL_nil ?_
    refine T_seq ?_
    refine T_region ?_
    refine TL_pure rfl rfl rfl rfl (op_move rfl) ?_
    refine TL_pure rfl rfl rfl rfl (op_move rfl) ?_
    refine TL_pure rfl rfl rfl rfl (op_move rfl) ?_
    obtain ⟨r18, hr18, hm⟩ := bindS hm
    refine TL_callF (c_impl_within x0 p1 p2 r18 hr18) Try.call63 rfl rfl rfl rfl rfl ?_
    refine TL_pure rfl rfl rfl rfl (op_not rfl) ?_
    refine TL_nil ?_
    refine T_cond rfl (fun hq => ?_) (fun hq => ?_)
    · replace hm := condT hq hm
      refine T_seq ?_
      refine T_region ?_
      refine TL_pure rfl rfl rfl rfl (op_assign rfl) ?_
      refine TL_nil ?_
      refine T_keepH [6] [] rfl rfl rfl rfl (by rw [hF]; rfl) ?_
      refine T_ret ?_
      obtain rfl := someI hm
      have hn := CtlOK_out hc0
      exact hx0 (.inr false) hn
    · replace hm := condF hq hm
      refine T_skip ?_
      refine T_region ?_
      refine TL_pure rfl rfl rfl rfl (op_addN rfl rfl (Nat.lt_of_lt_of_le hlt0 hlen10)) ?_
      refine TL_pure rfl rfl rfl rfl (op_move rfl) ?_
      refine TL_nil ?_
      refine TR_keepH [1, 2, 9, 10, 11] [] rfl rfl rfl rfl (by rw [hF]; rfl) ?_
      obtain rfl := someI hm
      have hn := CtlOK_next hc0
      exact hn _ rfl
theorem c_impl_ValidTerm (p0 : Term) (out : Bool) (hm : m_impl_ValidTerm p0 = some out) : ACall Try.prog 120 [.agg [.int .i64 p0.Const, .sl 1 (List.map a_i64 p0.Coeffs)]] [] (.bool out) [] := by
  refine ACall.intro Try.func120 rfl Try.ntmps120 rfl (fun F hF => ?_)
  unfold m_impl_ValidTerm at hm
  refine T_seq ?_
  refine T_region ?_
  refine TL_box 11 rfl rfl rfl rfl rfl rfl rfl ?_
  refine TL_pure rfl rfl rfl rfl (op_assign rfl) ?_
  refine TL_nil ?_
  refine T_seq ?_
  refine T_region ?_
  refine TL_pure rfl rfl rfl rfl (op_fieldAddr fa67_1 rfl rfl) ?_
  refine TL_pure rfl rfl rfl rfl (op_load_one ag27 rfl rfl) ?_
  refine TL_pure rfl rfl rfl rfl (op_lenT Try.underlying27 rfl (List.length_map _)) ?_
  refine TL_fact (fun _ _ _ hr => RelP.slLen (i := 5) rfl hr) (fun hlen6 => ?_)
  rw [List.length_map] at hlen6
  refine TL_pure rfl rfl rfl rfl (op_assign rfl) ?_
  refine TL_nil ?_
  refine T_seq ?_
  refine T_region ?_
  refine TL_pure rfl rfl rfl rfl (op_move rfl) ?_
  refine TL_pure rfl rfl rfl rfl (op_leq rfl rfl) ?_
  refine TL_pure rfl rfl rfl rfl (op_move rfl) ?_
  refine TL_split 9 rfl rfl rfl (fun hq => ?_) (fun hq => ?_)
  · replace hm := condT hq hm
    refine TL_want rfl rfl ?_
    refine TL_pure rfl rfl rfl rfl (op_fieldAddr fa67_0 rfl rfl) ?_
    refine TL_want rfl rfl ?_
    refine TL_pure rfl rfl rfl rfl (op_load_one ag2 rfl rfl) ?_
    refine TL_want rfl rfl ?_
    obtain ⟨r12, hr12, hm⟩ := bindS hm
    refine TL_callF (c_impl_isCoeff p0.Const r12 hr12) Try.call131 rfl rfl rfl rfl rfl ?_
    refine TL_pure rfl rfl rfl rfl (op_pick_true rfl rfl) ?_
    refine TL_pure rfl rfl rfl rfl (op_move rfl) ?_
    refine TL_split 14 rfl rfl rfl (fun hq => ?_) (fun hq => ?_)
    · replace hm := condT hq hm
      refine TL_want rfl rfl ?_
      refine TL_pure rfl rfl rfl rfl (op_fieldAddr fa67_1 rfl rfl) ?_
      refine TL_want rfl rfl ?_
      refine TL_pure rfl rfl rfl rfl (op_load_one ag27 rfl rfl) ?_
      refine TL_want rfl rfl ?_
      obtain ⟨r17, hr17, hm⟩ := bindS hm
      refine TL_callF (c_impl_allWithin p0.Coeffs (-1000000 : Int) (1000000 : Int) r17 hr17) Try.call103 rfl rfl rfl rfl rfl ?_
      refine TL_pure rfl rfl rfl rfl (op_pick_true rfl rfl) ?_
      refine TL_pure rfl rfl rfl rfl (op_move rfl) ?_
      refine TL_split 19 rfl rfl rfl (fun hq => ?_) (fun hq => ?_)
      · replace hm := condT hq hm
        refine TL_want rfl rfl ?_
        refine TL_pure rfl rfl rfl rfl (op_move rfl) ?_
        refine TL_want rfl rfl ?_
        refine TL_pure rfl rfl rfl rfl (op_eql rfl rfl) ?_
        refine TL_want rfl rfl ?_
        refine TL_pure rfl rfl rfl rfl (op_move rfl) ?_
        refine TL_split 22 rfl rfl rfl (fun hq => ?_) (fun hq => ?_)
        · replace hm := condT hq hm
          refine TL_pass rfl rfl rfl rfl rfl rfl rfl ?_
          refine TL_pass rfl rfl rfl rfl rfl rfl rfl ?_
          refine TL_pass rfl rfl rfl rfl rfl rfl rfl ?_
          refine TL_pass rfl rfl rfl rfl rfl rfl rfl ?_
          refine TL_pass rfl rfl rfl rfl rfl rfl rfl ?_
          refine TL_pass rfl rfl rfl rfl rfl rfl rfl ?_
          refine TL_pass rfl rfl rfl rfl rfl rfl rfl ?_
          refine TL_want rfl rfl ?_
          refine TL_pure rfl rfl rfl rfl (op_pick_true rfl rfl) ?_
          refine TL_pure rfl rfl rfl rfl (op_pick_true rfl rfl) ?_
          refine TL_pure rfl rfl rfl rfl (op_assign rfl) ?_
          refine TL_nil ?_
          refine T_keepH [2] [] rfl rfl rfl rfl (by rw [hF]; rfl) ?_
          refine T_ret ?_
          obtain rfl := someI hm
          refine ⟨[_], [], ⟨rfl, trivial⟩, ?_, rfl, rfl, rfl, rfl⟩
          rfl
        · replace hm := condF hq hm
          refine TL_want rfl rfl ?_
          refine TL_pure rfl rfl rfl rfl (op_fieldAddr fa67_1 rfl rfl) ?_
          refine TL_want rfl rfl ?_
          refine TL_pure rfl rfl rfl rfl (op_load_one ag27 rfl rfl) ?_
          refine TL_want rfl rfl ?_
          refine TL_pure rfl rfl rfl rfl (op_move rfl) ?_
          refine TL_want rfl rfl ?_
          refine TL_pure rfl rfl rfl rfl (op_subW rfl rfl) ?_
          refine TL_want rfl rfl ?_
          obtain ⟨x27, hx27, hm⟩ := bindS hm
          refine TL_pure rfl rfl rfl rfl (op_indexT el27 rfl rfl hx27 rfl) ?_
          refine TL_want rfl rfl ?_
          refine TL_pure rfl rfl rfl rfl (op_load_one ag2 rfl rfl) ?_
          refine TL_want rfl rfl ?_
          refine TL_pure rfl rfl rfl rfl (op_neq rfl rfl) ?_
          refine TL_want rfl rfl ?_
          refine TL_pure rfl rfl rfl rfl (op_pick_false rfl rfl) ?_
          refine TL_pure rfl rfl rfl rfl (op_pick_true rfl rfl) ?_
          refine TL_pure rfl rfl rfl rfl (op_assign rfl) ?_
          refine TL_nil ?_
          refine T_keepH [2] [] rfl rfl rfl rfl (by rw [hF]; rfl) ?_
          refine T_ret ?_
          obtain rfl := someI hm
          refine ⟨[_], [], ⟨rfl, trivial⟩, ?_, rfl, rfl, rfl, rfl⟩
          rfl
      · replace hm := condF hq hm
        refine TL_pass rfl rfl rfl rfl rfl rfl rfl ?_
        refine TL_pass rfl rfl rfl rfl rfl rfl rfl ?_
        refine TL_pass rfl rfl rfl rfl rfl rfl rfl ?_
        refine TL_pass2 rfl rfl rfl rfl rfl rfl ?_
        refine TL_pass2 rfl rfl rfl rfl rfl rfl ?_
        refine TL_pass2 rfl rfl rfl rfl rfl rfl ?_
        refine TL_pass2 rfl rfl rfl rfl rfl rfl ?_
        refine TL_pass2 rfl rfl rfl rfl rfl rfl ?_
        refine TL_pass2 rfl rfl rfl rfl rfl rfl ?_
        refine TL_pass2 rfl rfl rfl rfl rfl rfl ?_
        refine TL_pass rfl rfl rfl rfl rfl rfl rfl ?_
        refine TL_pure rfl rfl rfl rfl (op_pick_false rfl rfl) ?_
        refine TL_pure rfl rfl rfl rfl (op_assign rfl) ?_
        refine TL_nil ?_
        refine T_keepH [2] [] rfl rfl rfl rfl (by rw [hF]; rfl) ?_
        refine T_ret ?_
        obtain rfl := someI hm
        refine ⟨[_], [], ⟨rfl, trivial⟩, ?_, rfl, rfl, rfl, rfl⟩
        rfl
    · replace hm := condF hq hm
      refine TL_pass rfl rfl rfl rfl rfl rfl rfl ?_
      refine TL_pass rfl rfl rfl rfl rfl rfl rfl ?_
      refine TL_pass rfl rfl rfl rfl rfl rfl rfl ?_
      refine TL_pure rfl rfl rfl rfl (op_pick_false rfl rfl) ?_
      refine TL_pure rfl rfl rfl rfl (op_move rfl) ?_
      refine TL_pass rfl rfl rfl rfl rfl rfl rfl ?_
      refine TL_pass rfl rfl rfl rfl rfl rfl rfl ?_
      refine TL_pass rfl rfl rfl rfl rfl rfl rfl ?_
      refine TL_pass2 rfl rfl rfl rfl rfl rfl ?_
      refine TL_pass2 rfl rfl rfl rfl rfl rfl ?_
      refine TL_pass2 rfl rfl rfl rfl rfl rfl ?_
      refine TL_pass2 rfl rfl rfl rfl rfl rfl ?_
      refine TL_pass2 rfl rfl rfl rfl rfl rfl ?_
      refine TL_pass2 rfl rfl rfl rfl rfl rfl ?_
      refine TL_pass2 rfl rfl rfl rfl rfl rfl ?_
      refine TL_pass rfl rfl rfl rfl rfl rfl rfl ?_
      refine TL_pure rfl rfl rfl rfl (op_pick_false rfl rfl) ?_
      refine TL_pure rfl rfl rfl rfl (op_assign rfl) ?_
      refine TL_nil ?_
      refine T_keepH [2] [] rfl rfl rfl rfl (by rw [hF]; rfl) ?_
      refine T_ret ?_
      obtain rfl := someI hm
      refine ⟨[_], [], ⟨rfl, trivial⟩, ?_, rfl, rfl, rfl, rfl⟩
      rfl
  · replace hm := condF hq hm
    refine TL_pass rfl rfl rfl rfl rfl rfl rfl ?_
    refine TL_pass rfl rfl rfl rfl rfl rfl rfl ?_
    refine TL_pass rfl rfl rfl rfl rfl rfl rfl ?_
    refine TL_pure rfl rfl rfl rfl (op_pick_false rfl rfl) ?_
    refine TL_pure rfl rfl rfl rfl (op_move rfl) ?_
    refine TL_pass rfl rfl rfl rfl rfl rfl rfl ?_
    refine TL_pass rfl rfl rfl rfl rfl rfl rfl ?_
    refine TL_pass rfl rfl rfl rfl rfl rfl rfl ?_
    refine TL_pure rfl rfl rfl rfl (op_pick_false rfl rfl) ?_
    refine TL_pure rfl rfl rfl rfl (op_move rfl) ?_
    refine TL_pass rfl rfl rfl rfl rfl rfl rfl ?_
    refine TL_pass rfl rfl rfl rfl rfl rfl rfl ?_
    refine TL_pass rfl rfl rfl rfl rfl rfl rfl ?_
    refine TL_pass2 rfl rfl rfl rfl rfl rfl ?_
    refine TL_pass2 rfl rfl rfl rfl rfl rfl ?_
    refine TL_pass2 rfl rfl rfl rfl rfl rfl ?_
    refine TL_pass2 rfl rfl rfl rfl rfl rfl ?_
    refine TL_pass2 rfl rfl rfl rfl rfl rfl ?_
    refine TL_pass2 rfl rfl rfl rfl rfl rfl ?_
    refine TL_pass2 rfl rfl rfl rfl rfl rfl ?_
    refine TL_pass rfl rfl rfl rfl rfl rfl rfl ?_
    refine TL_pure rfl rfl rfl rfl (op_pick_false rfl rfl) ?_
    refine TL_pure rfl rfl rfl rfl (op_assign rfl) ?_
    refine TL_nil ?_
    refine T_keepH [2] [] rfl rfl rfl rfl (by rw [hF]; rfl) ?_
    refine T_ret ?_
    obtain rfl := someI hm
    refine ⟨[_], [], ⟨rfl, trivial⟩, ?_, rfl, rfl, rfl, rfl⟩
    rfl
theorem c_impl_isOver (p0 : Term) (out : Bool) (hm : m_impl_isOver p0 = some out) : ACall Try.prog 102 [.agg [.int .i64 p0.Const, .sl 1 (List.map a_i64 p0.Coeffs)]] [] (.bool out) [] := by
  refine ACall.intro Try.func102 rfl Try.ntmps102 rfl (fun F hF => ?_)
  unfold m_impl_isOver at hm
  refine T_seq ?_
  refine T_region ?_
  refine TL_box 11 rfl rfl rfl rfl rfl rfl rfl ?_
  refine TL_pure rfl rfl rfl rfl (op_assign rfl) ?_
  refine TL_nil ?_
  refine T_seq ?_
  refine T_region ?_
  refine TL_pure rfl rfl rfl rfl (op_load_agg ag67 sz67 rfl rfl rfl) ?_
  obtain ⟨r4, hr4, hm⟩ := bindS hm
  refine TL_callF (c_impl_ValidTerm p0 r4 hr4) Try.call120 rfl rfl rfl rfl rfl ?_
  refine TL_pure rfl rfl rfl rfl (op_move rfl) ?_
  refine TL_join 5 (fun _ : Unit => ⟨[(10, .bool (r4 && (decide ((p0.Coeffs.length : Int) ≤ (4 : Int)))))], []⟩) (fun _ => True) (fun _ _ => ?_) (fun hjj => ?_)
  · refine TL_pure rfl rfl rfl rfl (op_assign rfl) ?_
    refine TL_nil ?_
    refine T_keepH [2] [] rfl rfl rfl rfl (by rw [hF]; rfl) ?_
    refine T_ret ?_
    obtain rfl := someI hm
    refine ⟨[_], [], ⟨rfl, trivial⟩, ?_, rfl, rfl, rfl, rfl⟩
    rfl
  · refine TL_split 5 rfl rfl rfl (fun hq => ?_) (fun hq => ?_)
    · refine TL_want rfl rfl ?_
      refine TL_pure rfl rfl rfl rfl (op_fieldAddr fa67_1 rfl rfl) ?_
      refine TL_want rfl rfl ?_
      refine TL_pure rfl rfl rfl rfl (op_load_one ag27 rfl rfl) ?_
      refine TL_want rfl rfl ?_
      refine TL_pure rfl rfl rfl rfl (op_lenT Try.underlying27 rfl (List.length_map _)) ?_
      refine TL_fact (fun _ _ _ hr => RelP.slLen (i := 7) rfl hr) (fun hlen8 => ?_)
      rw [List.length_map] at hlen8
      refine TL_want rfl rfl ?_
      refine TL_pure rfl rfl rfl rfl (op_leq rfl rfl) ?_
      refine TL_pure rfl rfl rfl rfl (op_pick_true rfl rfl) ?_
      refine TL_keepH [10] [] rfl rfl rfl rfl (by rw [hF]; rfl) ?_
      exact TL_cast _ (by first | (rw [hq, Bool.true_and]; done) | (rw [hq]; rfl)) (hjj () trivial)
    · refine TL_pass rfl rfl rfl rfl rfl rfl rfl ?_
      refine TL_pass rfl rfl rfl rfl rfl rfl rfl ?_
      refine TL_pass rfl rfl rfl rfl rfl rfl rfl ?_
      refine TL_pass rfl rfl rfl rfl rfl rfl rfl ?_
      refine TL_pure rfl rfl rfl rfl (op_pick_false rfl rfl) ?_
      refine TL_keepH [10] [] rfl rfl rfl rfl (by rw [hF]; rfl) ?_
      exact TL_cast _ (by first | (rw [hq, Bool.false_and]; done) | (rw [hq]; rfl)) (hjj () trivial)
theorem c_impl_isEvent (p0 : Int) (out : Bool) (hm : m_impl_isEvent p0 = some out) : ACall Try.prog 130 [.int .i64 p0] [] (.bool out) [] := by
  refine ACall.intro Try.func130 rfl Try.ntmps130 rfl (fun F hF => ?_)
  unfold m_impl_isEvent at hm
  refine T_seq ?_
  refine T_region ?_
  refine TL_pure rfl rfl rfl rfl (op_assign rfl) ?_
  refine TL_nil ?_
  refine T_seq ?_
  refine T_region ?_
  refine TL_pure rfl rfl rfl rfl (op_move rfl) ?_
  obtain ⟨r4, hr4, hm⟩ := bindS hm
  refine TL_callF (c_impl_within p0 (0 : Int) (3 : Int) r4 hr4) Try.call63 rfl rfl rfl rfl rfl ?_
  refine TL_pure rfl rfl rfl rfl (op_assign rfl) ?_
  refine TL_nil ?_
  refine T_keepH [2] [] rfl rfl rfl rfl (by rw [hF]; rfl) ?_
  refine T_ret ?_
  obtain rfl := someI hm
  refine ⟨[_], [], ⟨rfl, trivial⟩, ?_, rfl, rfl, rfl, rfl⟩
  rfl
theorem c_impl_areOver_1 (p0 : Term) (out : Bool) (hm : m_impl_areOver_1 p0 = some out) : ACall Try.prog 101 [.agg [.int .i64 p0.Const, .sl 1 (List.map a_i64 p0.Coeffs)]] [] (.bool out) [] := by
  refine ACall.intro Try.func101 rfl Try.ntmps101 rfl (fun F hF => ?_)
  unfold m_impl_areOver_1 at hm
  refine T_seq ?_
  refine T_region ?_
  refine TL_box 11 rfl rfl rfl rfl rfl rfl rfl ?_
  refine TL_pure rfl rfl rfl rfl (op_assign rfl) ?_
  refine TL_nil ?_
  refine T_seq ?_
  refine T_region ?_
  refine TL_pure rfl rfl rfl rfl (op_load_agg ag67 sz67 rfl rfl rfl) ?_
  obtain ⟨r4, hr4, hm⟩ := bindS hm
  refine TL_callF (c_impl_isOver p0 r4 hr4) Try.call102 rfl rfl rfl rfl rfl ?_
  refine TL_pure rfl rfl rfl rfl (op_not rfl) ?_
  refine TL_pure rfl rfl rfl rfl (op_assign rfl) ?_
  refine TL_nil ?_
  refine T_keepH [2] [] rfl rfl rfl rfl (by rw [hF]; rfl) ?_
  refine T_ret ?_
  obtain rfl := someI hm
  refine ⟨[_], [], ⟨rfl, trivial⟩, ?_, rfl, rfl, rfl, rfl⟩
  rfl
theorem c_slices_IndexFunc_impl_Term_impl_Term_fareOver_1 (p0 : List Term) (out : Int) (hm : m_slices_IndexFunc_impl_Term_impl_Term_fareOver_1 p0 = some out) : ACall Try.prog 119 [.sl 2 (List.map a_Term p0), .fn (.func 101) [] []] [] (.int .i64 out) [] := by
  refine ACall.intro Try.func119 rfl Try.ntmps119 rfl (fun F hF => ?_)
  unfold m_slices_IndexFunc_impl_Term_impl_Term_fareOver_1 at hm
  refine T_seq ?_
  refine T_region ?_
  refine TL_pure rfl rfl rfl rfl (op_assign rfl) ?_
  refine TL_nil ?_
  refine T_seq ?_
  refine T_seq ?_
  refine T_region ?_
  refine TL_pure rfl rfl rfl rfl (op_move rfl) ?_
  refine TL_pure rfl rfl rfl rfl (op_lenT Try.underlying30 rfl (List.length_map _)) ?_
  refine TL_fact (fun _ _ _ hr => RelP.slLen (i := 6) rfl hr) (fun hlen7 => ?_)
  rw [List.length_map] at hlen7
  refine TL_pure rfl rfl rfl rfl (op_move rfl) ?_
  refine TL_nil ?_
  refine T_block ?_
  refine T_keepH [0, 1, 7, 8] [] rfl rfl rfl rfl (by rw [hF]; rfl) ?_
  refine T_loop ?_
  obtain ⟨u0, hl0, hm⟩ := bindS hm
  refine TR_forL2 p0 (m_slices_IndexFunc_impl_Term_impl_Term_fareOver_1_L0) (fun (s0 : Unit) => (.inl ())) (fun n0 (s0 : Unit) => ⟨[(0, .sl 2 (List.map a_Term p0)), (1, .fn (.func 101) [] []), (7, .int .i64 (p0.length : Int)), (8, .int .i64 (n0 : Int))], []⟩) (fun u0 => match u0 with | .inl u0 => .exit 0 | .inr u0 => .ret) (fun u0 => match u0 with | .inl u0 => ⟨[], []⟩ | .inr u0 => ⟨[(4, .int .i64 u0)], []⟩) (fun u0 => m_slices_IndexFunc_impl_Term_impl_Term_fareOver_1_A0 u0 = some out) hl0 hm (fun u0 hm => ?_) (fun hx0 s0 hm => ?_) (fun hx0 n0 x0 s0 c0 hxn0 hlt0 hm hc0 => ?_)
  · rcases u0 with u0 | u0
    · unfold m_slices_IndexFunc_impl_Term_impl_Term_fareOver_1_A0 at hm
      refine T_seq ?_
      refine T_region ?_
      refine TL_pure rfl rfl rfl rfl (op_assign rfl) ?_
      refine TL_nil ?_
      refine T_keepH [4] [] rfl rfl rfl rfl (by rw [hF]; rfl) ?_
      refine T_ret ?_
      obtain rfl := someI hm
      refine ⟨[_], [], ⟨rfl, trivial⟩, ?_, rfl, rfl, rfl, rfl⟩
      rfl
    · unfold m_slices_IndexFunc_impl_Term_impl_Term_fareOver_1_A0 at hm
      obtain rfl := someI hm
      refine ⟨[_], [], ⟨rfl, trivial⟩, ?_, rfl, rfl, rfl, rfl⟩
      rfl
  · refine T_seq ?_
    refine T_region ?_
    refine TL_pure rfl rfl rfl rfl (op_lss rfl rfl) ?_
    refine TL_nil ?_
    refine T_seq ?_
    refine T_if_false rfl (decide_eq_false (by simp)) ?_
    refine T_keepH [] [] rfl rfl rfl rfl (by rw [hF]; rfl) ?_
    refine T_exit ?_
    exact hx0 (.inl ()) hm
  · unfold m_slices_IndexFunc_impl_Term_impl_Term_fareOver_1_L0 at hm
    refine T_seq ?_
    refine T_region ?_
    refine TL_pure rfl rfl rfl rfl (op_lss rfl rfl) ?_
    refine TL_nil ?_
    refine T_seq ?_
    refine T_if_true rfl (decide_eq_true (Int.ofNat_lt.2 hlt0)) ?_
    refine T_skip ?_
    refine T_seq ?_
    refine T_block ?_
    refine T_seq ?_
    refine T_region ?_
    refine TL_pure rfl rfl rfl rfl (op_move rfl) ?_
    refine TL_pure rfl rfl rfl rfl (op_assign rfl) ?_
    refine TL_nil ?_
    refine T_seq ?_
    refine T_region ?_
    refine TL_pure rfl rfl rfl rfl (op_move rfl) ?_
    refine TL_pure rfl rfl rfl rfl (op_move rfl) ?_
    refine TL_pure rfl rfl rfl rfl (op_move rfl) ?_
    refine TL_pure rfl rfl rfl rfl (op_index_sl el30 rfl rfl rfl (get_map hxn0) rfl) ?_
    refine TL_pure rfl rfl rfl rfl (op_load_agg ag67 sz67 rfl rfl rfl) ?_
    obtain ⟨r16, hr16, hm⟩ := bindS hm
    refine TL_callV rfl (c_impl_areOver_1 x0 r16 hr16) Try.call101 rfl rfl rfl rfl rfl ?_
    refine TL_nil ?_
    refine T_cond rfl (fun hq => ?_) (fun hq => ?_)
    · replace hm := condT hq hm
      refine T_seq ?_
      refine T_region ?_
      refine TL_pure rfl rfl rfl rfl (op_move rfl) ?_
      refine TL_pure rfl rfl rfl rfl (op_assign rfl) ?_
      refine TL_nil ?_
      refine T_keepH [4] [] rfl rfl rfl rfl (by rw [hF]; rfl) ?_
      refine T_ret ?_
      obtain rfl := someI hm
      have hn := CtlOK_out hc0
      exact hx0 (.inr (n0 : Int)) hn
    · replace hm := condF hq hm
      refine T_skip ?_
      refine T_region ?_
      refine TL_pure rfl rfl rfl rfl (op_addN rfl rfl (Nat.lt_of_lt_of_le hlt0 hlen7)) ?_
      refine TL_pure rfl rfl rfl rfl (op_move rfl) ?_
      refine TL_nil ?_
      refine TR_keepH [0, 1, 7, 8] [] rfl rfl rfl rfl (by rw [hF]; rfl) ?_
      obtain rfl := someI hm
      have hn := CtlOK_next hc0
      exact hn _ rfl
theorem c_slices_ContainsFunc_impl_Term_impl_Term_fareOver_1 (p0 : List Term) (out : Bool) (hm : m_slices_ContainsFunc_impl_Term_impl_Term_fareOver_1 p0 = some out) : ACall Try.prog 100 [.sl 2 (List.map a_Term p0), .fn (.func 101) [] []] [] (.bool out) [] := by
  refine ACall.intro Try.func100 rfl Try.ntmps100 rfl (fun F hF => ?_)
  unfold m_slices_ContainsFunc_impl_Term_impl_Term_fareOver_1 at hm
  refine T_seq ?_
  refine T_region ?_
  refine TL_pure rfl rfl rfl rfl (op_assign rfl) ?_
  refine TL_nil ?_
  refine T_seq ?_
  refine T_region ?_
  refine TL_pure rfl rfl rfl rfl (op_move rfl) ?_
  refine TL_pure rfl rfl rfl rfl (op_move rfl) ?_
  obtain ⟨r7, hr7, hm⟩ := bindS hm
  refine TL_callF (c_slices_IndexFunc_impl_Term_impl_Term_fareOver_1 p0 r7 hr7) Try.call119 rfl rfl rfl rfl rfl ?_
  refine TL_pure rfl rfl rfl rfl (op_geq rfl rfl) ?_
  refine TL_pure rfl rfl rfl rfl (op_assign rfl) ?_
  refine TL_nil ?_
  refine T_keepH [4] [] rfl rfl rfl rfl (by rw [hF]; rfl) ?_
  refine T_ret ?_
  obtain rfl := someI hm
  refine ⟨[_], [], ⟨rfl, trivial⟩, ?_, rfl, rfl, rfl, rfl⟩
  rfl
theorem c_impl_areOver (p0 : List Term) (p1 : Int) (out : Bool) (hm : m_impl_areOver p0 p1 = some out) : ACall Try.prog 82 [.sl 2 (List.map a_Term p0), .int .i64 p1] [] (.bool out) [] := by
  refine ACall.intro Try.func82 rfl Try.ntmps82 rfl (fun F hF => ?_)
  unfold m_impl_areOver at hm
  refine T_seq ?_
  refine T_region ?_
  refine TL_pure rfl rfl rfl rfl (op_assign rfl) ?_
  refine TL_nil ?_
  refine T_seq ?_
  refine T_region ?_
  refine TL_pure rfl rfl rfl rfl (op_move rfl) ?_
  refine TL_pure rfl rfl rfl rfl (op_lenT Try.underlying30 rfl (List.length_map _)) ?_
  refine TL_fact (fun _ _ _ hr => RelP.slLen (i := 5) rfl hr) (fun hlen6 => ?_)
  rw [List.length_map] at hlen6
  refine TL_pure rfl rfl rfl rfl (op_move rfl) ?_
  refine TL_pure rfl rfl rfl rfl (op_leq rfl rfl) ?_
  refine TL_pure rfl rfl rfl rfl (op_move rfl) ?_
  refine TL_split 9 rfl rfl rfl (fun hq => ?_) (fun hq => ?_)
  · replace hm := condT hq hm
    refine TL_want rfl rfl ?_
    refine TL_pure rfl rfl rfl rfl (op_move rfl) ?_
    refine TL_want rfl rfl ?_
    obtain ⟨r11, hr11, hm⟩ := bindS hm
    refine TL_callF (c_slices_ContainsFunc_impl_Term_impl_Term_fareOver_1 p0 r11 hr11) Try.call100 rfl rfl rfl rfl rfl ?_
    refine TL_want rfl rfl ?_
    refine TL_pure rfl rfl rfl rfl (op_not rfl) ?_
    refine TL_pure rfl rfl rfl rfl (op_pick_true rfl rfl) ?_
    refine TL_pure rfl rfl rfl rfl (op_assign rfl) ?_
    refine TL_nil ?_
    refine T_keepH [4] [] rfl rfl rfl rfl (by rw [hF]; rfl) ?_
    refine T_ret ?_
    obtain rfl := someI hm
    refine ⟨[_], [], ⟨rfl, trivial⟩, ?_, rfl, rfl, rfl, rfl⟩
    rfl
  · replace hm := condF hq hm
    refine TL_pass rfl rfl rfl rfl rfl rfl rfl ?_
    refine TL_pass rfl rfl rfl rfl rfl rfl rfl ?_
    refine TL_pass rfl rfl rfl rfl rfl rfl rfl ?_
    refine TL_pure rfl rfl rfl rfl (op_pick_false rfl rfl) ?_
    refine TL_pure rfl rfl rfl rfl (op_assign rfl) ?_
    refine TL_nil ?_
    refine T_keepH [4] [] rfl rfl rfl rfl (by rw [hF]; rfl) ?_
    refine T_ret ?_
    obtain rfl := someI hm
    refine ⟨[_], [], ⟨rfl, trivial⟩, ?_, rfl, rfl, rfl, rfl⟩
    rfl
end Go.Mod
