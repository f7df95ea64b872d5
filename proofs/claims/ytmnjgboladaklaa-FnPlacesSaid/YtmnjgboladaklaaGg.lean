import Derived.Test.YtmnjgboladaklaaGf
namespace Go.Mod
open Go Go.AM Go.Proofs
set_option linter.unusedVariables false
set_option linter.unusedSimpArgs false
set_option maxRecDepth 100000
set_option maxHeartbeats 8000000
theorem c_laws_FnPlaces (p0 : List Int) (p1 : List Int) (out : Bool) (hm : m_laws_FnPlaces p0 p1 = some out) : ACall Try.prog 6 [.sl 1 (List.map a_u8 p0), .sl 1 (List.map a_u8 p1)] [] (.bool out) [] := by
  refine ACall.intro Try.func6 rfl Try.ntmps6 rfl (fun F hF => ?_)
  unfold m_laws_FnPlaces at hm
  refine T_seq ?_
  refine T_region ?_
  refine TL_pure rfl rfl rfl rfl (op_assign rfl) ?_
  refine TL_nil ?_
  refine T_seq ?_
  refine T_seq ?_
  refine T_region ?_
  refine TL_pure rfl rfl rfl rfl (op_move rfl) ?_
  refine TL_pure rfl rfl rfl rfl (op_move rfl) ?_
  obtain ⟨r22, hr22, hm⟩ := bindS hm
  refine TL_callF (c_laws_r8Long p0 p1 r22 hr22) Try.call29 rfl rfl rfl rfl rfl ?_
  refine TL_nil ?_
  refine T_cond rfl (fun hq => ?_) (fun hq => ?_)
  · replace hm := condT hq hm
    refine T_seq ?_
    refine T_region ?_
    refine TL_pure rfl rfl rfl rfl (op_assign rfl) ?_
    refine TL_nil ?_
    refine T_keepH [4] [] rfl rfl rfl rfl (by rw [hF]; rfl) ?_
    refine T_ret ?_
    obtain rfl := someI hm
    refine ⟨[_], [], ⟨rfl, trivial⟩, ?_, rfl, rfl, rfl, rfl⟩
    rfl
  · replace hm := condF hq hm
    refine T_skip ?_
    refine T_seq ?_
    refine T_region ?_
    refine TL_pure rfl rfl rfl rfl (op_move rfl) ?_
    obtain ⟨r24, hr24, hm⟩ := bindS hm
    refine TL_callT (c_spec_R8Program p0 r24 hr24) Try.call30 rfl rfl rfl rfl rfl ?_
    refine TL_alloc 11 z33 rfl rfl rfl rfl rfl rfl rfl ?_
    refine TL_store_box sz33 rfl rfl rfl rfl rfl rfl rfl rfl rfl ?_
    refine TL_nil ?_
    refine T_seq ?_
    refine T_region ?_
    refine TL_pure rfl rfl rfl rfl (op_load_agg ag33 sz33 rfl rfl rfl) ?_
    obtain ⟨r27, hr27, hm⟩ := bindS hm
    refine TL_callO [(1000, 12)] (c_impl_PlacesOf r24 r27 hr27) Try.call31 rfl rfl rfl rfl rfl rfl rfl rfl rfl rfl rfl rfl rfl ?_
    refine TL_pure rfl rfl rfl rfl (op_move rfl) ?_
    refine TL_pure rfl rfl rfl rfl (op_extract rfl rfl) ?_
    refine TL_pure rfl rfl rfl rfl (op_extract rfl rfl) ?_
    refine TL_pure rfl rfl rfl rfl (op_assign rfl) ?_
    refine TL_pure rfl rfl rfl rfl (op_assign rfl) ?_
    refine TL_nil ?_
    refine T_seq ?_
    refine T_region ?_
    refine TL_pure rfl rfl rfl rfl (op_load_agg ag33 sz33 rfl rfl rfl) ?_
    obtain ⟨r32, hr32, hm⟩ := bindS hm
    refine TL_callF (c_impl_LengthOf r24 r32 hr32) Try.call32 rfl rfl rfl rfl rfl ?_
    refine TL_pure rfl rfl rfl rfl (op_move rfl) ?_
    refine TL_pure rfl rfl rfl rfl (op_extract rfl rfl) ?_
    refine TL_pure rfl rfl rfl rfl (op_extract rfl rfl) ?_
    refine TL_pure rfl rfl rfl rfl (op_assign rfl) ?_
    refine TL_pure rfl rfl rfl rfl (op_assign rfl) ?_
    refine TL_nil ?_
    refine T_seq ?_
    refine T_seq ?_
    refine T_region ?_
    refine TL_pure rfl rfl rfl rfl (op_move rfl) ?_
    refine TL_pure rfl rfl rfl rfl (op_not rfl) ?_
    refine TL_pure rfl rfl rfl rfl (op_move rfl) ?_
    refine TL_join 3 (fun _ : Unit => ⟨[(5, .ptr 11 0 0), (6, .ow 12), (8, .int .i64 r32.1), (40, .bool ((!r27.2) || (!r32.2)))], [(11, .box [.sl 2 (List.map a_Term r24.Pre), .sl 8 (List.map a_Stmt r24.Body), .sl 2 (List.map a_Term r24.Post)]), (12, .arr ⟨false, true⟩ 1 2 (List.map a_i64 r27.1))]⟩) (fun _ => True) (fun _ _ => ?_) (fun hjj => ?_)
    · refine TL_pure rfl rfl rfl rfl (op_move rfl) ?_
      refine TL_join 7 (fun _ : Unit => ⟨[(5, .ptr 11 0 0), (6, .ow 12), (8, .int .i64 r32.1), (48, .bool (((!r27.2) || (!r32.2)) || (!decide ((r27.1.length : Int) = (r24.Body.length : Int)))))], [(11, .box [.sl 2 (List.map a_Term r24.Pre), .sl 8 (List.map a_Stmt r24.Body), .sl 2 (List.map a_Term r24.Post)]), (12, .arr ⟨false, true⟩ 1 2 (List.map a_i64 r27.1))]⟩) (fun _ => True) (fun _ _ => ?_) (fun hjj => ?_)
      · refine TL_pure rfl rfl rfl rfl (op_move rfl) ?_
        refine TL_join 3 (fun _ : Unit => ⟨[(5, .ptr 11 0 0), (6, .ow 12), (8, .int .i64 r32.1), (52, .bool ((((!r27.2) || (!r32.2)) || (!decide ((r27.1.length : Int) = (r24.Body.length : Int)))) || (decide (r32.1 < (1 : Int)))))], [(11, .box [.sl 2 (List.map a_Term r24.Pre), .sl 8 (List.map a_Stmt r24.Body), .sl 2 (List.map a_Term r24.Post)]), (12, .arr ⟨false, true⟩ 1 2 (List.map a_i64 r27.1))]⟩) (fun _ => True) (fun _ _ => ?_) (fun hjj => ?_)
        · refine TL_pure rfl rfl rfl rfl (op_move rfl) ?_
          refine TL_join 3 (fun _ : Unit => ⟨[(5, .ptr 11 0 0), (6, .ow 12), (8, .int .i64 r32.1), (56, .bool (((((!r27.2) || (!r32.2)) || (!decide ((r27.1.length : Int) = (r24.Body.length : Int)))) || (decide (r32.1 < (1 : Int)))) || (decide ((2000 : Int) < r32.1))))], [(11, .box [.sl 2 (List.map a_Term r24.Pre), .sl 8 (List.map a_Stmt r24.Body), .sl 2 (List.map a_Term r24.Post)]), (12, .arr ⟨false, true⟩ 1 2 (List.map a_i64 r27.1))]⟩) (fun _ => True) (fun _ _ => ?_) (fun hjj => ?_)
          · refine TL_pure rfl rfl rfl rfl (op_move rfl) ?_
            refine TL_split 57 rfl rfl rfl (fun hq => ?_) (fun hq => ?_)
            · replace hm := condT hq hm
              refine TL_pass rfl rfl rfl rfl rfl rfl rfl ?_
              refine TL_pass rfl rfl rfl rfl rfl rfl rfl ?_
              refine TL_pass rfl rfl rfl rfl rfl rfl rfl ?_
              refine TL_pass rfl rfl rfl rfl rfl rfl rfl ?_
              refine TL_pure rfl rfl rfl rfl (op_pick_true rfl rfl) ?_
              refine TL_nil ?_
              refine T_cond_true rfl ?_
              refine T_seq ?_
              refine T_region ?_
              refine TL_pure rfl rfl rfl rfl (op_assign rfl) ?_
              refine TL_nil ?_
              refine T_keepH [4] [] rfl rfl rfl rfl (by rw [hF]; rfl) ?_
              refine T_ret ?_
              obtain rfl := someI hm
              refine ⟨[_], [], ⟨rfl, trivial⟩, ?_, rfl, rfl, rfl, rfl⟩
              rfl
            · replace hm := condF hq hm
              refine TL_want rfl rfl ?_
              refine TL_pure rfl rfl rfl rfl (op_move rfl) ?_
              refine TL_want rfl rfl ?_
              obtain ⟨x59, hx59, hm⟩ := bindS hm
              refine TL_pure rfl rfl rfl rfl (op_indexO el27 rfl rfl rfl hx59) ?_
              refine TL_want rfl rfl ?_
              refine TL_pure rfl rfl rfl rfl (op_loadD1 ag2 rfl rfl ((getI_spec hx59).2) rfl rfl rfl rfl) ?_
              refine TL_want rfl rfl ?_
              refine TL_pure rfl rfl rfl rfl (op_neq rfl rfl) ?_
              refine TL_pure rfl rfl rfl rfl (op_pick_false rfl rfl) ?_
              refine TL_nil ?_
              refine T_cond rfl (fun hq => ?_) (fun hq => ?_)
              · replace hm := condT hq hm
                refine T_seq ?_
                refine T_region ?_
                refine TL_pure rfl rfl rfl rfl (op_assign rfl) ?_
                refine TL_nil ?_
                refine T_keepH [4] [] rfl rfl rfl rfl (by rw [hF]; rfl) ?_
                refine T_ret ?_
                obtain rfl := someI hm
                refine ⟨[_], [], ⟨rfl, trivial⟩, ?_, rfl, rfl, rfl, rfl⟩
                rfl
              · replace hm := condF hq hm
                refine T_skip ?_
                refine T_seq ?_
                refine T_seq ?_
                refine T_region ?_
                refine TL_pure rfl rfl rfl rfl (op_assign rfl) ?_
                refine TL_nil ?_
                refine T_block ?_
                refine T_keepH [5, 6, 8, 10] [11, 12] rfl rfl rfl rfl (by rw [hF]; rfl) ?_
                refine T_loop ?_
                obtain ⟨u0, hl0, hm⟩ := bindS hm
                refine TR_iter2 (m_laws_FnPlaces_L0 r27 r32) (fun (s0 : Int) => ⟨[(5, .ptr 11 0 0), (6, .ow 12), (8, .int .i64 r32.1), (10, .int .i64 s0)], [(11, .box [.sl 2 (List.map a_Term r24.Pre), .sl 8 (List.map a_Stmt r24.Body), .sl 2 (List.map a_Term r24.Post)]), (12, .arr ⟨false, true⟩ 1 2 (List.map a_i64 r27.1))]⟩) (fun u0 => match u0 with | .inl u0 => .exit 0 | .inr u0 => .ret) (fun u0 => match u0 with | .inl u0 => ⟨[(5, .ptr 11 0 0), (6, .ow 12), (8, .int .i64 r32.1)], [(11, .box [.sl 2 (List.map a_Term r24.Pre), .sl 8 (List.map a_Stmt r24.Body), .sl 2 (List.map a_Term r24.Post)]), (12, .arr ⟨false, true⟩ 1 2 (List.map a_i64 r27.1))]⟩ | .inr u0 => ⟨[(4, .bool u0)], []⟩) (fun u0 => m_laws_FnPlaces_A0 r24 r27 r32 u0 = some out) hl0 hm (fun u0 hm => ?_) (fun hx0 s0 c0 hm hc0 => ?_)
                · rcases u0 with u0 | u0
                  · unfold m_laws_FnPlaces_A0 at hm
                    refine T_seq ?_
                    refine T_seq ?_
                    refine T_region ?_
                    refine TL_pure rfl rfl rfl rfl (op_assign rfl) ?_
                    refine TL_nil ?_
                    refine T_block ?_
                    refine T_keepH [5, 6, 8, 11] [11, 12] rfl rfl rfl rfl (by rw [hF]; rfl) ?_
                    refine T_loop ?_
                    obtain ⟨u1, hl1, hm⟩ := bindS hm
                    refine TR_iter2 (m_laws_FnPlaces_L1 r24 r27 r32) (fun (s1 : Int) => ⟨[(5, .ptr 11 0 0), (6, .ow 12), (8, .int .i64 r32.1), (11, .int .i64 s1)], [(11, .box [.sl 2 (List.map a_Term r24.Pre), .sl 8 (List.map a_Stmt r24.Body), .sl 2 (List.map a_Term r24.Post)]), (12, .arr ⟨false, true⟩ 1 2 (List.map a_i64 r27.1))]⟩) (fun u1 => match u1 with | .inl u1 => .exit 2 | .inr u1 => .ret) (fun u1 => match u1 with | .inl u1 => ⟨[(5, .ptr 11 0 0), (6, .ow 12), (8, .int .i64 r32.1)], [(11, .box [.sl 2 (List.map a_Term r24.Pre), .sl 8 (List.map a_Stmt r24.Body), .sl 2 (List.map a_Term r24.Post)]), (12, .arr ⟨false, true⟩ 1 2 (List.map a_i64 r27.1))]⟩ | .inr u1 => ⟨[(4, .bool u1)], []⟩) (fun u1 => m_laws_FnPlaces_A1 r24 r27 r32 u1 = some out) hl1 hm (fun u1 hm => ?_) (fun hx1 s1 c1 hm hc1 => ?_)
                    · rcases u1 with u1 | u1
                      · unfold m_laws_FnPlaces_A1 at hm
                        refine T_seq ?_
                        refine T_region ?_
                        refine TL_pure rfl rfl rfl rfl (op_load_agg ag33 sz33 rfl rfl rfl) ?_
                        obtain ⟨r139, hr139, hm⟩ := bindS hm
                        refine TL_callT (c_impl_CompileProgram r24 r139 hr139) Try.call34 rfl rfl rfl rfl rfl ?_
                        refine TL_pure rfl rfl rfl rfl (op_move rfl) ?_
                        refine TL_pure rfl rfl rfl rfl (op_extract rfl rfl) ?_
                        refine TL_pure rfl rfl rfl rfl (op_extract rfl rfl) ?_
                        refine TL_alloc 13 z63 rfl rfl rfl rfl rfl rfl rfl ?_
                        refine TL_store_box sz63 rfl rfl rfl rfl rfl rfl rfl rfl rfl ?_
                        refine TL_pure rfl rfl rfl rfl (op_assign rfl) ?_
                        refine TL_nil ?_
                        refine T_seq ?_
                        refine T_region ?_
                        refine TL_pure rfl rfl rfl rfl (op_assign rfl) ?_
                        refine TL_nil ?_
                        refine T_seq ?_
                        refine T_seq ?_
                        refine T_region ?_
                        refine TL_pure rfl rfl rfl rfl (op_assign rfl) ?_
                        refine TL_nil ?_
                        refine T_block ?_
                        refine T_keepH [5, 6, 8, 14, 15, 16, 17] [11, 12, 13] rfl rfl rfl rfl (by rw [hF]; rfl) ?_
                        refine T_loop ?_
                        obtain ⟨u2, hl2, hm⟩ := bindS hm
                        refine TR_iter2 (m_laws_FnPlaces_L2 r24 r27 r139) (fun (s2 : Int × Int) => ⟨[(5, .ptr 11 0 0), (6, .ow 12), (8, .int .i64 r32.1), (14, .ptr 13 0 0), (15, .bool r139.2), (16, .int .i64 s2.1), (17, .int .i64 s2.2)], [(11, .box [.sl 2 (List.map a_Term r24.Pre), .sl 8 (List.map a_Stmt r24.Body), .sl 2 (List.map a_Term r24.Post)]), (12, .arr ⟨false, true⟩ 1 2 (List.map a_i64 r27.1)), (13, .box [.sl 2 (List.map a_Term r139.1.Pre), .sl 2 (List.map a_Term r139.1.Post), .sl 2 (List.map a_Instr r139.1.Code), .sl 2 (List.map a_Point r139.1.Points)])]⟩) (fun u2 => match u2 with | .inl u2 => .exit 4 | .inr u2 => .ret) (fun u2 => match u2 with | .inl u2 => ⟨[(5, .ptr 11 0 0), (8, .int .i64 r32.1), (14, .ptr 13 0 0), (15, .bool r139.2), (16, .int .i64 u2)], [(11, .box [.sl 2 (List.map a_Term r24.Pre), .sl 8 (List.map a_Stmt r24.Body), .sl 2 (List.map a_Term r24.Post)]), (13, .box [.sl 2 (List.map a_Term r139.1.Pre), .sl 2 (List.map a_Term r139.1.Post), .sl 2 (List.map a_Instr r139.1.Code), .sl 2 (List.map a_Point r139.1.Points)])]⟩ | .inr u2 => ⟨[(4, .bool u2)], []⟩) (fun u2 => m_laws_FnPlaces_A2 r24 r32 r139 u2 = some out) hl2 hm (fun u2 hm => ?_) (fun hx2 s2 c2 hm hc2 => ?_)
                        · rcases u2 with u2 | u2
                          · unfold m_laws_FnPlaces_A2 at hm
                            refine T_seq ?_
                            refine T_region ?_
                            refine TL_pure rfl rfl rfl rfl (op_load_agg ag33 sz33 rfl rfl rfl) ?_
                            refine TL_pure rfl rfl rfl rfl (op_move rfl) ?_
                            obtain ⟨r182, hr182, hm⟩ := bindS hm
                            refine TL_callF (c_impl_OriginOf r24 r32.1 r182 hr182) Try.call33 rfl rfl rfl rfl rfl ?_
                            refine TL_pure rfl rfl rfl rfl (op_move rfl) ?_
                            refine TL_pure rfl rfl rfl rfl (op_extract rfl rfl) ?_
                            refine TL_pure rfl rfl rfl rfl (op_extract rfl rfl) ?_
                            refine TL_pure rfl rfl rfl rfl (op_assign rfl) ?_
                            refine TL_pure rfl rfl rfl rfl (op_assign rfl) ?_
                            refine TL_nil ?_
                            refine T_seq ?_
                            refine T_region ?_
                            refine TL_pure rfl rfl rfl rfl (op_move rfl) ?_
                            refine TL_pure rfl rfl rfl rfl (op_not rfl) ?_
                            refine TL_pure rfl rfl rfl rfl (op_move rfl) ?_
                            refine TL_split 187 rfl rfl rfl (fun hq => ?_) (fun hq => ?_)
                            · replace hm := condT hq hm
                              refine TL_want rfl rfl ?_
                              refine TL_pure rfl rfl rfl rfl (op_move rfl) ?_
                              refine TL_want rfl rfl ?_
                              refine TL_pure rfl rfl rfl rfl (op_not rfl) ?_
                              refine TL_want rfl rfl ?_
                              refine TL_pure rfl rfl rfl rfl (op_move rfl) ?_
                              refine TL_split 190 rfl rfl rfl (fun hq => ?_) (fun hq => ?_)
                              · replace hm := condT hq hm
                                refine TL_pass rfl rfl rfl rfl rfl rfl rfl ?_
                                refine TL_pass rfl rfl rfl rfl rfl rfl rfl ?_
                                refine TL_pass rfl rfl rfl rfl rfl rfl rfl ?_
                                refine TL_pass rfl rfl rfl rfl rfl rfl rfl ?_
                                refine TL_pass rfl rfl rfl rfl rfl rfl rfl ?_
                                refine TL_want rfl rfl ?_
                                refine TL_pure rfl rfl rfl rfl (op_pick_true rfl rfl) ?_
                                refine TL_pure rfl rfl rfl rfl (op_pick_true rfl rfl) ?_
                                refine TL_pure rfl rfl rfl rfl (op_assign rfl) ?_
                                refine TL_nil ?_
                                refine T_keepH [4] [] rfl rfl rfl rfl (by rw [hF]; rfl) ?_
                                refine T_ret ?_
                                obtain rfl := someI hm
                                refine ⟨[_], [], ⟨rfl, trivial⟩, ?_, rfl, rfl, rfl, rfl⟩
                                rfl
                              · replace hm := condF hq hm
                                refine TL_want rfl rfl ?_
                                refine TL_pure rfl rfl rfl rfl (op_move rfl) ?_
                                refine TL_want rfl rfl ?_
                                refine TL_pure rfl rfl rfl rfl (op_fieldAddr fa63_3 rfl rfl) ?_
                                refine TL_want rfl rfl ?_
                                refine TL_pure rfl rfl rfl rfl (op_load_one ag61 rfl rfl) ?_
                                refine TL_want rfl rfl ?_
                                refine TL_pure rfl rfl rfl rfl (op_lenT Try.underlying61 rfl (List.length_map _)) ?_
                                refine TL_fact (fun _ _ _ hr => RelP.slLen (i := 193) rfl hr) (fun hlen194 => ?_)
                                rw [List.length_map] at hlen194
                                refine TL_want rfl rfl ?_
                                refine TL_pure rfl rfl rfl rfl (op_eql rfl rfl) ?_
                                refine TL_want rfl rfl ?_
                                refine TL_pure rfl rfl rfl rfl (op_pick_false rfl rfl) ?_
                                refine TL_pure rfl rfl rfl rfl (op_pick_true rfl rfl) ?_
                                refine TL_pure rfl rfl rfl rfl (op_assign rfl) ?_
                                refine TL_nil ?_
                                refine T_keepH [4] [] rfl rfl rfl rfl (by rw [hF]; rfl) ?_
                                refine T_ret ?_
                                obtain rfl := someI hm
                                refine ⟨[_], [], ⟨rfl, trivial⟩, ?_, rfl, rfl, rfl, rfl⟩
                                rfl
                            · replace hm := condF hq hm
                              refine TL_pass rfl rfl rfl rfl rfl rfl rfl ?_
                              refine TL_pass rfl rfl rfl rfl rfl rfl rfl ?_
                              refine TL_pass rfl rfl rfl rfl rfl rfl rfl ?_
                              refine TL_pass2 rfl rfl rfl rfl rfl rfl ?_
                              refine TL_pass2 rfl rfl rfl rfl rfl rfl ?_
                              refine TL_pass2 rfl rfl rfl rfl rfl rfl ?_
                              refine TL_pass2 rfl rfl rfl rfl rfl rfl ?_
                              refine TL_pass2 rfl rfl rfl rfl rfl rfl ?_
                              refine TL_pass rfl rfl rfl rfl rfl rfl rfl ?_
                              refine TL_pure rfl rfl rfl rfl (op_pick_false rfl rfl) ?_
                              refine TL_pure rfl rfl rfl rfl (op_assign rfl) ?_
                              refine TL_nil ?_
                              refine T_keepH [4] [] rfl rfl rfl rfl (by rw [hF]; rfl) ?_
                              refine T_ret ?_
                              obtain rfl := someI hm
                              refine ⟨[_], [], ⟨rfl, trivial⟩, ?_, rfl, rfl, rfl, rfl⟩
                              rfl
                          · unfold m_laws_FnPlaces_A2 at hm
                            obtain rfl := someI hm
                            refine ⟨[_], [], ⟨rfl, trivial⟩, ?_, rfl, rfl, rfl, rfl⟩
                            rfl
                        · unfold m_laws_FnPlaces_L2 at hm
                          refine T_seq ?_
                          refine T_seq ?_
                          refine T_region ?_
                          refine TL_pure rfl rfl rfl rfl (op_move rfl) ?_
                          refine TL_pure rfl rfl rfl rfl (op_fieldAddr fa33_1 rfl rfl) ?_
                          refine TL_pure rfl rfl rfl rfl (op_load_one ag31 rfl rfl) ?_
                          refine TL_pure rfl rfl rfl rfl (op_lenT Try.underlying31 rfl (List.length_map _)) ?_
                          refine TL_fact (fun _ _ _ hr => RelP.slLen (i := 144) rfl hr) (fun hlen145 => ?_)
                          rw [List.length_map] at hlen145
                          refine TL_pure rfl rfl rfl rfl (op_lss rfl rfl) ?_
                          refine TL_pure rfl rfl rfl rfl (op_move rfl) ?_
                          refine TL_join 2 (fun _ : Unit => ⟨[(5, .ptr 11 0 0), (6, .ow 12), (8, .int .i64 r32.1), (14, .ptr 13 0 0), (15, .bool r139.2), (16, .int .i64 s2.1), (17, .int .i64 s2.2), (149, .bool ((decide (s2.2 < (r24.Body.length : Int))) && r139.2))], [(11, .box [.sl 2 (List.map a_Term r24.Pre), .sl 8 (List.map a_Stmt r24.Body), .sl 2 (List.map a_Term r24.Post)]), (12, .arr ⟨false, true⟩ 1 2 (List.map a_i64 r27.1)), (13, .box [.sl 2 (List.map a_Term r139.1.Pre), .sl 2 (List.map a_Term r139.1.Post), .sl 2 (List.map a_Instr r139.1.Code), .sl 2 (List.map a_Point r139.1.Points)])]⟩) (fun _ => True) (fun _ _ => ?_) (fun hjj => ?_)
                          · refine TL_nil ?_
                            refine T_cond rfl (fun hq => ?_) (fun hq => ?_)
                            · replace hm := condT hq hm
                              refine T_skip ?_
                              refine T_seq ?_
                              refine T_block ?_
                              refine T_seq ?_
                              refine T_seq ?_
                              refine T_region ?_
                              refine TL_pure rfl rfl rfl rfl (op_fieldAddr fa33_1 rfl rfl) ?_
                              refine TL_pure rfl rfl rfl rfl (op_load_one ag31 rfl rfl) ?_
                              refine TL_pure rfl rfl rfl rfl (op_move rfl) ?_
                              obtain ⟨x155, hx155, hm⟩ := bindS hm
                              refine TL_pure rfl rfl rfl rfl (op_indexT el31 rfl rfl hx155 rfl) ?_
                              refine TL_pure rfl rfl rfl rfl (op_fieldAddrC (n := 1) fa69_0 rfl rfl rfl) ?_
                              refine TL_pure rfl rfl rfl rfl (op_load_one ag2 rfl rfl) ?_
                              refine TL_pure rfl rfl rfl rfl (op_neq rfl rfl) ?_
                              refine TL_nil ?_
                              refine T_cond rfl (fun hq => ?_) (fun hq => ?_)
                              · replace hm := condT hq hm
                                refine T_exit ?_
                                refine T_region ?_
                                refine TL_pure rfl rfl rfl rfl (op_move rfl) ?_
                                refine TL_pure rfl rfl rfl rfl (op_addW rfl rfl) ?_
                                refine TL_pure rfl rfl rfl rfl (op_assign rfl) ?_
                                refine TL_nil ?_
                                refine TR_keepH [5, 6, 8, 14, 15, 16, 17] [11, 12, 13] rfl rfl rfl rfl (by rw [hF]; rfl) ?_
                                obtain rfl := someI hm
                                have hn := CtlOK_next hc2
                                exact hn _ rfl
                              · replace hm := condF hq hm
                                refine T_skip ?_
                                refine T_seq ?_
                                refine T_seq ?_
                                refine T_drawZ [] mix (by kernel_rfl) rfl ?_
                                refine TZ_pure 0 (by kernel_rfl) rfl rfl rfl rfl rfl (op_move rfl) ?_
                                refine TZ_pure 1 (by kernel_rfl) rfl rfl rfl rfl rfl (op_fieldAddr fa63_3 rfl rfl) ?_
                                refine TZ_pure 2 (by kernel_rfl) rfl rfl rfl rfl rfl (op_load_one ag61 rfl rfl) ?_
                                refine TZ_pure 3 (by kernel_rfl) rfl rfl rfl rfl rfl (op_lenT Try.underlying61 rfl (List.length_map _)) ?_
                                refine TZ_fact (fun _ _ _ hr => RelP.slLen (i := 161) rfl hr) (fun hlen162 => ?_)
                                rw [List.length_map] at hlen162
                                refine TZ_pure 4 (by kernel_rfl) rfl rfl rfl rfl rfl (op_geq rfl rfl) ?_
                                refine TZ_pure 5 (by kernel_rfl) rfl rfl rfl rfl rfl (op_move rfl) ?_
                                refine TZ_split 164 rfl rfl rfl (fun hq => ?_) (fun hq => ?_)
                                · replace hm := condT hq hm
                                  refine TZ_pass 6 (by kernel_rfl) rfl rfl rfl rfl rfl rfl rfl rfl ?_
                                  refine TZ_pass 7 (by kernel_rfl) rfl rfl rfl rfl rfl rfl rfl rfl ?_
                                  refine TZ_pass 8 (by kernel_rfl) rfl rfl rfl rfl rfl rfl rfl rfl ?_
                                  refine TZ_pass 9 (by kernel_rfl) rfl rfl rfl rfl rfl rfl rfl rfl ?_
                                  refine TZ_pass 10 (by kernel_rfl) rfl rfl rfl rfl rfl rfl rfl rfl ?_
                                  refine TZ_pass 11 (by kernel_rfl) rfl rfl rfl rfl rfl rfl rfl rfl ?_
                                  refine TZ_pass 12 (by kernel_rfl) rfl rfl rfl rfl rfl rfl rfl rfl ?_
                                  refine TZ_pass 13 (by kernel_rfl) rfl rfl rfl rfl rfl rfl rfl rfl ?_
                                  refine TZ_pass 14 (by kernel_rfl) rfl rfl rfl rfl rfl rfl rfl rfl ?_
                                  refine TZ_pass 15 (by kernel_rfl) rfl rfl rfl rfl rfl rfl rfl rfl ?_
                                  refine TZ_pass 16 (by kernel_rfl) rfl rfl rfl rfl rfl rfl rfl rfl ?_
                                  refine TZ_pure 17 (by kernel_rfl) rfl rfl rfl rfl rfl (op_pick_true rfl rfl) ?_
                                  refine TZ_done (by kernel_rfl) ?_
                                  refine T_cond_true rfl ?_
                                  refine T_seq ?_
                                  refine T_region ?_
                                  refine TL_pure rfl rfl rfl rfl (op_assign rfl) ?_
                                  refine TL_nil ?_
                                  refine T_keepH [4] [] rfl rfl rfl rfl (by rw [hF]; rfl) ?_
                                  refine T_ret ?_
                                  obtain rfl := someI hm
                                  have hn := CtlOK_out hc2
                                  exact hx2 (.inr false) hn
                                · replace hm := condF hq hm
                                  obtain ⟨x168, hx168, hm⟩ := bindS hm
                                  obtain ⟨x173, hx173, hm⟩ := bindS hm
                                  refine TZ_pureW 6 (by kernel_rfl) rfl rfl rfl rfl rfl rfl rfl (op_fieldAddr fa63_3 rfl rfl) ?_
                                  refine TZ_pureW 7 (by kernel_rfl) rfl rfl rfl rfl rfl rfl rfl (op_load_one ag61 rfl rfl) ?_
                                  refine TZ_pureW 8 (by kernel_rfl) rfl rfl rfl rfl rfl rfl rfl (op_move rfl) ?_
                                  refine TZ_pureW 9 (by kernel_rfl) rfl rfl rfl rfl rfl rfl rfl (op_indexT el61 rfl rfl hx168 rfl) ?_
                                  refine TZ_pureW 10 (by kernel_rfl) rfl rfl rfl rfl rfl rfl rfl (op_fieldAddrC (n := 1) fa71_0 rfl rfl rfl) ?_
                                  refine TZ_pureW 11 (by kernel_rfl) rfl rfl rfl rfl rfl rfl rfl (op_load_one ag2 rfl rfl) ?_
                                  refine TZ_pureW 12 (by kernel_rfl) rfl rfl rfl rfl rfl rfl rfl (op_move rfl) ?_
                                  refine TZ_pureW 13 (by kernel_rfl) rfl rfl rfl rfl rfl rfl rfl (op_move rfl) ?_
                                  refine TZ_pureW 14 (by kernel_rfl) rfl rfl rfl rfl rfl rfl rfl (op_indexO el27 rfl rfl rfl hx173) ?_
                                  refine TZ_pureW 15 (by kernel_rfl) rfl rfl rfl rfl rfl rfl rfl (op_loadD1 ag2 rfl rfl ((getI_spec hx173).2) rfl rfl rfl rfl) ?_
                                  refine TZ_pureW 16 (by kernel_rfl) rfl rfl rfl rfl rfl rfl rfl (op_neq rfl rfl) ?_
                                  refine TZ_pure 17 (by kernel_rfl) rfl rfl rfl rfl rfl (op_pick_false rfl rfl) ?_
                                  refine TZ_done (by kernel_rfl) ?_
                                  refine T_cond rfl (fun hq => ?_) (fun hq => ?_)
                                  · replace hm := condT hq hm
                                    refine T_seq ?_
                                    refine T_region ?_
                                    refine TL_pure rfl rfl rfl rfl (op_assign rfl) ?_
                                    refine TL_nil ?_
                                    refine T_keepH [4] [] rfl rfl rfl rfl (by rw [hF]; rfl) ?_
                                    refine T_ret ?_
                                    obtain rfl := someI hm
                                    have hn := CtlOK_out hc2
                                    exact hx2 (.inr false) hn
                                  · replace hm := condF hq hm
                                    refine T_skip ?_
                                    refine T_region ?_
                                    refine TL_pure rfl rfl rfl rfl (op_move rfl) ?_
                                    refine TL_pure rfl rfl rfl rfl (op_addW rfl rfl) ?_
                                    refine TL_pure rfl rfl rfl rfl (op_assign rfl) ?_
                                    refine TL_nil ?_
                                    refine T_region ?_
                                    refine TL_pure rfl rfl rfl rfl (op_move rfl) ?_
                                    refine TL_pure rfl rfl rfl rfl (op_addW rfl rfl) ?_
                                    refine TL_pure rfl rfl rfl rfl (op_assign rfl) ?_
                                    refine TL_nil ?_
                                    refine TR_keepH [5, 6, 8, 14, 15, 16, 17] [11, 12, 13] rfl rfl rfl rfl (by rw [hF]; rfl) ?_
                                    obtain rfl := someI hm
                                    have hn := CtlOK_next hc2
                                    exact hn _ rfl
                            · replace hm := condF hq hm
                              refine T_keepH [5, 8, 14, 15, 16] [11, 13] rfl rfl rfl rfl (by rw [hF]; rfl) ?_
                              refine T_exit ?_
                              obtain rfl := someI hm
                              have hn := CtlOK_out hc2
                              exact hx2 (.inl s2.1) hn
                          · refine TL_split 147 rfl rfl rfl (fun hq => ?_) (fun hq => ?_)
                            · refine TL_want rfl rfl ?_
                              refine TL_pure rfl rfl rfl rfl (op_move rfl) ?_
                              refine TL_pure rfl rfl rfl rfl (op_pick_true rfl rfl) ?_
                              refine TL_keepH [5, 6, 8, 14, 15, 16, 17, 149] [11, 12, 13] rfl rfl rfl rfl (by rw [hF]; rfl) ?_
                              exact TL_cast _ (by first | (rw [hq, Bool.true_and]; done) | (rw [hq]; rfl)) (hjj () trivial)
                            · refine TL_pass rfl rfl rfl rfl rfl rfl rfl ?_
                              refine TL_pure rfl rfl rfl rfl (op_pick_false rfl rfl) ?_
                              refine TL_keepH [5, 6, 8, 14, 15, 16, 17, 149] [11, 12, 13] rfl rfl rfl rfl (by rw [hF]; rfl) ?_
                              exact TL_cast _ (by first | (rw [hq, Bool.false_and]; done) | (rw [hq]; rfl)) (hjj () trivial)
                      · unfold m_laws_FnPlaces_A1 at hm
                        obtain rfl := someI hm
                        refine ⟨[_], [], ⟨rfl, trivial⟩, ?_, rfl, rfl, rfl, rfl⟩
                        rfl
                    · unfold m_laws_FnPlaces_L1 at hm
                      refine T_seq ?_
                      refine T_seq ?_
                      refine T_region ?_
                      refine TL_pure rfl rfl rfl rfl (op_move rfl) ?_
                      refine TL_pure rfl rfl rfl rfl (op_move rfl) ?_
                      refine TL_pure rfl rfl rfl rfl (op_lss rfl rfl) ?_
                      refine TL_nil ?_
                      refine T_cond rfl (fun hq => ?_) (fun hq => ?_)
                      · replace hm := condT hq hm
                        refine T_skip ?_
                        refine T_seq ?_
                        refine T_block ?_
                        refine T_seq ?_
                        refine T_region ?_
                        refine TL_pure rfl rfl rfl rfl (op_load_agg ag33 sz33 rfl rfl rfl) ?_
                        refine TL_pure rfl rfl rfl rfl (op_move rfl) ?_
                        obtain ⟨r95, hr95, hm⟩ := bindS hm
                        refine TL_callF (c_impl_OriginOf r24 s1 r95 hr95) Try.call33 rfl rfl rfl rfl rfl ?_
                        refine TL_pure rfl rfl rfl rfl (op_move rfl) ?_
                        refine TL_pure rfl rfl rfl rfl (op_extract rfl rfl) ?_
                        refine TL_pure rfl rfl rfl rfl (op_extract rfl rfl) ?_
                        refine TL_pure rfl rfl rfl rfl (op_assign rfl) ?_
                        refine TL_pure rfl rfl rfl rfl (op_assign rfl) ?_
                        refine TL_nil ?_
                        refine T_seq ?_
                        refine T_region ?_
                        refine TL_pure rfl rfl rfl rfl (op_move rfl) ?_
                        refine TL_pure rfl rfl rfl rfl (op_not rfl) ?_
                        refine TL_pure rfl rfl rfl rfl (op_move rfl) ?_
                        refine TL_join 3 (fun _ : Unit => ⟨[(5, .ptr 11 0 0), (6, .ow 12), (8, .int .i64 r32.1), (11, .int .i64 s1), (12, .int .i64 r95.1), (103, .bool ((!r95.2) || (decide (r95.1 < (0 : Int)))))], [(11, .box [.sl 2 (List.map a_Term r24.Pre), .sl 8 (List.map a_Stmt r24.Body), .sl 2 (List.map a_Term r24.Post)]), (12, .arr ⟨false, true⟩ 1 2 (List.map a_i64 r27.1))]⟩) (fun _ => True) (fun _ _ => ?_) (fun hjj => ?_)
                        · refine TL_pure rfl rfl rfl rfl (op_move rfl) ?_
                          refine TL_join 6 (fun _ : Unit => ⟨[(5, .ptr 11 0 0), (6, .ow 12), (8, .int .i64 r32.1), (11, .int .i64 s1), (12, .int .i64 r95.1), (110, .bool (((!r95.2) || (decide (r95.1 < (0 : Int)))) || (decide ((r24.Body.length : Int) < r95.1))))], [(11, .box [.sl 2 (List.map a_Term r24.Pre), .sl 8 (List.map a_Stmt r24.Body), .sl 2 (List.map a_Term r24.Post)]), (12, .arr ⟨false, true⟩ 1 2 (List.map a_i64 r27.1))]⟩) (fun _ => True) (fun _ _ => ?_) (fun hjj => ?_)
                          · refine TL_pure rfl rfl rfl rfl (op_move rfl) ?_
                            refine TL_join 11 (fun _ : Unit => ⟨[(5, .ptr 11 0 0), (6, .ow 12), (8, .int .i64 r32.1), (11, .int .i64 s1), (12, .int .i64 r95.1), (122, .bool ((((!r95.2) || (decide (r95.1 < (0 : Int)))) || (decide ((r24.Body.length : Int) < r95.1))) || (!((decide (r95.1 = (r24.Body.length : Int))) == (decide (s1 = (w64 (r32.1 - (1 : Int)))))))))], [(11, .box [.sl 2 (List.map a_Term r24.Pre), .sl 8 (List.map a_Stmt r24.Body), .sl 2 (List.map a_Term r24.Post)]), (12, .arr ⟨false, true⟩ 1 2 (List.map a_i64 r27.1))]⟩) (fun _ => True) (fun _ _ => ?_) (fun hjj => ?_)
                            · refine TL_pure rfl rfl rfl rfl (op_move rfl) ?_
                              refine TL_split 123 rfl rfl rfl (fun hq => ?_) (fun hq => ?_)
                              · replace hm := condT hq hm
                                refine TL_pass rfl rfl rfl rfl rfl rfl rfl ?_
                                refine TL_pass rfl rfl rfl rfl rfl rfl rfl ?_
                                refine TL_pass rfl rfl rfl rfl rfl rfl rfl ?_
                                refine TL_pass rfl rfl rfl rfl rfl rfl rfl ?_
                                refine TL_pass rfl rfl rfl rfl rfl rfl rfl ?_
                                refine TL_pass2 rfl rfl rfl rfl rfl rfl ?_
                                refine TL_pass2 rfl rfl rfl rfl rfl rfl ?_
                                refine TL_pass2 rfl rfl rfl rfl rfl rfl ?_
                                refine TL_pass2 rfl rfl rfl rfl rfl rfl ?_
                                refine TL_pass2 rfl rfl rfl rfl rfl rfl ?_
                                refine TL_pass2 rfl rfl rfl rfl rfl rfl ?_
                                refine TL_pass rfl rfl rfl rfl rfl rfl rfl ?_
                                refine TL_pure rfl rfl rfl rfl (op_pick_true rfl rfl) ?_
                                refine TL_nil ?_
                                refine T_cond_true rfl ?_
                                refine T_seq ?_
                                refine T_region ?_
                                refine TL_pure rfl rfl rfl rfl (op_assign rfl) ?_
                                refine TL_nil ?_
                                refine T_keepH [4] [] rfl rfl rfl rfl (by rw [hF]; rfl) ?_
                                refine T_ret ?_
                                obtain rfl := someI hm
                                have hn := CtlOK_out hc1
                                exact hx1 (.inr false) hn
                              · replace hm := condF hq hm
                                refine TL_want rfl rfl ?_
                                refine TL_pure rfl rfl rfl rfl (op_move rfl) ?_
                                refine TL_want rfl rfl ?_
                                refine TL_pure rfl rfl rfl rfl (op_move rfl) ?_
                                refine TL_want rfl rfl ?_
                                refine TL_pure rfl rfl rfl rfl (op_subW rfl rfl) ?_
                                refine TL_want rfl rfl ?_
                                refine TL_pure rfl rfl rfl rfl (op_lss rfl rfl) ?_
                                refine TL_want rfl rfl ?_
                                refine TL_pure rfl rfl rfl rfl (op_move rfl) ?_
                                refine TL_split 128 rfl rfl rfl (fun hq => ?_) (fun hq => ?_)
                                · replace hm := condT hq hm
                                  refine TL_want rfl rfl ?_
                                  refine TL_pure rfl rfl rfl rfl (op_move rfl) ?_
                                  refine TL_want rfl rfl ?_
                                  refine TL_pure rfl rfl rfl rfl (op_move rfl) ?_
                                  refine TL_want rfl rfl ?_
                                  obtain ⟨x131, hx131, hm⟩ := bindS hm
                                  refine TL_pure rfl rfl rfl rfl (op_indexO el27 rfl rfl rfl hx131) ?_
                                  refine TL_want rfl rfl ?_
                                  refine TL_pure rfl rfl rfl rfl (op_loadD1 ag2 rfl rfl ((getI_spec hx131).2) rfl rfl rfl rfl) ?_
                                  refine TL_want rfl rfl ?_
                                  refine TL_pure rfl rfl rfl rfl (op_move rfl) ?_
                                  refine TL_want rfl rfl ?_
                                  refine TL_pure rfl rfl rfl rfl (op_gtr rfl rfl) ?_
                                  refine TL_want rfl rfl ?_
                                  refine TL_pure rfl rfl rfl rfl (op_pick_true rfl rfl) ?_
                                  refine TL_pure rfl rfl rfl rfl (op_pick_false rfl rfl) ?_
                                  refine TL_nil ?_
                                  refine T_cond rfl (fun hq => ?_) (fun hq => ?_)
                                  · replace hm := condT hq hm
                                    refine T_seq ?_
                                    refine T_region ?_
                                    refine TL_pure rfl rfl rfl rfl (op_assign rfl) ?_
                                    refine TL_nil ?_
                                    refine T_keepH [4] [] rfl rfl rfl rfl (by rw [hF]; rfl) ?_
                                    refine T_ret ?_
                                    obtain rfl := someI hm
                                    have hn := CtlOK_out hc1
                                    exact hx1 (.inr false) hn
                                  · replace hm := condF hq hm
                                    refine T_skip ?_
                                    refine T_region ?_
                                    refine TL_pure rfl rfl rfl rfl (op_move rfl) ?_
                                    refine TL_pure rfl rfl rfl rfl (op_addW rfl rfl) ?_
                                    refine TL_pure rfl rfl rfl rfl (op_assign rfl) ?_
                                    refine TL_nil ?_
                                    refine TR_keepH [5, 6, 8, 11] [11, 12] rfl rfl rfl rfl (by rw [hF]; rfl) ?_
                                    obtain rfl := someI hm
                                    have hn := CtlOK_next hc1
                                    exact hn _ rfl
                                · replace hm := condF hq hm
                                  refine TL_pass rfl rfl rfl rfl rfl rfl rfl ?_
                                  refine TL_pass rfl rfl rfl rfl rfl rfl rfl ?_
                                  refine TL_pass rfl rfl rfl rfl rfl rfl rfl ?_
                                  refine TL_pass rfl rfl rfl rfl rfl rfl rfl ?_
                                  refine TL_pass rfl rfl rfl rfl rfl rfl rfl ?_
                                  refine TL_pass rfl rfl rfl rfl rfl rfl rfl ?_
                                  refine TL_want rfl rfl ?_
                                  refine TL_pure rfl rfl rfl rfl (op_pick_false rfl rfl) ?_
                                  refine TL_pure rfl rfl rfl rfl (op_pick_false rfl rfl) ?_
                                  refine TL_nil ?_
                                  refine T_cond_false rfl ?_
                                  refine T_skip ?_
                                  refine T_region ?_
                                  refine TL_pure rfl rfl rfl rfl (op_move rfl) ?_
                                  refine TL_pure rfl rfl rfl rfl (op_addW rfl rfl) ?_
                                  refine TL_pure rfl rfl rfl rfl (op_assign rfl) ?_
                                  refine TL_nil ?_
                                  refine TR_keepH [5, 6, 8, 11] [11, 12] rfl rfl rfl rfl (by rw [hF]; rfl) ?_
                                  obtain rfl := someI hm
                                  have hn := CtlOK_next hc1
                                  exact hn _ rfl
                            · refine TL_split 111 rfl rfl rfl (fun hq => ?_) (fun hq => ?_)
                              · refine TL_pass rfl rfl rfl rfl rfl rfl rfl ?_
                                refine TL_pass rfl rfl rfl rfl rfl rfl rfl ?_
                                refine TL_pass rfl rfl rfl rfl rfl rfl rfl ?_
                                refine TL_pass rfl rfl rfl rfl rfl rfl rfl ?_
                                refine TL_pass rfl rfl rfl rfl rfl rfl rfl ?_
                                refine TL_pass rfl rfl rfl rfl rfl rfl rfl ?_
                                refine TL_pass rfl rfl rfl rfl rfl rfl rfl ?_
                                refine TL_pass rfl rfl rfl rfl rfl rfl rfl ?_
                                refine TL_pass rfl rfl rfl rfl rfl rfl rfl ?_
                                refine TL_pass rfl rfl rfl rfl rfl rfl rfl ?_
                                refine TL_pure rfl rfl rfl rfl (op_pick_true rfl rfl) ?_
                                refine TL_keepH [5, 6, 8, 11, 12, 122] [11, 12] rfl rfl rfl rfl (by rw [hF]; rfl) ?_
                                exact TL_cast _ (by first | (rw [hq, Bool.true_or]; done) | (rw [hq]; rfl)) (hjj () trivial)
                              · refine TL_want rfl rfl ?_
                                refine TL_pure rfl rfl rfl rfl (op_move rfl) ?_
                                refine TL_want rfl rfl ?_
                                refine TL_pure rfl rfl rfl rfl (op_fieldAddr fa33_1 rfl rfl) ?_
                                refine TL_want rfl rfl ?_
                                refine TL_pure rfl rfl rfl rfl (op_load_one ag31 rfl rfl) ?_
                                refine TL_want rfl rfl ?_
                                refine TL_pure rfl rfl rfl rfl (op_lenT Try.underlying31 rfl (List.length_map _)) ?_
                                refine TL_fact (fun _ _ _ hr => RelP.slLen (i := 114) rfl hr) (fun hlen115 => ?_)
                                rw [List.length_map] at hlen115
                                refine TL_want rfl rfl ?_
                                refine TL_pure rfl rfl rfl rfl (op_eql rfl rfl) ?_
                                refine TL_want rfl rfl ?_
                                refine TL_pure rfl rfl rfl rfl (op_move rfl) ?_
                                refine TL_want rfl rfl ?_
                                refine TL_pure rfl rfl rfl rfl (op_move rfl) ?_
                                refine TL_want rfl rfl ?_
                                refine TL_pure rfl rfl rfl rfl (op_subW rfl rfl) ?_
                                refine TL_want rfl rfl ?_
                                refine TL_pure rfl rfl rfl rfl (op_eql rfl rfl) ?_
                                refine TL_want rfl rfl ?_
                                refine TL_pure rfl rfl rfl rfl (op_neqB Try.underlying4 rfl rfl) ?_
                                refine TL_pure rfl rfl rfl rfl (op_pick_false rfl rfl) ?_
                                refine TL_keepH [5, 6, 8, 11, 12, 122] [11, 12] rfl rfl rfl rfl (by rw [hF]; rfl) ?_
                                exact TL_cast _ (by first | (rw [hq, Bool.false_or]; done) | (rw [hq]; rfl)) (hjj () trivial)
                          · refine TL_split 104 rfl rfl rfl (fun hq => ?_) (fun hq => ?_)
                            · refine TL_pass rfl rfl rfl rfl rfl rfl rfl ?_
                              refine TL_pass rfl rfl rfl rfl rfl rfl rfl ?_
                              refine TL_pass rfl rfl rfl rfl rfl rfl rfl ?_
                              refine TL_pass rfl rfl rfl rfl rfl rfl rfl ?_
                              refine TL_pass rfl rfl rfl rfl rfl rfl rfl ?_
                              refine TL_pure rfl rfl rfl rfl (op_pick_true rfl rfl) ?_
                              refine TL_keepH [5, 6, 8, 11, 12, 110] [11, 12] rfl rfl rfl rfl (by rw [hF]; rfl) ?_
                              exact TL_cast _ (by first | (rw [hq, Bool.true_or]; done) | (rw [hq]; rfl)) (hjj () trivial)
                            · refine TL_want rfl rfl ?_
                              refine TL_pure rfl rfl rfl rfl (op_move rfl) ?_
                              refine TL_want rfl rfl ?_
                              refine TL_pure rfl rfl rfl rfl (op_fieldAddr fa33_1 rfl rfl) ?_
                              refine TL_want rfl rfl ?_
                              refine TL_pure rfl rfl rfl rfl (op_load_one ag31 rfl rfl) ?_
                              refine TL_want rfl rfl ?_
                              refine TL_pure rfl rfl rfl rfl (op_lenT Try.underlying31 rfl (List.length_map _)) ?_
                              refine TL_fact (fun _ _ _ hr => RelP.slLen (i := 107) rfl hr) (fun hlen108 => ?_)
                              rw [List.length_map] at hlen108
                              refine TL_want rfl rfl ?_
                              refine TL_pure rfl rfl rfl rfl (op_gtr rfl rfl) ?_
                              refine TL_pure rfl rfl rfl rfl (op_pick_false rfl rfl) ?_
                              refine TL_keepH [5, 6, 8, 11, 12, 110] [11, 12] rfl rfl rfl rfl (by rw [hF]; rfl) ?_
                              exact TL_cast _ (by first | (rw [hq, Bool.false_or]; done) | (rw [hq]; rfl)) (hjj () trivial)
                        · refine TL_split 100 rfl rfl rfl (fun hq => ?_) (fun hq => ?_)
                          · refine TL_pass rfl rfl rfl rfl rfl rfl rfl ?_
                            refine TL_pass rfl rfl rfl rfl rfl rfl rfl ?_
                            refine TL_pure rfl rfl rfl rfl (op_pick_true rfl rfl) ?_
                            refine TL_keepH [5, 6, 8, 11, 12, 103] [11, 12] rfl rfl rfl rfl (by rw [hF]; rfl) ?_
                            exact TL_cast _ (by first | (rw [hq, Bool.true_or]; done) | (rw [hq]; rfl)) (hjj () trivial)
                          · refine TL_want rfl rfl ?_
                            refine TL_pure rfl rfl rfl rfl (op_move rfl) ?_
                            refine TL_want rfl rfl ?_
                            refine TL_pure rfl rfl rfl rfl (op_lss rfl rfl) ?_
                            refine TL_pure rfl rfl rfl rfl (op_pick_false rfl rfl) ?_
                            refine TL_keepH [5, 6, 8, 11, 12, 103] [11, 12] rfl rfl rfl rfl (by rw [hF]; rfl) ?_
                            exact TL_cast _ (by first | (rw [hq, Bool.false_or]; done) | (rw [hq]; rfl)) (hjj () trivial)
                      · replace hm := condF hq hm
                        refine T_keepH [5, 6, 8] [11, 12] rfl rfl rfl rfl (by rw [hF]; rfl) ?_
                        refine T_exit ?_
                        obtain rfl := someI hm
                        have hn := CtlOK_out hc1
                        exact hx1 (.inl ()) hn
                  · unfold m_laws_FnPlaces_A0 at hm
                    obtain rfl := someI hm
                    refine ⟨[_], [], ⟨rfl, trivial⟩, ?_, rfl, rfl, rfl, rfl⟩
                    rfl
                · unfold m_laws_FnPlaces_L0 at hm
                  refine T_seq ?_
                  refine T_seq ?_
                  refine T_region ?_
                  refine TL_pure rfl rfl rfl rfl (op_move rfl) ?_
                  refine TL_pure rfl rfl rfl rfl (op_move rfl) ?_
                  refine TL_pure rfl rfl rfl rfl (op_lenO Try.underlying27 rfl rfl (List.length_map _)) ?_
                  refine TL_fact (fun _ _ _ hr => RelP.owLen (id := 12) rfl hr) (fun hlen65 => ?_)
                  rw [List.length_map] at hlen65
                  refine TL_pure rfl rfl rfl rfl (op_lss rfl rfl) ?_
                  refine TL_nil ?_
                  refine T_cond rfl (fun hq => ?_) (fun hq => ?_)
                  · replace hm := condT hq hm
                    refine T_skip ?_
                    refine T_seq ?_
                    refine T_block ?_
                    refine T_seq ?_
                    refine T_drawZ [] mix (by kernel_rfl) rfl ?_
                    obtain ⟨x72, hx72, hm⟩ := bindS hm
                    obtain ⟨x76, hx76, hm⟩ := bindS hm
                    refine TZ_pure 0 (by kernel_rfl) rfl rfl rfl rfl rfl (op_move rfl) ?_
                    refine TZ_pure 1 (by kernel_rfl) rfl rfl rfl rfl rfl (op_move rfl) ?_
                    refine TZ_pure 2 (by kernel_rfl) rfl rfl rfl rfl rfl (op_subW rfl rfl) ?_
                    refine TZ_pure 3 (by kernel_rfl) rfl rfl rfl rfl rfl (op_indexO el27 rfl rfl rfl hx72) ?_
                    refine TZ_pure 4 (by kernel_rfl) rfl rfl rfl rfl rfl (op_loadD1 ag2 rfl rfl ((getI_spec hx72).2) rfl rfl rfl rfl) ?_
                    refine TZ_pure 5 (by kernel_rfl) rfl rfl rfl rfl rfl (op_move rfl) ?_
                    refine TZ_pure 6 (by kernel_rfl) rfl rfl rfl rfl rfl (op_move rfl) ?_
                    refine TZ_pure 7 (by kernel_rfl) rfl rfl rfl rfl rfl (op_indexO el27 rfl rfl rfl hx76) ?_
                    refine TZ_pure 8 (by kernel_rfl) rfl rfl rfl rfl rfl (op_loadD1 ag2 rfl rfl ((getI_spec hx76).2) rfl rfl rfl rfl) ?_
                    refine TZ_pure 9 (by kernel_rfl) rfl rfl rfl rfl rfl (op_gtr rfl rfl) ?_
                    refine TZ_pure 10 (by kernel_rfl) rfl rfl rfl rfl rfl (op_move rfl) ?_
                    refine TZ_split 79 rfl rfl rfl (fun hq => ?_) (fun hq => ?_)
                    · replace hm := condT hq hm
                      refine TZ_pass 11 (by kernel_rfl) rfl rfl rfl rfl rfl rfl rfl rfl ?_
                      refine TZ_pass 12 (by kernel_rfl) rfl rfl rfl rfl rfl rfl rfl rfl ?_
                      refine TZ_pass 13 (by kernel_rfl) rfl rfl rfl rfl rfl rfl rfl rfl ?_
                      refine TZ_pass 14 (by kernel_rfl) rfl rfl rfl rfl rfl rfl rfl rfl ?_
                      refine TZ_pass 15 (by kernel_rfl) rfl rfl rfl rfl rfl rfl rfl rfl ?_
                      refine TZ_pass 16 (by kernel_rfl) rfl rfl rfl rfl rfl rfl rfl rfl ?_
                      refine TZ_pure 17 (by kernel_rfl) rfl rfl rfl rfl rfl (op_pick_true rfl rfl) ?_
                      refine TZ_done (by kernel_rfl) ?_
                      refine T_cond_true rfl ?_
                      refine T_seq ?_
                      refine T_region ?_
                      refine TL_pure rfl rfl rfl rfl (op_assign rfl) ?_
                      refine TL_nil ?_
                      refine T_keepH [4] [] rfl rfl rfl rfl (by rw [hF]; rfl) ?_
                      refine T_ret ?_
                      obtain rfl := someI hm
                      have hn := CtlOK_out hc0
                      exact hx0 (.inr false) hn
                    · replace hm := condF hq hm
                      refine TZ_pureW 11 (by kernel_rfl) rfl rfl rfl rfl rfl rfl rfl (op_move rfl) ?_
                      refine TZ_pureW 12 (by kernel_rfl) rfl rfl rfl rfl rfl rfl rfl (op_move rfl) ?_
                      refine TZ_pureW 13 (by kernel_rfl) rfl rfl rfl rfl rfl rfl rfl (op_indexO el27 rfl rfl rfl hx76) ?_
                      refine TZ_pureW 14 (by kernel_rfl) rfl rfl rfl rfl rfl rfl rfl (op_loadD1 ag2 rfl rfl ((getI_spec hx76).2) rfl rfl rfl rfl) ?_
                      refine TZ_pureW 15 (by kernel_rfl) rfl rfl rfl rfl rfl rfl rfl (op_move rfl) ?_
                      refine TZ_pureW 16 (by kernel_rfl) rfl rfl rfl rfl rfl rfl rfl (op_geq rfl rfl) ?_
                      refine TZ_pure 17 (by kernel_rfl) rfl rfl rfl rfl rfl (op_pick_false rfl rfl) ?_
                      refine TZ_done (by kernel_rfl) ?_
                      refine T_cond rfl (fun hq => ?_) (fun hq => ?_)
                      · replace hm := condT hq hm
                        refine T_seq ?_
                        refine T_region ?_
                        refine TL_pure rfl rfl rfl rfl (op_assign rfl) ?_
                        refine TL_nil ?_
                        refine T_keepH [4] [] rfl rfl rfl rfl (by rw [hF]; rfl) ?_
                        refine T_ret ?_
                        obtain rfl := someI hm
                        have hn := CtlOK_out hc0
                        exact hx0 (.inr false) hn
                      · replace hm := condF hq hm
                        refine T_skip ?_
                        refine T_region ?_
                        refine TL_pure rfl rfl rfl rfl (op_move rfl) ?_
                        refine TL_pure rfl rfl rfl rfl (op_addW rfl rfl) ?_
                        refine TL_pure rfl rfl rfl rfl (op_assign rfl) ?_
                        refine TL_nil ?_
                        refine TR_keepH [5, 6, 8, 10] [11, 12] rfl rfl rfl rfl (by rw [hF]; rfl) ?_
                        obtain rfl := someI hm
                        have hn := CtlOK_next hc0
                        exact hn _ rfl
                  · replace hm := condF hq hm
                    refine T_keepH [5, 6, 8] [11, 12] rfl rfl rfl rfl (by rw [hF]; rfl) ?_
                    refine T_exit ?_
                    obtain rfl := someI hm
                    have hn := CtlOK_out hc0
                    exact hx0 (.inl ()) hn
          · refine TL_split 53 rfl rfl rfl (fun hq => ?_) (fun hq => ?_)
            · refine TL_pass rfl rfl rfl rfl rfl rfl rfl ?_
              refine TL_pass rfl rfl rfl rfl rfl rfl rfl ?_
              refine TL_pure rfl rfl rfl rfl (op_pick_true rfl rfl) ?_
              refine TL_keepH [5, 6, 8, 56] [11, 12] rfl rfl rfl rfl (by rw [hF]; rfl) ?_
              exact TL_cast _ (by first | (rw [hq, Bool.true_or]; done) | (rw [hq]; rfl)) (hjj () trivial)
            · refine TL_want rfl rfl ?_
              refine TL_pure rfl rfl rfl rfl (op_move rfl) ?_
              refine TL_want rfl rfl ?_
              refine TL_pure rfl rfl rfl rfl (op_gtr rfl rfl) ?_
              refine TL_pure rfl rfl rfl rfl (op_pick_false rfl rfl) ?_
              refine TL_keepH [5, 6, 8, 56] [11, 12] rfl rfl rfl rfl (by rw [hF]; rfl) ?_
              exact TL_cast _ (by first | (rw [hq, Bool.false_or]; done) | (rw [hq]; rfl)) (hjj () trivial)
        · refine TL_split 49 rfl rfl rfl (fun hq => ?_) (fun hq => ?_)
          · refine TL_pass rfl rfl rfl rfl rfl rfl rfl ?_
            refine TL_pass rfl rfl rfl rfl rfl rfl rfl ?_
            refine TL_pure rfl rfl rfl rfl (op_pick_true rfl rfl) ?_
            refine TL_keepH [5, 6, 8, 52] [11, 12] rfl rfl rfl rfl (by rw [hF]; rfl) ?_
            exact TL_cast _ (by first | (rw [hq, Bool.true_or]; done) | (rw [hq]; rfl)) (hjj () trivial)
          · refine TL_want rfl rfl ?_
            refine TL_pure rfl rfl rfl rfl (op_move rfl) ?_
            refine TL_want rfl rfl ?_
            refine TL_pure rfl rfl rfl rfl (op_lss rfl rfl) ?_
            refine TL_pure rfl rfl rfl rfl (op_pick_false rfl rfl) ?_
            refine TL_keepH [5, 6, 8, 52] [11, 12] rfl rfl rfl rfl (by rw [hF]; rfl) ?_
            exact TL_cast _ (by first | (rw [hq, Bool.false_or]; done) | (rw [hq]; rfl)) (hjj () trivial)
      · refine TL_split 41 rfl rfl rfl (fun hq => ?_) (fun hq => ?_)
        · refine TL_pass rfl rfl rfl rfl rfl rfl rfl ?_
          refine TL_pass rfl rfl rfl rfl rfl rfl rfl ?_
          refine TL_pass rfl rfl rfl rfl rfl rfl rfl ?_
          refine TL_pass rfl rfl rfl rfl rfl rfl rfl ?_
          refine TL_pass rfl rfl rfl rfl rfl rfl rfl ?_
          refine TL_pass rfl rfl rfl rfl rfl rfl rfl ?_
          refine TL_pure rfl rfl rfl rfl (op_pick_true rfl rfl) ?_
          refine TL_keepH [5, 6, 8, 48] [11, 12] rfl rfl rfl rfl (by rw [hF]; rfl) ?_
          exact TL_cast _ (by first | (rw [hq, Bool.true_or]; done) | (rw [hq]; rfl)) (hjj () trivial)
        · refine TL_want rfl rfl ?_
          refine TL_pure rfl rfl rfl rfl (op_move rfl) ?_
          refine TL_want rfl rfl ?_
          refine TL_pure rfl rfl rfl rfl (op_lenO Try.underlying27 rfl rfl (List.length_map _)) ?_
          refine TL_fact (fun _ _ _ hr => RelP.owLen (id := 12) rfl hr) (fun hlen43 => ?_)
          rw [List.length_map] at hlen43
          refine TL_want rfl rfl ?_
          refine TL_pure rfl rfl rfl rfl (op_fieldAddr fa33_1 rfl rfl) ?_
          refine TL_want rfl rfl ?_
          refine TL_pure rfl rfl rfl rfl (op_load_one ag31 rfl rfl) ?_
          refine TL_want rfl rfl ?_
          refine TL_pure rfl rfl rfl rfl (op_lenT Try.underlying31 rfl (List.length_map _)) ?_
          refine TL_fact (fun _ _ _ hr => RelP.slLen (i := 45) rfl hr) (fun hlen46 => ?_)
          rw [List.length_map] at hlen46
          refine TL_want rfl rfl ?_
          refine TL_pure rfl rfl rfl rfl (op_neq rfl rfl) ?_
          refine TL_pure rfl rfl rfl rfl (op_pick_false rfl rfl) ?_
          refine TL_keepH [5, 6, 8, 48] [11, 12] rfl rfl rfl rfl (by rw [hF]; rfl) ?_
          exact TL_cast _ (by first | (rw [hq, Bool.false_or]; done) | (rw [hq]; rfl)) (hjj () trivial)
    · refine TL_split 37 rfl rfl rfl (fun hq => ?_) (fun hq => ?_)
      · refine TL_pass rfl rfl rfl rfl rfl rfl rfl ?_
        refine TL_pass rfl rfl rfl rfl rfl rfl rfl ?_
        refine TL_pure rfl rfl rfl rfl (op_pick_true rfl rfl) ?_
        refine TL_keepH [5, 6, 8, 40] [11, 12] rfl rfl rfl rfl (by rw [hF]; rfl) ?_
        exact TL_cast _ (by first | (rw [hq, Bool.true_or]; done) | (rw [hq]; rfl)) (hjj () trivial)
      · refine TL_want rfl rfl ?_
        refine TL_pure rfl rfl rfl rfl (op_move rfl) ?_
        refine TL_want rfl rfl ?_
        refine TL_pure rfl rfl rfl rfl (op_not rfl) ?_
        refine TL_pure rfl rfl rfl rfl (op_pick_false rfl rfl) ?_
        refine TL_keepH [5, 6, 8, 40] [11, 12] rfl rfl rfl rfl (by rw [hF]; rfl) ?_
        exact TL_cast _ (by first | (rw [hq, Bool.false_or]; done) | (rw [hq]; rfl)) (hjj () trivial)
end Go.Mod
