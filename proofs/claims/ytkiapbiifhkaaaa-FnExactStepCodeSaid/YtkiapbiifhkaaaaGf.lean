import Derived.Test.YtkiapbiifhkaaaaGe
namespace Go.Mod
open Go Go.AM Go.Proofs
set_option linter.unusedVariables false
set_option linter.unusedSimpArgs false
set_option maxRecDepth 100000
set_option maxHeartbeats 8000000
theorem c_spec_l07Next (p0 : List Instr) (p1 : Config) (out : Config × Int) (hm : m_spec_l07Next p0 p1 = some out) : ACall Try.prog 82 [.sl 2 (List.map a_Instr p0), .cp [.sl 1 (List.map a_i64 p1.State.Vars), .sl 1 (List.map a_i64 p1.State.Cells), .sl 1 (List.map a_i64 p1.Stack), .int .i64 p1.At]] [] (.tup [.agg [.ow 1000, .ow 1001, .ow 1002, .int .i64 out.1.At], .int .i64 out.2]) [(1000, .arr ⟨false, true⟩ 1 2 (List.map a_i64 out.1.State.Vars)), (1001, .arr ⟨false, true⟩ 1 2 (List.map a_i64 out.1.State.Cells)), (1002, .arr ⟨false, true⟩ 1 2 (List.map a_i64 out.1.Stack))] := by
  refine ACall.intro Try.func82 rfl Try.ntmps82 rfl (fun F hF => ?_)
  unfold m_spec_l07Next at hm
  refine T_seq ?_
  refine T_region ?_
  refine TL_alloc 11 z35 rfl rfl rfl rfl rfl rfl rfl ?_
  refine TL_pure rfl rfl rfl rfl (op_assign rfl) ?_
  refine TL_nil ?_
  refine T_join (fun (j0 : (List Int) × (List Int) × (List Int)) => ⟨[(0, .sl 2 (List.map a_Instr p0)), (1, .cp [.sl 1 (List.map a_i64 p1.State.Vars), .sl 1 (List.map a_i64 p1.State.Cells), .sl 1 (List.map a_i64 p1.Stack), .int .i64 p1.At]), (4, .ptr 11 0 0), (6, .ptr 21 0 0)], [(11, .box [.snil, .snil, .snil, .int .i64 (0 : Int)]), (16, .arr ⟨false, true⟩ 1 2 (List.map a_i64 j0.1)), (17, .arr ⟨false, true⟩ 1 2 (List.map a_i64 j0.2.1)), (19, .arr ⟨false, true⟩ 1 2 (List.map a_i64 j0.2.2)), (21, .box [.ow 16, .ow 17, .ow 19, .int .i64 p1.At])]⟩) (fun j0 => m_spec_l07Next_J0 p0 p1 j0 = some out) (fun j0 hm => ?_) (fun hj0 => ?_)
  · unfold m_spec_l07Next_J0 at hm
    refine T_seq ?_
    refine T_seq ?_
    refine T_region ?_
    refine TL_pure rfl rfl rfl rfl (op_move rfl) ?_
    refine TL_pure rfl rfl rfl rfl (op_nilCheck rfl rfl) ?_
    refine TL_pure rfl rfl rfl rfl (op_fieldAddr fa35_2 rfl rfl) ?_
    refine TL_pure rfl rfl rfl rfl (op_load_one ag2 rfl rfl) ?_
    refine TL_pure rfl rfl rfl rfl (op_move rfl) ?_
    refine TL_pure rfl rfl rfl rfl (op_lenT Try.underlying24 rfl (List.length_map _)) ?_
    refine TL_fact (fun _ _ _ hr => RelP.slLen (i := 30) rfl hr) (fun hlen31 => ?_)
    rw [List.length_map] at hlen31
    refine TL_pure rfl rfl rfl rfl (op_geq rfl rfl) ?_
    refine TL_nil ?_
    refine T_cond rfl (fun hq => ?_) (fun hq => ?_)
    · replace hm := condT hq hm
      refine T_seq ?_
      refine T_region ?_
      refine TL_pure rfl rfl rfl rfl (op_load_agg ag35 sz35 rfl rfl rfl) ?_
      refine TL_store_box sz35 rfl rfl rfl rfl rfl rfl rfl rfl rfl ?_
      refine TL_pure rfl rfl rfl rfl (op_assign rfl) ?_
      refine TL_nil ?_
      refine T_keepH [4, 5] [11, 16, 17, 19] rfl rfl rfl rfl (by rw [hF]; rfl) ?_
      refine T_ren [(11, 11), (16, 1000), (17, 1001), (19, 1002)] rfl rfl rfl (by rw [hF]; rfl) ?_
      refine T_ret ?_
      obtain rfl := someI hm
      refine ⟨[_, _], [1000, 1001, 1002], ⟨⟨_, _, rfl, rfl, .inr ⟨ag35, _, _, sz35, rfl, rfl⟩⟩, rfl, trivial⟩, ?_, rfl, rfl, rfl, rfl⟩
      rfl
    · replace hm := condF hq hm
      refine T_skip ?_
      refine T_seq ?_
      refine T_region ?_
      refine TL_pure rfl rfl rfl rfl (op_move rfl) ?_
      refine TL_pure rfl rfl rfl rfl (op_move rfl) ?_
      refine TL_pure rfl rfl rfl rfl (op_nilCheck rfl rfl) ?_
      refine TL_pure rfl rfl rfl rfl (op_fieldAddr fa35_2 rfl rfl) ?_
      refine TL_pure rfl rfl rfl rfl (op_load_one ag2 rfl rfl) ?_
      obtain ⟨x39, hx39, hm⟩ := bindS hm
      refine TL_pure rfl rfl rfl rfl (op_indexT el24 rfl rfl hx39 rfl) ?_
      refine TL_pure rfl rfl rfl rfl (op_load_agg ag40 sz40 rfl rfl rfl) ?_
      refine TL_alloc 26 z40 rfl rfl rfl rfl rfl rfl rfl ?_
      refine TL_store_box sz40 rfl rfl rfl rfl rfl rfl rfl rfl rfl ?_
      refine TL_nil ?_
      refine T_seq ?_
      refine T_region ?_
      refine TL_pure rfl rfl rfl rfl (op_fieldAddr fa40_0 rfl rfl) ?_
      refine TL_pure rfl rfl rfl rfl (op_load_one ag2 rfl rfl) ?_
      obtain ⟨r43, hr43, hm⟩ := bindS hm
      refine TL_callF (c_spec_l07Pops x39.Op r43 hr43) Try.call138 rfl rfl rfl rfl rfl ?_
      refine TL_pure rfl rfl rfl rfl (op_assign rfl) ?_
      refine TL_nil ?_
      refine T_seq ?_
      refine T_region ?_
      refine TL_pure rfl rfl rfl rfl (op_move rfl) ?_
      refine TL_pure rfl rfl rfl rfl (op_nilCheck rfl rfl) ?_
      refine TL_pure rfl rfl rfl rfl (op_fieldAddrC (n := 1) fa35_1 rfl rfl rfl) ?_
      refine TL_pure rfl rfl rfl rfl (op_load_one ag26 rfl rfl) ?_
      refine TL_pure rfl rfl rfl rfl (op_lenT Try.underlying26 rfl (List.length_map _)) ?_
      refine TL_fact (fun _ _ _ hr => RelP.slLen (i := 47) rfl hr) (fun hlen48 => ?_)
      rw [List.length_map] at hlen48
      refine TL_pure rfl rfl rfl rfl (op_move rfl) ?_
      refine TL_pure rfl rfl rfl rfl (op_subW rfl rfl) ?_
      refine TL_pure rfl rfl rfl rfl (op_assign rfl) ?_
      refine TL_nil ?_
      refine T_seq ?_
      refine T_seq ?_
      refine T_region ?_
      refine TL_pure rfl rfl rfl rfl (op_move rfl) ?_
      refine TL_pure rfl rfl rfl rfl (op_lss rfl rfl) ?_
      refine TL_pure rfl rfl rfl rfl (op_move rfl) ?_
      refine TL_split 53 rfl rfl rfl (fun hq => ?_) (fun hq => ?_)
      · replace hm := condT hq hm
        refine TL_pass rfl rfl rfl rfl rfl rfl rfl ?_
        refine TL_pass rfl rfl rfl rfl rfl rfl rfl ?_
        refine TL_pass rfl rfl rfl rfl rfl rfl rfl ?_
        refine TL_pass rfl rfl rfl rfl rfl rfl rfl ?_
        refine TL_pass rfl rfl rfl rfl rfl rfl rfl ?_
        refine TL_pass rfl rfl rfl rfl rfl rfl rfl ?_
        refine TL_pure rfl rfl rfl rfl (op_pick_true rfl rfl) ?_
        refine TL_nil ?_
        refine T_cond_true rfl ?_
        refine T_seq ?_
        refine T_region ?_
        refine TL_pure rfl rfl rfl rfl (op_load_agg ag35 sz35 rfl rfl rfl) ?_
        refine TL_store_box sz35 rfl rfl rfl rfl rfl rfl rfl rfl rfl ?_
        refine TL_pure rfl rfl rfl rfl (op_assign rfl) ?_
        refine TL_nil ?_
        refine T_keepH [4, 5] [11, 16, 17, 19] rfl rfl rfl rfl (by rw [hF]; rfl) ?_
        refine T_ren [(11, 11), (16, 1000), (17, 1001), (19, 1002)] rfl rfl rfl (by rw [hF]; rfl) ?_
        refine T_ret ?_
        obtain rfl := someI hm
        refine ⟨[_, _], [1000, 1001, 1002], ⟨⟨_, _, rfl, rfl, .inr ⟨ag35, _, _, sz35, rfl, rfl⟩⟩, rfl, trivial⟩, ?_, rfl, rfl, rfl, rfl⟩
        rfl
      · replace hm := condF hq hm
        refine TL_want rfl rfl ?_
        refine TL_pure rfl rfl rfl rfl (op_move rfl) ?_
        refine TL_want rfl rfl ?_
        refine TL_pure rfl rfl rfl rfl (op_fieldAddr fa40_0 rfl rfl) ?_
        refine TL_want rfl rfl ?_
        refine TL_pure rfl rfl rfl rfl (op_load_one ag2 rfl rfl) ?_
        refine TL_want rfl rfl ?_
        obtain ⟨r57, hr57, hm⟩ := bindS hm
        refine TL_callF (c_spec_l07Pushes x39.Op r57 hr57) Try.call139 rfl rfl rfl rfl rfl ?_
        refine TL_want rfl rfl ?_
        refine TL_pure rfl rfl rfl rfl (op_addW rfl rfl) ?_
        refine TL_want rfl rfl ?_
        refine TL_pure rfl rfl rfl rfl (op_gtr rfl rfl) ?_
        refine TL_pure rfl rfl rfl rfl (op_pick_false rfl rfl) ?_
        refine TL_nil ?_
        refine T_cond rfl (fun hq => ?_) (fun hq => ?_)
        · replace hm := condT hq hm
          refine T_seq ?_
          refine T_region ?_
          refine TL_pure rfl rfl rfl rfl (op_load_agg ag35 sz35 rfl rfl rfl) ?_
          refine TL_store_box sz35 rfl rfl rfl rfl rfl rfl rfl rfl rfl ?_
          refine TL_pure rfl rfl rfl rfl (op_assign rfl) ?_
          refine TL_nil ?_
          refine T_keepH [4, 5] [11, 16, 17, 19] rfl rfl rfl rfl (by rw [hF]; rfl) ?_
          refine T_ren [(11, 11), (16, 1000), (17, 1001), (19, 1002)] rfl rfl rfl (by rw [hF]; rfl) ?_
          refine T_ret ?_
          obtain rfl := someI hm
          refine ⟨[_, _], [1000, 1001, 1002], ⟨⟨_, _, rfl, rfl, .inr ⟨ag35, _, _, sz35, rfl, rfl⟩⟩, rfl, trivial⟩, ?_, rfl, rfl, rfl, rfl⟩
          rfl
        · replace hm := condF hq hm
          refine T_skip ?_
          refine T_seq ?_
          refine T_seq ?_
          refine T_region ?_
          refine TL_pure rfl rfl rfl rfl (op_fieldAddr fa40_0 rfl rfl) ?_
          refine TL_pure rfl rfl rfl rfl (op_load_one ag2 rfl rfl) ?_
          refine TL_pure rfl rfl rfl rfl (op_eql rfl rfl) ?_
          refine TL_nil ?_
          refine T_cond rfl (fun hq => ?_) (fun hq => ?_)
          · replace hm := condT hq hm
            refine T_seq ?_
            refine T_region ?_
            refine TL_pure rfl rfl rfl rfl (op_load_agg ag35 sz35 rfl rfl rfl) ?_
            refine TL_store_box sz35 rfl rfl rfl rfl rfl rfl rfl rfl rfl ?_
            refine TL_pure rfl rfl rfl rfl (op_assign rfl) ?_
            refine TL_nil ?_
            refine T_keepH [4, 5] [11, 16, 17, 19] rfl rfl rfl rfl (by rw [hF]; rfl) ?_
            refine T_ren [(11, 11), (16, 1000), (17, 1001), (19, 1002)] rfl rfl rfl (by rw [hF]; rfl) ?_
            refine T_ret ?_
            obtain rfl := someI hm
            refine ⟨[_, _], [1000, 1001, 1002], ⟨⟨_, _, rfl, rfl, .inr ⟨ag35, _, _, sz35, rfl, rfl⟩⟩, rfl, trivial⟩, ?_, rfl, rfl, rfl, rfl⟩
            rfl
          · replace hm := condF hq hm
            refine T_skip ?_
            refine T_seq ?_
            refine T_region ?_
            refine TL_pure rfl rfl rfl rfl (op_assign rfl) ?_
            refine TL_nil ?_
            refine T_seq ?_
            refine T_region ?_
            refine TL_pure rfl rfl rfl rfl (op_assign rfl) ?_
            refine TL_nil ?_
            refine T_join (fun (j1 : Int) => ⟨[(1, .cp [.sl 1 (List.map a_i64 p1.State.Vars), .sl 1 (List.map a_i64 p1.State.Cells), .sl 1 (List.map a_i64 p1.Stack), .int .i64 p1.At]), (4, .ptr 11 0 0), (6, .ptr 21 0 0), (7, .ptr 26 0 0), (8, .int .i64 r43), (9, .int .i64 (w64 ((p1.Stack.length : Int) - r43))), (10, .int .i64 j1), (11, .int .i64 (0 : Int))], [(11, .box [.snil, .snil, .snil, .int .i64 (0 : Int)]), (16, .arr ⟨false, true⟩ 1 2 (List.map a_i64 j0.1)), (17, .arr ⟨false, true⟩ 1 2 (List.map a_i64 j0.2.1)), (19, .arr ⟨false, true⟩ 1 2 (List.map a_i64 j0.2.2)), (21, .box [.ow 16, .ow 17, .ow 19, .int .i64 p1.At]), (26, .box [.int .i64 x39.Op, .int .i64 x39.Arg])]⟩) (fun j1 => m_spec_l07Next_J1 p1 j0 x39 r43 j1 = some out) (fun j1 hm => ?_) (fun hj1 => ?_)
            · unfold m_spec_l07Next_J1 at hm
              refine T_join (fun (j2 : Int) => ⟨[(1, .cp [.sl 1 (List.map a_i64 p1.State.Vars), .sl 1 (List.map a_i64 p1.State.Cells), .sl 1 (List.map a_i64 p1.Stack), .int .i64 p1.At]), (4, .ptr 11 0 0), (6, .ptr 21 0 0), (7, .ptr 26 0 0), (9, .int .i64 (w64 ((p1.Stack.length : Int) - r43))), (10, .int .i64 j1), (11, .int .i64 j2)], [(11, .box [.snil, .snil, .snil, .int .i64 (0 : Int)]), (16, .arr ⟨false, true⟩ 1 2 (List.map a_i64 j0.1)), (17, .arr ⟨false, true⟩ 1 2 (List.map a_i64 j0.2.1)), (19, .arr ⟨false, true⟩ 1 2 (List.map a_i64 j0.2.2)), (21, .box [.ow 16, .ow 17, .ow 19, .int .i64 p1.At]), (26, .box [.int .i64 x39.Op, .int .i64 x39.Arg])]⟩) (fun j2 => m_spec_l07Next_J2 p1 j0 x39 r43 j1 j2 = some out) (fun j2 hm => ?_) (fun hj2 => ?_)
              · unfold m_spec_l07Next_J2 at hm
                refine T_join (fun (j3 : Unit) => ⟨[(1, .cp [.sl 1 (List.map a_i64 p1.State.Vars), .sl 1 (List.map a_i64 p1.State.Cells), .sl 1 (List.map a_i64 p1.Stack), .int .i64 p1.At]), (4, .ptr 11 0 0), (6, .ptr 21 0 0), (7, .ptr 26 0 0), (9, .int .i64 (w64 ((p1.Stack.length : Int) - r43))), (10, .int .i64 j1), (11, .int .i64 j2)], [(11, .box [.snil, .snil, .snil, .int .i64 (0 : Int)]), (16, .arr ⟨false, true⟩ 1 2 (List.map a_i64 j0.1)), (17, .arr ⟨false, true⟩ 1 2 (List.map a_i64 j0.2.1)), (19, .arr ⟨false, true⟩ 1 2 (List.map a_i64 j0.2.2)), (21, .box [.ow 16, .ow 17, .ow 19, .int .i64 p1.At]), (26, .box [.int .i64 x39.Op, .int .i64 x39.Arg])]⟩) (fun j3 => m_spec_l07Next_J3 p1 j0 x39 r43 j1 j2 j3 = some out) (fun j3 hm => ?_) (fun hj3 => ?_)
                · unfold m_spec_l07Next_J3 at hm
                  refine T_join (fun (j4 : Unit) => ⟨[(1, .cp [.sl 1 (List.map a_i64 p1.State.Vars), .sl 1 (List.map a_i64 p1.State.Cells), .sl 1 (List.map a_i64 p1.Stack), .int .i64 p1.At]), (4, .ptr 11 0 0), (6, .ptr 21 0 0), (7, .ptr 26 0 0), (9, .int .i64 (w64 ((p1.Stack.length : Int) - r43))), (10, .int .i64 j1), (11, .int .i64 j2)], [(11, .box [.snil, .snil, .snil, .int .i64 (0 : Int)]), (16, .arr ⟨false, true⟩ 1 2 (List.map a_i64 j0.1)), (17, .arr ⟨false, true⟩ 1 2 (List.map a_i64 j0.2.1)), (19, .arr ⟨false, true⟩ 1 2 (List.map a_i64 j0.2.2)), (21, .box [.ow 16, .ow 17, .ow 19, .int .i64 p1.At]), (26, .box [.int .i64 x39.Op, .int .i64 x39.Arg])]⟩) (fun j4 => m_spec_l07Next_J4 p1 j0 x39 r43 j1 j2 j4 = some out) (fun j4 hm => ?_) (fun hj4 => ?_)
                  · unfold m_spec_l07Next_J4 at hm
                    refine T_seq ?_
                    refine T_seq ?_
                    refine T_region ?_
                    refine TL_pure rfl rfl rfl rfl (op_fieldAddr fa40_0 rfl rfl) ?_
                    refine TL_pure rfl rfl rfl rfl (op_load_one ag2 rfl rfl) ?_
                    refine TL_pure rfl rfl rfl rfl (op_eql rfl rfl) ?_
                    refine TL_pure rfl rfl rfl rfl (op_move rfl) ?_
                    refine TL_join 3 (fun _ : Unit => ⟨[(1, .cp [.sl 1 (List.map a_i64 p1.State.Vars), .sl 1 (List.map a_i64 p1.State.Cells), .sl 1 (List.map a_i64 p1.Stack), .int .i64 p1.At]), (4, .ptr 11 0 0), (6, .ptr 21 0 0), (7, .ptr 26 0 0), (9, .int .i64 (w64 ((p1.Stack.length : Int) - r43))), (10, .int .i64 j1), (11, .int .i64 j2), (151, .bool ((decide (x39.Op = (10 : Int))) && (decide (j1 < (0 : Int)))))], [(11, .box [.snil, .snil, .snil, .int .i64 (0 : Int)]), (16, .arr ⟨false, true⟩ 1 2 (List.map a_i64 j0.1)), (17, .arr ⟨false, true⟩ 1 2 (List.map a_i64 j0.2.1)), (19, .arr ⟨false, true⟩ 1 2 (List.map a_i64 j0.2.2)), (21, .box [.ow 16, .ow 17, .ow 19, .int .i64 p1.At]), (26, .box [.int .i64 x39.Op, .int .i64 x39.Arg])]⟩) (fun _ => True) (fun _ _ => ?_) (fun hjj => ?_)
                    · refine TL_nil ?_
                      refine T_cond rfl (fun hq => ?_) (fun hq => ?_)
                      · replace hm := condT hq hm
                        refine T_seq ?_
                        refine T_region ?_
                        refine TL_pure rfl rfl rfl rfl (op_load_agg ag35 sz35 rfl rfl rfl) ?_
                        refine TL_store_box sz35 rfl rfl rfl rfl rfl rfl rfl rfl rfl ?_
                        refine TL_pure rfl rfl rfl rfl (op_assign rfl) ?_
                        refine TL_nil ?_
                        refine T_keepH [4, 5] [11, 16, 17, 19] rfl rfl rfl rfl (by rw [hF]; rfl) ?_
                        refine T_ren [(11, 11), (16, 1000), (17, 1001), (19, 1002)] rfl rfl rfl (by rw [hF]; rfl) ?_
                        refine T_ret ?_
                        obtain rfl := someI hm
                        refine ⟨[_, _], [1000, 1001, 1002], ⟨⟨_, _, rfl, rfl, .inr ⟨ag35, _, _, sz35, rfl, rfl⟩⟩, rfl, trivial⟩, ?_, rfl, rfl, rfl, rfl⟩
                        rfl
                      · replace hm := condF hq hm
                        refine T_skip ?_
                        refine T_seq ?_
                        refine T_region ?_
                        refine TL_pure rfl rfl rfl rfl (op_move rfl) ?_
                        refine TL_pure rfl rfl rfl rfl (op_nilCheck rfl rfl) ?_
                        refine TL_pure rfl rfl rfl rfl (op_fieldAddrC (n := 1) fa35_1 rfl rfl rfl) ?_
                        refine TL_pure rfl rfl rfl rfl (op_load_one ag26 rfl rfl) ?_
                        refine TL_pure rfl rfl rfl rfl (op_move rfl) ?_
                        obtain ⟨y158, hy158, hm⟩ := bindS hm
                        refine TL_pure rfl rfl rfl rfl (op_sliceI el26 rfl ⟨rfl, ⟨_, rfl⟩⟩ hy158) ?_
                        obtain ⟨r159, hr159, hm⟩ := bindS hm
                        refine TL_callO [(1000, 27)] (c_spec_l00Own y158 r159 hr159) Try.call137 rfl rfl rfl rfl rfl rfl rfl rfl rfl rfl rfl rfl rfl ?_
                        refine TL_pure rfl rfl rfl rfl (op_fieldAddr fa35_1 rfl rfl) ?_
                        refine TL_store_box sz26 rfl rfl rfl rfl rfl rfl rfl rfl rfl ?_
                        refine TL_nil ?_
                        refine T_seq ?_
                        refine T_region ?_
                        refine TL_pure rfl rfl rfl rfl (op_move rfl) ?_
                        refine TL_pure rfl rfl rfl rfl (op_nilCheck rfl rfl) ?_
                        refine TL_pure rfl rfl rfl rfl (op_fieldAddr fa35_2 rfl rfl) ?_
                        refine TL_pure rfl rfl rfl rfl (op_load_one ag2 rfl rfl) ?_
                        refine TL_pure rfl rfl rfl rfl (op_addW rfl rfl) ?_
                        refine TL_pure rfl rfl rfl rfl (op_fieldAddr fa35_2 rfl rfl) ?_
                        refine TL_store_box sz2 rfl rfl rfl rfl rfl rfl rfl rfl rfl ?_
                        refine TL_nil ?_
                        refine T_seq ?_
                        refine T_seq ?_
                        refine T_region ?_
                        refine TL_pure rfl rfl rfl rfl (op_fieldAddr fa40_0 rfl rfl) ?_
                        refine TL_pure rfl rfl rfl rfl (op_load_one ag2 rfl rfl) ?_
                        refine TL_nil ?_
                        refine T_block ?_
                        refine T_seq ?_
                        refine T_region ?_
                        refine TL_pure rfl rfl rfl rfl (op_eql rfl rfl) ?_
                        refine TL_pure rfl rfl rfl rfl (op_assign rfl) ?_
                        refine TL_nil ?_
                        refine T_cond rfl (fun hq => ?_) (fun hq => ?_)
                        · replace hm := condT hq hm
                          refine T_region ?_
                          refine TL_pure rfl rfl rfl rfl (op_fieldAddr fa35_1 rfl rfl) ?_
                          refine TL_pure rfl rfl rfl rfl (op_load_one ag26 rfl rfl) ?_
                          refine TL_pure rfl rfl rfl rfl (op_fieldAddr fa40_1 rfl rfl) ?_
                          refine TL_pure rfl rfl rfl rfl (op_load_one ag2 rfl rfl) ?_
                          refine TL_buildSlice 28 (es := List.map a_i64 [x39.Arg]) el26 z2 rfl rfl rfl rfl rfl rfl rfl rfl rfl ?_
                          refine TL_undeep 27 (p' := false) (by rw [hF]; rfl) rfl (ElR.map (f := a_i64) (g := a_i64) (fun _ => ⟨⟨rfl, rfl⟩, trivial⟩) r159) rfl ?_
                          obtain ⟨q176, hq176, hm⟩ := bindS hm
                          refine TL_appendT (f := a_i64) (a := r159) (b := [x39.Arg]) el26 z2 rfl rfl rfl rfl rfl rfl rfl (capI_spec hq176) rfl rfl rfl rfl rfl ?_
                          refine TL_pure rfl rfl rfl rfl (op_fieldAddr fa35_1 rfl rfl) ?_
                          refine TL_store_box sz26 rfl rfl rfl rfl rfl rfl rfl rfl rfl ?_
                          refine TL_nil ?_
                          refine T_seq ?_
                          refine T_region ?_
                          refine TL_pure rfl rfl rfl rfl (op_load_agg ag35 sz35 rfl rfl rfl) ?_
                          refine TL_store_box sz35 rfl rfl rfl rfl rfl rfl rfl rfl rfl ?_
                          refine TL_pure rfl rfl rfl rfl (op_assign rfl) ?_
                          refine TL_nil ?_
                          refine T_keepH [4, 5] [11, 16, 17, 27] rfl rfl rfl rfl (by rw [hF]; rfl) ?_
                          refine T_deepen 27 (p' := false) (List.map a_i64 (r159 ++ [x39.Arg])) (by rw [hF]; rfl) rfl (ElR.map (f := a_i64) (g := a_i64) (fun _ => ⟨⟨rfl, rfl⟩, trivial⟩) (r159 ++ [x39.Arg])) rfl rfl rfl ?_
                          refine T_ren [(11, 11), (16, 1000), (17, 1001), (27, 1002)] rfl rfl rfl (by rw [hF]; rfl) ?_
                          refine T_ret ?_
                          obtain rfl := someI hm
                          refine ⟨[_, _], [1000, 1001, 1002], ⟨⟨_, _, rfl, rfl, .inr ⟨ag35, _, _, sz35, rfl, rfl⟩⟩, rfl, trivial⟩, ?_, rfl, rfl, rfl, rfl⟩
                          rfl
                        · replace hm := condF hq hm
                          refine T_seq ?_
                          refine T_region ?_
                          refine TL_pure rfl rfl rfl rfl (op_eql rfl rfl) ?_
                          refine TL_pure rfl rfl rfl rfl (op_assign rfl) ?_
                          refine TL_nil ?_
                          refine T_cond rfl (fun hq => ?_) (fun hq => ?_)
                          · replace hm := condT hq hm
                            refine T_drawZ [11, 12, 14] mix (by kernel_rfl) rfl ?_
                            obtain ⟨x189, hx189, hm⟩ := bindS hm
                            obtain ⟨q192, hq192, hm⟩ := bindS hm
                            refine TZ_pure 0 (by kernel_rfl) rfl rfl rfl rfl rfl (op_fieldAddr fa35_1 rfl rfl) ?_
                            refine TZ_pure 2 (by kernel_rfl) rfl rfl rfl rfl rfl (op_move rfl) ?_
                            refine TZ_pure 3 (by kernel_rfl) rfl rfl rfl rfl rfl (op_nilCheck rfl rfl) ?_
                            refine TZ_pure 4 (by kernel_rfl) rfl rfl rfl rfl rfl (op_fieldAddrC (n := 2) fa35_0 rfl rfl rfl) ?_
                            refine TZ_pure 5 (by kernel_rfl) rfl rfl rfl rfl rfl (op_fieldAddrC (n := 1) fa28_0 rfl rfl rfl) ?_
                            refine TZ_pure 7 (by kernel_rfl) rfl rfl rfl rfl rfl (op_fieldAddr fa40_1 rfl rfl) ?_
                            refine TZ_each [1, 6, 8] (by kernel_rfl) rfl ?_
                            refine ⟨?_, ?_, ?_⟩
                            · refine ⟨_, rfl, ?_⟩
                              refine TL_pure rfl rfl rfl rfl (op_load_one ag26 rfl rfl) ?_
                              refine TL_nil ?_
                              refine TZ_each [6, 8] (by kernel_rfl) rfl ?_
                              refine ⟨?_, ?_⟩
                              · refine ⟨_, rfl, ?_⟩
                                refine TL_pure rfl rfl rfl rfl (op_load_one ag26 rfl rfl) ?_
                                refine TL_nil ?_
                                refine TZ_one 8 (by kernel_rfl) rfl ?_
                                refine TL_pure rfl rfl rfl rfl (op_load_one ag2 rfl rfl) ?_
                                refine TL_nil ?_
                                refine TZ_pure 9 (by kernel_rfl) rfl rfl rfl rfl rfl (op_indexT el26 rfl rfl hx189 rfl) ?_
                                refine TZ_one 10 (by kernel_rfl) rfl ?_
                                refine TL_pure rfl rfl rfl rfl (op_load_one ag2 rfl rfl) ?_
                                refine TL_nil ?_
                                refine TZ_one 11 (by kernel_rfl) rfl ?_
                                refine TL_buildSlice 30 (es := List.map a_i64 [x189]) el26 z2 rfl rfl rfl rfl rfl rfl rfl rfl rfl ?_
                                refine TL_nil ?_
                                refine TZ_one 12 (by kernel_rfl) rfl ?_
                                refine TL_undeep 27 (p' := false) (by rw [hF]; rfl) rfl (ElR.map (f := a_i64) (g := a_i64) (fun _ => ⟨⟨rfl, rfl⟩, trivial⟩) r159) rfl ?_
                                refine TL_appendT (f := a_i64) (a := r159) (b := [x189]) el26 z2 rfl rfl rfl rfl rfl rfl rfl (capI_spec hq192) rfl rfl rfl rfl rfl ?_
                                refine TL_nil ?_
                                refine TZ_pure 13 (by kernel_rfl) rfl rfl rfl rfl rfl (op_fieldAddr fa35_1 rfl rfl) ?_
                                refine TZ_one 14 (by kernel_rfl) rfl ?_
                                refine TL_store_box sz26 rfl rfl rfl rfl rfl rfl rfl rfl rfl ?_
                                refine TL_nil ?_
                                refine TZ_done (by kernel_rfl) ?_
                                refine T_seq ?_
                                refine T_region ?_
                                refine TL_pure rfl rfl rfl rfl (op_load_agg ag35 sz35 rfl rfl rfl) ?_
                                refine TL_store_box sz35 rfl rfl rfl rfl rfl rfl rfl rfl rfl ?_
                                refine TL_pure rfl rfl rfl rfl (op_assign rfl) ?_
                                refine TL_nil ?_
                                refine T_keepH [4, 5] [11, 16, 17, 27] rfl rfl rfl rfl (by rw [hF]; rfl) ?_
                                refine T_deepen 27 (p' := false) (List.map a_i64 (r159 ++ [x189])) (by rw [hF]; rfl) rfl (ElR.map (f := a_i64) (g := a_i64) (fun _ => ⟨⟨rfl, rfl⟩, trivial⟩) (r159 ++ [x189])) rfl rfl rfl ?_
                                refine T_ren [(11, 11), (16, 1000), (17, 1001), (27, 1002)] rfl rfl rfl (by rw [hF]; rfl) ?_
                                refine T_ret ?_
                                obtain rfl := someI hm
                                refine ⟨[_, _], [1000, 1001, 1002], ⟨⟨_, _, rfl, rfl, .inr ⟨ag35, _, _, sz35, rfl, rfl⟩⟩, rfl, trivial⟩, ?_, rfl, rfl, rfl, rfl⟩
                                rfl
                              · refine ⟨_, rfl, ?_⟩
                                refine TL_pure rfl rfl rfl rfl (op_load_one ag2 rfl rfl) ?_
                                refine TL_nil ?_
                                refine TZ_one 6 (by kernel_rfl) rfl ?_
                                refine TL_pure rfl rfl rfl rfl (op_load_one ag26 rfl rfl) ?_
                                refine TL_nil ?_
                                refine TZ_pure 9 (by kernel_rfl) rfl rfl rfl rfl rfl (op_indexT el26 rfl rfl hx189 rfl) ?_
                                refine TZ_one 10 (by kernel_rfl) rfl ?_
                                refine TL_pure rfl rfl rfl rfl (op_load_one ag2 rfl rfl) ?_
                                refine TL_nil ?_
                                refine TZ_one 11 (by kernel_rfl) rfl ?_
                                refine TL_buildSlice 31 (es := List.map a_i64 [x189]) el26 z2 rfl rfl rfl rfl rfl rfl rfl rfl rfl ?_
                                refine TL_nil ?_
                                refine TZ_one 12 (by kernel_rfl) rfl ?_
                                refine TL_undeep 27 (p' := false) (by rw [hF]; rfl) rfl (ElR.map (f := a_i64) (g := a_i64) (fun _ => ⟨⟨rfl, rfl⟩, trivial⟩) r159) rfl ?_
                                refine TL_appendT (f := a_i64) (a := r159) (b := [x189]) el26 z2 rfl rfl rfl rfl rfl rfl rfl (capI_spec hq192) rfl rfl rfl rfl rfl ?_
                                refine TL_nil ?_
                                refine TZ_pure 13 (by kernel_rfl) rfl rfl rfl rfl rfl (op_fieldAddr fa35_1 rfl rfl) ?_
                                refine TZ_one 14 (by kernel_rfl) rfl ?_
                                refine TL_store_box sz26 rfl rfl rfl rfl rfl rfl rfl rfl rfl ?_
                                refine TL_nil ?_
                                refine TZ_done (by kernel_rfl) ?_
                                refine T_seq ?_
                                refine T_region ?_
                                refine TL_pure rfl rfl rfl rfl (op_load_agg ag35 sz35 rfl rfl rfl) ?_
                                refine TL_store_box sz35 rfl rfl rfl rfl rfl rfl rfl rfl rfl ?_
                                refine TL_pure rfl rfl rfl rfl (op_assign rfl) ?_
                                refine TL_nil ?_
                                refine T_keepH [4, 5] [11, 16, 17, 27] rfl rfl rfl rfl (by rw [hF]; rfl) ?_
                                refine T_deepen 27 (p' := false) (List.map a_i64 (r159 ++ [x189])) (by rw [hF]; rfl) rfl (ElR.map (f := a_i64) (g := a_i64) (fun _ => ⟨⟨rfl, rfl⟩, trivial⟩) (r159 ++ [x189])) rfl rfl rfl ?_
                                refine T_ren [(11, 11), (16, 1000), (17, 1001), (27, 1002)] rfl rfl rfl (by rw [hF]; rfl) ?_
                                refine T_ret ?_
                                obtain rfl := someI hm
                                refine ⟨[_, _], [1000, 1001, 1002], ⟨⟨_, _, rfl, rfl, .inr ⟨ag35, _, _, sz35, rfl, rfl⟩⟩, rfl, trivial⟩, ?_, rfl, rfl, rfl, rfl⟩
                                rfl
                            · refine ⟨_, rfl, ?_⟩
                              refine TL_pure rfl rfl rfl rfl (op_load_one ag26 rfl rfl) ?_
                              refine TL_nil ?_
                              refine TZ_each [1, 8] (by kernel_rfl) rfl ?_
                              refine ⟨?_, ?_⟩
                              · refine ⟨_, rfl, ?_⟩
                                refine TL_pure rfl rfl rfl rfl (op_load_one ag26 rfl rfl) ?_
                                refine TL_nil ?_
                                refine TZ_one 8 (by kernel_rfl) rfl ?_
                                refine TL_pure rfl rfl rfl rfl (op_load_one ag2 rfl rfl) ?_
                                refine TL_nil ?_
                                refine TZ_pure 9 (by kernel_rfl) rfl rfl rfl rfl rfl (op_indexT el26 rfl rfl hx189 rfl) ?_
                                refine TZ_one 10 (by kernel_rfl) rfl ?_
                                refine TL_pure rfl rfl rfl rfl (op_load_one ag2 rfl rfl) ?_
                                refine TL_nil ?_
                                refine TZ_one 11 (by kernel_rfl) rfl ?_
                                refine TL_buildSlice 32 (es := List.map a_i64 [x189]) el26 z2 rfl rfl rfl rfl rfl rfl rfl rfl rfl ?_
                                refine TL_nil ?_
                                refine TZ_one 12 (by kernel_rfl) rfl ?_
                                refine TL_undeep 27 (p' := false) (by rw [hF]; rfl) rfl (ElR.map (f := a_i64) (g := a_i64) (fun _ => ⟨⟨rfl, rfl⟩, trivial⟩) r159) rfl ?_
                                refine TL_appendT (f := a_i64) (a := r159) (b := [x189]) el26 z2 rfl rfl rfl rfl rfl rfl rfl (capI_spec hq192) rfl rfl rfl rfl rfl ?_
                                refine TL_nil ?_
                                refine TZ_pure 13 (by kernel_rfl) rfl rfl rfl rfl rfl (op_fieldAddr fa35_1 rfl rfl) ?_
                                refine TZ_one 14 (by kernel_rfl) rfl ?_
                                refine TL_store_box sz26 rfl rfl rfl rfl rfl rfl rfl rfl rfl ?_
                                refine TL_nil ?_
                                refine TZ_done (by kernel_rfl) ?_
                                refine T_seq ?_
                                refine T_region ?_
                                refine TL_pure rfl rfl rfl rfl (op_load_agg ag35 sz35 rfl rfl rfl) ?_
                                refine TL_store_box sz35 rfl rfl rfl rfl rfl rfl rfl rfl rfl ?_
                                refine TL_pure rfl rfl rfl rfl (op_assign rfl) ?_
                                refine TL_nil ?_
                                refine T_keepH [4, 5] [11, 16, 17, 27] rfl rfl rfl rfl (by rw [hF]; rfl) ?_
                                refine T_deepen 27 (p' := false) (List.map a_i64 (r159 ++ [x189])) (by rw [hF]; rfl) rfl (ElR.map (f := a_i64) (g := a_i64) (fun _ => ⟨⟨rfl, rfl⟩, trivial⟩) (r159 ++ [x189])) rfl rfl rfl ?_
                                refine T_ren [(11, 11), (16, 1000), (17, 1001), (27, 1002)] rfl rfl rfl (by rw [hF]; rfl) ?_
                                refine T_ret ?_
                                obtain rfl := someI hm
                                refine ⟨[_, _], [1000, 1001, 1002], ⟨⟨_, _, rfl, rfl, .inr ⟨ag35, _, _, sz35, rfl, rfl⟩⟩, rfl, trivial⟩, ?_, rfl, rfl, rfl, rfl⟩
                                rfl
                              · refine ⟨_, rfl, ?_⟩
                                refine TL_pure rfl rfl rfl rfl (op_load_one ag2 rfl rfl) ?_
                                refine TL_nil ?_
                                refine TZ_pure 9 (by kernel_rfl) rfl rfl rfl rfl rfl (op_indexT el26 rfl rfl hx189 rfl) ?_
                                refine TZ_each [1, 10] (by kernel_rfl) rfl ?_
                                refine ⟨?_, ?_⟩
                                · refine ⟨_, rfl, ?_⟩
                                  refine TL_pure rfl rfl rfl rfl (op_load_one ag26 rfl rfl) ?_
                                  refine TL_nil ?_
                                  refine TZ_one 10 (by kernel_rfl) rfl ?_
                                  refine TL_pure rfl rfl rfl rfl (op_load_one ag2 rfl rfl) ?_
                                  refine TL_nil ?_
                                  refine TZ_one 11 (by kernel_rfl) rfl ?_
                                  refine TL_buildSlice 33 (es := List.map a_i64 [x189]) el26 z2 rfl rfl rfl rfl rfl rfl rfl rfl rfl ?_
                                  refine TL_nil ?_
                                  refine TZ_one 12 (by kernel_rfl) rfl ?_
                                  refine TL_undeep 27 (p' := false) (by rw [hF]; rfl) rfl (ElR.map (f := a_i64) (g := a_i64) (fun _ => ⟨⟨rfl, rfl⟩, trivial⟩) r159) rfl ?_
                                  refine TL_appendT (f := a_i64) (a := r159) (b := [x189]) el26 z2 rfl rfl rfl rfl rfl rfl rfl (capI_spec hq192) rfl rfl rfl rfl rfl ?_
                                  refine TL_nil ?_
                                  refine TZ_pure 13 (by kernel_rfl) rfl rfl rfl rfl rfl (op_fieldAddr fa35_1 rfl rfl) ?_
                                  refine TZ_one 14 (by kernel_rfl) rfl ?_
                                  refine TL_store_box sz26 rfl rfl rfl rfl rfl rfl rfl rfl rfl ?_
                                  refine TL_nil ?_
                                  refine TZ_done (by kernel_rfl) ?_
                                  refine T_seq ?_
                                  refine T_region ?_
                                  refine TL_pure rfl rfl rfl rfl (op_load_agg ag35 sz35 rfl rfl rfl) ?_
                                  refine TL_store_box sz35 rfl rfl rfl rfl rfl rfl rfl rfl rfl ?_
                                  refine TL_pure rfl rfl rfl rfl (op_assign rfl) ?_
                                  refine TL_nil ?_
                                  refine T_keepH [4, 5] [11, 16, 17, 27] rfl rfl rfl rfl (by rw [hF]; rfl) ?_
                                  refine T_deepen 27 (p' := false) (List.map a_i64 (r159 ++ [x189])) (by rw [hF]; rfl) rfl (ElR.map (f := a_i64) (g := a_i64) (fun _ => ⟨⟨rfl, rfl⟩, trivial⟩) (r159 ++ [x189])) rfl rfl rfl ?_
                                  refine T_ren [(11, 11), (16, 1000), (17, 1001), (27, 1002)] rfl rfl rfl (by rw [hF]; rfl) ?_
                                  refine T_ret ?_
                                  obtain rfl := someI hm
                                  refine ⟨[_, _], [1000, 1001, 1002], ⟨⟨_, _, rfl, rfl, .inr ⟨ag35, _, _, sz35, rfl, rfl⟩⟩, rfl, trivial⟩, ?_, rfl, rfl, rfl, rfl⟩
                                  rfl
                                · refine ⟨_, rfl, ?_⟩
                                  refine TL_pure rfl rfl rfl rfl (op_load_one ag2 rfl rfl) ?_
                                  refine TL_nil ?_
                                  refine TZ_each [1, 11] (by kernel_rfl) rfl ?_
                                  refine ⟨?_, ?_⟩
                                  · refine ⟨_, rfl, ?_⟩
                                    refine TL_pure rfl rfl rfl rfl (op_load_one ag26 rfl rfl) ?_
                                    refine TL_nil ?_
                                    refine TZ_one 11 (by kernel_rfl) rfl ?_
                                    refine TL_buildSlice 35 (es := List.map a_i64 [x189]) el26 z2 rfl rfl rfl rfl rfl rfl rfl rfl rfl ?_
                                    refine TL_nil ?_
                                    refine TZ_one 12 (by kernel_rfl) rfl ?_
                                    refine TL_undeep 27 (p' := false) (by rw [hF]; rfl) rfl (ElR.map (f := a_i64) (g := a_i64) (fun _ => ⟨⟨rfl, rfl⟩, trivial⟩) r159) rfl ?_
                                    refine TL_appendT (f := a_i64) (a := r159) (b := [x189]) el26 z2 rfl rfl rfl rfl rfl rfl rfl (capI_spec hq192) rfl rfl rfl rfl rfl ?_
                                    refine TL_nil ?_
                                    refine TZ_pure 13 (by kernel_rfl) rfl rfl rfl rfl rfl (op_fieldAddr fa35_1 rfl rfl) ?_
                                    refine TZ_one 14 (by kernel_rfl) rfl ?_
                                    refine TL_store_box sz26 rfl rfl rfl rfl rfl rfl rfl rfl rfl ?_
                                    refine TL_nil ?_
                                    refine TZ_done (by kernel_rfl) ?_
                                    refine T_seq ?_
                                    refine T_region ?_
                                    refine TL_pure rfl rfl rfl rfl (op_load_agg ag35 sz35 rfl rfl rfl) ?_
                                    refine TL_store_box sz35 rfl rfl rfl rfl rfl rfl rfl rfl rfl ?_
                                    refine TL_pure rfl rfl rfl rfl (op_assign rfl) ?_
                                    refine TL_nil ?_
                                    refine T_keepH [4, 5] [11, 16, 17, 27] rfl rfl rfl rfl (by rw [hF]; rfl) ?_
                                    refine T_deepen 27 (p' := false) (List.map a_i64 (r159 ++ [x189])) (by rw [hF]; rfl) rfl (ElR.map (f := a_i64) (g := a_i64) (fun _ => ⟨⟨rfl, rfl⟩, trivial⟩) (r159 ++ [x189])) rfl rfl rfl ?_
                                    refine T_ren [(11, 11), (16, 1000), (17, 1001), (27, 1002)] rfl rfl rfl (by rw [hF]; rfl) ?_
                                    refine T_ret ?_
                                    obtain rfl := someI hm
                                    refine ⟨[_, _], [1000, 1001, 1002], ⟨⟨_, _, rfl, rfl, .inr ⟨ag35, _, _, sz35, rfl, rfl⟩⟩, rfl, trivial⟩, ?_, rfl, rfl, rfl, rfl⟩
                                    rfl
                                  · refine ⟨_, rfl, ?_⟩
                                    refine TL_buildSlice 34 (es := List.map a_i64 [x189]) el26 z2 rfl rfl rfl rfl rfl rfl rfl rfl rfl ?_
                                    refine TL_nil ?_
                                    refine TZ_pure 1 (by kernel_rfl) rfl rfl rfl rfl rfl (op_load_one ag26 rfl rfl) ?_
                                    refine TZ_one 12 (by kernel_rfl) rfl ?_
                                    refine TL_undeep 27 (p' := false) (by rw [hF]; rfl) rfl (ElR.map (f := a_i64) (g := a_i64) (fun _ => ⟨⟨rfl, rfl⟩, trivial⟩) r159) rfl ?_
                                    refine TL_appendT (f := a_i64) (a := r159) (b := [x189]) el26 z2 rfl rfl rfl rfl rfl rfl rfl (capI_spec hq192) rfl rfl rfl rfl rfl ?_
                                    refine TL_nil ?_
                                    refine TZ_pure 13 (by kernel_rfl) rfl rfl rfl rfl rfl (op_fieldAddr fa35_1 rfl rfl) ?_
                                    refine TZ_one 14 (by kernel_rfl) rfl ?_
                                    refine TL_store_box sz26 rfl rfl rfl rfl rfl rfl rfl rfl rfl ?_
                                    refine TL_nil ?_
                                    refine TZ_done (by kernel_rfl) ?_
                                    refine T_seq ?_
                                    refine T_region ?_
                                    refine TL_pure rfl rfl rfl rfl (op_load_agg ag35 sz35 rfl rfl rfl) ?_
                                    refine TL_store_box sz35 rfl rfl rfl rfl rfl rfl rfl rfl rfl ?_
                                    refine TL_pure rfl rfl rfl rfl (op_assign rfl) ?_
                                    refine TL_nil ?_
                                    refine T_keepH [4, 5] [11, 16, 17, 27] rfl rfl rfl rfl (by rw [hF]; rfl) ?_
                                    refine T_deepen 27 (p' := false) (List.map a_i64 (r159 ++ [x189])) (by rw [hF]; rfl) rfl (ElR.map (f := a_i64) (g := a_i64) (fun _ => ⟨⟨rfl, rfl⟩, trivial⟩) (r159 ++ [x189])) rfl rfl rfl ?_
                                    refine T_ren [(11, 11), (16, 1000), (17, 1001), (27, 1002)] rfl rfl rfl (by rw [hF]; rfl) ?_
                                    refine T_ret ?_
                                    obtain rfl := someI hm
                                    refine ⟨[_, _], [1000, 1001, 1002], ⟨⟨_, _, rfl, rfl, .inr ⟨ag35, _, _, sz35, rfl, rfl⟩⟩, rfl, trivial⟩, ?_, rfl, rfl, rfl, rfl⟩
                                    rfl
                            · refine ⟨_, rfl, ?_⟩
                              refine TL_pure rfl rfl rfl rfl (op_load_one ag2 rfl rfl) ?_
                              refine TL_nil ?_
                              refine TZ_each [1, 6] (by kernel_rfl) rfl ?_
                              refine ⟨?_, ?_⟩
                              · refine ⟨_, rfl, ?_⟩
                                refine TL_pure rfl rfl rfl rfl (op_load_one ag26 rfl rfl) ?_
                                refine TL_nil ?_
                                refine TZ_one 6 (by kernel_rfl) rfl ?_
                                refine TL_pure rfl rfl rfl rfl (op_load_one ag26 rfl rfl) ?_
                                refine TL_nil ?_
                                refine TZ_pure 9 (by kernel_rfl) rfl rfl rfl rfl rfl (op_indexT el26 rfl rfl hx189 rfl) ?_
                                refine TZ_one 10 (by kernel_rfl) rfl ?_
                                refine TL_pure rfl rfl rfl rfl (op_load_one ag2 rfl rfl) ?_
                                refine TL_nil ?_
                                refine TZ_one 11 (by kernel_rfl) rfl ?_
                                refine TL_buildSlice 36 (es := List.map a_i64 [x189]) el26 z2 rfl rfl rfl rfl rfl rfl rfl rfl rfl ?_
                                refine TL_nil ?_
                                refine TZ_one 12 (by kernel_rfl) rfl ?_
                                refine TL_undeep 27 (p' := false) (by rw [hF]; rfl) rfl (ElR.map (f := a_i64) (g := a_i64) (fun _ => ⟨⟨rfl, rfl⟩, trivial⟩) r159) rfl ?_
                                refine TL_appendT (f := a_i64) (a := r159) (b := [x189]) el26 z2 rfl rfl rfl rfl rfl rfl rfl (capI_spec hq192) rfl rfl rfl rfl rfl ?_
                                refine TL_nil ?_
                                refine TZ_pure 13 (by kernel_rfl) rfl rfl rfl rfl rfl (op_fieldAddr fa35_1 rfl rfl) ?_
                                refine TZ_one 14 (by kernel_rfl) rfl ?_
                                refine TL_store_box sz26 rfl rfl rfl rfl rfl rfl rfl rfl rfl ?_
                                refine TL_nil ?_
                                refine TZ_done (by kernel_rfl) ?_
                                refine T_seq ?_
                                refine T_region ?_
                                refine TL_pure rfl rfl rfl rfl (op_load_agg ag35 sz35 rfl rfl rfl) ?_
                                refine TL_store_box sz35 rfl rfl rfl rfl rfl rfl rfl rfl rfl ?_
                                refine TL_pure rfl rfl rfl rfl (op_assign rfl) ?_
                                refine TL_nil ?_
                                refine T_keepH [4, 5] [11, 16, 17, 27] rfl rfl rfl rfl (by rw [hF]; rfl) ?_
                                refine T_deepen 27 (p' := false) (List.map a_i64 (r159 ++ [x189])) (by rw [hF]; rfl) rfl (ElR.map (f := a_i64) (g := a_i64) (fun _ => ⟨⟨rfl, rfl⟩, trivial⟩) (r159 ++ [x189])) rfl rfl rfl ?_
                                refine T_ren [(11, 11), (16, 1000), (17, 1001), (27, 1002)] rfl rfl rfl (by rw [hF]; rfl) ?_
                                refine T_ret ?_
                                obtain rfl := someI hm
                                refine ⟨[_, _], [1000, 1001, 1002], ⟨⟨_, _, rfl, rfl, .inr ⟨ag35, _, _, sz35, rfl, rfl⟩⟩, rfl, trivial⟩, ?_, rfl, rfl, rfl, rfl⟩
                                rfl
                              · refine ⟨_, rfl, ?_⟩
                                refine TL_pure rfl rfl rfl rfl (op_load_one ag26 rfl rfl) ?_
                                refine TL_nil ?_
                                refine TZ_pure 9 (by kernel_rfl) rfl rfl rfl rfl rfl (op_indexT el26 rfl rfl hx189 rfl) ?_
                                refine TZ_each [1, 10] (by kernel_rfl) rfl ?_
                                refine ⟨?_, ?_⟩
                                · refine ⟨_, rfl, ?_⟩
                                  refine TL_pure rfl rfl rfl rfl (op_load_one ag26 rfl rfl) ?_
                                  refine TL_nil ?_
                                  refine TZ_one 10 (by kernel_rfl) rfl ?_
                                  refine TL_pure rfl rfl rfl rfl (op_load_one ag2 rfl rfl) ?_
                                  refine TL_nil ?_
                                  refine TZ_one 11 (by kernel_rfl) rfl ?_
                                  refine TL_buildSlice 37 (es := List.map a_i64 [x189]) el26 z2 rfl rfl rfl rfl rfl rfl rfl rfl rfl ?_
                                  refine TL_nil ?_
                                  refine TZ_one 12 (by kernel_rfl) rfl ?_
                                  refine TL_undeep 27 (p' := false) (by rw [hF]; rfl) rfl (ElR.map (f := a_i64) (g := a_i64) (fun _ => ⟨⟨rfl, rfl⟩, trivial⟩) r159) rfl ?_
                                  refine TL_appendT (f := a_i64) (a := r159) (b := [x189]) el26 z2 rfl rfl rfl rfl rfl rfl rfl (capI_spec hq192) rfl rfl rfl rfl rfl ?_
                                  refine TL_nil ?_
                                  refine TZ_pure 13 (by kernel_rfl) rfl rfl rfl rfl rfl (op_fieldAddr fa35_1 rfl rfl) ?_
                                  refine TZ_one 14 (by kernel_rfl) rfl ?_
                                  refine TL_store_box sz26 rfl rfl rfl rfl rfl rfl rfl rfl rfl ?_
                                  refine TL_nil ?_
                                  refine TZ_done (by kernel_rfl) ?_
                                  refine T_seq ?_
                                  refine T_region ?_
                                  refine TL_pure rfl rfl rfl rfl (op_load_agg ag35 sz35 rfl rfl rfl) ?_
                                  refine TL_store_box sz35 rfl rfl rfl rfl rfl rfl rfl rfl rfl ?_
                                  refine TL_pure rfl rfl rfl rfl (op_assign rfl) ?_
                                  refine TL_nil ?_
                                  refine T_keepH [4, 5] [11, 16, 17, 27] rfl rfl rfl rfl (by rw [hF]; rfl) ?_
                                  refine T_deepen 27 (p' := false) (List.map a_i64 (r159 ++ [x189])) (by rw [hF]; rfl) rfl (ElR.map (f := a_i64) (g := a_i64) (fun _ => ⟨⟨rfl, rfl⟩, trivial⟩) (r159 ++ [x189])) rfl rfl rfl ?_
                                  refine T_ren [(11, 11), (16, 1000), (17, 1001), (27, 1002)] rfl rfl rfl (by rw [hF]; rfl) ?_
                                  refine T_ret ?_
                                  obtain rfl := someI hm
                                  refine ⟨[_, _], [1000, 1001, 1002], ⟨⟨_, _, rfl, rfl, .inr ⟨ag35, _, _, sz35, rfl, rfl⟩⟩, rfl, trivial⟩, ?_, rfl, rfl, rfl, rfl⟩
                                  rfl
                                · refine ⟨_, rfl, ?_⟩
                                  refine TL_pure rfl rfl rfl rfl (op_load_one ag2 rfl rfl) ?_
                                  refine TL_nil ?_
                                  refine TZ_each [1, 11] (by kernel_rfl) rfl ?_
                                  refine ⟨?_, ?_⟩
                                  · refine ⟨_, rfl, ?_⟩
                                    refine TL_pure rfl rfl rfl rfl (op_load_one ag26 rfl rfl) ?_
                                    refine TL_nil ?_
                                    refine TZ_one 11 (by kernel_rfl) rfl ?_
                                    refine TL_buildSlice 39 (es := List.map a_i64 [x189]) el26 z2 rfl rfl rfl rfl rfl rfl rfl rfl rfl ?_
                                    refine TL_nil ?_
                                    refine TZ_one 12 (by kernel_rfl) rfl ?_
                                    refine TL_undeep 27 (p' := false) (by rw [hF]; rfl) rfl (ElR.map (f := a_i64) (g := a_i64) (fun _ => ⟨⟨rfl, rfl⟩, trivial⟩) r159) rfl ?_
                                    refine TL_appendT (f := a_i64) (a := r159) (b := [x189]) el26 z2 rfl rfl rfl rfl rfl rfl rfl (capI_spec hq192) rfl rfl rfl rfl rfl ?_
                                    refine TL_nil ?_
                                    refine TZ_pure 13 (by kernel_rfl) rfl rfl rfl rfl rfl (op_fieldAddr fa35_1 rfl rfl) ?_
                                    refine TZ_one 14 (by kernel_rfl) rfl ?_
                                    refine TL_store_box sz26 rfl rfl rfl rfl rfl rfl rfl rfl rfl ?_
                                    refine TL_nil ?_
                                    refine TZ_done (by kernel_rfl) ?_
                                    refine T_seq ?_
                                    refine T_region ?_
                                    refine TL_pure rfl rfl rfl rfl (op_load_agg ag35 sz35 rfl rfl rfl) ?_
                                    refine TL_store_box sz35 rfl rfl rfl rfl rfl rfl rfl rfl rfl ?_
                                    refine TL_pure rfl rfl rfl rfl (op_assign rfl) ?_
                                    refine TL_nil ?_
                                    refine T_keepH [4, 5] [11, 16, 17, 27] rfl rfl rfl rfl (by rw [hF]; rfl) ?_
                                    refine T_deepen 27 (p' := false) (List.map a_i64 (r159 ++ [x189])) (by rw [hF]; rfl) rfl (ElR.map (f := a_i64) (g := a_i64) (fun _ => ⟨⟨rfl, rfl⟩, trivial⟩) (r159 ++ [x189])) rfl rfl rfl ?_
                                    refine T_ren [(11, 11), (16, 1000), (17, 1001), (27, 1002)] rfl rfl rfl (by rw [hF]; rfl) ?_
                                    refine T_ret ?_
                                    obtain rfl := someI hm
                                    refine ⟨[_, _], [1000, 1001, 1002], ⟨⟨_, _, rfl, rfl, .inr ⟨ag35, _, _, sz35, rfl, rfl⟩⟩, rfl, trivial⟩, ?_, rfl, rfl, rfl, rfl⟩
                                    rfl
                                  · refine ⟨_, rfl, ?_⟩
                                    refine TL_buildSlice 38 (es := List.map a_i64 [x189]) el26 z2 rfl rfl rfl rfl rfl rfl rfl rfl rfl ?_
                                    refine TL_nil ?_
                                    refine TZ_pure 1 (by kernel_rfl) rfl rfl rfl rfl rfl (op_load_one ag26 rfl rfl) ?_
                                    refine TZ_one 12 (by kernel_rfl) rfl ?_
                                    refine TL_undeep 27 (p' := false) (by rw [hF]; rfl) rfl (ElR.map (f := a_i64) (g := a_i64) (fun _ => ⟨⟨rfl, rfl⟩, trivial⟩) r159) rfl ?_
                                    refine TL_appendT (f := a_i64) (a := r159) (b := [x189]) el26 z2 rfl rfl rfl rfl rfl rfl rfl (capI_spec hq192) rfl rfl rfl rfl rfl ?_
                                    refine TL_nil ?_
                                    refine TZ_pure 13 (by kernel_rfl) rfl rfl rfl rfl rfl (op_fieldAddr fa35_1 rfl rfl) ?_
                                    refine TZ_one 14 (by kernel_rfl) rfl ?_
                                    refine TL_store_box sz26 rfl rfl rfl rfl rfl rfl rfl rfl rfl ?_
                                    refine TL_nil ?_
                                    refine TZ_done (by kernel_rfl) ?_
                                    refine T_seq ?_
                                    refine T_region ?_
                                    refine TL_pure rfl rfl rfl rfl (op_load_agg ag35 sz35 rfl rfl rfl) ?_
                                    refine TL_store_box sz35 rfl rfl rfl rfl rfl rfl rfl rfl rfl ?_
                                    refine TL_pure rfl rfl rfl rfl (op_assign rfl) ?_
                                    refine TL_nil ?_
                                    refine T_keepH [4, 5] [11, 16, 17, 27] rfl rfl rfl rfl (by rw [hF]; rfl) ?_
                                    refine T_deepen 27 (p' := false) (List.map a_i64 (r159 ++ [x189])) (by rw [hF]; rfl) rfl (ElR.map (f := a_i64) (g := a_i64) (fun _ => ⟨⟨rfl, rfl⟩, trivial⟩) (r159 ++ [x189])) rfl rfl rfl ?_
                                    refine T_ren [(11, 11), (16, 1000), (17, 1001), (27, 1002)] rfl rfl rfl (by rw [hF]; rfl) ?_
                                    refine T_ret ?_
                                    obtain rfl := someI hm
                                    refine ⟨[_, _], [1000, 1001, 1002], ⟨⟨_, _, rfl, rfl, .inr ⟨ag35, _, _, sz35, rfl, rfl⟩⟩, rfl, trivial⟩, ?_, rfl, rfl, rfl, rfl⟩
                                    rfl
                          · replace hm := condF hq hm
                            refine T_seq ?_
                            refine T_region ?_
                            refine TL_pure rfl rfl rfl rfl (op_eql rfl rfl) ?_
                            refine TL_pure rfl rfl rfl rfl (op_assign rfl) ?_
                            refine TL_nil ?_
                            refine T_cond rfl (fun hq => ?_) (fun hq => ?_)
                            · replace hm := condT hq hm
                              refine T_region ?_
                              refine TL_pure rfl rfl rfl rfl (op_fieldAddr fa35_0 rfl rfl) ?_
                              refine TL_pure rfl rfl rfl rfl (op_fieldAddr fa28_0 rfl rfl) ?_
                              refine TL_pure rfl rfl rfl rfl (op_load_one ag26 rfl rfl) ?_
                              refine TL_pure rfl rfl rfl rfl (op_fieldAddr fa40_1 rfl rfl) ?_
                              refine TL_pure rfl rfl rfl rfl (op_load_one ag2 rfl rfl) ?_
                              refine TL_pure rfl rfl rfl rfl (op_move rfl) ?_
                              obtain ⟨x202, hx202, hm⟩ := bindS hm
                              refine TL_pure rfl rfl rfl rfl (op_indexO el26 rfl rfl rfl hx202) ?_
                              refine TL_storeFT sz2 rfl rfl ((getI_spec hx202).2) (v' := j1) rfl rfl rfl rfl rfl rfl rfl rfl rfl ?_
                              refine TL_nil ?_
                              refine T_seq ?_
                              refine T_region ?_
                              refine TL_pure rfl rfl rfl rfl (op_load_agg ag35 sz35 rfl rfl rfl) ?_
                              refine TL_store_box sz35 rfl rfl rfl rfl rfl rfl rfl rfl rfl ?_
                              refine TL_pure rfl rfl rfl rfl (op_assign rfl) ?_
                              refine TL_nil ?_
                              refine T_keepH [4, 5] [11, 16, 17, 27] rfl rfl rfl rfl (by rw [hF]; rfl) ?_
                              refine T_ren [(11, 11), (16, 1000), (17, 1001), (27, 1002)] rfl rfl rfl (by rw [hF]; rfl) ?_
                              refine T_ret ?_
                              obtain rfl := someI hm
                              refine ⟨[_, _], [1000, 1001, 1002], ⟨⟨_, _, rfl, rfl, .inr ⟨ag35, _, _, sz35, rfl, rfl⟩⟩, rfl, trivial⟩, ?_, rfl, rfl, rfl, rfl⟩
                              rfl
                            · replace hm := condF hq hm
                              refine T_seq ?_
                              refine T_region ?_
                              refine TL_pure rfl rfl rfl rfl (op_eql rfl rfl) ?_
                              refine TL_pure rfl rfl rfl rfl (op_assign rfl) ?_
                              refine TL_nil ?_
                              refine T_cond rfl (fun hq => ?_) (fun hq => ?_)
                              · replace hm := condT hq hm
                                refine T_region ?_
                                refine TL_pure rfl rfl rfl rfl (op_fieldAddr fa35_1 rfl rfl) ?_
                                refine TL_pure rfl rfl rfl rfl (op_load_one ag26 rfl rfl) ?_
                                refine TL_pure rfl rfl rfl rfl (op_move rfl) ?_
                                refine TL_pure rfl rfl rfl rfl (op_move rfl) ?_
                                refine TL_pure rfl rfl rfl rfl (op_addW rfl rfl) ?_
                                refine TL_buildSlice 40 (es := List.map a_i64 [(w64 (j1 + j2))]) el26 z2 rfl rfl rfl rfl rfl rfl rfl rfl rfl ?_
                                refine TL_undeep 27 (p' := false) (by rw [hF]; rfl) rfl (ElR.map (f := a_i64) (g := a_i64) (fun _ => ⟨⟨rfl, rfl⟩, trivial⟩) r159) rfl ?_
                                obtain ⟨q211, hq211, hm⟩ := bindS hm
                                refine TL_appendT (f := a_i64) (a := r159) (b := [(w64 (j1 + j2))]) el26 z2 rfl rfl rfl rfl rfl rfl rfl (capI_spec hq211) rfl rfl rfl rfl rfl ?_
                                refine TL_pure rfl rfl rfl rfl (op_fieldAddr fa35_1 rfl rfl) ?_
                                refine TL_store_box sz26 rfl rfl rfl rfl rfl rfl rfl rfl rfl ?_
                                refine TL_nil ?_
                                refine T_seq ?_
                                refine T_region ?_
                                refine TL_pure rfl rfl rfl rfl (op_load_agg ag35 sz35 rfl rfl rfl) ?_
                                refine TL_store_box sz35 rfl rfl rfl rfl rfl rfl rfl rfl rfl ?_
                                refine TL_pure rfl rfl rfl rfl (op_assign rfl) ?_
                                refine TL_nil ?_
                                refine T_keepH [4, 5] [11, 16, 17, 27] rfl rfl rfl rfl (by rw [hF]; rfl) ?_
                                refine T_deepen 27 (p' := false) (List.map a_i64 (r159 ++ [(w64 (j1 + j2))])) (by rw [hF]; rfl) rfl (ElR.map (f := a_i64) (g := a_i64) (fun _ => ⟨⟨rfl, rfl⟩, trivial⟩) (r159 ++ [(w64 (j1 + j2))])) rfl rfl rfl ?_
                                refine T_ren [(11, 11), (16, 1000), (17, 1001), (27, 1002)] rfl rfl rfl (by rw [hF]; rfl) ?_
                                refine T_ret ?_
                                obtain rfl := someI hm
                                refine ⟨[_, _], [1000, 1001, 1002], ⟨⟨_, _, rfl, rfl, .inr ⟨ag35, _, _, sz35, rfl, rfl⟩⟩, rfl, trivial⟩, ?_, rfl, rfl, rfl, rfl⟩
                                rfl
                              · replace hm := condF hq hm
                                refine T_seq ?_
                                refine T_region ?_
                                refine TL_pure rfl rfl rfl rfl (op_eql rfl rfl) ?_
                                refine TL_pure rfl rfl rfl rfl (op_assign rfl) ?_
                                refine TL_nil ?_
                                refine T_cond rfl (fun hq => ?_) (fun hq => ?_)
                                · replace hm := condT hq hm
                                  refine T_region ?_
                                  refine TL_pure rfl rfl rfl rfl (op_fieldAddr fa35_1 rfl rfl) ?_
                                  refine TL_pure rfl rfl rfl rfl (op_load_one ag26 rfl rfl) ?_
                                  refine TL_pure rfl rfl rfl rfl (op_move rfl) ?_
                                  refine TL_pure rfl rfl rfl rfl (op_fieldAddr fa40_1 rfl rfl) ?_
                                  refine TL_pure rfl rfl rfl rfl (op_load_one ag2 rfl rfl) ?_
                                  refine TL_pure rfl rfl rfl rfl (op_mulW rfl rfl) ?_
                                  refine TL_buildSlice 41 (es := List.map a_i64 [(w64 (j1 * x39.Arg))]) el26 z2 rfl rfl rfl rfl rfl rfl rfl rfl rfl ?_
                                  refine TL_undeep 27 (p' := false) (by rw [hF]; rfl) rfl (ElR.map (f := a_i64) (g := a_i64) (fun _ => ⟨⟨rfl, rfl⟩, trivial⟩) r159) rfl ?_
                                  obtain ⟨q222, hq222, hm⟩ := bindS hm
                                  refine TL_appendT (f := a_i64) (a := r159) (b := [(w64 (j1 * x39.Arg))]) el26 z2 rfl rfl rfl rfl rfl rfl rfl (capI_spec hq222) rfl rfl rfl rfl rfl ?_
                                  refine TL_pure rfl rfl rfl rfl (op_fieldAddr fa35_1 rfl rfl) ?_
                                  refine TL_store_box sz26 rfl rfl rfl rfl rfl rfl rfl rfl rfl ?_
                                  refine TL_nil ?_
                                  refine T_seq ?_
                                  refine T_region ?_
                                  refine TL_pure rfl rfl rfl rfl (op_load_agg ag35 sz35 rfl rfl rfl) ?_
                                  refine TL_store_box sz35 rfl rfl rfl rfl rfl rfl rfl rfl rfl ?_
                                  refine TL_pure rfl rfl rfl rfl (op_assign rfl) ?_
                                  refine TL_nil ?_
                                  refine T_keepH [4, 5] [11, 16, 17, 27] rfl rfl rfl rfl (by rw [hF]; rfl) ?_
                                  refine T_deepen 27 (p' := false) (List.map a_i64 (r159 ++ [(w64 (j1 * x39.Arg))])) (by rw [hF]; rfl) rfl (ElR.map (f := a_i64) (g := a_i64) (fun _ => ⟨⟨rfl, rfl⟩, trivial⟩) (r159 ++ [(w64 (j1 * x39.Arg))])) rfl rfl rfl ?_
                                  refine T_ren [(11, 11), (16, 1000), (17, 1001), (27, 1002)] rfl rfl rfl (by rw [hF]; rfl) ?_
                                  refine T_ret ?_
                                  obtain rfl := someI hm
                                  refine ⟨[_, _], [1000, 1001, 1002], ⟨⟨_, _, rfl, rfl, .inr ⟨ag35, _, _, sz35, rfl, rfl⟩⟩, rfl, trivial⟩, ?_, rfl, rfl, rfl, rfl⟩
                                  rfl
                                · replace hm := condF hq hm
                                  refine T_seq ?_
                                  refine T_region ?_
                                  refine TL_pure rfl rfl rfl rfl (op_eql rfl rfl) ?_
                                  refine TL_pure rfl rfl rfl rfl (op_assign rfl) ?_
                                  refine TL_nil ?_
                                  refine T_cond rfl (fun hq => ?_) (fun hq => ?_)
                                  · replace hm := condT hq hm
                                    refine T_region ?_
                                    refine TL_pure rfl rfl rfl rfl (op_fieldAddr fa40_1 rfl rfl) ?_
                                    refine TL_pure rfl rfl rfl rfl (op_load_one ag2 rfl rfl) ?_
                                    refine TL_pure rfl rfl rfl rfl (op_fieldAddr fa35_2 rfl rfl) ?_
                                    refine TL_store_box sz2 rfl rfl rfl rfl rfl rfl rfl rfl rfl ?_
                                    refine TL_nil ?_
                                    refine T_seq ?_
                                    refine T_region ?_
                                    refine TL_pure rfl rfl rfl rfl (op_load_agg ag35 sz35 rfl rfl rfl) ?_
                                    refine TL_store_box sz35 rfl rfl rfl rfl rfl rfl rfl rfl rfl ?_
                                    refine TL_pure rfl rfl rfl rfl (op_assign rfl) ?_
                                    refine TL_nil ?_
                                    refine T_keepH [4, 5] [11, 16, 17, 27] rfl rfl rfl rfl (by rw [hF]; rfl) ?_
                                    refine T_ren [(11, 11), (16, 1000), (17, 1001), (27, 1002)] rfl rfl rfl (by rw [hF]; rfl) ?_
                                    refine T_ret ?_
                                    obtain rfl := someI hm
                                    refine ⟨[_, _], [1000, 1001, 1002], ⟨⟨_, _, rfl, rfl, .inr ⟨ag35, _, _, sz35, rfl, rfl⟩⟩, rfl, trivial⟩, ?_, rfl, rfl, rfl, rfl⟩
                                    rfl
                                  · replace hm := condF hq hm
                                    refine T_seq ?_
                                    refine T_region ?_
                                    refine TL_pure rfl rfl rfl rfl (op_eql rfl rfl) ?_
                                    refine TL_pure rfl rfl rfl rfl (op_assign rfl) ?_
                                    refine TL_nil ?_
                                    refine T_cond rfl (fun hq => ?_) (fun hq => ?_)
                                    · replace hm := condT hq hm
                                      refine T_seq ?_
                                      refine T_region ?_
                                      refine TL_pure rfl rfl rfl rfl (op_move rfl) ?_
                                      refine TL_pure rfl rfl rfl rfl (op_lss rfl rfl) ?_
                                      refine TL_nil ?_
                                      refine T_cond rfl (fun hq => ?_) (fun hq => ?_)
                                      · replace hm := condT hq hm
                                        refine T_region ?_
                                        refine TL_pure rfl rfl rfl rfl (op_fieldAddr fa40_1 rfl rfl) ?_
                                        refine TL_pure rfl rfl rfl rfl (op_load_one ag2 rfl rfl) ?_
                                        refine TL_pure rfl rfl rfl rfl (op_fieldAddr fa35_2 rfl rfl) ?_
                                        refine TL_store_box sz2 rfl rfl rfl rfl rfl rfl rfl rfl rfl ?_
                                        refine TL_nil ?_
                                        refine T_seq ?_
                                        refine T_region ?_
                                        refine TL_pure rfl rfl rfl rfl (op_load_agg ag35 sz35 rfl rfl rfl) ?_
                                        refine TL_store_box sz35 rfl rfl rfl rfl rfl rfl rfl rfl rfl ?_
                                        refine TL_pure rfl rfl rfl rfl (op_assign rfl) ?_
                                        refine TL_nil ?_
                                        refine T_keepH [4, 5] [11, 16, 17, 27] rfl rfl rfl rfl (by rw [hF]; rfl) ?_
                                        refine T_ren [(11, 11), (16, 1000), (17, 1001), (27, 1002)] rfl rfl rfl (by rw [hF]; rfl) ?_
                                        refine T_ret ?_
                                        obtain rfl := someI hm
                                        refine ⟨[_, _], [1000, 1001, 1002], ⟨⟨_, _, rfl, rfl, .inr ⟨ag35, _, _, sz35, rfl, rfl⟩⟩, rfl, trivial⟩, ?_, rfl, rfl, rfl, rfl⟩
                                        rfl
                                      · replace hm := condF hq hm
                                        refine T_skip ?_
                                        refine T_seq ?_
                                        refine T_region ?_
                                        refine TL_pure rfl rfl rfl rfl (op_load_agg ag35 sz35 rfl rfl rfl) ?_
                                        refine TL_store_box sz35 rfl rfl rfl rfl rfl rfl rfl rfl rfl ?_
                                        refine TL_pure rfl rfl rfl rfl (op_assign rfl) ?_
                                        refine TL_nil ?_
                                        refine T_keepH [4, 5] [11, 16, 17, 27] rfl rfl rfl rfl (by rw [hF]; rfl) ?_
                                        refine T_ren [(11, 11), (16, 1000), (17, 1001), (27, 1002)] rfl rfl rfl (by rw [hF]; rfl) ?_
                                        refine T_ret ?_
                                        obtain rfl := someI hm
                                        refine ⟨[_, _], [1000, 1001, 1002], ⟨⟨_, _, rfl, rfl, .inr ⟨ag35, _, _, sz35, rfl, rfl⟩⟩, rfl, trivial⟩, ?_, rfl, rfl, rfl, rfl⟩
                                        rfl
                                    · replace hm := condF hq hm
                                      refine T_seq ?_
                                      refine T_region ?_
                                      refine TL_pure rfl rfl rfl rfl (op_eql rfl rfl) ?_
                                      refine TL_pure rfl rfl rfl rfl (op_assign rfl) ?_
                                      refine TL_nil ?_
                                      refine T_cond rfl (fun hq => ?_) (fun hq => ?_)
                                      · replace hm := condT hq hm
                                        refine T_drawZ [10, 11, 13] mix (by kernel_rfl) rfl ?_
                                        obtain ⟨x246, hx246, hm⟩ := bindS hm
                                        obtain ⟨q249, hq249, hm⟩ := bindS hm
                                        refine TZ_pure 0 (by kernel_rfl) rfl rfl rfl rfl rfl (op_fieldAddr fa35_1 rfl rfl) ?_
                                        refine TZ_pure 2 (by kernel_rfl) rfl rfl rfl rfl rfl (op_move rfl) ?_
                                        refine TZ_pure 3 (by kernel_rfl) rfl rfl rfl rfl rfl (op_nilCheck rfl rfl) ?_
                                        refine TZ_pure 4 (by kernel_rfl) rfl rfl rfl rfl rfl (op_fieldAddrC (n := 2) fa35_0 rfl rfl rfl) ?_
                                        refine TZ_pure 5 (by kernel_rfl) rfl rfl rfl rfl rfl (op_fieldAddr fa28_1 rfl rfl) ?_
                                        refine TZ_pure 7 (by kernel_rfl) rfl rfl rfl rfl rfl (op_move rfl) ?_
                                        refine TZ_each [1, 6] (by kernel_rfl) rfl ?_
                                        refine ⟨?_, ?_⟩
                                        · refine ⟨_, rfl, ?_⟩
                                          refine TL_pure rfl rfl rfl rfl (op_load_one ag26 rfl rfl) ?_
                                          refine TL_nil ?_
                                          refine TZ_one 6 (by kernel_rfl) rfl ?_
                                          refine TL_pure rfl rfl rfl rfl (op_load_one ag26 rfl rfl) ?_
                                          refine TL_nil ?_
                                          refine TZ_pure 8 (by kernel_rfl) rfl rfl rfl rfl rfl (op_indexT el26 rfl rfl hx246 rfl) ?_
                                          refine TZ_one 9 (by kernel_rfl) rfl ?_
                                          refine TL_pure rfl rfl rfl rfl (op_load_one ag2 rfl rfl) ?_
                                          refine TL_nil ?_
                                          refine TZ_one 10 (by kernel_rfl) rfl ?_
                                          refine TL_buildSlice 43 (es := List.map a_i64 [x246]) el26 z2 rfl rfl rfl rfl rfl rfl rfl rfl rfl ?_
                                          refine TL_nil ?_
                                          refine TZ_one 11 (by kernel_rfl) rfl ?_
                                          refine TL_undeep 27 (p' := false) (by rw [hF]; rfl) rfl (ElR.map (f := a_i64) (g := a_i64) (fun _ => ⟨⟨rfl, rfl⟩, trivial⟩) r159) rfl ?_
                                          refine TL_appendT (f := a_i64) (a := r159) (b := [x246]) el26 z2 rfl rfl rfl rfl rfl rfl rfl (capI_spec hq249) rfl rfl rfl rfl rfl ?_
                                          refine TL_nil ?_
                                          refine TZ_pure 12 (by kernel_rfl) rfl rfl rfl rfl rfl (op_fieldAddr fa35_1 rfl rfl) ?_
                                          refine TZ_one 13 (by kernel_rfl) rfl ?_
                                          refine TL_store_box sz26 rfl rfl rfl rfl rfl rfl rfl rfl rfl ?_
                                          refine TL_nil ?_
                                          refine TZ_done (by kernel_rfl) ?_
                                          refine T_seq ?_
                                          refine T_region ?_
                                          refine TL_pure rfl rfl rfl rfl (op_load_agg ag35 sz35 rfl rfl rfl) ?_
                                          refine TL_store_box sz35 rfl rfl rfl rfl rfl rfl rfl rfl rfl ?_
                                          refine TL_pure rfl rfl rfl rfl (op_assign rfl) ?_
                                          refine TL_nil ?_
                                          refine T_keepH [4, 5] [11, 16, 17, 27] rfl rfl rfl rfl (by rw [hF]; rfl) ?_
                                          refine T_deepen 27 (p' := false) (List.map a_i64 (r159 ++ [x246])) (by rw [hF]; rfl) rfl (ElR.map (f := a_i64) (g := a_i64) (fun _ => ⟨⟨rfl, rfl⟩, trivial⟩) (r159 ++ [x246])) rfl rfl rfl ?_
                                          refine T_ren [(11, 11), (16, 1000), (17, 1001), (27, 1002)] rfl rfl rfl (by rw [hF]; rfl) ?_
                                          refine T_ret ?_
                                          obtain rfl := someI hm
                                          refine ⟨[_, _], [1000, 1001, 1002], ⟨⟨_, _, rfl, rfl, .inr ⟨ag35, _, _, sz35, rfl, rfl⟩⟩, rfl, trivial⟩, ?_, rfl, rfl, rfl, rfl⟩
                                          rfl
                                        · refine ⟨_, rfl, ?_⟩
                                          refine TL_pure rfl rfl rfl rfl (op_load_one ag26 rfl rfl) ?_
                                          refine TL_nil ?_
                                          refine TZ_pure 8 (by kernel_rfl) rfl rfl rfl rfl rfl (op_indexT el26 rfl rfl hx246 rfl) ?_
                                          refine TZ_each [1, 9] (by kernel_rfl) rfl ?_
                                          refine ⟨?_, ?_⟩
                                          · refine ⟨_, rfl, ?_⟩
                                            refine TL_pure rfl rfl rfl rfl (op_load_one ag26 rfl rfl) ?_
                                            refine TL_nil ?_
                                            refine TZ_one 9 (by kernel_rfl) rfl ?_
                                            refine TL_pure rfl rfl rfl rfl (op_load_one ag2 rfl rfl) ?_
                                            refine TL_nil ?_
                                            refine TZ_one 10 (by kernel_rfl) rfl ?_
                                            refine TL_buildSlice 44 (es := List.map a_i64 [x246]) el26 z2 rfl rfl rfl rfl rfl rfl rfl rfl rfl ?_
                                            refine TL_nil ?_
                                            refine TZ_one 11 (by kernel_rfl) rfl ?_
                                            refine TL_undeep 27 (p' := false) (by rw [hF]; rfl) rfl (ElR.map (f := a_i64) (g := a_i64) (fun _ => ⟨⟨rfl, rfl⟩, trivial⟩) r159) rfl ?_
                                            refine TL_appendT (f := a_i64) (a := r159) (b := [x246]) el26 z2 rfl rfl rfl rfl rfl rfl rfl (capI_spec hq249) rfl rfl rfl rfl rfl ?_
                                            refine TL_nil ?_
                                            refine TZ_pure 12 (by kernel_rfl) rfl rfl rfl rfl rfl (op_fieldAddr fa35_1 rfl rfl) ?_
                                            refine TZ_one 13 (by kernel_rfl) rfl ?_
                                            refine TL_store_box sz26 rfl rfl rfl rfl rfl rfl rfl rfl rfl ?_
                                            refine TL_nil ?_
                                            refine TZ_done (by kernel_rfl) ?_
                                            refine T_seq ?_
                                            refine T_region ?_
                                            refine TL_pure rfl rfl rfl rfl (op_load_agg ag35 sz35 rfl rfl rfl) ?_
                                            refine TL_store_box sz35 rfl rfl rfl rfl rfl rfl rfl rfl rfl ?_
                                            refine TL_pure rfl rfl rfl rfl (op_assign rfl) ?_
                                            refine TL_nil ?_
                                            refine T_keepH [4, 5] [11, 16, 17, 27] rfl rfl rfl rfl (by rw [hF]; rfl) ?_
                                            refine T_deepen 27 (p' := false) (List.map a_i64 (r159 ++ [x246])) (by rw [hF]; rfl) rfl (ElR.map (f := a_i64) (g := a_i64) (fun _ => ⟨⟨rfl, rfl⟩, trivial⟩) (r159 ++ [x246])) rfl rfl rfl ?_
                                            refine T_ren [(11, 11), (16, 1000), (17, 1001), (27, 1002)] rfl rfl rfl (by rw [hF]; rfl) ?_
                                            refine T_ret ?_
                                            obtain rfl := someI hm
                                            refine ⟨[_, _], [1000, 1001, 1002], ⟨⟨_, _, rfl, rfl, .inr ⟨ag35, _, _, sz35, rfl, rfl⟩⟩, rfl, trivial⟩, ?_, rfl, rfl, rfl, rfl⟩
                                            rfl
                                          · refine ⟨_, rfl, ?_⟩
                                            refine TL_pure rfl rfl rfl rfl (op_load_one ag2 rfl rfl) ?_
                                            refine TL_nil ?_
                                            refine TZ_each [1, 10] (by kernel_rfl) rfl ?_
                                            refine ⟨?_, ?_⟩
                                            · refine ⟨_, rfl, ?_⟩
                                              refine TL_pure rfl rfl rfl rfl (op_load_one ag26 rfl rfl) ?_
                                              refine TL_nil ?_
                                              refine TZ_one 10 (by kernel_rfl) rfl ?_
                                              refine TL_buildSlice 46 (es := List.map a_i64 [x246]) el26 z2 rfl rfl rfl rfl rfl rfl rfl rfl rfl ?_
                                              refine TL_nil ?_
                                              refine TZ_one 11 (by kernel_rfl) rfl ?_
                                              refine TL_undeep 27 (p' := false) (by rw [hF]; rfl) rfl (ElR.map (f := a_i64) (g := a_i64) (fun _ => ⟨⟨rfl, rfl⟩, trivial⟩) r159) rfl ?_
                                              refine TL_appendT (f := a_i64) (a := r159) (b := [x246]) el26 z2 rfl rfl rfl rfl rfl rfl rfl (capI_spec hq249) rfl rfl rfl rfl rfl ?_
                                              refine TL_nil ?_
                                              refine TZ_pure 12 (by kernel_rfl) rfl rfl rfl rfl rfl (op_fieldAddr fa35_1 rfl rfl) ?_
                                              refine TZ_one 13 (by kernel_rfl) rfl ?_
                                              refine TL_store_box sz26 rfl rfl rfl rfl rfl rfl rfl rfl rfl ?_
                                              refine TL_nil ?_
                                              refine TZ_done (by kernel_rfl) ?_
                                              refine T_seq ?_
                                              refine T_region ?_
                                              refine TL_pure rfl rfl rfl rfl (op_load_agg ag35 sz35 rfl rfl rfl) ?_
                                              refine TL_store_box sz35 rfl rfl rfl rfl rfl rfl rfl rfl rfl ?_
                                              refine TL_pure rfl rfl rfl rfl (op_assign rfl) ?_
                                              refine TL_nil ?_
                                              refine T_keepH [4, 5] [11, 16, 17, 27] rfl rfl rfl rfl (by rw [hF]; rfl) ?_
                                              refine T_deepen 27 (p' := false) (List.map a_i64 (r159 ++ [x246])) (by rw [hF]; rfl) rfl (ElR.map (f := a_i64) (g := a_i64) (fun _ => ⟨⟨rfl, rfl⟩, trivial⟩) (r159 ++ [x246])) rfl rfl rfl ?_
                                              refine T_ren [(11, 11), (16, 1000), (17, 1001), (27, 1002)] rfl rfl rfl (by rw [hF]; rfl) ?_
                                              refine T_ret ?_
                                              obtain rfl := someI hm
                                              refine ⟨[_, _], [1000, 1001, 1002], ⟨⟨_, _, rfl, rfl, .inr ⟨ag35, _, _, sz35, rfl, rfl⟩⟩, rfl, trivial⟩, ?_, rfl, rfl, rfl, rfl⟩
                                              rfl
                                            · refine ⟨_, rfl, ?_⟩
                                              refine TL_buildSlice 45 (es := List.map a_i64 [x246]) el26 z2 rfl rfl rfl rfl rfl rfl rfl rfl rfl ?_
                                              refine TL_nil ?_
                                              refine TZ_pure 1 (by kernel_rfl) rfl rfl rfl rfl rfl (op_load_one ag26 rfl rfl) ?_
                                              refine TZ_one 11 (by kernel_rfl) rfl ?_
                                              refine TL_undeep 27 (p' := false) (by rw [hF]; rfl) rfl (ElR.map (f := a_i64) (g := a_i64) (fun _ => ⟨⟨rfl, rfl⟩, trivial⟩) r159) rfl ?_
                                              refine TL_appendT (f := a_i64) (a := r159) (b := [x246]) el26 z2 rfl rfl rfl rfl rfl rfl rfl (capI_spec hq249) rfl rfl rfl rfl rfl ?_
                                              refine TL_nil ?_
                                              refine TZ_pure 12 (by kernel_rfl) rfl rfl rfl rfl rfl (op_fieldAddr fa35_1 rfl rfl) ?_
                                              refine TZ_one 13 (by kernel_rfl) rfl ?_
                                              refine TL_store_box sz26 rfl rfl rfl rfl rfl rfl rfl rfl rfl ?_
                                              refine TL_nil ?_
                                              refine TZ_done (by kernel_rfl) ?_
                                              refine T_seq ?_
                                              refine T_region ?_
                                              refine TL_pure rfl rfl rfl rfl (op_load_agg ag35 sz35 rfl rfl rfl) ?_
                                              refine TL_store_box sz35 rfl rfl rfl rfl rfl rfl rfl rfl rfl ?_
                                              refine TL_pure rfl rfl rfl rfl (op_assign rfl) ?_
                                              refine TL_nil ?_
                                              refine T_keepH [4, 5] [11, 16, 17, 27] rfl rfl rfl rfl (by rw [hF]; rfl) ?_
                                              refine T_deepen 27 (p' := false) (List.map a_i64 (r159 ++ [x246])) (by rw [hF]; rfl) rfl (ElR.map (f := a_i64) (g := a_i64) (fun _ => ⟨⟨rfl, rfl⟩, trivial⟩) (r159 ++ [x246])) rfl rfl rfl ?_
                                              refine T_ren [(11, 11), (16, 1000), (17, 1001), (27, 1002)] rfl rfl rfl (by rw [hF]; rfl) ?_
                                              refine T_ret ?_
                                              obtain rfl := someI hm
                                              refine ⟨[_, _], [1000, 1001, 1002], ⟨⟨_, _, rfl, rfl, .inr ⟨ag35, _, _, sz35, rfl, rfl⟩⟩, rfl, trivial⟩, ?_, rfl, rfl, rfl, rfl⟩
                                              rfl
                                      · replace hm := condF hq hm
                                        refine T_seq ?_
                                        refine T_region ?_
                                        refine TL_pure rfl rfl rfl rfl (op_eql rfl rfl) ?_
                                        refine TL_pure rfl rfl rfl rfl (op_assign rfl) ?_
                                        refine TL_nil ?_
                                        refine T_cond rfl (fun hq => ?_) (fun hq => ?_)
                                        · replace hm := condT hq hm
                                          refine T_region ?_
                                          refine TL_pure rfl rfl rfl rfl (op_fieldAddr fa35_0 rfl rfl) ?_
                                          refine TL_pure rfl rfl rfl rfl (op_fieldAddr fa28_1 rfl rfl) ?_
                                          refine TL_pure rfl rfl rfl rfl (op_load_one ag26 rfl rfl) ?_
                                          refine TL_pure rfl rfl rfl rfl (op_move rfl) ?_
                                          refine TL_pure rfl rfl rfl rfl (op_move rfl) ?_
                                          obtain ⟨x258, hx258, hm⟩ := bindS hm
                                          refine TL_pure rfl rfl rfl rfl (op_indexO el26 rfl rfl rfl hx258) ?_
                                          refine TL_storeFT sz2 rfl rfl ((getI_spec hx258).2) (v' := j1) rfl rfl rfl rfl rfl rfl rfl rfl rfl ?_
                                          refine TL_nil ?_
                                          refine T_seq ?_
                                          refine T_region ?_
                                          refine TL_pure rfl rfl rfl rfl (op_load_agg ag35 sz35 rfl rfl rfl) ?_
                                          refine TL_store_box sz35 rfl rfl rfl rfl rfl rfl rfl rfl rfl ?_
                                          refine TL_pure rfl rfl rfl rfl (op_assign rfl) ?_
                                          refine TL_nil ?_
                                          refine T_keepH [4, 5] [11, 16, 17, 27] rfl rfl rfl rfl (by rw [hF]; rfl) ?_
                                          refine T_ren [(11, 11), (16, 1000), (17, 1001), (27, 1002)] rfl rfl rfl (by rw [hF]; rfl) ?_
                                          refine T_ret ?_
                                          obtain rfl := someI hm
                                          refine ⟨[_, _], [1000, 1001, 1002], ⟨⟨_, _, rfl, rfl, .inr ⟨ag35, _, _, sz35, rfl, rfl⟩⟩, rfl, trivial⟩, ?_, rfl, rfl, rfl, rfl⟩
                                          rfl
                                        · replace hm := condF hq hm
                                          refine T_skip ?_
                                          refine T_seq ?_
                                          refine T_region ?_
                                          refine TL_pure rfl rfl rfl rfl (op_load_agg ag35 sz35 rfl rfl rfl) ?_
                                          refine TL_store_box sz35 rfl rfl rfl rfl rfl rfl rfl rfl rfl ?_
                                          refine TL_pure rfl rfl rfl rfl (op_assign rfl) ?_
                                          refine TL_nil ?_
                                          refine T_keepH [4, 5] [11, 16, 17, 27] rfl rfl rfl rfl (by rw [hF]; rfl) ?_
                                          refine T_ren [(11, 11), (16, 1000), (17, 1001), (27, 1002)] rfl rfl rfl (by rw [hF]; rfl) ?_
                                          refine T_ret ?_
                                          obtain rfl := someI hm
                                          refine ⟨[_, _], [1000, 1001, 1002], ⟨⟨_, _, rfl, rfl, .inr ⟨ag35, _, _, sz35, rfl, rfl⟩⟩, rfl, trivial⟩, ?_, rfl, rfl, rfl, rfl⟩
                                          rfl
                    · refine TL_split 148 rfl rfl rfl (fun hq => ?_) (fun hq => ?_)
                      · refine TL_want rfl rfl ?_
                        refine TL_pure rfl rfl rfl rfl (op_move rfl) ?_
                        refine TL_want rfl rfl ?_
                        refine TL_pure rfl rfl rfl rfl (op_lss rfl rfl) ?_
                        refine TL_pure rfl rfl rfl rfl (op_pick_true rfl rfl) ?_
                        refine TL_keepH [1, 4, 6, 7, 9, 10, 11, 151] [11, 16, 17, 19, 21, 26] rfl rfl rfl rfl (by rw [hF]; rfl) ?_
                        exact TL_cast _ (by rw [hq]; rfl) (hjj () trivial)
                      · refine TL_pass rfl rfl rfl rfl rfl rfl rfl ?_
                        refine TL_pass rfl rfl rfl rfl rfl rfl rfl ?_
                        refine TL_pure rfl rfl rfl rfl (op_pick_false rfl rfl) ?_
                        refine TL_keepH [1, 4, 6, 7, 9, 10, 11, 151] [11, 16, 17, 19, 21, 26] rfl rfl rfl rfl (by rw [hF]; rfl) ?_
                        exact TL_cast _ (by rw [hq]; rfl) (hjj () trivial)
                  · refine T_seq ?_
                    refine T_region ?_
                    refine TL_pure rfl rfl rfl rfl (op_fieldAddr fa40_0 rfl rfl) ?_
                    refine TL_pure rfl rfl rfl rfl (op_load_one ag2 rfl rfl) ?_
                    refine TL_pure rfl rfl rfl rfl (op_eql rfl rfl) ?_
                    refine TL_pure rfl rfl rfl rfl (op_move rfl) ?_
                    refine TL_split 111 rfl rfl rfl (fun hq => ?_) (fun hq => ?_)
                    · replace hm := condT hq hm
                      refine TL_want rfl rfl ?_
                      refine TL_pure rfl rfl rfl rfl (op_move rfl) ?_
                      refine TL_want rfl rfl ?_
                      refine TL_pure rfl rfl rfl rfl (op_move rfl) ?_
                      refine TL_want rfl rfl ?_
                      refine TL_pure rfl rfl rfl rfl (op_addW rfl rfl) ?_
                      refine TL_want rfl rfl ?_
                      obtain ⟨r115, hr115, hm⟩ := bindS hm
                      refine TL_callF (c_spec_l07Wide (w64 (j1 + j2)) r115 hr115) Try.call136 rfl rfl rfl rfl rfl ?_
                      refine TL_want rfl rfl ?_
                      refine TL_pure rfl rfl rfl rfl (op_not rfl) ?_
                      refine TL_pure rfl rfl rfl rfl (op_pick_true rfl rfl) ?_
                      refine TL_pure rfl rfl rfl rfl (op_move rfl) ?_
                      refine TL_split 118 rfl rfl rfl (fun hq => ?_) (fun hq => ?_)
                      · replace hm := condT hq hm
                        refine TL_pass rfl rfl rfl rfl rfl rfl rfl ?_
                        refine TL_pass rfl rfl rfl rfl rfl rfl rfl ?_
                        refine TL_pass rfl rfl rfl rfl rfl rfl rfl ?_
                        refine TL_pass rfl rfl rfl rfl rfl rfl rfl ?_
                        refine TL_pass2 rfl rfl rfl rfl rfl rfl ?_
                        refine TL_pass2 rfl rfl rfl rfl rfl rfl ?_
                        refine TL_pass2 rfl rfl rfl rfl rfl rfl ?_
                        refine TL_pass2 rfl rfl rfl rfl rfl rfl ?_
                        refine TL_pass rfl rfl rfl rfl rfl rfl rfl ?_
                        refine TL_pure rfl rfl rfl rfl (op_pick_true rfl rfl) ?_
                        refine TL_pure rfl rfl rfl rfl (op_move rfl) ?_
                        refine TL_pass rfl rfl rfl rfl rfl rfl rfl ?_
                        refine TL_pass rfl rfl rfl rfl rfl rfl rfl ?_
                        refine TL_pass rfl rfl rfl rfl rfl rfl rfl ?_
                        refine TL_pass rfl rfl rfl rfl rfl rfl rfl ?_
                        refine TL_pass2 rfl rfl rfl rfl rfl rfl ?_
                        refine TL_pass2 rfl rfl rfl rfl rfl rfl ?_
                        refine TL_pass2 rfl rfl rfl rfl rfl rfl ?_
                        refine TL_pass rfl rfl rfl rfl rfl rfl rfl ?_
                        refine TL_pass rfl rfl rfl rfl rfl rfl rfl ?_
                        refine TL_pass2 rfl rfl rfl rfl rfl rfl ?_
                        refine TL_pass2 rfl rfl rfl rfl rfl rfl ?_
                        refine TL_pass2 rfl rfl rfl rfl rfl rfl ?_
                        refine TL_pass rfl rfl rfl rfl rfl rfl rfl ?_
                        refine TL_pure rfl rfl rfl rfl (op_pick_true rfl rfl) ?_
                        refine TL_nil ?_
                        refine T_cond_true rfl ?_
                        refine T_seq ?_
                        refine T_region ?_
                        refine TL_pure rfl rfl rfl rfl (op_load_agg ag35 sz35 rfl rfl rfl) ?_
                        refine TL_store_box sz35 rfl rfl rfl rfl rfl rfl rfl rfl rfl ?_
                        refine TL_pure rfl rfl rfl rfl (op_assign rfl) ?_
                        refine TL_nil ?_
                        refine T_keepH [4, 5] [11, 16, 17, 19] rfl rfl rfl rfl (by rw [hF]; rfl) ?_
                        refine T_ren [(11, 11), (16, 1000), (17, 1001), (19, 1002)] rfl rfl rfl (by rw [hF]; rfl) ?_
                        refine T_ret ?_
                        obtain rfl := someI hm
                        refine ⟨[_, _], [1000, 1001, 1002], ⟨⟨_, _, rfl, rfl, .inr ⟨ag35, _, _, sz35, rfl, rfl⟩⟩, rfl, trivial⟩, ?_, rfl, rfl, rfl, rfl⟩
                        rfl
                      · replace hm := condF hq hm
                        refine TL_want rfl rfl ?_
                        refine TL_pure rfl rfl rfl rfl (op_fieldAddr fa40_0 rfl rfl) ?_
                        refine TL_want rfl rfl ?_
                        refine TL_pure rfl rfl rfl rfl (op_load_one ag2 rfl rfl) ?_
                        refine TL_want rfl rfl ?_
                        refine TL_pure rfl rfl rfl rfl (op_eql rfl rfl) ?_
                        refine TL_want rfl rfl ?_
                        refine TL_pure rfl rfl rfl rfl (op_move rfl) ?_
                        refine TL_split 122 rfl rfl rfl (fun hq => ?_) (fun hq => ?_)
                        · replace hm := condT hq hm
                          refine TL_want rfl rfl ?_
                          refine TL_pure rfl rfl rfl rfl (op_move rfl) ?_
                          refine TL_want rfl rfl ?_
                          refine TL_pure rfl rfl rfl rfl (op_fieldAddr fa40_1 rfl rfl) ?_
                          refine TL_want rfl rfl ?_
                          refine TL_pure rfl rfl rfl rfl (op_load_one ag2 rfl rfl) ?_
                          refine TL_want rfl rfl ?_
                          obtain ⟨r126, hr126, hm⟩ := bindS hm
                          refine TL_callF (c_spec_l07Far j1 x39.Arg r126 hr126) Try.call141 rfl rfl rfl rfl rfl ?_
                          refine TL_want rfl rfl ?_
                          refine TL_pure rfl rfl rfl rfl (op_pick_true rfl rfl) ?_
                          refine TL_pure rfl rfl rfl rfl (op_pick_false rfl rfl) ?_
                          refine TL_pure rfl rfl rfl rfl (op_move rfl) ?_
                          refine TL_split 129 rfl rfl rfl (fun hq => ?_) (fun hq => ?_)
                          · replace hm := condT hq hm
                            refine TL_pass rfl rfl rfl rfl rfl rfl rfl ?_
                            refine TL_pass rfl rfl rfl rfl rfl rfl rfl ?_
                            refine TL_pass rfl rfl rfl rfl rfl rfl rfl ?_
                            refine TL_pass rfl rfl rfl rfl rfl rfl rfl ?_
                            refine TL_pass2 rfl rfl rfl rfl rfl rfl ?_
                            refine TL_pass2 rfl rfl rfl rfl rfl rfl ?_
                            refine TL_pass2 rfl rfl rfl rfl rfl rfl ?_
                            refine TL_pass rfl rfl rfl rfl rfl rfl rfl ?_
                            refine TL_pass rfl rfl rfl rfl rfl rfl rfl ?_
                            refine TL_pass2 rfl rfl rfl rfl rfl rfl ?_
                            refine TL_pass2 rfl rfl rfl rfl rfl rfl ?_
                            refine TL_pass2 rfl rfl rfl rfl rfl rfl ?_
                            refine TL_pass rfl rfl rfl rfl rfl rfl rfl ?_
                            refine TL_pure rfl rfl rfl rfl (op_pick_true rfl rfl) ?_
                            refine TL_nil ?_
                            refine T_cond_true rfl ?_
                            refine T_seq ?_
                            refine T_region ?_
                            refine TL_pure rfl rfl rfl rfl (op_load_agg ag35 sz35 rfl rfl rfl) ?_
                            refine TL_store_box sz35 rfl rfl rfl rfl rfl rfl rfl rfl rfl ?_
                            refine TL_pure rfl rfl rfl rfl (op_assign rfl) ?_
                            refine TL_nil ?_
                            refine T_keepH [4, 5] [11, 16, 17, 19] rfl rfl rfl rfl (by rw [hF]; rfl) ?_
                            refine T_ren [(11, 11), (16, 1000), (17, 1001), (19, 1002)] rfl rfl rfl (by rw [hF]; rfl) ?_
                            refine T_ret ?_
                            obtain rfl := someI hm
                            refine ⟨[_, _], [1000, 1001, 1002], ⟨⟨_, _, rfl, rfl, .inr ⟨ag35, _, _, sz35, rfl, rfl⟩⟩, rfl, trivial⟩, ?_, rfl, rfl, rfl, rfl⟩
                            rfl
                          · replace hm := condF hq hm
                            refine TL_want rfl rfl ?_
                            refine TL_pure rfl rfl rfl rfl (op_fieldAddr fa40_0 rfl rfl) ?_
                            refine TL_want rfl rfl ?_
                            refine TL_pure rfl rfl rfl rfl (op_load_one ag2 rfl rfl) ?_
                            refine TL_want rfl rfl ?_
                            refine TL_pure rfl rfl rfl rfl (op_eql rfl rfl) ?_
                            refine TL_want rfl rfl ?_
                            refine TL_pure rfl rfl rfl rfl (op_move rfl) ?_
                            refine TL_split 133 rfl rfl rfl (fun hq => ?_) (fun hq => ?_)
                            · replace hm := condT hq hm
                              refine TL_pass rfl rfl rfl rfl rfl rfl rfl ?_
                              refine TL_pass rfl rfl rfl rfl rfl rfl rfl ?_
                              refine TL_pass rfl rfl rfl rfl rfl rfl rfl ?_
                              refine TL_want rfl rfl ?_
                              refine TL_pure rfl rfl rfl rfl (op_pick_true rfl rfl) ?_
                              refine TL_want rfl rfl ?_
                              refine TL_pure rfl rfl rfl rfl (op_move rfl) ?_
                              refine TL_want rfl rfl ?_
                              refine TL_pure rfl rfl rfl rfl (op_move rfl) ?_
                              refine TL_want rfl rfl ?_
                              obtain ⟨r140, hr140, hm⟩ := bindS hm
                              refine TL_callF (c_spec_l03Int j1 r140 hr140) Try.call142 rfl rfl rfl rfl rfl ?_
                              refine TL_want rfl rfl ?_
                              refine TL_pure rfl rfl rfl rfl (op_not rfl) ?_
                              refine TL_want rfl rfl ?_
                              refine TL_pure rfl rfl rfl rfl (op_pick_true rfl rfl) ?_
                              refine TL_pure rfl rfl rfl rfl (op_pick_false rfl rfl) ?_
                              refine TL_nil ?_
                              refine T_cond rfl (fun hq => ?_) (fun hq => ?_)
                              · replace hm := condT hq hm
                                refine T_seq ?_
                                refine T_region ?_
                                refine TL_pure rfl rfl rfl rfl (op_load_agg ag35 sz35 rfl rfl rfl) ?_
                                refine TL_store_box sz35 rfl rfl rfl rfl rfl rfl rfl rfl rfl ?_
                                refine TL_pure rfl rfl rfl rfl (op_assign rfl) ?_
                                refine TL_nil ?_
                                refine T_keepH [4, 5] [11, 16, 17, 19] rfl rfl rfl rfl (by rw [hF]; rfl) ?_
                                refine T_ren [(11, 11), (16, 1000), (17, 1001), (19, 1002)] rfl rfl rfl (by rw [hF]; rfl) ?_
                                refine T_ret ?_
                                obtain rfl := someI hm
                                refine ⟨[_, _], [1000, 1001, 1002], ⟨⟨_, _, rfl, rfl, .inr ⟨ag35, _, _, sz35, rfl, rfl⟩⟩, rfl, trivial⟩, ?_, rfl, rfl, rfl, rfl⟩
                                rfl
                              · replace hm := condF hq hm
                                refine T_skip ?_
                                refine T_keepH [1, 4, 6, 7, 9, 10, 11] [11, 16, 17, 19, 21, 26] rfl rfl rfl rfl (by rw [hF]; rfl) ?_
                                exact hj4 () hm
                            · replace hm := condF hq hm
                              refine TL_want rfl rfl ?_
                              refine TL_pure rfl rfl rfl rfl (op_fieldAddr fa40_0 rfl rfl) ?_
                              refine TL_want rfl rfl ?_
                              refine TL_pure rfl rfl rfl rfl (op_load_one ag2 rfl rfl) ?_
                              refine TL_want rfl rfl ?_
                              refine TL_pure rfl rfl rfl rfl (op_eql rfl rfl) ?_
                              refine TL_want rfl rfl ?_
                              refine TL_pure rfl rfl rfl rfl (op_pick_false rfl rfl) ?_
                              refine TL_want rfl rfl ?_
                              refine TL_pure rfl rfl rfl rfl (op_move rfl) ?_
                              refine TL_split 138 rfl rfl rfl (fun hq => ?_) (fun hq => ?_)
                              · replace hm := condT hq hm
                                refine TL_want rfl rfl ?_
                                refine TL_pure rfl rfl rfl rfl (op_move rfl) ?_
                                refine TL_want rfl rfl ?_
                                obtain ⟨r140, hr140, hm⟩ := bindS hm
                                refine TL_callF (c_spec_l03Int j1 r140 hr140) Try.call142 rfl rfl rfl rfl rfl ?_
                                refine TL_want rfl rfl ?_
                                refine TL_pure rfl rfl rfl rfl (op_not rfl) ?_
                                refine TL_want rfl rfl ?_
                                refine TL_pure rfl rfl rfl rfl (op_pick_true rfl rfl) ?_
                                refine TL_pure rfl rfl rfl rfl (op_pick_false rfl rfl) ?_
                                refine TL_nil ?_
                                refine T_cond rfl (fun hq => ?_) (fun hq => ?_)
                                · replace hm := condT hq hm
                                  refine T_seq ?_
                                  refine T_region ?_
                                  refine TL_pure rfl rfl rfl rfl (op_load_agg ag35 sz35 rfl rfl rfl) ?_
                                  refine TL_store_box sz35 rfl rfl rfl rfl rfl rfl rfl rfl rfl ?_
                                  refine TL_pure rfl rfl rfl rfl (op_assign rfl) ?_
                                  refine TL_nil ?_
                                  refine T_keepH [4, 5] [11, 16, 17, 19] rfl rfl rfl rfl (by rw [hF]; rfl) ?_
                                  refine T_ren [(11, 11), (16, 1000), (17, 1001), (19, 1002)] rfl rfl rfl (by rw [hF]; rfl) ?_
                                  refine T_ret ?_
                                  obtain rfl := someI hm
                                  refine ⟨[_, _], [1000, 1001, 1002], ⟨⟨_, _, rfl, rfl, .inr ⟨ag35, _, _, sz35, rfl, rfl⟩⟩, rfl, trivial⟩, ?_, rfl, rfl, rfl, rfl⟩
                                  rfl
                                · replace hm := condF hq hm
                                  refine T_skip ?_
                                  refine T_keepH [1, 4, 6, 7, 9, 10, 11] [11, 16, 17, 19, 21, 26] rfl rfl rfl rfl (by rw [hF]; rfl) ?_
                                  exact hj4 () hm
                              · replace hm := condF hq hm
                                refine TL_pass rfl rfl rfl rfl rfl rfl rfl ?_
                                refine TL_pass rfl rfl rfl rfl rfl rfl rfl ?_
                                refine TL_pass rfl rfl rfl rfl rfl rfl rfl ?_
                                refine TL_want rfl rfl ?_
                                refine TL_pure rfl rfl rfl rfl (op_pick_false rfl rfl) ?_
                                refine TL_pure rfl rfl rfl rfl (op_pick_false rfl rfl) ?_
                                refine TL_nil ?_
                                refine T_cond_false rfl ?_
                                refine T_skip ?_
                                refine T_keepH [1, 4, 6, 7, 9, 10, 11] [11, 16, 17, 19, 21, 26] rfl rfl rfl rfl (by rw [hF]; rfl) ?_
                                exact hj4 () hm
                        · replace hm := condF hq hm
                          refine TL_pass rfl rfl rfl rfl rfl rfl rfl ?_
                          refine TL_pass rfl rfl rfl rfl rfl rfl rfl ?_
                          refine TL_pass rfl rfl rfl rfl rfl rfl rfl ?_
                          refine TL_pass rfl rfl rfl rfl rfl rfl rfl ?_
                          refine TL_want rfl rfl ?_
                          refine TL_pure rfl rfl rfl rfl (op_pick_false rfl rfl) ?_
                          refine TL_pure rfl rfl rfl rfl (op_pick_false rfl rfl) ?_
                          refine TL_pure rfl rfl rfl rfl (op_move rfl) ?_
                          refine TL_want rfl rfl ?_
                          refine TL_pure rfl rfl rfl rfl (op_fieldAddr fa40_0 rfl rfl) ?_
                          refine TL_want rfl rfl ?_
                          refine TL_pure rfl rfl rfl rfl (op_load_one ag2 rfl rfl) ?_
                          refine TL_want rfl rfl ?_
                          refine TL_pure rfl rfl rfl rfl (op_eql rfl rfl) ?_
                          refine TL_want rfl rfl ?_
                          refine TL_pure rfl rfl rfl rfl (op_move rfl) ?_
                          refine TL_split 133 rfl rfl rfl (fun hq => ?_) (fun hq => ?_)
                          · replace hm := condT hq hm
                            refine TL_pass rfl rfl rfl rfl rfl rfl rfl ?_
                            refine TL_pass rfl rfl rfl rfl rfl rfl rfl ?_
                            refine TL_pass rfl rfl rfl rfl rfl rfl rfl ?_
                            refine TL_want rfl rfl ?_
                            refine TL_pure rfl rfl rfl rfl (op_pick_true rfl rfl) ?_
                            refine TL_want rfl rfl ?_
                            refine TL_pure rfl rfl rfl rfl (op_move rfl) ?_
                            refine TL_want rfl rfl ?_
                            refine TL_pure rfl rfl rfl rfl (op_move rfl) ?_
                            refine TL_want rfl rfl ?_
                            obtain ⟨r140, hr140, hm⟩ := bindS hm
                            refine TL_callF (c_spec_l03Int j1 r140 hr140) Try.call142 rfl rfl rfl rfl rfl ?_
                            refine TL_want rfl rfl ?_
                            refine TL_pure rfl rfl rfl rfl (op_not rfl) ?_
                            refine TL_want rfl rfl ?_
                            refine TL_pure rfl rfl rfl rfl (op_pick_true rfl rfl) ?_
                            refine TL_pure rfl rfl rfl rfl (op_pick_false rfl rfl) ?_
                            refine TL_nil ?_
                            refine T_cond rfl (fun hq => ?_) (fun hq => ?_)
                            · replace hm := condT hq hm
                              refine T_seq ?_
                              refine T_region ?_
                              refine TL_pure rfl rfl rfl rfl (op_load_agg ag35 sz35 rfl rfl rfl) ?_
                              refine TL_store_box sz35 rfl rfl rfl rfl rfl rfl rfl rfl rfl ?_
                              refine TL_pure rfl rfl rfl rfl (op_assign rfl) ?_
                              refine TL_nil ?_
                              refine T_keepH [4, 5] [11, 16, 17, 19] rfl rfl rfl rfl (by rw [hF]; rfl) ?_
                              refine T_ren [(11, 11), (16, 1000), (17, 1001), (19, 1002)] rfl rfl rfl (by rw [hF]; rfl) ?_
                              refine T_ret ?_
                              obtain rfl := someI hm
                              refine ⟨[_, _], [1000, 1001, 1002], ⟨⟨_, _, rfl, rfl, .inr ⟨ag35, _, _, sz35, rfl, rfl⟩⟩, rfl, trivial⟩, ?_, rfl, rfl, rfl, rfl⟩
                              rfl
                            · replace hm := condF hq hm
                              refine T_skip ?_
                              refine T_keepH [1, 4, 6, 7, 9, 10, 11] [11, 16, 17, 19, 21, 26] rfl rfl rfl rfl (by rw [hF]; rfl) ?_
                              exact hj4 () hm
                          · replace hm := condF hq hm
                            refine TL_want rfl rfl ?_
                            refine TL_pure rfl rfl rfl rfl (op_fieldAddr fa40_0 rfl rfl) ?_
                            refine TL_want rfl rfl ?_
                            refine TL_pure rfl rfl rfl rfl (op_load_one ag2 rfl rfl) ?_
                            refine TL_want rfl rfl ?_
                            refine TL_pure rfl rfl rfl rfl (op_eql rfl rfl) ?_
                            refine TL_want rfl rfl ?_
                            refine TL_pure rfl rfl rfl rfl (op_pick_false rfl rfl) ?_
                            refine TL_want rfl rfl ?_
                            refine TL_pure rfl rfl rfl rfl (op_move rfl) ?_
                            refine TL_split 138 rfl rfl rfl (fun hq => ?_) (fun hq => ?_)
                            · replace hm := condT hq hm
                              refine TL_want rfl rfl ?_
                              refine TL_pure rfl rfl rfl rfl (op_move rfl) ?_
                              refine TL_want rfl rfl ?_
                              obtain ⟨r140, hr140, hm⟩ := bindS hm
                              refine TL_callF (c_spec_l03Int j1 r140 hr140) Try.call142 rfl rfl rfl rfl rfl ?_
                              refine TL_want rfl rfl ?_
                              refine TL_pure rfl rfl rfl rfl (op_not rfl) ?_
                              refine TL_want rfl rfl ?_
                              refine TL_pure rfl rfl rfl rfl (op_pick_true rfl rfl) ?_
                              refine TL_pure rfl rfl rfl rfl (op_pick_false rfl rfl) ?_
                              refine TL_nil ?_
                              refine T_cond rfl (fun hq => ?_) (fun hq => ?_)
                              · replace hm := condT hq hm
                                refine T_seq ?_
                                refine T_region ?_
                                refine TL_pure rfl rfl rfl rfl (op_load_agg ag35 sz35 rfl rfl rfl) ?_
                                refine TL_store_box sz35 rfl rfl rfl rfl rfl rfl rfl rfl rfl ?_
                                refine TL_pure rfl rfl rfl rfl (op_assign rfl) ?_
                                refine TL_nil ?_
                                refine T_keepH [4, 5] [11, 16, 17, 19] rfl rfl rfl rfl (by rw [hF]; rfl) ?_
                                refine T_ren [(11, 11), (16, 1000), (17, 1001), (19, 1002)] rfl rfl rfl (by rw [hF]; rfl) ?_
                                refine T_ret ?_
                                obtain rfl := someI hm
                                refine ⟨[_, _], [1000, 1001, 1002], ⟨⟨_, _, rfl, rfl, .inr ⟨ag35, _, _, sz35, rfl, rfl⟩⟩, rfl, trivial⟩, ?_, rfl, rfl, rfl, rfl⟩
                                rfl
                              · replace hm := condF hq hm
                                refine T_skip ?_
                                refine T_keepH [1, 4, 6, 7, 9, 10, 11] [11, 16, 17, 19, 21, 26] rfl rfl rfl rfl (by rw [hF]; rfl) ?_
                                exact hj4 () hm
                            · replace hm := condF hq hm
                              refine TL_pass rfl rfl rfl rfl rfl rfl rfl ?_
                              refine TL_pass rfl rfl rfl rfl rfl rfl rfl ?_
                              refine TL_pass rfl rfl rfl rfl rfl rfl rfl ?_
                              refine TL_want rfl rfl ?_
                              refine TL_pure rfl rfl rfl rfl (op_pick_false rfl rfl) ?_
                              refine TL_pure rfl rfl rfl rfl (op_pick_false rfl rfl) ?_
                              refine TL_nil ?_
                              refine T_cond_false rfl ?_
                              refine T_skip ?_
                              refine T_keepH [1, 4, 6, 7, 9, 10, 11] [11, 16, 17, 19, 21, 26] rfl rfl rfl rfl (by rw [hF]; rfl) ?_
                              exact hj4 () hm
                    · replace hm := condF hq hm
                      refine TL_pass rfl rfl rfl rfl rfl rfl rfl ?_
                      refine TL_pass rfl rfl rfl rfl rfl rfl rfl ?_
                      refine TL_pass rfl rfl rfl rfl rfl rfl rfl ?_
                      refine TL_pass rfl rfl rfl rfl rfl rfl rfl ?_
                      refine TL_pass rfl rfl rfl rfl rfl rfl rfl ?_
                      refine TL_pure rfl rfl rfl rfl (op_pick_false rfl rfl) ?_
                      refine TL_pure rfl rfl rfl rfl (op_move rfl) ?_
                      refine TL_want rfl rfl ?_
                      refine TL_pure rfl rfl rfl rfl (op_fieldAddr fa40_0 rfl rfl) ?_
                      refine TL_want rfl rfl ?_
                      refine TL_pure rfl rfl rfl rfl (op_load_one ag2 rfl rfl) ?_
                      refine TL_want rfl rfl ?_
                      refine TL_pure rfl rfl rfl rfl (op_eql rfl rfl) ?_
                      refine TL_want rfl rfl ?_
                      refine TL_pure rfl rfl rfl rfl (op_move rfl) ?_
                      refine TL_split 122 rfl rfl rfl (fun hq => ?_) (fun hq => ?_)
                      · replace hm := condT hq hm
                        refine TL_want rfl rfl ?_
                        refine TL_pure rfl rfl rfl rfl (op_move rfl) ?_
                        refine TL_want rfl rfl ?_
                        refine TL_pure rfl rfl rfl rfl (op_fieldAddr fa40_1 rfl rfl) ?_
                        refine TL_want rfl rfl ?_
                        refine TL_pure rfl rfl rfl rfl (op_load_one ag2 rfl rfl) ?_
                        refine TL_want rfl rfl ?_
                        obtain ⟨r126, hr126, hm⟩ := bindS hm
                        refine TL_callF (c_spec_l07Far j1 x39.Arg r126 hr126) Try.call141 rfl rfl rfl rfl rfl ?_
                        refine TL_want rfl rfl ?_
                        refine TL_pure rfl rfl rfl rfl (op_pick_true rfl rfl) ?_
                        refine TL_pure rfl rfl rfl rfl (op_pick_false rfl rfl) ?_
                        refine TL_pure rfl rfl rfl rfl (op_move rfl) ?_
                        refine TL_split 129 rfl rfl rfl (fun hq => ?_) (fun hq => ?_)
                        · replace hm := condT hq hm
                          refine TL_pass rfl rfl rfl rfl rfl rfl rfl ?_
                          refine TL_pass rfl rfl rfl rfl rfl rfl rfl ?_
                          refine TL_pass rfl rfl rfl rfl rfl rfl rfl ?_
                          refine TL_pass rfl rfl rfl rfl rfl rfl rfl ?_
                          refine TL_pass2 rfl rfl rfl rfl rfl rfl ?_
                          refine TL_pass2 rfl rfl rfl rfl rfl rfl ?_
                          refine TL_pass2 rfl rfl rfl rfl rfl rfl ?_
                          refine TL_pass rfl rfl rfl rfl rfl rfl rfl ?_
                          refine TL_pass rfl rfl rfl rfl rfl rfl rfl ?_
                          refine TL_pass2 rfl rfl rfl rfl rfl rfl ?_
                          refine TL_pass2 rfl rfl rfl rfl rfl rfl ?_
                          refine TL_pass2 rfl rfl rfl rfl rfl rfl ?_
                          refine TL_pass rfl rfl rfl rfl rfl rfl rfl ?_
                          refine TL_pure rfl rfl rfl rfl (op_pick_true rfl rfl) ?_
                          refine TL_nil ?_
                          refine T_cond_true rfl ?_
                          refine T_seq ?_
                          refine T_region ?_
                          refine TL_pure rfl rfl rfl rfl (op_load_agg ag35 sz35 rfl rfl rfl) ?_
                          refine TL_store_box sz35 rfl rfl rfl rfl rfl rfl rfl rfl rfl ?_
                          refine TL_pure rfl rfl rfl rfl (op_assign rfl) ?_
                          refine TL_nil ?_
                          refine T_keepH [4, 5] [11, 16, 17, 19] rfl rfl rfl rfl (by rw [hF]; rfl) ?_
                          refine T_ren [(11, 11), (16, 1000), (17, 1001), (19, 1002)] rfl rfl rfl (by rw [hF]; rfl) ?_
                          refine T_ret ?_
                          obtain rfl := someI hm
                          refine ⟨[_, _], [1000, 1001, 1002], ⟨⟨_, _, rfl, rfl, .inr ⟨ag35, _, _, sz35, rfl, rfl⟩⟩, rfl, trivial⟩, ?_, rfl, rfl, rfl, rfl⟩
                          rfl
                        · replace hm := condF hq hm
                          refine TL_want rfl rfl ?_
                          refine TL_pure rfl rfl rfl rfl (op_fieldAddr fa40_0 rfl rfl) ?_
                          refine TL_want rfl rfl ?_
                          refine TL_pure rfl rfl rfl rfl (op_load_one ag2 rfl rfl) ?_
                          refine TL_want rfl rfl ?_
                          refine TL_pure rfl rfl rfl rfl (op_eql rfl rfl) ?_
                          refine TL_want rfl rfl ?_
                          refine TL_pure rfl rfl rfl rfl (op_move rfl) ?_
                          refine TL_split 133 rfl rfl rfl (fun hq => ?_) (fun hq => ?_)
                          · replace hm := condT hq hm
                            refine TL_pass rfl rfl rfl rfl rfl rfl rfl ?_
                            refine TL_pass rfl rfl rfl rfl rfl rfl rfl ?_
                            refine TL_pass rfl rfl rfl rfl rfl rfl rfl ?_
                            refine TL_want rfl rfl ?_
                            refine TL_pure rfl rfl rfl rfl (op_pick_true rfl rfl) ?_
                            refine TL_want rfl rfl ?_
                            refine TL_pure rfl rfl rfl rfl (op_move rfl) ?_
                            refine TL_want rfl rfl ?_
                            refine TL_pure rfl rfl rfl rfl (op_move rfl) ?_
                            refine TL_want rfl rfl ?_
                            obtain ⟨r140, hr140, hm⟩ := bindS hm
                            refine TL_callF (c_spec_l03Int j1 r140 hr140) Try.call142 rfl rfl rfl rfl rfl ?_
                            refine TL_want rfl rfl ?_
                            refine TL_pure rfl rfl rfl rfl (op_not rfl) ?_
                            refine TL_want rfl rfl ?_
                            refine TL_pure rfl rfl rfl rfl (op_pick_true rfl rfl) ?_
                            refine TL_pure rfl rfl rfl rfl (op_pick_false rfl rfl) ?_
                            refine TL_nil ?_
                            refine T_cond rfl (fun hq => ?_) (fun hq => ?_)
                            · replace hm := condT hq hm
                              refine T_seq ?_
                              refine T_region ?_
                              refine TL_pure rfl rfl rfl rfl (op_load_agg ag35 sz35 rfl rfl rfl) ?_
                              refine TL_store_box sz35 rfl rfl rfl rfl rfl rfl rfl rfl rfl ?_
                              refine TL_pure rfl rfl rfl rfl (op_assign rfl) ?_
                              refine TL_nil ?_
                              refine T_keepH [4, 5] [11, 16, 17, 19] rfl rfl rfl rfl (by rw [hF]; rfl) ?_
                              refine T_ren [(11, 11), (16, 1000), (17, 1001), (19, 1002)] rfl rfl rfl (by rw [hF]; rfl) ?_
                              refine T_ret ?_
                              obtain rfl := someI hm
                              refine ⟨[_, _], [1000, 1001, 1002], ⟨⟨_, _, rfl, rfl, .inr ⟨ag35, _, _, sz35, rfl, rfl⟩⟩, rfl, trivial⟩, ?_, rfl, rfl, rfl, rfl⟩
                              rfl
                            · replace hm := condF hq hm
                              refine T_skip ?_
                              refine T_keepH [1, 4, 6, 7, 9, 10, 11] [11, 16, 17, 19, 21, 26] rfl rfl rfl rfl (by rw [hF]; rfl) ?_
                              exact hj4 () hm
                          · replace hm := condF hq hm
                            refine TL_want rfl rfl ?_
                            refine TL_pure rfl rfl rfl rfl (op_fieldAddr fa40_0 rfl rfl) ?_
                            refine TL_want rfl rfl ?_
                            refine TL_pure rfl rfl rfl rfl (op_load_one ag2 rfl rfl) ?_
                            refine TL_want rfl rfl ?_
                            refine TL_pure rfl rfl rfl rfl (op_eql rfl rfl) ?_
                            refine TL_want rfl rfl ?_
                            refine TL_pure rfl rfl rfl rfl (op_pick_false rfl rfl) ?_
                            refine TL_want rfl rfl ?_
                            refine TL_pure rfl rfl rfl rfl (op_move rfl) ?_
                            refine TL_split 138 rfl rfl rfl (fun hq => ?_) (fun hq => ?_)
                            · replace hm := condT hq hm
                              refine TL_want rfl rfl ?_
                              refine TL_pure rfl rfl rfl rfl (op_move rfl) ?_
                              refine TL_want rfl rfl ?_
                              obtain ⟨r140, hr140, hm⟩ := bindS hm
                              refine TL_callF (c_spec_l03Int j1 r140 hr140) Try.call142 rfl rfl rfl rfl rfl ?_
                              refine TL_want rfl rfl ?_
                              refine TL_pure rfl rfl rfl rfl (op_not rfl) ?_
                              refine TL_want rfl rfl ?_
                              refine TL_pure rfl rfl rfl rfl (op_pick_true rfl rfl) ?_
                              refine TL_pure rfl rfl rfl rfl (op_pick_false rfl rfl) ?_
                              refine TL_nil ?_
                              refine T_cond rfl (fun hq => ?_) (fun hq => ?_)
                              · replace hm := condT hq hm
                                refine T_seq ?_
                                refine T_region ?_
                                refine TL_pure rfl rfl rfl rfl (op_load_agg ag35 sz35 rfl rfl rfl) ?_
                                refine TL_store_box sz35 rfl rfl rfl rfl rfl rfl rfl rfl rfl ?_
                                refine TL_pure rfl rfl rfl rfl (op_assign rfl) ?_
                                refine TL_nil ?_
                                refine T_keepH [4, 5] [11, 16, 17, 19] rfl rfl rfl rfl (by rw [hF]; rfl) ?_
                                refine T_ren [(11, 11), (16, 1000), (17, 1001), (19, 1002)] rfl rfl rfl (by rw [hF]; rfl) ?_
                                refine T_ret ?_
                                obtain rfl := someI hm
                                refine ⟨[_, _], [1000, 1001, 1002], ⟨⟨_, _, rfl, rfl, .inr ⟨ag35, _, _, sz35, rfl, rfl⟩⟩, rfl, trivial⟩, ?_, rfl, rfl, rfl, rfl⟩
                                rfl
                              · replace hm := condF hq hm
                                refine T_skip ?_
                                refine T_keepH [1, 4, 6, 7, 9, 10, 11] [11, 16, 17, 19, 21, 26] rfl rfl rfl rfl (by rw [hF]; rfl) ?_
                                exact hj4 () hm
                            · replace hm := condF hq hm
                              refine TL_pass rfl rfl rfl rfl rfl rfl rfl ?_
                              refine TL_pass rfl rfl rfl rfl rfl rfl rfl ?_
                              refine TL_pass rfl rfl rfl rfl rfl rfl rfl ?_
                              refine TL_want rfl rfl ?_
                              refine TL_pure rfl rfl rfl rfl (op_pick_false rfl rfl) ?_
                              refine TL_pure rfl rfl rfl rfl (op_pick_false rfl rfl) ?_
                              refine TL_nil ?_
                              refine T_cond_false rfl ?_
                              refine T_skip ?_
                              refine T_keepH [1, 4, 6, 7, 9, 10, 11] [11, 16, 17, 19, 21, 26] rfl rfl rfl rfl (by rw [hF]; rfl) ?_
                              exact hj4 () hm
                      · replace hm := condF hq hm
                        refine TL_pass rfl rfl rfl rfl rfl rfl rfl ?_
                        refine TL_pass rfl rfl rfl rfl rfl rfl rfl ?_
                        refine TL_pass rfl rfl rfl rfl rfl rfl rfl ?_
                        refine TL_pass rfl rfl rfl rfl rfl rfl rfl ?_
                        refine TL_want rfl rfl ?_
                        refine TL_pure rfl rfl rfl rfl (op_pick_false rfl rfl) ?_
                        refine TL_pure rfl rfl rfl rfl (op_pick_false rfl rfl) ?_
                        refine TL_pure rfl rfl rfl rfl (op_move rfl) ?_
                        refine TL_want rfl rfl ?_
                        refine TL_pure rfl rfl rfl rfl (op_fieldAddr fa40_0 rfl rfl) ?_
                        refine TL_want rfl rfl ?_
                        refine TL_pure rfl rfl rfl rfl (op_load_one ag2 rfl rfl) ?_
                        refine TL_want rfl rfl ?_
                        refine TL_pure rfl rfl rfl rfl (op_eql rfl rfl) ?_
                        refine TL_want rfl rfl ?_
                        refine TL_pure rfl rfl rfl rfl (op_move rfl) ?_
                        refine TL_split 133 rfl rfl rfl (fun hq => ?_) (fun hq => ?_)
                        · replace hm := condT hq hm
                          refine TL_pass rfl rfl rfl rfl rfl rfl rfl ?_
                          refine TL_pass rfl rfl rfl rfl rfl rfl rfl ?_
                          refine TL_pass rfl rfl rfl rfl rfl rfl rfl ?_
                          refine TL_want rfl rfl ?_
                          refine TL_pure rfl rfl rfl rfl (op_pick_true rfl rfl) ?_
                          refine TL_want rfl rfl ?_
                          refine TL_pure rfl rfl rfl rfl (op_move rfl) ?_
                          refine TL_want rfl rfl ?_
                          refine TL_pure rfl rfl rfl rfl (op_move rfl) ?_
                          refine TL_want rfl rfl ?_
                          obtain ⟨r140, hr140, hm⟩ := bindS hm
                          refine TL_callF (c_spec_l03Int j1 r140 hr140) Try.call142 rfl rfl rfl rfl rfl ?_
                          refine TL_want rfl rfl ?_
                          refine TL_pure rfl rfl rfl rfl (op_not rfl) ?_
                          refine TL_want rfl rfl ?_
                          refine TL_pure rfl rfl rfl rfl (op_pick_true rfl rfl) ?_
                          refine TL_pure rfl rfl rfl rfl (op_pick_false rfl rfl) ?_
                          refine TL_nil ?_
                          refine T_cond rfl (fun hq => ?_) (fun hq => ?_)
                          · replace hm := condT hq hm
                            refine T_seq ?_
                            refine T_region ?_
                            refine TL_pure rfl rfl rfl rfl (op_load_agg ag35 sz35 rfl rfl rfl) ?_
                            refine TL_store_box sz35 rfl rfl rfl rfl rfl rfl rfl rfl rfl ?_
                            refine TL_pure rfl rfl rfl rfl (op_assign rfl) ?_
                            refine TL_nil ?_
                            refine T_keepH [4, 5] [11, 16, 17, 19] rfl rfl rfl rfl (by rw [hF]; rfl) ?_
                            refine T_ren [(11, 11), (16, 1000), (17, 1001), (19, 1002)] rfl rfl rfl (by rw [hF]; rfl) ?_
                            refine T_ret ?_
                            obtain rfl := someI hm
                            refine ⟨[_, _], [1000, 1001, 1002], ⟨⟨_, _, rfl, rfl, .inr ⟨ag35, _, _, sz35, rfl, rfl⟩⟩, rfl, trivial⟩, ?_, rfl, rfl, rfl, rfl⟩
                            rfl
                          · replace hm := condF hq hm
                            refine T_skip ?_
                            refine T_keepH [1, 4, 6, 7, 9, 10, 11] [11, 16, 17, 19, 21, 26] rfl rfl rfl rfl (by rw [hF]; rfl) ?_
                            exact hj4 () hm
                        · replace hm := condF hq hm
                          refine TL_want rfl rfl ?_
                          refine TL_pure rfl rfl rfl rfl (op_fieldAddr fa40_0 rfl rfl) ?_
                          refine TL_want rfl rfl ?_
                          refine TL_pure rfl rfl rfl rfl (op_load_one ag2 rfl rfl) ?_
                          refine TL_want rfl rfl ?_
                          refine TL_pure rfl rfl rfl rfl (op_eql rfl rfl) ?_
                          refine TL_want rfl rfl ?_
                          refine TL_pure rfl rfl rfl rfl (op_pick_false rfl rfl) ?_
                          refine TL_want rfl rfl ?_
                          refine TL_pure rfl rfl rfl rfl (op_move rfl) ?_
                          refine TL_split 138 rfl rfl rfl (fun hq => ?_) (fun hq => ?_)
                          · replace hm := condT hq hm
                            refine TL_want rfl rfl ?_
                            refine TL_pure rfl rfl rfl rfl (op_move rfl) ?_
                            refine TL_want rfl rfl ?_
                            obtain ⟨r140, hr140, hm⟩ := bindS hm
                            refine TL_callF (c_spec_l03Int j1 r140 hr140) Try.call142 rfl rfl rfl rfl rfl ?_
                            refine TL_want rfl rfl ?_
                            refine TL_pure rfl rfl rfl rfl (op_not rfl) ?_
                            refine TL_want rfl rfl ?_
                            refine TL_pure rfl rfl rfl rfl (op_pick_true rfl rfl) ?_
                            refine TL_pure rfl rfl rfl rfl (op_pick_false rfl rfl) ?_
                            refine TL_nil ?_
                            refine T_cond rfl (fun hq => ?_) (fun hq => ?_)
                            · replace hm := condT hq hm
                              refine T_seq ?_
                              refine T_region ?_
                              refine TL_pure rfl rfl rfl rfl (op_load_agg ag35 sz35 rfl rfl rfl) ?_
                              refine TL_store_box sz35 rfl rfl rfl rfl rfl rfl rfl rfl rfl ?_
                              refine TL_pure rfl rfl rfl rfl (op_assign rfl) ?_
                              refine TL_nil ?_
                              refine T_keepH [4, 5] [11, 16, 17, 19] rfl rfl rfl rfl (by rw [hF]; rfl) ?_
                              refine T_ren [(11, 11), (16, 1000), (17, 1001), (19, 1002)] rfl rfl rfl (by rw [hF]; rfl) ?_
                              refine T_ret ?_
                              obtain rfl := someI hm
                              refine ⟨[_, _], [1000, 1001, 1002], ⟨⟨_, _, rfl, rfl, .inr ⟨ag35, _, _, sz35, rfl, rfl⟩⟩, rfl, trivial⟩, ?_, rfl, rfl, rfl, rfl⟩
                              rfl
                            · replace hm := condF hq hm
                              refine T_skip ?_
                              refine T_keepH [1, 4, 6, 7, 9, 10, 11] [11, 16, 17, 19, 21, 26] rfl rfl rfl rfl (by rw [hF]; rfl) ?_
                              exact hj4 () hm
                          · replace hm := condF hq hm
                            refine TL_pass rfl rfl rfl rfl rfl rfl rfl ?_
                            refine TL_pass rfl rfl rfl rfl rfl rfl rfl ?_
                            refine TL_pass rfl rfl rfl rfl rfl rfl rfl ?_
                            refine TL_want rfl rfl ?_
                            refine TL_pure rfl rfl rfl rfl (op_pick_false rfl rfl) ?_
                            refine TL_pure rfl rfl rfl rfl (op_pick_false rfl rfl) ?_
                            refine TL_nil ?_
                            refine T_cond_false rfl ?_
                            refine T_skip ?_
                            refine T_keepH [1, 4, 6, 7, 9, 10, 11] [11, 16, 17, 19, 21, 26] rfl rfl rfl rfl (by rw [hF]; rfl) ?_
                            exact hj4 () hm
                · refine T_seq ?_
                  refine T_region ?_
                  refine TL_pure rfl rfl rfl rfl (op_fieldAddr fa40_0 rfl rfl) ?_
                  refine TL_pure rfl rfl rfl rfl (op_load_one ag2 rfl rfl) ?_
                  refine TL_pure rfl rfl rfl rfl (op_eql rfl rfl) ?_
                  refine TL_pure rfl rfl rfl rfl (op_move rfl) ?_
                  refine TL_split 92 rfl rfl rfl (fun hq => ?_) (fun hq => ?_)
                  · replace hm := condT hq hm
                    refine TL_want rfl rfl ?_
                    refine TL_pure rfl rfl rfl rfl (op_move rfl) ?_
                    refine TL_want rfl rfl ?_
                    obtain ⟨r94, hr94, hm⟩ := bindS hm
                    refine TL_callF (c_spec_l03Cell j1 r94 hr94) Try.call140 rfl rfl rfl rfl rfl ?_
                    refine TL_want rfl rfl ?_
                    refine TL_pure rfl rfl rfl rfl (op_not rfl) ?_
                    refine TL_pure rfl rfl rfl rfl (op_pick_true rfl rfl) ?_
                    refine TL_pure rfl rfl rfl rfl (op_move rfl) ?_
                    refine TL_split 97 rfl rfl rfl (fun hq => ?_) (fun hq => ?_)
                    · replace hm := condT hq hm
                      refine TL_pass rfl rfl rfl rfl rfl rfl rfl ?_
                      refine TL_pass rfl rfl rfl rfl rfl rfl rfl ?_
                      refine TL_pass rfl rfl rfl rfl rfl rfl rfl ?_
                      refine TL_pass rfl rfl rfl rfl rfl rfl rfl ?_
                      refine TL_pass2 rfl rfl rfl rfl rfl rfl ?_
                      refine TL_pass2 rfl rfl rfl rfl rfl rfl ?_
                      refine TL_pass2 rfl rfl rfl rfl rfl rfl ?_
                      refine TL_pass rfl rfl rfl rfl rfl rfl rfl ?_
                      refine TL_pure rfl rfl rfl rfl (op_pick_true rfl rfl) ?_
                      refine TL_nil ?_
                      refine T_cond_true rfl ?_
                      refine T_seq ?_
                      refine T_region ?_
                      refine TL_pure rfl rfl rfl rfl (op_load_agg ag35 sz35 rfl rfl rfl) ?_
                      refine TL_store_box sz35 rfl rfl rfl rfl rfl rfl rfl rfl rfl ?_
                      refine TL_pure rfl rfl rfl rfl (op_assign rfl) ?_
                      refine TL_nil ?_
                      refine T_keepH [4, 5] [11, 16, 17, 19] rfl rfl rfl rfl (by rw [hF]; rfl) ?_
                      refine T_ren [(11, 11), (16, 1000), (17, 1001), (19, 1002)] rfl rfl rfl (by rw [hF]; rfl) ?_
                      refine T_ret ?_
                      obtain rfl := someI hm
                      refine ⟨[_, _], [1000, 1001, 1002], ⟨⟨_, _, rfl, rfl, .inr ⟨ag35, _, _, sz35, rfl, rfl⟩⟩, rfl, trivial⟩, ?_, rfl, rfl, rfl, rfl⟩
                      rfl
                    · replace hm := condF hq hm
                      refine TL_want rfl rfl ?_
                      refine TL_pure rfl rfl rfl rfl (op_fieldAddr fa40_0 rfl rfl) ?_
                      refine TL_want rfl rfl ?_
                      refine TL_pure rfl rfl rfl rfl (op_load_one ag2 rfl rfl) ?_
                      refine TL_want rfl rfl ?_
                      refine TL_pure rfl rfl rfl rfl (op_eql rfl rfl) ?_
                      refine TL_want rfl rfl ?_
                      refine TL_pure rfl rfl rfl rfl (op_move rfl) ?_
                      refine TL_split 101 rfl rfl rfl (fun hq => ?_) (fun hq => ?_)
                      · replace hm := condT hq hm
                        refine TL_want rfl rfl ?_
                        refine TL_pure rfl rfl rfl rfl (op_move rfl) ?_
                        refine TL_want rfl rfl ?_
                        obtain ⟨r103, hr103, hm⟩ := bindS hm
                        refine TL_callF (c_spec_l03Cell j2 r103 hr103) Try.call140 rfl rfl rfl rfl rfl ?_
                        refine TL_want rfl rfl ?_
                        refine TL_pure rfl rfl rfl rfl (op_not rfl) ?_
                        refine TL_want rfl rfl ?_
                        refine TL_pure rfl rfl rfl rfl (op_pick_true rfl rfl) ?_
                        refine TL_pure rfl rfl rfl rfl (op_pick_false rfl rfl) ?_
                        refine TL_nil ?_
                        refine T_cond rfl (fun hq => ?_) (fun hq => ?_)
                        · replace hm := condT hq hm
                          refine T_seq ?_
                          refine T_region ?_
                          refine TL_pure rfl rfl rfl rfl (op_load_agg ag35 sz35 rfl rfl rfl) ?_
                          refine TL_store_box sz35 rfl rfl rfl rfl rfl rfl rfl rfl rfl ?_
                          refine TL_pure rfl rfl rfl rfl (op_assign rfl) ?_
                          refine TL_nil ?_
                          refine T_keepH [4, 5] [11, 16, 17, 19] rfl rfl rfl rfl (by rw [hF]; rfl) ?_
                          refine T_ren [(11, 11), (16, 1000), (17, 1001), (19, 1002)] rfl rfl rfl (by rw [hF]; rfl) ?_
                          refine T_ret ?_
                          obtain rfl := someI hm
                          refine ⟨[_, _], [1000, 1001, 1002], ⟨⟨_, _, rfl, rfl, .inr ⟨ag35, _, _, sz35, rfl, rfl⟩⟩, rfl, trivial⟩, ?_, rfl, rfl, rfl, rfl⟩
                          rfl
                        · replace hm := condF hq hm
                          refine T_skip ?_
                          refine T_keepH [1, 4, 6, 7, 9, 10, 11] [11, 16, 17, 19, 21, 26] rfl rfl rfl rfl (by rw [hF]; rfl) ?_
                          exact hj3 () hm
                      · replace hm := condF hq hm
                        refine TL_pass rfl rfl rfl rfl rfl rfl rfl ?_
                        refine TL_pass rfl rfl rfl rfl rfl rfl rfl ?_
                        refine TL_pass rfl rfl rfl rfl rfl rfl rfl ?_
                        refine TL_want rfl rfl ?_
                        refine TL_pure rfl rfl rfl rfl (op_pick_false rfl rfl) ?_
                        refine TL_pure rfl rfl rfl rfl (op_pick_false rfl rfl) ?_
                        refine TL_nil ?_
                        refine T_cond_false rfl ?_
                        refine T_skip ?_
                        refine T_keepH [1, 4, 6, 7, 9, 10, 11] [11, 16, 17, 19, 21, 26] rfl rfl rfl rfl (by rw [hF]; rfl) ?_
                        exact hj3 () hm
                  · replace hm := condF hq hm
                    refine TL_pass rfl rfl rfl rfl rfl rfl rfl ?_
                    refine TL_pass rfl rfl rfl rfl rfl rfl rfl ?_
                    refine TL_pass rfl rfl rfl rfl rfl rfl rfl ?_
                    refine TL_pure rfl rfl rfl rfl (op_pick_false rfl rfl) ?_
                    refine TL_pure rfl rfl rfl rfl (op_move rfl) ?_
                    refine TL_want rfl rfl ?_
                    refine TL_pure rfl rfl rfl rfl (op_fieldAddr fa40_0 rfl rfl) ?_
                    refine TL_want rfl rfl ?_
                    refine TL_pure rfl rfl rfl rfl (op_load_one ag2 rfl rfl) ?_
                    refine TL_want rfl rfl ?_
                    refine TL_pure rfl rfl rfl rfl (op_eql rfl rfl) ?_
                    refine TL_want rfl rfl ?_
                    refine TL_pure rfl rfl rfl rfl (op_move rfl) ?_
                    refine TL_split 101 rfl rfl rfl (fun hq => ?_) (fun hq => ?_)
                    · replace hm := condT hq hm
                      refine TL_want rfl rfl ?_
                      refine TL_pure rfl rfl rfl rfl (op_move rfl) ?_
                      refine TL_want rfl rfl ?_
                      obtain ⟨r103, hr103, hm⟩ := bindS hm
                      refine TL_callF (c_spec_l03Cell j2 r103 hr103) Try.call140 rfl rfl rfl rfl rfl ?_
                      refine TL_want rfl rfl ?_
                      refine TL_pure rfl rfl rfl rfl (op_not rfl) ?_
                      refine TL_want rfl rfl ?_
                      refine TL_pure rfl rfl rfl rfl (op_pick_true rfl rfl) ?_
                      refine TL_pure rfl rfl rfl rfl (op_pick_false rfl rfl) ?_
                      refine TL_nil ?_
                      refine T_cond rfl (fun hq => ?_) (fun hq => ?_)
                      · replace hm := condT hq hm
                        refine T_seq ?_
                        refine T_region ?_
                        refine TL_pure rfl rfl rfl rfl (op_load_agg ag35 sz35 rfl rfl rfl) ?_
                        refine TL_store_box sz35 rfl rfl rfl rfl rfl rfl rfl rfl rfl ?_
                        refine TL_pure rfl rfl rfl rfl (op_assign rfl) ?_
                        refine TL_nil ?_
                        refine T_keepH [4, 5] [11, 16, 17, 19] rfl rfl rfl rfl (by rw [hF]; rfl) ?_
                        refine T_ren [(11, 11), (16, 1000), (17, 1001), (19, 1002)] rfl rfl rfl (by rw [hF]; rfl) ?_
                        refine T_ret ?_
                        obtain rfl := someI hm
                        refine ⟨[_, _], [1000, 1001, 1002], ⟨⟨_, _, rfl, rfl, .inr ⟨ag35, _, _, sz35, rfl, rfl⟩⟩, rfl, trivial⟩, ?_, rfl, rfl, rfl, rfl⟩
                        rfl
                      · replace hm := condF hq hm
                        refine T_skip ?_
                        refine T_keepH [1, 4, 6, 7, 9, 10, 11] [11, 16, 17, 19, 21, 26] rfl rfl rfl rfl (by rw [hF]; rfl) ?_
                        exact hj3 () hm
                    · replace hm := condF hq hm
                      refine TL_pass rfl rfl rfl rfl rfl rfl rfl ?_
                      refine TL_pass rfl rfl rfl rfl rfl rfl rfl ?_
                      refine TL_pass rfl rfl rfl rfl rfl rfl rfl ?_
                      refine TL_want rfl rfl ?_
                      refine TL_pure rfl rfl rfl rfl (op_pick_false rfl rfl) ?_
                      refine TL_pure rfl rfl rfl rfl (op_pick_false rfl rfl) ?_
                      refine TL_nil ?_
                      refine T_cond_false rfl ?_
                      refine T_skip ?_
                      refine T_keepH [1, 4, 6, 7, 9, 10, 11] [11, 16, 17, 19, 21, 26] rfl rfl rfl rfl (by rw [hF]; rfl) ?_
                      exact hj3 () hm
              · refine T_seq ?_
                refine T_region ?_
                refine TL_pure rfl rfl rfl rfl (op_move rfl) ?_
                refine TL_pure rfl rfl rfl rfl (op_gtr rfl rfl) ?_
                refine TL_nil ?_
                refine T_cond rfl (fun hq => ?_) (fun hq => ?_)
                · replace hm := condT hq hm
                  refine T_region ?_
                  refine TL_pure rfl rfl rfl rfl (op_move rfl) ?_
                  refine TL_pure rfl rfl rfl rfl (op_nilCheck rfl rfl) ?_
                  refine TL_pure rfl rfl rfl rfl (op_fieldAddrC (n := 1) fa35_1 rfl rfl rfl) ?_
                  refine TL_pure rfl rfl rfl rfl (op_load_one ag26 rfl rfl) ?_
                  refine TL_pure rfl rfl rfl rfl (op_move rfl) ?_
                  obtain ⟨x87, hx87, hm⟩ := bindS hm
                  refine TL_pure rfl rfl rfl rfl (op_indexT el26 rfl rfl hx87 rfl) ?_
                  refine TL_pure rfl rfl rfl rfl (op_load_one ag2 rfl rfl) ?_
                  refine TL_pure rfl rfl rfl rfl (op_assign rfl) ?_
                  refine TL_nil ?_
                  refine T_keepH [1, 4, 6, 7, 9, 10, 11] [11, 16, 17, 19, 21, 26] rfl rfl rfl rfl (by rw [hF]; rfl) ?_
                  exact hj2 x87 hm
                · replace hm := condF hq hm
                  refine T_skip ?_
                  refine T_keepH [1, 4, 6, 7, 9, 10, 11] [11, 16, 17, 19, 21, 26] rfl rfl rfl rfl (by rw [hF]; rfl) ?_
                  exact hj2 (0 : Int) hm
            · refine T_seq ?_
              refine T_region ?_
              refine TL_pure rfl rfl rfl rfl (op_move rfl) ?_
              refine TL_pure rfl rfl rfl rfl (op_gtr rfl rfl) ?_
              refine TL_nil ?_
              refine T_cond rfl (fun hq => ?_) (fun hq => ?_)
              · replace hm := condT hq hm
                refine T_drawZ [] mix (by kernel_rfl) rfl ?_
                obtain ⟨x78, hx78, hm⟩ := bindS hm
                refine TZ_pure 0 (by kernel_rfl) rfl rfl rfl rfl rfl (op_move rfl) ?_
                refine TZ_pure 1 (by kernel_rfl) rfl rfl rfl rfl rfl (op_nilCheck rfl rfl) ?_
                refine TZ_pure 2 (by kernel_rfl) rfl rfl rfl rfl rfl (op_fieldAddrC (n := 1) fa35_1 rfl rfl rfl) ?_
                refine TZ_pure 3 (by kernel_rfl) rfl rfl rfl rfl rfl (op_load_one ag26 rfl rfl) ?_
                refine TZ_pure 4 (by kernel_rfl) rfl rfl rfl rfl rfl (op_move rfl) ?_
                refine TZ_pure 5 (by kernel_rfl) rfl rfl rfl rfl rfl (op_nilCheck rfl rfl) ?_
                refine TZ_pure 6 (by kernel_rfl) rfl rfl rfl rfl rfl (op_fieldAddrC (n := 1) fa35_1 rfl rfl rfl) ?_
                refine TZ_pure 7 (by kernel_rfl) rfl rfl rfl rfl rfl (op_load_one ag26 rfl rfl) ?_
                refine TZ_pure 8 (by kernel_rfl) rfl rfl rfl rfl rfl (op_lenT Try.underlying26 rfl (List.length_map _)) ?_
                refine TZ_pure 9 (by kernel_rfl) rfl rfl rfl rfl rfl (op_subW rfl rfl) ?_
                refine TZ_pure 10 (by kernel_rfl) rfl rfl rfl rfl rfl (op_indexT el26 rfl rfl hx78 rfl) ?_
                refine TZ_pure 11 (by kernel_rfl) rfl rfl rfl rfl rfl (op_load_one ag2 rfl rfl) ?_
                refine TZ_pure 12 (by kernel_rfl) rfl rfl rfl rfl rfl (op_assign rfl) ?_
                refine TZ_done (by kernel_rfl) ?_
                refine T_keepH [1, 4, 6, 7, 8, 9, 10, 11] [11, 16, 17, 19, 21, 26] rfl rfl rfl rfl (by rw [hF]; rfl) ?_
                exact hj1 x78 hm
              · replace hm := condF hq hm
                refine T_skip ?_
                refine T_keepH [1, 4, 6, 7, 8, 9, 10, 11] [11, 16, 17, 19, 21, 26] rfl rfl rfl rfl (by rw [hF]; rfl) ?_
                exact hj1 (0 : Int) hm
  · refine T_drawZ [15] mix (by kernel_rfl) rfl ?_
    obtain ⟨r15, hr15, hm⟩ := bindS hm
    obtain ⟨r20, hr20, hm⟩ := bindS hm
    refine TZ_pure 0 (by kernel_rfl) rfl rfl rfl rfl rfl (op_move rfl) ?_
    refine TZ_pure 1 (by kernel_rfl) rfl rfl rfl rfl rfl (op_nilCheck rfl rfl) ?_
    refine TZ_pure 2 (by kernel_rfl) rfl rfl rfl rfl rfl (op_fieldAddrC (n := 2) fa35_0 rfl rfl rfl) ?_
    refine TZ_pure 4 (by kernel_rfl) rfl rfl rfl rfl rfl (op_move rfl) ?_
    refine TZ_pure 5 (by kernel_rfl) rfl rfl rfl rfl rfl (op_nilCheck rfl rfl) ?_
    refine TZ_pure 6 (by kernel_rfl) rfl rfl rfl rfl rfl (op_fieldAddrC (n := 1) fa35_1 rfl rfl rfl) ?_
    refine TZ_pure 7 (by kernel_rfl) rfl rfl rfl rfl rfl (op_load_one ag26 rfl rfl) ?_
    refine TZ_pure 9 (by kernel_rfl) rfl rfl rfl rfl rfl (op_move rfl) ?_
    refine TZ_pure 10 (by kernel_rfl) rfl rfl rfl rfl rfl (op_nilCheck rfl rfl) ?_
    refine TZ_pure 11 (by kernel_rfl) rfl rfl rfl rfl rfl (op_fieldAddr fa35_2 rfl rfl) ?_
    refine TZ_pure 12 (by kernel_rfl) rfl rfl rfl rfl rfl (op_load_one ag2 rfl rfl) ?_
    refine TZ_each [3, 14] (by kernel_rfl) rfl ?_
    refine ⟨?_, ?_⟩
    · refine ⟨_, rfl, ?_⟩
      refine TL_callO [(1000, 51), (1001, 52)] (c_spec_l03Own p1.State r15 hr15) Try.call135 rfl rfl rfl rfl rfl rfl rfl rfl rfl rfl rfl rfl rfl ?_
      refine TL_nil ?_
      refine TZ_each [8, 14] (by kernel_rfl) rfl ?_
      refine ⟨?_, ?_⟩
      · refine ⟨_, rfl, ?_⟩
        refine TL_callO [(1000, 54)] (c_spec_l00Own p1.Stack r20 hr20) Try.call137 rfl rfl rfl rfl rfl rfl rfl rfl rfl rfl rfl rfl rfl ?_
        refine TL_nil ?_
        refine TZ_pure 13 (by kernel_rfl) rfl rfl rfl rfl rfl (op_buildP pl35 z35 rfl rfl rfl rfl rfl) ?_
        refine TZ_one 14 (by kernel_rfl) rfl ?_
        refine TL_alloc 56 z35 rfl rfl rfl rfl rfl rfl rfl ?_
        refine TL_nil ?_
        refine TZ_one 15 (by kernel_rfl) rfl ?_
        refine TL_store_box sz35 rfl rfl rfl rfl rfl rfl rfl rfl rfl ?_
        refine TL_nil ?_
        refine TZ_done (by kernel_rfl) ?_
        refine T_keepH [0, 1, 4, 6] [11, 51, 52, 54, 56] rfl rfl rfl rfl (by rw [hF]; rfl) ?_
        refine T_ren [(11, 11), (51, 16), (52, 17), (54, 19), (56, 21)] rfl rfl rfl (by rw [hF]; rfl) ?_
        exact hj0 (r15.Vars, r15.Cells, r20) hm
      · refine ⟨_, rfl, ?_⟩
        refine TL_alloc 55 z35 rfl rfl rfl rfl rfl rfl rfl ?_
        refine TL_nil ?_
        refine TZ_one 8 (by kernel_rfl) rfl ?_
        refine TL_callO [(1000, 57)] (c_spec_l00Own p1.Stack r20 hr20) Try.call137 rfl rfl rfl rfl rfl rfl rfl rfl rfl rfl rfl rfl rfl ?_
        refine TL_nil ?_
        refine TZ_pure 13 (by kernel_rfl) rfl rfl rfl rfl rfl (op_buildP pl35 z35 rfl rfl rfl rfl rfl) ?_
        refine TZ_one 15 (by kernel_rfl) rfl ?_
        refine TL_store_box sz35 rfl rfl rfl rfl rfl rfl rfl rfl rfl ?_
        refine TL_nil ?_
        refine TZ_done (by kernel_rfl) ?_
        refine T_keepH [0, 1, 4, 6] [11, 51, 52, 55, 57] rfl rfl rfl rfl (by rw [hF]; rfl) ?_
        refine T_ren [(11, 11), (51, 16), (52, 17), (55, 21), (57, 19)] rfl rfl rfl (by rw [hF]; rfl) ?_
        refine T_keepH [0, 1, 4, 6] [11, 16, 17, 19, 21] rfl rfl rfl rfl (by rw [hF]; rfl) ?_
        exact hj0 (r15.Vars, r15.Cells, r20) hm
    · refine ⟨_, rfl, ?_⟩
      refine TL_alloc 53 z35 rfl rfl rfl rfl rfl rfl rfl ?_
      refine TL_nil ?_
      refine TZ_one 3 (by kernel_rfl) rfl ?_
      refine TL_callO [(1000, 58), (1001, 59)] (c_spec_l03Own p1.State r15 hr15) Try.call135 rfl rfl rfl rfl rfl rfl rfl rfl rfl rfl rfl rfl rfl ?_
      refine TL_nil ?_
      refine TZ_one 8 (by kernel_rfl) rfl ?_
      refine TL_callO [(1000, 60)] (c_spec_l00Own p1.Stack r20 hr20) Try.call137 rfl rfl rfl rfl rfl rfl rfl rfl rfl rfl rfl rfl rfl ?_
      refine TL_nil ?_
      refine TZ_pure 13 (by kernel_rfl) rfl rfl rfl rfl rfl (op_buildP pl35 z35 rfl rfl rfl rfl rfl) ?_
      refine TZ_one 15 (by kernel_rfl) rfl ?_
      refine TL_store_box sz35 rfl rfl rfl rfl rfl rfl rfl rfl rfl ?_
      refine TL_nil ?_
      refine TZ_done (by kernel_rfl) ?_
      refine T_keepH [0, 1, 4, 6] [11, 53, 58, 59, 60] rfl rfl rfl rfl (by rw [hF]; rfl) ?_
      refine T_ren [(11, 11), (53, 21), (58, 16), (59, 17), (60, 19)] rfl rfl rfl (by rw [hF]; rfl) ?_
      refine T_keepH [0, 1, 4, 6] [11, 16, 17, 19, 21] rfl rfl rfl rfl (by rw [hF]; rfl) ?_
      exact hj0 (r15.Vars, r15.Cells, r20) hm
theorem c_spec_StepCode (p0 : List Instr) (p1 : Config) (out : Config × Int × Bool) (hm : m_spec_StepCode p0 p1 = some out) : ACall Try.prog 36 [.sl 2 (List.map a_Instr p0), .agg [.sl 1 (List.map a_i64 p1.State.Vars), .sl 1 (List.map a_i64 p1.State.Cells), .sl 1 (List.map a_i64 p1.Stack), .int .i64 p1.At]] [] (.tup [.agg [.ow 1000, .ow 1001, .ow 1002, .int .i64 out.1.At], .int .i64 out.2.1, .bool out.2.2]) [(1000, .arr ⟨false, true⟩ 1 2 (List.map a_i64 out.1.State.Vars)), (1001, .arr ⟨false, true⟩ 1 2 (List.map a_i64 out.1.State.Cells)), (1002, .arr ⟨false, true⟩ 1 2 (List.map a_i64 out.1.Stack))] := by
  refine ACall.intro Try.func36 rfl Try.ntmps36 rfl (fun F hF => ?_)
  unfold m_spec_StepCode at hm
  refine T_seq ?_
  refine T_region ?_
  refine TL_box 11 rfl rfl rfl rfl rfl rfl rfl ?_
  refine TL_alloc 12 z35 rfl rfl rfl rfl rfl rfl rfl ?_
  refine TL_pure rfl rfl rfl rfl (op_assign rfl) ?_
  refine TL_pure rfl rfl rfl rfl (op_assign rfl) ?_
  refine TL_nil ?_
  refine T_seq ?_
  refine T_join (fun (j0 : Bool) => ⟨[(0, .sl 2 (List.map a_Instr p0)), (3, .ptr 11 0 0), (4, .ptr 12 0 0), (15, .bool j0)], [(11, .box [.sl 1 (List.map a_i64 p1.State.Vars), .sl 1 (List.map a_i64 p1.State.Cells), .sl 1 (List.map a_i64 p1.Stack), .int .i64 p1.At]), (12, .box [.snil, .snil, .snil, .int .i64 (0 : Int)])]⟩) (fun j0 => m_spec_StepCode_J0 p0 p1 j0 = some out) (fun j0 hm => ?_) (fun hj0 => ?_)
  · unfold m_spec_StepCode_J0 at hm
    refine T_cond rfl (fun hq => ?_) (fun hq => ?_)
    · replace hm := condT hq hm
      refine T_seq ?_
      refine T_region ?_
      refine TL_pure rfl rfl rfl rfl (op_buildP pl35 z35 rfl rfl rfl rfl rfl) ?_
      refine TL_store_box sz35 rfl rfl rfl rfl rfl rfl rfl rfl rfl ?_
      refine TL_pure rfl rfl rfl rfl (op_assign rfl) ?_
      refine TL_pure rfl rfl rfl rfl (op_assign rfl) ?_
      refine TL_nil ?_
      refine T_ownNilBox 12 0 13 ⟨false, true⟩ 2 rfl rfl rfl (sz := 1) rfl rfl rfl rfl ?_
      refine T_ownNilBox 12 1 14 ⟨false, true⟩ 2 rfl rfl rfl (sz := 1) rfl rfl rfl rfl ?_
      refine T_ownNilBox 12 2 15 ⟨false, true⟩ 2 rfl rfl rfl (sz := 1) rfl rfl rfl rfl ?_
      refine T_keepH [4, 5, 6] [12, 13, 14, 15] rfl rfl rfl rfl (by rw [hF]; rfl) ?_
      refine T_ren [(12, 12), (13, 1000), (14, 1001), (15, 1002)] rfl rfl rfl (by rw [hF]; rfl) ?_
      refine T_ret ?_
      obtain rfl := someI hm
      refine ⟨[_, _, _], [1000, 1001, 1002], ⟨⟨_, _, rfl, rfl, .inr ⟨ag35, _, _, sz35, rfl, rfl⟩⟩, rfl, rfl, trivial⟩, ?_, rfl, rfl, rfl, rfl⟩
      rfl
    · replace hm := condF hq hm
      refine T_skip ?_
      refine T_seq ?_
      refine T_region ?_
      refine TL_pure rfl rfl rfl rfl (op_move rfl) ?_
      obtain ⟨r19, hr19, hm⟩ := bindS hm
      refine TL_callO [(1000, 16), (1001, 17), (1002, 18)] (c_spec_l07Next p0 p1 r19 hr19) Try.call82 rfl rfl rfl rfl rfl rfl rfl rfl rfl rfl rfl rfl rfl ?_
      refine TL_pure rfl rfl rfl rfl (op_move rfl) ?_
      refine TL_pure rfl rfl rfl rfl (op_extract rfl rfl) ?_
      refine TL_pure rfl rfl rfl rfl (op_extract rfl rfl) ?_
      refine TL_alloc 19 z35 rfl rfl rfl rfl rfl rfl rfl ?_
      refine TL_store_box sz35 rfl rfl rfl rfl rfl rfl rfl rfl rfl ?_
      refine TL_pure rfl rfl rfl rfl (op_assign rfl) ?_
      refine TL_nil ?_
      refine T_seq ?_
      refine T_region ?_
      refine TL_pure rfl rfl rfl rfl (op_load_agg ag35 sz35 rfl rfl rfl) ?_
      refine TL_pure rfl rfl rfl rfl (op_move rfl) ?_
      refine TL_store_box sz35 rfl rfl rfl rfl rfl rfl rfl rfl rfl ?_
      refine TL_pure rfl rfl rfl rfl (op_assign rfl) ?_
      refine TL_pure rfl rfl rfl rfl (op_assign rfl) ?_
      refine TL_nil ?_
      refine T_keepH [4, 5, 6] [12, 16, 17, 18] rfl rfl rfl rfl (by rw [hF]; rfl) ?_
      refine T_ren [(12, 12), (16, 1000), (17, 1001), (18, 1002)] rfl rfl rfl (by rw [hF]; rfl) ?_
      refine T_ret ?_
      obtain rfl := someI hm
      refine ⟨[_, _, _], [1000, 1001, 1002], ⟨⟨_, _, rfl, rfl, .inr ⟨ag35, _, _, sz35, rfl, rfl⟩⟩, rfl, rfl, trivial⟩, ?_, rfl, rfl, rfl, rfl⟩
      rfl
  · refine T_region ?_
    refine TL_pure rfl rfl rfl rfl (op_move rfl) ?_
    obtain ⟨r10, hr10, hm⟩ := bindS hm
    refine TL_callF (c_spec_l07Is p0 r10 hr10) Try.call74 rfl rfl rfl rfl rfl ?_
    refine TL_pure rfl rfl rfl rfl (op_not rfl) ?_
    refine TL_pure rfl rfl rfl rfl (op_move rfl) ?_
    refine TL_split 12 rfl rfl rfl (fun hq => ?_) (fun hq => ?_)
    · replace hm := condT hq hm
      refine TL_pass rfl rfl rfl rfl rfl rfl rfl ?_
      refine TL_pass rfl rfl rfl rfl rfl rfl rfl ?_
      refine TL_pure rfl rfl rfl rfl (op_pick_true rfl rfl) ?_
      refine TL_nil ?_
      refine T_keepH [0, 3, 4, 15] [11, 12] rfl rfl rfl rfl (by rw [hF]; rfl) ?_
      exact hj0 true hm
    · replace hm := condF hq hm
      refine TL_want rfl rfl ?_
      obtain ⟨r13, hr13, hm⟩ := bindS hm
      refine TL_callF (c_spec_l07Config p1 r13 hr13) Try.call81 rfl rfl rfl rfl rfl ?_
      refine TL_want rfl rfl ?_
      refine TL_pure rfl rfl rfl rfl (op_not rfl) ?_
      refine TL_pure rfl rfl rfl rfl (op_pick_false rfl rfl) ?_
      refine TL_nil ?_
      refine T_keepH [0, 3, 4, 15] [11, 12] rfl rfl rfl rfl (by rw [hF]; rfl) ?_
      exact hj0 (!r13) hm
theorem c_impl_size (p0 : Int) (out : Int) (hm : m_impl_size p0 = some out) : ACall Try.prog 129 [.int .i64 p0] [] (.int .i64 out) [] := by
  refine ACall.intro Try.func129 rfl Try.ntmps129 rfl (fun F hF => ?_)
  unfold m_impl_size at hm
  refine T_seq ?_
  refine T_region ?_
  refine TL_pure rfl rfl rfl rfl (op_assign rfl) ?_
  refine TL_nil ?_
  refine T_seq ?_
  refine T_region ?_
  refine TL_pure rfl rfl rfl rfl (op_move rfl) ?_
  refine TL_pure rfl rfl rfl rfl (op_assign rfl) ?_
  refine TL_nil ?_
  refine T_keepH [2] [] rfl rfl rfl rfl (by rw [hF]; rfl) ?_
  refine T_ret ?_
  obtain rfl := someI hm
  refine ⟨[_], [], ⟨rfl, trivial⟩, ?_, rfl, rfl, rfl, rfl⟩
  rfl
theorem c_impl_within (p0 : Int) (p1 : Int) (p2 : Int) (out : Bool) (hm : m_impl_within p0 p1 p2 = some out) : ACall Try.prog 72 [.int .i64 p0, .int .i64 p1, .int .i64 p2] [] (.bool out) [] := by
  refine ACall.intro Try.func72 rfl Try.ntmps72 rfl (fun F hF => ?_)
  unfold m_impl_within at hm
  refine T_seq ?_
  refine T_region ?_
  refine TL_pure rfl rfl rfl rfl (op_assign rfl) ?_
  refine TL_nil ?_
  refine T_seq ?_
  refine T_region ?_
  refine TL_pure rfl rfl rfl rfl (op_move rfl) ?_
  refine TL_pure rfl rfl rfl rfl (op_move rfl) ?_
  refine TL_pure rfl rfl rfl rfl (op_leq rfl rfl) ?_
  refine TL_pure rfl rfl rfl rfl (op_move rfl) ?_
  refine TL_join 4 (fun _ : Unit => ⟨[(14, .bool ((decide (p1 ≤ p0)) && (decide (p0 ≤ p2))))], []⟩) (fun _ => True) (fun _ _ => ?_) (fun hjj => ?_)
  · refine TL_pure rfl rfl rfl rfl (op_assign rfl) ?_
    refine TL_nil ?_
    refine T_keepH [6] [] rfl rfl rfl rfl (by rw [hF]; rfl) ?_
    refine T_ret ?_
    obtain rfl := someI hm
    refine ⟨[_], [], ⟨rfl, trivial⟩, ?_, rfl, rfl, rfl, rfl⟩
    rfl
  · refine TL_split 10 rfl rfl rfl (fun hq => ?_) (fun hq => ?_)
    · refine TL_want rfl rfl ?_
      refine TL_pure rfl rfl rfl rfl (op_move rfl) ?_
      refine TL_want rfl rfl ?_
      refine TL_pure rfl rfl rfl rfl (op_move rfl) ?_
      refine TL_want rfl rfl ?_
      refine TL_pure rfl rfl rfl rfl (op_leq rfl rfl) ?_
      refine TL_pure rfl rfl rfl rfl (op_pick_true rfl rfl) ?_
      refine TL_keepH [14] [] rfl rfl rfl rfl (by rw [hF]; rfl) ?_
      exact TL_cast _ (by rw [hq]; rfl) (hjj () trivial)
    · refine TL_pass rfl rfl rfl rfl rfl rfl rfl ?_
      refine TL_pass rfl rfl rfl rfl rfl rfl rfl ?_
      refine TL_pass rfl rfl rfl rfl rfl rfl rfl ?_
      refine TL_pure rfl rfl rfl rfl (op_pick_false rfl rfl) ?_
      refine TL_keepH [14] [] rfl rfl rfl rfl (by rw [hF]; rfl) ?_
      exact TL_cast _ (by rw [hq]; rfl) (hjj () trivial)
theorem c_impl_isCoeff (p0 : Int) (out : Bool) (hm : m_impl_isCoeff p0 = some out) : ACall Try.prog 171 [.int .i64 p0] [] (.bool out) [] := by
  refine ACall.intro Try.func171 rfl Try.ntmps171 rfl (fun F hF => ?_)
  unfold m_impl_isCoeff at hm
  refine T_seq ?_
  refine T_region ?_
  refine TL_pure rfl rfl rfl rfl (op_assign rfl) ?_
  refine TL_nil ?_
  refine T_seq ?_
  refine T_region ?_
  refine TL_pure rfl rfl rfl rfl (op_move rfl) ?_
  obtain ⟨r4, hr4, hm⟩ := bindS hm
  refine TL_callF (c_impl_within p0 (-1000000 : Int) (1000000 : Int) r4 hr4) Try.call72 rfl rfl rfl rfl rfl ?_
  refine TL_pure rfl rfl rfl rfl (op_assign rfl) ?_
  refine TL_nil ?_
  refine T_keepH [2] [] rfl rfl rfl rfl (by rw [hF]; rfl) ?_
  refine T_ret ?_
  obtain rfl := someI hm
  refine ⟨[_], [], ⟨rfl, trivial⟩, ?_, rfl, rfl, rfl, rfl⟩
  rfl
theorem c_impl_isVar (p0 : Int) (out : Bool) (hm : m_impl_isVar p0 = some out) : ACall Try.prog 172 [.int .i64 p0] [] (.bool out) [] := by
  refine ACall.intro Try.func172 rfl Try.ntmps172 rfl (fun F hF => ?_)
  unfold m_impl_isVar at hm
  refine T_seq ?_
  refine T_region ?_
  refine TL_pure rfl rfl rfl rfl (op_assign rfl) ?_
  refine TL_nil ?_
  refine T_seq ?_
  refine T_region ?_
  refine TL_pure rfl rfl rfl rfl (op_move rfl) ?_
  obtain ⟨r4, hr4, hm⟩ := bindS hm
  refine TL_callF (c_impl_within p0 (0 : Int) (3 : Int) r4 hr4) Try.call72 rfl rfl rfl rfl rfl ?_
  refine TL_pure rfl rfl rfl rfl (op_assign rfl) ?_
  refine TL_nil ?_
  refine T_keepH [2] [] rfl rfl rfl rfl (by rw [hF]; rfl) ?_
  refine T_ret ?_
  obtain rfl := someI hm
  refine ⟨[_], [], ⟨rfl, trivial⟩, ?_, rfl, rfl, rfl, rfl⟩
  rfl
theorem c_impl_isPlace (p0 : Int) (out : Bool) (hm : m_impl_isPlace p0 = some out) : ACall Try.prog 173 [.int .i64 p0] [] (.bool out) [] := by
  refine ACall.intro Try.func173 rfl Try.ntmps173 rfl (fun F hF => ?_)
  unfold m_impl_isPlace at hm
  refine T_seq ?_
  refine T_region ?_
  refine TL_pure rfl rfl rfl rfl (op_assign rfl) ?_
  refine TL_nil ?_
  refine T_seq ?_
  refine T_region ?_
  refine TL_pure rfl rfl rfl rfl (op_move rfl) ?_
  obtain ⟨r4, hr4, hm⟩ := bindS hm
  refine TL_callF (c_impl_within p0 (0 : Int) (79 : Int) r4 hr4) Try.call72 rfl rfl rfl rfl rfl ?_
  refine TL_pure rfl rfl rfl rfl (op_assign rfl) ?_
  refine TL_nil ?_
  refine T_keepH [2] [] rfl rfl rfl rfl (by rw [hF]; rfl) ?_
  refine T_ret ?_
  obtain rfl := someI hm
  refine ⟨[_], [], ⟨rfl, trivial⟩, ?_, rfl, rfl, rfl, rfl⟩
  rfl
theorem c_impl_isEvent (p0 : Int) (out : Bool) (hm : m_impl_isEvent p0 = some out) : ACall Try.prog 174 [.int .i64 p0] [] (.bool out) [] := by
  refine ACall.intro Try.func174 rfl Try.ntmps174 rfl (fun F hF => ?_)
  unfold m_impl_isEvent at hm
  refine T_seq ?_
  refine T_region ?_
  refine TL_pure rfl rfl rfl rfl (op_assign rfl) ?_
  refine TL_nil ?_
  refine T_seq ?_
  refine T_region ?_
  refine TL_pure rfl rfl rfl rfl (op_move rfl) ?_
  obtain ⟨r4, hr4, hm⟩ := bindS hm
  refine TL_callF (c_impl_within p0 (0 : Int) (3 : Int) r4 hr4) Try.call72 rfl rfl rfl rfl rfl ?_
  refine TL_pure rfl rfl rfl rfl (op_assign rfl) ?_
  refine TL_nil ?_
  refine T_keepH [2] [] rfl rfl rfl rfl (by rw [hF]; rfl) ?_
  refine T_ret ?_
  obtain rfl := someI hm
  refine ⟨[_], [], ⟨rfl, trivial⟩, ?_, rfl, rfl, rfl, rfl⟩
  rfl
theorem c_impl_ValidInstr (p0 : Instr) (out : Bool) (hm : m_impl_ValidInstr p0 = some out) : ACall Try.prog 132 [.agg [.int .i64 p0.Op, .int .i64 p0.Arg]] [] (.bool out) [] := by
  refine ACall.intro Try.func132 rfl Try.ntmps132 rfl (fun F hF => ?_)
  unfold m_impl_ValidInstr at hm
  refine T_seq ?_
  refine T_region ?_
  refine TL_box 11 rfl rfl rfl rfl rfl rfl rfl ?_
  refine TL_pure rfl rfl rfl rfl (op_assign rfl) ?_
  refine TL_nil ?_
  refine T_seq ?_
  refine T_seq ?_
  refine T_region ?_
  refine TL_pure rfl rfl rfl rfl (op_fieldAddr fa40_0 rfl rfl) ?_
  refine TL_pure rfl rfl rfl rfl (op_load_one ag2 rfl rfl) ?_
  refine TL_nil ?_
  refine T_block ?_
  refine T_join (fun (j0 : Bool) => ⟨[(1, .ptr 11 0 0), (4, .int .i64 p0.Op), (5, .bool j0)], [(11, .box [.int .i64 p0.Op, .int .i64 p0.Arg])]⟩) (fun j0 => m_impl_ValidInstr_J0 p0 j0 = some out) (fun j0 hm => ?_) (fun hj0 => ?_)
  · unfold m_impl_ValidInstr_J0 at hm
    refine T_cond rfl (fun hq => ?_) (fun hq => ?_)
    · replace hm := condT hq hm
      refine T_seq ?_
      refine T_region ?_
      refine TL_pure rfl rfl rfl rfl (op_fieldAddr fa40_1 rfl rfl) ?_
      refine TL_pure rfl rfl rfl rfl (op_load_one ag2 rfl rfl) ?_
      obtain ⟨r10, hr10, hm⟩ := bindS hm
      refine TL_callF (c_impl_isCoeff p0.Arg r10 hr10) Try.call171 rfl rfl rfl rfl rfl ?_
      refine TL_pure rfl rfl rfl rfl (op_assign rfl) ?_
      refine TL_nil ?_
      refine T_keepH [2] [] rfl rfl rfl rfl (by rw [hF]; rfl) ?_
      refine T_ret ?_
      obtain rfl := someI hm
      refine ⟨[_], [], ⟨rfl, trivial⟩, ?_, rfl, rfl, rfl, rfl⟩
      rfl
    · replace hm := condF hq hm
      refine T_join (fun (j1 : Bool) => ⟨[(1, .ptr 11 0 0), (4, .int .i64 p0.Op), (11, .bool j1)], [(11, .box [.int .i64 p0.Op, .int .i64 p0.Arg])]⟩) (fun j1 => m_impl_ValidInstr_J1 p0 j1 = some out) (fun j1 hm => ?_) (fun hj1 => ?_)
      · unfold m_impl_ValidInstr_J1 at hm
        refine T_cond rfl (fun hq => ?_) (fun hq => ?_)
        · replace hm := condT hq hm
          refine T_seq ?_
          refine T_region ?_
          refine TL_pure rfl rfl rfl rfl (op_fieldAddr fa40_1 rfl rfl) ?_
          refine TL_pure rfl rfl rfl rfl (op_load_one ag2 rfl rfl) ?_
          obtain ⟨r16, hr16, hm⟩ := bindS hm
          refine TL_callF (c_impl_isVar p0.Arg r16 hr16) Try.call172 rfl rfl rfl rfl rfl ?_
          refine TL_pure rfl rfl rfl rfl (op_assign rfl) ?_
          refine TL_nil ?_
          refine T_keepH [2] [] rfl rfl rfl rfl (by rw [hF]; rfl) ?_
          refine T_ret ?_
          obtain rfl := someI hm
          refine ⟨[_], [], ⟨rfl, trivial⟩, ?_, rfl, rfl, rfl, rfl⟩
          rfl
        · replace hm := condF hq hm
          refine T_join (fun (j2 : Bool) => ⟨[(1, .ptr 11 0 0), (4, .int .i64 p0.Op), (17, .bool j2)], [(11, .box [.int .i64 p0.Op, .int .i64 p0.Arg])]⟩) (fun j2 => m_impl_ValidInstr_J2 p0 j2 = some out) (fun j2 hm => ?_) (fun hj2 => ?_)
          · unfold m_impl_ValidInstr_J2 at hm
            refine T_cond rfl (fun hq => ?_) (fun hq => ?_)
            · replace hm := condT hq hm
              refine T_seq ?_
              refine T_region ?_
              refine TL_pure rfl rfl rfl rfl (op_fieldAddr fa40_1 rfl rfl) ?_
              refine TL_pure rfl rfl rfl rfl (op_load_one ag2 rfl rfl) ?_
              obtain ⟨r22, hr22, hm⟩ := bindS hm
              refine TL_callF (c_impl_isPlace p0.Arg r22 hr22) Try.call173 rfl rfl rfl rfl rfl ?_
              refine TL_pure rfl rfl rfl rfl (op_assign rfl) ?_
              refine TL_nil ?_
              refine T_keepH [2] [] rfl rfl rfl rfl (by rw [hF]; rfl) ?_
              refine T_ret ?_
              obtain rfl := someI hm
              refine ⟨[_], [], ⟨rfl, trivial⟩, ?_, rfl, rfl, rfl, rfl⟩
              rfl
            · replace hm := condF hq hm
              refine T_seq ?_
              refine T_region ?_
              refine TL_pure rfl rfl rfl rfl (op_eql rfl rfl) ?_
              refine TL_pure rfl rfl rfl rfl (op_assign rfl) ?_
              refine TL_nil ?_
              refine T_cond rfl (fun hq => ?_) (fun hq => ?_)
              · replace hm := condT hq hm
                refine T_seq ?_
                refine T_region ?_
                refine TL_pure rfl rfl rfl rfl (op_fieldAddr fa40_1 rfl rfl) ?_
                refine TL_pure rfl rfl rfl rfl (op_load_one ag2 rfl rfl) ?_
                obtain ⟨r27, hr27, hm⟩ := bindS hm
                refine TL_callF (c_impl_isEvent p0.Arg r27 hr27) Try.call174 rfl rfl rfl rfl rfl ?_
                refine TL_pure rfl rfl rfl rfl (op_assign rfl) ?_
                refine TL_nil ?_
                refine T_keepH [2] [] rfl rfl rfl rfl (by rw [hF]; rfl) ?_
                refine T_ret ?_
                obtain rfl := someI hm
                refine ⟨[_], [], ⟨rfl, trivial⟩, ?_, rfl, rfl, rfl, rfl⟩
                rfl
              · replace hm := condF hq hm
                refine T_join (fun (j3 : Bool) => ⟨[(1, .ptr 11 0 0), (28, .bool j3)], [(11, .box [.int .i64 p0.Op, .int .i64 p0.Arg])]⟩) (fun j3 => m_impl_ValidInstr_J3 p0 j3 = some out) (fun j3 hm => ?_) (fun hj3 => ?_)
                · unfold m_impl_ValidInstr_J3 at hm
                  refine T_cond rfl (fun hq => ?_) (fun hq => ?_)
                  · replace hm := condT hq hm
                    refine T_seq ?_
                    refine T_region ?_
                    refine TL_pure rfl rfl rfl rfl (op_fieldAddr fa40_1 rfl rfl) ?_
                    refine TL_pure rfl rfl rfl rfl (op_load_one ag2 rfl rfl) ?_
                    refine TL_pure rfl rfl rfl rfl (op_eql rfl rfl) ?_
                    refine TL_pure rfl rfl rfl rfl (op_assign rfl) ?_
                    refine TL_nil ?_
                    refine T_keepH [2] [] rfl rfl rfl rfl (by rw [hF]; rfl) ?_
                    refine T_ret ?_
                    obtain rfl := someI hm
                    refine ⟨[_], [], ⟨rfl, trivial⟩, ?_, rfl, rfl, rfl, rfl⟩
                    rfl
                  · replace hm := condF hq hm
                    refine T_skip ?_
                    refine T_seq ?_
                    refine T_region ?_
                    refine TL_pure rfl rfl rfl rfl (op_assign rfl) ?_
                    refine TL_nil ?_
                    refine T_keepH [2] [] rfl rfl rfl rfl (by rw [hF]; rfl) ?_
                    refine T_ret ?_
                    obtain rfl := someI hm
                    refine ⟨[_], [], ⟨rfl, trivial⟩, ?_, rfl, rfl, rfl, rfl⟩
                    rfl
                · refine T_seq ?_
                  refine T_region ?_
                  refine TL_pure rfl rfl rfl rfl (op_eql rfl rfl) ?_
                  refine TL_pure rfl rfl rfl rfl (op_assign rfl) ?_
                  refine TL_nil ?_
                  refine T_cond rfl (fun hq => ?_) (fun hq => ?_)
                  · replace hm := condT hq hm
                    refine T_skip ?_
                    refine T_keepH [1, 28] [11] rfl rfl rfl rfl (by rw [hF]; rfl) ?_
                    exact hj3 (decide (p0.Op = (3 : Int))) hm
                  · replace hm := condF hq hm
                    refine T_seq ?_
                    refine T_region ?_
                    refine TL_pure rfl rfl rfl rfl (op_eql rfl rfl) ?_
                    refine TL_pure rfl rfl rfl rfl (op_assign rfl) ?_
                    refine TL_nil ?_
                    refine T_cond rfl (fun hq => ?_) (fun hq => ?_)
                    · replace hm := condT hq hm
                      refine T_skip ?_
                      refine T_keepH [1, 28] [11] rfl rfl rfl rfl (by rw [hF]; rfl) ?_
                      exact hj3 (decide (p0.Op = (7 : Int))) hm
                    · replace hm := condF hq hm
                      refine T_seq ?_
                      refine T_region ?_
                      refine TL_pure rfl rfl rfl rfl (op_eql rfl rfl) ?_
                      refine TL_pure rfl rfl rfl rfl (op_assign rfl) ?_
                      refine TL_nil ?_
                      refine T_cond rfl (fun hq => ?_) (fun hq => ?_)
                      · replace hm := condT hq hm
                        refine T_skip ?_
                        refine T_keepH [1, 28] [11] rfl rfl rfl rfl (by rw [hF]; rfl) ?_
                        exact hj3 (decide (p0.Op = (8 : Int))) hm
                      · replace hm := condF hq hm
                        refine T_seq ?_
                        refine T_region ?_
                        refine TL_pure rfl rfl rfl rfl (op_eql rfl rfl) ?_
                        refine TL_pure rfl rfl rfl rfl (op_assign rfl) ?_
                        refine TL_nil ?_
                        refine T_cond rfl (fun hq => ?_) (fun hq => ?_)
                        · replace hm := condT hq hm
                          refine T_skip ?_
                          refine T_keepH [1, 28] [11] rfl rfl rfl rfl (by rw [hF]; rfl) ?_
                          exact hj3 (decide (p0.Op = (10 : Int))) hm
                        · replace hm := condF hq hm
                          refine T_region ?_
                          refine TL_pure rfl rfl rfl rfl (op_eql rfl rfl) ?_
                          refine TL_pure rfl rfl rfl rfl (op_assign rfl) ?_
                          refine TL_nil ?_
                          refine T_keepH [1, 28] [11] rfl rfl rfl rfl (by rw [hF]; rfl) ?_
                          exact hj3 (decide (p0.Op = (11 : Int))) hm
          · refine T_seq ?_
            refine T_region ?_
            refine TL_pure rfl rfl rfl rfl (op_eql rfl rfl) ?_
            refine TL_pure rfl rfl rfl rfl (op_assign rfl) ?_
            refine TL_nil ?_
            refine T_cond rfl (fun hq => ?_) (fun hq => ?_)
            · replace hm := condT hq hm
              refine T_skip ?_
              refine T_keepH [1, 4, 17] [11] rfl rfl rfl rfl (by rw [hF]; rfl) ?_
              exact hj2 (decide (p0.Op = (5 : Int))) hm
            · replace hm := condF hq hm
              refine T_region ?_
              refine TL_pure rfl rfl rfl rfl (op_eql rfl rfl) ?_
              refine TL_pure rfl rfl rfl rfl (op_assign rfl) ?_
              refine TL_nil ?_
              refine T_keepH [1, 4, 17] [11] rfl rfl rfl rfl (by rw [hF]; rfl) ?_
              exact hj2 (decide (p0.Op = (6 : Int))) hm
      · refine T_seq ?_
        refine T_region ?_
        refine TL_pure rfl rfl rfl rfl (op_eql rfl rfl) ?_
        refine TL_pure rfl rfl rfl rfl (op_assign rfl) ?_
        refine TL_nil ?_
        refine T_cond rfl (fun hq => ?_) (fun hq => ?_)
        · replace hm := condT hq hm
          refine T_skip ?_
          refine T_keepH [1, 4, 11] [11] rfl rfl rfl rfl (by rw [hF]; rfl) ?_
          exact hj1 (decide (p0.Op = (1 : Int))) hm
        · replace hm := condF hq hm
          refine T_region ?_
          refine TL_pure rfl rfl rfl rfl (op_eql rfl rfl) ?_
          refine TL_pure rfl rfl rfl rfl (op_assign rfl) ?_
          refine TL_nil ?_
          refine T_keepH [1, 4, 11] [11] rfl rfl rfl rfl (by rw [hF]; rfl) ?_
          exact hj1 (decide (p0.Op = (2 : Int))) hm
  · refine T_seq ?_
    refine T_region ?_
    refine TL_pure rfl rfl rfl rfl (op_eql rfl rfl) ?_
    refine TL_pure rfl rfl rfl rfl (op_assign rfl) ?_
    refine TL_nil ?_
    refine T_cond rfl (fun hq => ?_) (fun hq => ?_)
    · replace hm := condT hq hm
      refine T_skip ?_
      refine T_keepH [1, 4, 5] [11] rfl rfl rfl rfl (by rw [hF]; rfl) ?_
      exact hj0 (decide (p0.Op = (0 : Int))) hm
    · replace hm := condF hq hm
      refine T_region ?_
      refine TL_pure rfl rfl rfl rfl (op_eql rfl rfl) ?_
      refine TL_pure rfl rfl rfl rfl (op_assign rfl) ?_
      refine TL_nil ?_
      refine T_keepH [1, 4, 5] [11] rfl rfl rfl rfl (by rw [hF]; rfl) ?_
      exact hj0 (decide (p0.Op = (4 : Int))) hm
theorem c_impl_ValidCode_1 (p0 : Instr) (out : Bool) (hm : m_impl_ValidCode_1 p0 = some out) : ACall Try.prog 131 [.agg [.int .i64 p0.Op, .int .i64 p0.Arg]] [] (.bool out) [] := by
  refine ACall.intro Try.func131 rfl Try.ntmps131 rfl (fun F hF => ?_)
  unfold m_impl_ValidCode_1 at hm
  refine T_seq ?_
  refine T_region ?_
  refine TL_box 11 rfl rfl rfl rfl rfl rfl rfl ?_
  refine TL_pure rfl rfl rfl rfl (op_assign rfl) ?_
  refine TL_nil ?_
  refine T_seq ?_
  refine T_region ?_
  refine TL_pure rfl rfl rfl rfl (op_load_agg ag40 sz40 rfl rfl rfl) ?_
  obtain ⟨r4, hr4, hm⟩ := bindS hm
  refine TL_callF (c_impl_ValidInstr p0 r4 hr4) Try.call132 rfl rfl rfl rfl rfl ?_
  refine TL_pure rfl rfl rfl rfl (op_not rfl) ?_
  refine TL_pure rfl rfl rfl rfl (op_assign rfl) ?_
  refine TL_nil ?_
  refine T_keepH [2] [] rfl rfl rfl rfl (by rw [hF]; rfl) ?_
  refine T_ret ?_
  obtain rfl := someI hm
  refine ⟨[_], [], ⟨rfl, trivial⟩, ?_, rfl, rfl, rfl, rfl⟩
  rfl
theorem c_slices_IndexFunc_impl_Instr_impl_Instr_fValidCode_1 (p0 : List Instr) (out : Int) (hm : m_slices_IndexFunc_impl_Instr_impl_Instr_fValidCode_1 p0 = some out) : ACall Try.prog 170 [.sl 2 (List.map a_Instr p0), .fn (.func 131) [] []] [] (.int .i64 out) [] := by
  refine ACall.intro Try.func170 rfl Try.ntmps170 rfl (fun F hF => ?_)
  unfold m_slices_IndexFunc_impl_Instr_impl_Instr_fValidCode_1 at hm
  refine T_seq ?_
  refine T_region ?_
  refine TL_pure rfl rfl rfl rfl (op_assign rfl) ?_
  refine TL_nil ?_
  refine T_seq ?_
  refine T_seq ?_
  refine T_region ?_
  refine TL_pure rfl rfl rfl rfl (op_move rfl) ?_
  refine TL_pure rfl rfl rfl rfl (op_lenT Try.underlying24 rfl (List.length_map _)) ?_
  refine TL_fact (fun _ _ _ hr => RelP.slLen (i := 6) rfl hr) (fun hlen7 => ?_)
  rw [List.length_map] at hlen7
  refine TL_pure rfl rfl rfl rfl (op_move rfl) ?_
  refine TL_nil ?_
  refine T_block ?_
  refine T_keepH [0, 1, 7, 8] [] rfl rfl rfl rfl (by rw [hF]; rfl) ?_
  refine T_loop ?_
  obtain ⟨u0, hl0, hm⟩ := bindS hm
  refine TR_forL2 p0 (m_slices_IndexFunc_impl_Instr_impl_Instr_fValidCode_1_L0) (fun (s0 : Unit) => (.inl ())) (fun n0 (s0 : Unit) => ⟨[(0, .sl 2 (List.map a_Instr p0)), (1, .fn (.func 131) [] []), (7, .int .i64 (p0.length : Int)), (8, .int .i64 (n0 : Int))], []⟩) (fun u0 => match u0 with | .inl u0 => .exit 0 | .inr u0 => .ret) (fun u0 => match u0 with | .inl u0 => ⟨[], []⟩ | .inr u0 => ⟨[(4, .int .i64 u0)], []⟩) (fun u0 => m_slices_IndexFunc_impl_Instr_impl_Instr_fValidCode_1_A0 u0 = some out) hl0 hm (fun u0 hm => ?_) (fun hx0 s0 hm => ?_) (fun hx0 n0 x0 s0 c0 hxn0 hlt0 hm hc0 => ?_)
  · rcases u0 with u0 | u0
    · unfold m_slices_IndexFunc_impl_Instr_impl_Instr_fValidCode_1_A0 at hm
      refine T_seq ?_
      refine T_region ?_
      refine TL_pure rfl rfl rfl rfl (op_assign rfl) ?_
      refine TL_nil ?_
      refine T_keepH [4] [] rfl rfl rfl rfl (by rw [hF]; rfl) ?_
      refine T_ret ?_
      obtain rfl := someI hm
      refine ⟨[_], [], ⟨rfl, trivial⟩, ?_, rfl, rfl, rfl, rfl⟩
      rfl
    · unfold m_slices_IndexFunc_impl_Instr_impl_Instr_fValidCode_1_A0 at hm
      obtain rfl := someI hm
      refine ⟨[_], [], ⟨rfl, trivial⟩, ?_, rfl, rfl, rfl, rfl⟩
      rfl
  · refine T_seq ?_
    refine T_region ?_
    refine TL_pure rfl rfl rfl rfl (op_lss rfl rfl) ?_
    refine TL_nil ?_
    refine T_seq ?_
    refine T_if_false rfl (decide_eq_false (by simp)) ?_
    refine T_keepH [] [] rfl rfl rfl rfl (by rw [hF]; rfl) ?_
    refine T_exit ?_
    exact hx0 (.inl ()) hm
  · unfold m_slices_IndexFunc_impl_Instr_impl_Instr_fValidCode_1_L0 at hm
    refine T_seq ?_
    refine T_region ?_
    refine TL_pure rfl rfl rfl rfl (op_lss rfl rfl) ?_
    refine TL_nil ?_
    refine T_seq ?_
    refine T_if_true rfl (decide_eq_true (Int.ofNat_lt.2 hlt0)) ?_
    refine T_skip ?_
    refine T_seq ?_
    refine T_block ?_
    refine T_seq ?_
    refine T_region ?_
    refine TL_pure rfl rfl rfl rfl (op_move rfl) ?_
    refine TL_pure rfl rfl rfl rfl (op_assign rfl) ?_
    refine TL_nil ?_
    refine T_seq ?_
    refine T_region ?_
    refine TL_pure rfl rfl rfl rfl (op_move rfl) ?_
    refine TL_pure rfl rfl rfl rfl (op_move rfl) ?_
    refine TL_pure rfl rfl rfl rfl (op_move rfl) ?_
    refine TL_pure rfl rfl rfl rfl (op_index_sl el24 rfl rfl rfl (get_map hxn0) rfl) ?_
    refine TL_pure rfl rfl rfl rfl (op_load_agg ag40 sz40 rfl rfl rfl) ?_
    obtain ⟨r16, hr16, hm⟩ := bindS hm
    refine TL_callV rfl (c_impl_ValidCode_1 x0 r16 hr16) Try.call131 rfl rfl rfl rfl rfl ?_
    refine TL_nil ?_
    refine T_cond rfl (fun hq => ?_) (fun hq => ?_)
    · replace hm := condT hq hm
      refine T_seq ?_
      refine T_region ?_
      refine TL_pure rfl rfl rfl rfl (op_move rfl) ?_
      refine TL_pure rfl rfl rfl rfl (op_assign rfl) ?_
      refine TL_nil ?_
      refine T_keepH [4] [] rfl rfl rfl rfl (by rw [hF]; rfl) ?_
      refine T_ret ?_
      obtain rfl := someI hm
      have hn := CtlOK_out hc0
      exact hx0 (.inr (n0 : Int)) hn
    · replace hm := condF hq hm
      refine T_skip ?_
      refine T_region ?_
      refine TL_pure rfl rfl rfl rfl (op_addN rfl rfl (Nat.lt_of_lt_of_le hlt0 hlen7)) ?_
      refine TL_pure rfl rfl rfl rfl (op_move rfl) ?_
      refine TL_nil ?_
      refine TR_keepH [0, 1, 7, 8] [] rfl rfl rfl rfl (by rw [hF]; rfl) ?_
      obtain rfl := someI hm
      have hn := CtlOK_next hc0
      exact hn _ rfl
theorem c_slices_ContainsFunc_impl_Instr_impl_Instr_fValidCode_1 (p0 : List Instr) (out : Bool) (hm : m_slices_ContainsFunc_impl_Instr_impl_Instr_fValidCode_1 p0 = some out) : ACall Try.prog 130 [.sl 2 (List.map a_Instr p0), .fn (.func 131) [] []] [] (.bool out) [] := by
  refine ACall.intro Try.func130 rfl Try.ntmps130 rfl (fun F hF => ?_)
  unfold m_slices_ContainsFunc_impl_Instr_impl_Instr_fValidCode_1 at hm
  refine T_seq ?_
  refine T_region ?_
  refine TL_pure rfl rfl rfl rfl (op_assign rfl) ?_
  refine TL_nil ?_
  refine T_seq ?_
  refine T_region ?_
  refine TL_pure rfl rfl rfl rfl (op_move rfl) ?_
  refine TL_pure rfl rfl rfl rfl (op_move rfl) ?_
  obtain ⟨r7, hr7, hm⟩ := bindS hm
  refine TL_callF (c_slices_IndexFunc_impl_Instr_impl_Instr_fValidCode_1 p0 r7 hr7) Try.call170 rfl rfl rfl rfl rfl ?_
  refine TL_pure rfl rfl rfl rfl (op_geq rfl rfl) ?_
  refine TL_pure rfl rfl rfl rfl (op_assign rfl) ?_
  refine TL_nil ?_
  refine T_keepH [4] [] rfl rfl rfl rfl (by rw [hF]; rfl) ?_
  refine T_ret ?_
  obtain rfl := someI hm
  refine ⟨[_], [], ⟨rfl, trivial⟩, ?_, rfl, rfl, rfl, rfl⟩
  rfl
theorem c_impl_ValidCode (p0 : List Instr) (out : Bool) (hm : m_impl_ValidCode p0 = some out) : ACall Try.prog 69 [.sl 2 (List.map a_Instr p0)] [] (.bool out) [] := by
  refine ACall.intro Try.func69 rfl Try.ntmps69 rfl (fun F hF => ?_)
  unfold m_impl_ValidCode at hm
  refine T_seq ?_
  refine T_region ?_
  refine TL_pure rfl rfl rfl rfl (op_assign rfl) ?_
  refine TL_nil ?_
  refine T_seq ?_
  refine T_region ?_
  refine TL_pure rfl rfl rfl rfl (op_move rfl) ?_
  refine TL_pure rfl rfl rfl rfl (op_lenT Try.underlying24 rfl (List.length_map _)) ?_
  refine TL_fact (fun _ _ _ hr => RelP.slLen (i := 3) rfl hr) (fun hlen4 => ?_)
  rw [List.length_map] at hlen4
  obtain ⟨r5, hr5, hm⟩ := bindS hm
  refine TL_callF (c_impl_size (p0.length : Int) r5 hr5) Try.call129 rfl rfl rfl rfl rfl ?_
  obtain ⟨r6, hr6, hm⟩ := bindS hm
  refine TL_callF (c_impl_within r5 (1 : Int) (80 : Int) r6 hr6) Try.call72 rfl rfl rfl rfl rfl ?_
  refine TL_pure rfl rfl rfl rfl (op_move rfl) ?_
  refine TL_split 7 rfl rfl rfl (fun hq => ?_) (fun hq => ?_)
  · replace hm := condT hq hm
    refine TL_want rfl rfl ?_
    refine TL_pure rfl rfl rfl rfl (op_move rfl) ?_
    refine TL_want rfl rfl ?_
    obtain ⟨r9, hr9, hm⟩ := bindS hm
    refine TL_callF (c_slices_ContainsFunc_impl_Instr_impl_Instr_fValidCode_1 p0 r9 hr9) Try.call130 rfl rfl rfl rfl rfl ?_
    refine TL_want rfl rfl ?_
    refine TL_pure rfl rfl rfl rfl (op_not rfl) ?_
    refine TL_pure rfl rfl rfl rfl (op_pick_true rfl rfl) ?_
    refine TL_pure rfl rfl rfl rfl (op_assign rfl) ?_
    refine TL_nil ?_
    refine T_keepH [2] [] rfl rfl rfl rfl (by rw [hF]; rfl) ?_
    refine T_ret ?_
    obtain rfl := someI hm
    refine ⟨[_], [], ⟨rfl, trivial⟩, ?_, rfl, rfl, rfl, rfl⟩
    rfl
  · replace hm := condF hq hm
    refine TL_pass rfl rfl rfl rfl rfl rfl rfl ?_
    refine TL_pass rfl rfl rfl rfl rfl rfl rfl ?_
    refine TL_pass rfl rfl rfl rfl rfl rfl rfl ?_
    refine TL_pure rfl rfl rfl rfl (op_pick_false rfl rfl) ?_
    refine TL_pure rfl rfl rfl rfl (op_assign rfl) ?_
    refine TL_nil ?_
    refine T_keepH [2] [] rfl rfl rfl rfl (by rw [hF]; rfl) ?_
    refine T_ret ?_
    obtain rfl := someI hm
    refine ⟨[_], [], ⟨rfl, trivial⟩, ?_, rfl, rfl, rfl, rfl⟩
    rfl
theorem c_impl_allWithin (p0 : List Int) (p1 : Int) (p2 : Int) (out : Bool) (hm : m_impl_allWithin p0 p1 p2 = some out) : ACall Try.prog 71 [.sl 1 (List.map a_i64 p0), .int .i64 p1, .int .i64 p2] [] (.bool out) [] := by
  refine ACall.intro Try.func71 rfl Try.ntmps71 rfl (fun F hF => ?_)
  unfold m_impl_allWithin at hm
  refine T_seq ?_
  refine T_region ?_
  refine TL_pure rfl rfl rfl rfl (op_assign rfl) ?_
  refine TL_nil ?_
  refine T_seq ?_
  refine T_seq ?_
  refine T_region ?_
  refine TL_pure rfl rfl rfl rfl (op_move rfl) ?_
  refine TL_pure rfl rfl rfl rfl (op_lenT Try.underlying26 rfl (List.length_map _)) ?_
  refine TL_fact (fun _ _ _ hr => RelP.slLen (i := 9) rfl hr) (fun hlen10 => ?_)
  rw [List.length_map] at hlen10
  refine TL_pure rfl rfl rfl rfl (op_move rfl) ?_
  refine TL_nil ?_
  refine T_block ?_
  refine T_keepH [1, 2, 9, 10, 11] [] rfl rfl rfl rfl (by rw [hF]; rfl) ?_
  refine T_loop ?_
  obtain ⟨u0, hl0, hm⟩ := bindS hm
  refine TR_forL2 p0 (m_impl_allWithin_L0 p1 p2) (fun (s0 : Unit) => (.inl ())) (fun n0 (s0 : Unit) => ⟨[(1, .int .i64 p1), (2, .int .i64 p2), (9, .sl 1 (List.map a_i64 p0)), (10, .int .i64 (p0.length : Int)), (11, .int .i64 (n0 : Int))], []⟩) (fun u0 => match u0 with | .inl u0 => .exit 0 | .inr u0 => .ret) (fun u0 => match u0 with | .inl u0 => ⟨[], []⟩ | .inr u0 => ⟨[(6, .bool u0)], []⟩) (fun u0 => m_impl_allWithin_A0 u0 = some out) hl0 hm (fun u0 hm => ?_) (fun hx0 s0 hm => ?_) (fun hx0 n0 x0 s0 c0 hxn0 hlt0 hm hc0 => ?_)
  · rcases u0 with u0 | u0
    · unfold m_impl_allWithin_A0 at hm
      refine T_seq ?_
      refine T_region ?_
      refine TL_pure rfl rfl rfl rfl (op_assign rfl) ?_
      refine TL_nil ?_
      refine T_keepH [6] [] rfl rfl rfl rfl (by rw [hF]; rfl) ?_
      refine T_ret ?_
      obtain rfl := someI hm
      refine ⟨[_], [], ⟨rfl, trivial⟩, ?_, rfl, rfl, rfl, rfl⟩
      rfl
    · unfold m_impl_allWithin_A0 at hm
      obtain rfl := someI hm
      refine ⟨[_], [], ⟨rfl, trivial⟩, ?_, rfl, rfl, rfl, rfl⟩
      rfl
  · refine T_seq ?_
    refine T_region ?_
    refine TL_pure rfl rfl rfl rfl (op_lss rfl rfl) ?_
    refine TL_nil ?_
    refine T_seq ?_
    refine T_if_false rfl (decide_eq_false (by simp)) ?_
    refine T_keepH [] [] rfl rfl rfl rfl (by rw [hF]; rfl) ?_
    refine T_exit ?_
    exact hx0 (.inl ()) hm
  · unfold m_impl_allWithin_L0 at hm
    refine T_seq ?_
    refine T_region ?_
    refine TL_pure rfl rfl rfl rfl (op_lss rfl rfl) ?_
    refine TL_nil ?_
    refine T_seq ?_
    refine T_if_true rfl (decide_eq_true (Int.ofNat_lt.2 hlt0)) ?_
    refine T_skip ?_
    refine T_seq ?_
    refine T_block ?_
    refine T_seq ?_
    refine T_region ?_
    refine TL_pure rfl rfl rfl rfl (op_index_sl el26 rfl rfl rfl (get_map hxn0) rfl) ?_
    refine TL_pure rfl rfl rfl rfl (op_load_one ag2 rfl rfl) ?_
    refine TL_pure rfl rfl rfl rfl (op_assign rfl) ?_
    refine TL_nil ?_
    refine T_seq ?_
    refine T_region ?_
    refine TL_pure rfl rfl rfl rfl (op_move rfl) ?_
    refine TL_pure rfl rfl rfl rfl (op_move rfl) ?_
    refine TL_pure rfl rfl rfl rfl (op_move rfl) ?_
    obtain ⟨r18, hr18, hm⟩ := bindS hm
    refine TL_callF (c_impl_within x0 p1 p2 r18 hr18) Try.call72 rfl rfl rfl rfl rfl ?_
    refine TL_pure rfl rfl rfl rfl (op_not rfl) ?_
    refine TL_nil ?_
    refine T_cond rfl (fun hq => ?_) (fun hq => ?_)
    · replace hm := condT hq hm
      refine T_seq ?_
      refine T_region ?_
      refine TL_pure rfl rfl rfl rfl (op_assign rfl) ?_
      refine TL_nil ?_
      refine T_keepH [6] [] rfl rfl rfl rfl (by rw [hF]; rfl) ?_
      refine T_ret ?_
      obtain rfl := someI hm
      have hn := CtlOK_out hc0
      exact hx0 (.inr false) hn
    · replace hm := condF hq hm
      refine T_skip ?_
      refine T_region ?_
      refine TL_pure rfl rfl rfl rfl (op_addN rfl rfl (Nat.lt_of_lt_of_le hlt0 hlen10)) ?_
      refine TL_pure rfl rfl rfl rfl (op_move rfl) ?_
      refine TL_nil ?_
      refine TR_keepH [1, 2, 9, 10, 11] [] rfl rfl rfl rfl (by rw [hF]; rfl) ?_
      obtain rfl := someI hm
      have hn := CtlOK_next hc0
      exact hn _ rfl
theorem c_impl_ValidState (p0 : State) (out : Bool) (hm : m_impl_ValidState p0 = some out) : ACall Try.prog 70 [.agg [.sl 1 (List.map a_i64 p0.Vars), .sl 1 (List.map a_i64 p0.Cells)]] [] (.bool out) [] := by
  refine ACall.intro Try.func70 rfl Try.ntmps70 rfl (fun F hF => ?_)
  unfold m_impl_ValidState at hm
  refine T_seq ?_
  refine T_region ?_
  refine TL_box 11 rfl rfl rfl rfl rfl rfl rfl ?_
  refine TL_pure rfl rfl rfl rfl (op_assign rfl) ?_
  refine TL_nil ?_
  refine T_seq ?_
  refine T_region ?_
  refine TL_pure rfl rfl rfl rfl (op_fieldAddr fa28_0 rfl rfl) ?_
  refine TL_pure rfl rfl rfl rfl (op_load_one ag26 rfl rfl) ?_
  refine TL_pure rfl rfl rfl rfl (op_lenT Try.underlying26 rfl (List.length_map _)) ?_
  refine TL_fact (fun _ _ _ hr => RelP.slLen (i := 4) rfl hr) (fun hlen5 => ?_)
  rw [List.length_map] at hlen5
  refine TL_pure rfl rfl rfl rfl (op_eql rfl rfl) ?_
  refine TL_pure rfl rfl rfl rfl (op_move rfl) ?_
  refine TL_join 5 (fun _ : Unit => ⟨[(1, .ptr 11 0 0), (12, .bool ((decide ((p0.Vars.length : Int) = (4 : Int))) && (decide ((p0.Cells.length : Int) = (8 : Int)))))], [(11, .box [.sl 1 (List.map a_i64 p0.Vars), .sl 1 (List.map a_i64 p0.Cells)])]⟩) (fun _ => True) (fun _ _ => ?_) (fun hjj => ?_)
  · refine TL_pure rfl rfl rfl rfl (op_move rfl) ?_
    refine TL_split 13 rfl rfl rfl (fun hq => ?_) (fun hq => ?_)
    · replace hm := condT hq hm
      refine TL_want rfl rfl ?_
      refine TL_pure rfl rfl rfl rfl (op_fieldAddr fa28_0 rfl rfl) ?_
      refine TL_want rfl rfl ?_
      refine TL_pure rfl rfl rfl rfl (op_load_one ag26 rfl rfl) ?_
      refine TL_want rfl rfl ?_
      obtain ⟨r16, hr16, hm⟩ := bindS hm
      refine TL_callF (c_impl_allWithin p0.Vars (-1000000000 : Int) (1000000000 : Int) r16 hr16) Try.call71 rfl rfl rfl rfl rfl ?_
      refine TL_pure rfl rfl rfl rfl (op_pick_true rfl rfl) ?_
      refine TL_pure rfl rfl rfl rfl (op_move rfl) ?_
      refine TL_split 18 rfl rfl rfl (fun hq => ?_) (fun hq => ?_)
      · replace hm := condT hq hm
        refine TL_want rfl rfl ?_
        refine TL_pure rfl rfl rfl rfl (op_fieldAddr fa28_1 rfl rfl) ?_
        refine TL_want rfl rfl ?_
        refine TL_pure rfl rfl rfl rfl (op_load_one ag26 rfl rfl) ?_
        refine TL_want rfl rfl ?_
        obtain ⟨r21, hr21, hm⟩ := bindS hm
        refine TL_callF (c_impl_allWithin p0.Cells (-1000000000 : Int) (1000000000 : Int) r21 hr21) Try.call71 rfl rfl rfl rfl rfl ?_
        refine TL_pure rfl rfl rfl rfl (op_pick_true rfl rfl) ?_
        refine TL_pure rfl rfl rfl rfl (op_assign rfl) ?_
        refine TL_nil ?_
        refine T_keepH [2] [] rfl rfl rfl rfl (by rw [hF]; rfl) ?_
        refine T_ret ?_
        obtain rfl := someI hm
        refine ⟨[_], [], ⟨rfl, trivial⟩, ?_, rfl, rfl, rfl, rfl⟩
        rfl
      · replace hm := condF hq hm
        refine TL_pass rfl rfl rfl rfl rfl rfl rfl ?_
        refine TL_pass rfl rfl rfl rfl rfl rfl rfl ?_
        refine TL_pass rfl rfl rfl rfl rfl rfl rfl ?_
        refine TL_pure rfl rfl rfl rfl (op_pick_false rfl rfl) ?_
        refine TL_pure rfl rfl rfl rfl (op_assign rfl) ?_
        refine TL_nil ?_
        refine T_keepH [2] [] rfl rfl rfl rfl (by rw [hF]; rfl) ?_
        refine T_ret ?_
        obtain rfl := someI hm
        refine ⟨[_], [], ⟨rfl, trivial⟩, ?_, rfl, rfl, rfl, rfl⟩
        rfl
    · replace hm := condF hq hm
      refine TL_pass rfl rfl rfl rfl rfl rfl rfl ?_
      refine TL_pass rfl rfl rfl rfl rfl rfl rfl ?_
      refine TL_pass rfl rfl rfl rfl rfl rfl rfl ?_
      refine TL_pure rfl rfl rfl rfl (op_pick_false rfl rfl) ?_
      refine TL_pure rfl rfl rfl rfl (op_move rfl) ?_
      refine TL_pass rfl rfl rfl rfl rfl rfl rfl ?_
      refine TL_pass rfl rfl rfl rfl rfl rfl rfl ?_
      refine TL_pass rfl rfl rfl rfl rfl rfl rfl ?_
      refine TL_pure rfl rfl rfl rfl (op_pick_false rfl rfl) ?_
      refine TL_pure rfl rfl rfl rfl (op_assign rfl) ?_
      refine TL_nil ?_
      refine T_keepH [2] [] rfl rfl rfl rfl (by rw [hF]; rfl) ?_
      refine T_ret ?_
      obtain rfl := someI hm
      refine ⟨[_], [], ⟨rfl, trivial⟩, ?_, rfl, rfl, rfl, rfl⟩
      rfl
  · refine TL_split 7 rfl rfl rfl (fun hq => ?_) (fun hq => ?_)
    · refine TL_want rfl rfl ?_
      refine TL_pure rfl rfl rfl rfl (op_fieldAddr fa28_1 rfl rfl) ?_
      refine TL_want rfl rfl ?_
      refine TL_pure rfl rfl rfl rfl (op_load_one ag26 rfl rfl) ?_
      refine TL_want rfl rfl ?_
      refine TL_pure rfl rfl rfl rfl (op_lenT Try.underlying26 rfl (List.length_map _)) ?_
      refine TL_fact (fun _ _ _ hr => RelP.slLen (i := 9) rfl hr) (fun hlen10 => ?_)
      rw [List.length_map] at hlen10
      refine TL_want rfl rfl ?_
      refine TL_pure rfl rfl rfl rfl (op_eql rfl rfl) ?_
      refine TL_pure rfl rfl rfl rfl (op_pick_true rfl rfl) ?_
      refine TL_keepH [1, 12] [11] rfl rfl rfl rfl (by rw [hF]; rfl) ?_
      exact TL_cast _ (by rw [hq]; rfl) (hjj () trivial)
    · refine TL_pass rfl rfl rfl rfl rfl rfl rfl ?_
      refine TL_pass rfl rfl rfl rfl rfl rfl rfl ?_
      refine TL_pass rfl rfl rfl rfl rfl rfl rfl ?_
      refine TL_pass rfl rfl rfl rfl rfl rfl rfl ?_
      refine TL_pure rfl rfl rfl rfl (op_pick_false rfl rfl) ?_
      refine TL_keepH [1, 12] [11] rfl rfl rfl rfl (by rw [hF]; rfl) ?_
      exact TL_cast _ (by rw [hq]; rfl) (hjj () trivial)
theorem c_impl_ValidConfig (p0 : List Instr) (p1 : Config) (out : Bool) (hm : m_impl_ValidConfig p0 p1 = some out) : ACall Try.prog 18 [.sl 2 (List.map a_Instr p0), .agg [.sl 1 (List.map a_i64 p1.State.Vars), .sl 1 (List.map a_i64 p1.State.Cells), .sl 1 (List.map a_i64 p1.Stack), .int .i64 p1.At]] [] (.bool out) [] := by
  refine ACall.intro Try.func18 rfl Try.ntmps18 rfl (fun F hF => ?_)
  unfold m_impl_ValidConfig at hm
  refine T_seq ?_
  refine T_region ?_
  refine TL_box 11 rfl rfl rfl rfl rfl rfl rfl ?_
  refine TL_pure rfl rfl rfl rfl (op_assign rfl) ?_
  refine TL_nil ?_
  refine T_seq ?_
  refine T_region ?_
  refine TL_pure rfl rfl rfl rfl (op_move rfl) ?_
  obtain ⟨r6, hr6, hm⟩ := bindS hm
  refine TL_callF (c_impl_ValidCode p0 r6 hr6) Try.call69 rfl rfl rfl rfl rfl ?_
  refine TL_pure rfl rfl rfl rfl (op_move rfl) ?_
  refine TL_split 7 rfl rfl rfl (fun hq => ?_) (fun hq => ?_)
  · replace hm := condT hq hm
    refine TL_want rfl rfl ?_
    refine TL_pure rfl rfl rfl rfl (op_fieldAddr fa35_0 rfl rfl) ?_
    refine TL_want rfl rfl ?_
    refine TL_pure rfl rfl rfl rfl (op_load_agg ag28 sz28 rfl rfl rfl) ?_
    refine TL_want rfl rfl ?_
    obtain ⟨r10, hr10, hm⟩ := bindS hm
    refine TL_callF (c_impl_ValidState p1.State r10 hr10) Try.call70 rfl rfl rfl rfl rfl ?_
    refine TL_pure rfl rfl rfl rfl (op_pick_true rfl rfl) ?_
    refine TL_pure rfl rfl rfl rfl (op_move rfl) ?_
    refine TL_join 5 (fun _ : Unit => ⟨[(3, .ptr 11 0 0), (17, .bool (r10 && (decide ((p1.Stack.length : Int) ≤ (6 : Int)))))], [(11, .box [.sl 1 (List.map a_i64 p1.State.Vars), .sl 1 (List.map a_i64 p1.State.Cells), .sl 1 (List.map a_i64 p1.Stack), .int .i64 p1.At])]⟩) (fun _ => True) (fun _ _ => ?_) (fun hjj => ?_)
    · refine TL_pure rfl rfl rfl rfl (op_move rfl) ?_
      refine TL_split 18 rfl rfl rfl (fun hq => ?_) (fun hq => ?_)
      · replace hm := condT hq hm
        refine TL_want rfl rfl ?_
        refine TL_pure rfl rfl rfl rfl (op_fieldAddr fa35_1 rfl rfl) ?_
        refine TL_want rfl rfl ?_
        refine TL_pure rfl rfl rfl rfl (op_load_one ag26 rfl rfl) ?_
        refine TL_want rfl rfl ?_
        obtain ⟨r21, hr21, hm⟩ := bindS hm
        refine TL_callF (c_impl_allWithin p1.Stack (-10000000000000000 : Int) (10000000000000000 : Int) r21 hr21) Try.call71 rfl rfl rfl rfl rfl ?_
        refine TL_pure rfl rfl rfl rfl (op_pick_true rfl rfl) ?_
        refine TL_pure rfl rfl rfl rfl (op_move rfl) ?_
        refine TL_split 23 rfl rfl rfl (fun hq => ?_) (fun hq => ?_)
        · replace hm := condT hq hm
          refine TL_want rfl rfl ?_
          refine TL_pure rfl rfl rfl rfl (op_fieldAddr fa35_2 rfl rfl) ?_
          refine TL_want rfl rfl ?_
          refine TL_pure rfl rfl rfl rfl (op_load_one ag2 rfl rfl) ?_
          refine TL_want rfl rfl ?_
          obtain ⟨r26, hr26, hm⟩ := bindS hm
          refine TL_callF (c_impl_within p1.At (0 : Int) (80 : Int) r26 hr26) Try.call72 rfl rfl rfl rfl rfl ?_
          refine TL_pure rfl rfl rfl rfl (op_pick_true rfl rfl) ?_
          refine TL_pure rfl rfl rfl rfl (op_assign rfl) ?_
          refine TL_nil ?_
          refine T_keepH [4] [] rfl rfl rfl rfl (by rw [hF]; rfl) ?_
          refine T_ret ?_
          obtain rfl := someI hm
          refine ⟨[_], [], ⟨rfl, trivial⟩, ?_, rfl, rfl, rfl, rfl⟩
          rfl
        · replace hm := condF hq hm
          refine TL_pass rfl rfl rfl rfl rfl rfl rfl ?_
          refine TL_pass rfl rfl rfl rfl rfl rfl rfl ?_
          refine TL_pass rfl rfl rfl rfl rfl rfl rfl ?_
          refine TL_pure rfl rfl rfl rfl (op_pick_false rfl rfl) ?_
          refine TL_pure rfl rfl rfl rfl (op_assign rfl) ?_
          refine TL_nil ?_
          refine T_keepH [4] [] rfl rfl rfl rfl (by rw [hF]; rfl) ?_
          refine T_ret ?_
          obtain rfl := someI hm
          refine ⟨[_], [], ⟨rfl, trivial⟩, ?_, rfl, rfl, rfl, rfl⟩
          rfl
      · replace hm := condF hq hm
        refine TL_pass rfl rfl rfl rfl rfl rfl rfl ?_
        refine TL_pass rfl rfl rfl rfl rfl rfl rfl ?_
        refine TL_pass rfl rfl rfl rfl rfl rfl rfl ?_
        refine TL_pure rfl rfl rfl rfl (op_pick_false rfl rfl) ?_
        refine TL_pure rfl rfl rfl rfl (op_move rfl) ?_
        refine TL_pass rfl rfl rfl rfl rfl rfl rfl ?_
        refine TL_pass rfl rfl rfl rfl rfl rfl rfl ?_
        refine TL_pass rfl rfl rfl rfl rfl rfl rfl ?_
        refine TL_pure rfl rfl rfl rfl (op_pick_false rfl rfl) ?_
        refine TL_pure rfl rfl rfl rfl (op_assign rfl) ?_
        refine TL_nil ?_
        refine T_keepH [4] [] rfl rfl rfl rfl (by rw [hF]; rfl) ?_
        refine T_ret ?_
        obtain rfl := someI hm
        refine ⟨[_], [], ⟨rfl, trivial⟩, ?_, rfl, rfl, rfl, rfl⟩
        rfl
    · refine TL_split 12 rfl rfl rfl (fun hq => ?_) (fun hq => ?_)
      · refine TL_want rfl rfl ?_
        refine TL_pure rfl rfl rfl rfl (op_fieldAddr fa35_1 rfl rfl) ?_
        refine TL_want rfl rfl ?_
        refine TL_pure rfl rfl rfl rfl (op_load_one ag26 rfl rfl) ?_
        refine TL_want rfl rfl ?_
        refine TL_pure rfl rfl rfl rfl (op_lenT Try.underlying26 rfl (List.length_map _)) ?_
        refine TL_fact (fun _ _ _ hr => RelP.slLen (i := 14) rfl hr) (fun hlen15 => ?_)
        rw [List.length_map] at hlen15
        refine TL_want rfl rfl ?_
        refine TL_pure rfl rfl rfl rfl (op_leq rfl rfl) ?_
        refine TL_pure rfl rfl rfl rfl (op_pick_true rfl rfl) ?_
        refine TL_keepH [3, 17] [11] rfl rfl rfl rfl (by rw [hF]; rfl) ?_
        exact TL_cast _ (by rw [hq]; rfl) (hjj () trivial)
      · refine TL_pass rfl rfl rfl rfl rfl rfl rfl ?_
        refine TL_pass rfl rfl rfl rfl rfl rfl rfl ?_
        refine TL_pass rfl rfl rfl rfl rfl rfl rfl ?_
        refine TL_pass rfl rfl rfl rfl rfl rfl rfl ?_
        refine TL_pure rfl rfl rfl rfl (op_pick_false rfl rfl) ?_
        refine TL_keepH [3, 17] [11] rfl rfl rfl rfl (by rw [hF]; rfl) ?_
        exact TL_cast _ (by rw [hq]; rfl) (hjj () trivial)
  · replace hm := condF hq hm
    refine TL_pass rfl rfl rfl rfl rfl rfl rfl ?_
    refine TL_pass rfl rfl rfl rfl rfl rfl rfl ?_
    refine TL_pass rfl rfl rfl rfl rfl rfl rfl ?_
    refine TL_pure rfl rfl rfl rfl (op_pick_false rfl rfl) ?_
    refine TL_pure rfl rfl rfl rfl (op_move rfl) ?_
    refine TL_pass rfl rfl rfl rfl rfl rfl rfl ?_
    refine TL_pass rfl rfl rfl rfl rfl rfl rfl ?_
    refine TL_pass rfl rfl rfl rfl rfl rfl rfl ?_
    refine TL_pass rfl rfl rfl rfl rfl rfl rfl ?_
    refine TL_pure rfl rfl rfl rfl (op_pick_false rfl rfl) ?_
    refine TL_pure rfl rfl rfl rfl (op_move rfl) ?_
    refine TL_pass rfl rfl rfl rfl rfl rfl rfl ?_
    refine TL_pass rfl rfl rfl rfl rfl rfl rfl ?_
    refine TL_pass rfl rfl rfl rfl rfl rfl rfl ?_
    refine TL_pure rfl rfl rfl rfl (op_pick_false rfl rfl) ?_
    refine TL_pure rfl rfl rfl rfl (op_move rfl) ?_
    refine TL_pass rfl rfl rfl rfl rfl rfl rfl ?_
    refine TL_pass rfl rfl rfl rfl rfl rfl rfl ?_
    refine TL_pass rfl rfl rfl rfl rfl rfl rfl ?_
    refine TL_pure rfl rfl rfl rfl (op_pick_false rfl rfl) ?_
    refine TL_pure rfl rfl rfl rfl (op_assign rfl) ?_
    refine TL_nil ?_
    refine T_keepH [4] [] rfl rfl rfl rfl (by rw [hF]; rfl) ?_
    refine T_ret ?_
    obtain rfl := someI hm
    refine ⟨[_], [], ⟨rfl, trivial⟩, ?_, rfl, rfl, rfl, rfl⟩
    rfl
theorem c_impl_copyInts (p0 : List Int) (out : List Int) (hm : m_impl_copyInts p0 = some out) : ACall Try.prog 124 [.sl 1 (List.map a_i64 p0)] [] (.ow 1000) [(1000, .arr ⟨false, true⟩ 1 2 (List.map a_i64 out))] := by
  refine ACall.intro Try.func124 rfl Try.ntmps124 rfl (fun F hF => ?_)
  unfold m_impl_copyInts at hm
  refine T_seq ?_
  refine T_region ?_
  refine TL_pure rfl rfl rfl rfl (op_assign rfl) ?_
  refine TL_nil ?_
  refine T_seq ?_
  refine T_region ?_
  refine TL_buildSlice 11 (es := List.map a_i64 ([] : List Int)) el26 z2 rfl rfl rfl rfl rfl rfl rfl rfl rfl ?_
  refine TL_pure rfl rfl rfl rfl (op_move rfl) ?_
  obtain ⟨q5, hq5, hm⟩ := bindS hm
  refine TL_appendT (f := a_i64) (a := ([] : List Int)) (b := p0) el26 z2 rfl rfl rfl rfl rfl rfl rfl (capI_spec hq5) rfl rfl rfl rfl rfl ?_
  refine TL_pure rfl rfl rfl rfl (op_assign rfl) ?_
  refine TL_nil ?_
  refine T_keepH [2] [11] rfl rfl rfl rfl (by rw [hF]; rfl) ?_
  refine T_deepen 11 (p' := false) (List.map a_i64 (([] : List Int) ++ p0)) (by rw [hF]; rfl) rfl (ElR.map (f := a_i64) (g := a_i64) (fun _ => ⟨⟨rfl, rfl⟩, trivial⟩) (([] : List Int) ++ p0)) rfl rfl rfl ?_
  refine T_ren [(11, 1000)] rfl rfl rfl (by rw [hF]; rfl) ?_
  refine T_ret ?_
  obtain rfl := someI hm
  refine ⟨[_], [1000], ⟨rfl, trivial⟩, ?_, rfl, rfl, rfl, rfl⟩
  rfl
theorem c_impl_State_own (p0 : State) (out : State) (hm : m_impl_State_own p0 = some out) : ACall Try.prog 123 [.agg [.sl 1 (List.map a_i64 p0.Vars), .sl 1 (List.map a_i64 p0.Cells)]] [] (.agg [.ow 1000, .ow 1001]) [(1000, .arr ⟨false, true⟩ 1 2 (List.map a_i64 out.Vars)), (1001, .arr ⟨false, true⟩ 1 2 (List.map a_i64 out.Cells))] := by
  refine ACall.intro Try.func123 rfl Try.ntmps123 rfl (fun F hF => ?_)
  unfold m_impl_State_own at hm
  refine T_seq ?_
  refine T_region ?_
  refine TL_box 11 rfl rfl rfl rfl rfl rfl rfl ?_
  refine TL_alloc 12 z28 rfl rfl rfl rfl rfl rfl rfl ?_
  refine TL_nil ?_
  refine T_seq ?_
  refine T_drawZ [7] mix (by kernel_rfl) rfl ?_
  obtain ⟨r5, hr5, hm⟩ := bindS hm
  obtain ⟨r8, hr8, hm⟩ := bindS hm
  refine TZ_pure 0 (by kernel_rfl) rfl rfl rfl rfl rfl (op_fieldAddr fa28_0 rfl rfl) ?_
  refine TZ_pure 1 (by kernel_rfl) rfl rfl rfl rfl rfl (op_load_one ag26 rfl rfl) ?_
  refine TZ_pure 3 (by kernel_rfl) rfl rfl rfl rfl rfl (op_fieldAddr fa28_1 rfl rfl) ?_
  refine TZ_pure 4 (by kernel_rfl) rfl rfl rfl rfl rfl (op_load_one ag26 rfl rfl) ?_
  refine TZ_one 2 (by kernel_rfl) rfl ?_
  refine TL_callO [(1000, 15)] (c_impl_copyInts p0.Vars r5 hr5) Try.call124 rfl rfl rfl rfl rfl rfl rfl rfl rfl rfl rfl rfl rfl ?_
  refine TL_nil ?_
  refine TZ_one 5 (by kernel_rfl) rfl ?_
  refine TL_callO [(1000, 16)] (c_impl_copyInts p0.Cells r8 hr8) Try.call124 rfl rfl rfl rfl rfl rfl rfl rfl rfl rfl rfl rfl rfl ?_
  refine TL_nil ?_
  refine TZ_pure 6 (by kernel_rfl) rfl rfl rfl rfl rfl (op_buildP pl28 z28 rfl rfl rfl rfl rfl) ?_
  refine TZ_one 7 (by kernel_rfl) rfl ?_
  refine TL_store_box sz28 rfl rfl rfl rfl rfl rfl rfl rfl rfl ?_
  refine TL_nil ?_
  refine TZ_done (by kernel_rfl) ?_
  refine T_keepH [2] [12, 15, 16] rfl rfl rfl rfl (by rw [hF]; rfl) ?_
  refine T_ren [(12, 12), (15, 1000), (16, 1001)] rfl rfl rfl (by rw [hF]; rfl) ?_
  refine T_ret ?_
  obtain rfl := someI hm
  refine ⟨[_], [1000, 1001], ⟨⟨_, _, rfl, rfl, .inr ⟨ag28, _, _, sz28, rfl, rfl⟩⟩, trivial⟩, ?_, rfl, rfl, rfl, rfl⟩
  rfl
theorem c_impl_Config_own (p0 : Config) (out : Config) (hm : m_impl_Config_own p0 = some out) : ACall Try.prog 67 [.agg [.sl 1 (List.map a_i64 p0.State.Vars), .sl 1 (List.map a_i64 p0.State.Cells), .sl 1 (List.map a_i64 p0.Stack), .int .i64 p0.At]] [] (.agg [.ow 1000, .ow 1001, .ow 1002, .int .i64 out.At]) [(1000, .arr ⟨false, true⟩ 1 2 (List.map a_i64 out.State.Vars)), (1001, .arr ⟨false, true⟩ 1 2 (List.map a_i64 out.State.Cells)), (1002, .arr ⟨false, true⟩ 1 2 (List.map a_i64 out.Stack))] := by
  refine ACall.intro Try.func67 rfl Try.ntmps67 rfl (fun F hF => ?_)
  unfold m_impl_Config_own at hm
  refine T_seq ?_
  refine T_region ?_
  refine TL_box 11 rfl rfl rfl rfl rfl rfl rfl ?_
  refine TL_alloc 12 z35 rfl rfl rfl rfl rfl rfl rfl ?_
  refine TL_nil ?_
  refine T_seq ?_
  refine T_drawZ [9] mix (by kernel_rfl) rfl ?_
  obtain ⟨r5, hr5, hm⟩ := bindS hm
  obtain ⟨r8, hr8, hm⟩ := bindS hm
  refine TZ_pure 0 (by kernel_rfl) rfl rfl rfl rfl rfl (op_fieldAddr fa35_0 rfl rfl) ?_
  refine TZ_pure 1 (by kernel_rfl) rfl rfl rfl rfl rfl (op_load_agg ag28 sz28 rfl rfl rfl) ?_
  refine TZ_pure 3 (by kernel_rfl) rfl rfl rfl rfl rfl (op_fieldAddr fa35_1 rfl rfl) ?_
  refine TZ_pure 4 (by kernel_rfl) rfl rfl rfl rfl rfl (op_load_one ag26 rfl rfl) ?_
  refine TZ_pure 6 (by kernel_rfl) rfl rfl rfl rfl rfl (op_fieldAddr fa35_2 rfl rfl) ?_
  refine TZ_pure 7 (by kernel_rfl) rfl rfl rfl rfl rfl (op_load_one ag2 rfl rfl) ?_
  refine TZ_one 2 (by kernel_rfl) rfl ?_
  refine TL_callO [(1000, 16), (1001, 17)] (c_impl_State_own p0.State r5 hr5) Try.call123 rfl rfl rfl rfl rfl rfl rfl rfl rfl rfl rfl rfl rfl ?_
  refine TL_nil ?_
  refine TZ_one 5 (by kernel_rfl) rfl ?_
  refine TL_callO [(1000, 18)] (c_impl_copyInts p0.Stack r8 hr8) Try.call124 rfl rfl rfl rfl rfl rfl rfl rfl rfl rfl rfl rfl rfl ?_
  refine TL_nil ?_
  refine TZ_pure 8 (by kernel_rfl) rfl rfl rfl rfl rfl (op_buildP pl35 z35 rfl rfl rfl rfl rfl) ?_
  refine TZ_one 9 (by kernel_rfl) rfl ?_
  refine TL_store_box sz35 rfl rfl rfl rfl rfl rfl rfl rfl rfl ?_
  refine TL_nil ?_
  refine TZ_done (by kernel_rfl) ?_
  refine T_keepH [2] [12, 16, 17, 18] rfl rfl rfl rfl (by rw [hF]; rfl) ?_
  refine T_ren [(12, 12), (16, 1000), (17, 1001), (18, 1002)] rfl rfl rfl (by rw [hF]; rfl) ?_
  refine T_ret ?_
  obtain rfl := someI hm
  refine ⟨[_], [1000, 1001, 1002], ⟨⟨_, _, rfl, rfl, .inr ⟨ag35, _, _, sz35, rfl, rfl⟩⟩, trivial⟩, ?_, rfl, rfl, rfl, rfl⟩
  rfl
theorem c_impl_isIndex (p0 : Int) (p1 : Int) (out : Bool) (hm : m_impl_isIndex p0 p1 = some out) : ACall Try.prog 92 [.int .i64 p0, .int .i64 p1] [] (.bool out) [] := by
  refine ACall.intro Try.func92 rfl Try.ntmps92 rfl (fun F hF => ?_)
  unfold m_impl_isIndex at hm
  refine T_seq ?_
  refine T_region ?_
  refine TL_pure rfl rfl rfl rfl (op_assign rfl) ?_
  refine TL_nil ?_
  refine T_seq ?_
  refine T_region ?_
  refine TL_pure rfl rfl rfl rfl (op_move rfl) ?_
  refine TL_pure rfl rfl rfl rfl (op_move rfl) ?_
  obtain ⟨r7, hr7, hm⟩ := bindS hm
  refine TL_callF (c_impl_size p1 r7 hr7) Try.call129 rfl rfl rfl rfl rfl ?_
  refine TL_pure rfl rfl rfl rfl (op_subW rfl rfl) ?_
  obtain ⟨r9, hr9, hm⟩ := bindS hm
  refine TL_callF (c_impl_within p0 (0 : Int) (w64 (r7 - (1 : Int))) r9 hr9) Try.call72 rfl rfl rfl rfl rfl ?_
  refine TL_pure rfl rfl rfl rfl (op_assign rfl) ?_
  refine TL_nil ?_
  refine T_keepH [4] [] rfl rfl rfl rfl (by rw [hF]; rfl) ?_
  refine T_ret ?_
  obtain rfl := someI hm
  refine ⟨[_], [], ⟨rfl, trivial⟩, ?_, rfl, rfl, rfl, rfl⟩
  rfl
theorem c_impl_Instr_moves (p0 : Instr) (out : Int × Int) (hm : m_impl_Instr_moves p0 = some out) : ACall Try.prog 125 [.agg [.int .i64 p0.Op, .int .i64 p0.Arg]] [] (.tup [.int .i64 out.1, .int .i64 out.2]) [] := by
  refine ACall.intro Try.func125 rfl Try.ntmps125 rfl (fun F hF => ?_)
  unfold m_impl_Instr_moves at hm
  refine T_seq ?_
  refine T_region ?_
  refine TL_box 11 rfl rfl rfl rfl rfl rfl rfl ?_
  refine TL_pure rfl rfl rfl rfl (op_assign rfl) ?_
  refine TL_pure rfl rfl rfl rfl (op_assign rfl) ?_
  refine TL_nil ?_
  refine T_seq ?_
  refine T_seq ?_
  refine T_region ?_
  refine TL_pure rfl rfl rfl rfl (op_fieldAddr fa40_0 rfl rfl) ?_
  refine TL_pure rfl rfl rfl rfl (op_load_one ag2 rfl rfl) ?_
  refine TL_nil ?_
  refine T_block ?_
  refine T_join (fun (j0 : Bool) => ⟨[(5, .int .i64 p0.Op), (6, .bool j0)], []⟩) (fun j0 => m_impl_Instr_moves_J0 p0 j0 = some out) (fun j0 hm => ?_) (fun hj0 => ?_)
  · unfold m_impl_Instr_moves_J0 at hm
    refine T_cond rfl (fun hq => ?_) (fun hq => ?_)
    · replace hm := condT hq hm
      refine T_seq ?_
      refine T_region ?_
      refine TL_pure rfl rfl rfl rfl (op_assign rfl) ?_
      refine TL_pure rfl rfl rfl rfl (op_assign rfl) ?_
      refine TL_nil ?_
      refine T_keepH [2, 3] [] rfl rfl rfl rfl (by rw [hF]; rfl) ?_
      refine T_ret ?_
      obtain rfl := someI hm
      refine ⟨[_, _], [], ⟨rfl, rfl, trivial⟩, ?_, rfl, rfl, rfl, rfl⟩
      rfl
    · replace hm := condF hq hm
      refine T_join (fun (j1 : Bool) => ⟨[(5, .int .i64 p0.Op), (9, .bool j1)], []⟩) (fun j1 => m_impl_Instr_moves_J1 p0 j1 = some out) (fun j1 hm => ?_) (fun hj1 => ?_)
      · unfold m_impl_Instr_moves_J1 at hm
        refine T_cond rfl (fun hq => ?_) (fun hq => ?_)
        · replace hm := condT hq hm
          refine T_seq ?_
          refine T_region ?_
          refine TL_pure rfl rfl rfl rfl (op_assign rfl) ?_
          refine TL_pure rfl rfl rfl rfl (op_assign rfl) ?_
          refine TL_nil ?_
          refine T_keepH [2, 3] [] rfl rfl rfl rfl (by rw [hF]; rfl) ?_
          refine T_ret ?_
          obtain rfl := someI hm
          refine ⟨[_, _], [], ⟨rfl, rfl, trivial⟩, ?_, rfl, rfl, rfl, rfl⟩
          rfl
        · replace hm := condF hq hm
          refine T_seq ?_
          refine T_region ?_
          refine TL_pure rfl rfl rfl rfl (op_eql rfl rfl) ?_
          refine TL_pure rfl rfl rfl rfl (op_assign rfl) ?_
          refine TL_nil ?_
          refine T_cond rfl (fun hq => ?_) (fun hq => ?_)
          · replace hm := condT hq hm
            refine T_seq ?_
            refine T_region ?_
            refine TL_pure rfl rfl rfl rfl (op_assign rfl) ?_
            refine TL_pure rfl rfl rfl rfl (op_assign rfl) ?_
            refine TL_nil ?_
            refine T_keepH [2, 3] [] rfl rfl rfl rfl (by rw [hF]; rfl) ?_
            refine T_ret ?_
            obtain rfl := someI hm
            refine ⟨[_, _], [], ⟨rfl, rfl, trivial⟩, ?_, rfl, rfl, rfl, rfl⟩
            rfl
          · replace hm := condF hq hm
            refine T_join (fun (j2 : Bool) => ⟨[(5, .int .i64 p0.Op), (15, .bool j2)], []⟩) (fun j2 => m_impl_Instr_moves_J2 p0 j2 = some out) (fun j2 hm => ?_) (fun hj2 => ?_)
            · unfold m_impl_Instr_moves_J2 at hm
              refine T_cond rfl (fun hq => ?_) (fun hq => ?_)
              · replace hm := condT hq hm
                refine T_seq ?_
                refine T_region ?_
                refine TL_pure rfl rfl rfl rfl (op_assign rfl) ?_
                refine TL_pure rfl rfl rfl rfl (op_assign rfl) ?_
                refine TL_nil ?_
                refine T_keepH [2, 3] [] rfl rfl rfl rfl (by rw [hF]; rfl) ?_
                refine T_ret ?_
                obtain rfl := someI hm
                refine ⟨[_, _], [], ⟨rfl, rfl, trivial⟩, ?_, rfl, rfl, rfl, rfl⟩
                rfl
              · replace hm := condF hq hm
                refine T_seq ?_
                refine T_region ?_
                refine TL_pure rfl rfl rfl rfl (op_eql rfl rfl) ?_
                refine TL_pure rfl rfl rfl rfl (op_assign rfl) ?_
                refine TL_nil ?_
                refine T_cond rfl (fun hq => ?_) (fun hq => ?_)
                · replace hm := condT hq hm
                  refine T_seq ?_
                  refine T_region ?_
                  refine TL_pure rfl rfl rfl rfl (op_assign rfl) ?_
                  refine TL_pure rfl rfl rfl rfl (op_assign rfl) ?_
                  refine TL_nil ?_
                  refine T_keepH [2, 3] [] rfl rfl rfl rfl (by rw [hF]; rfl) ?_
                  refine T_ret ?_
                  obtain rfl := someI hm
                  refine ⟨[_, _], [], ⟨rfl, rfl, trivial⟩, ?_, rfl, rfl, rfl, rfl⟩
                  rfl
                · replace hm := condF hq hm
                  refine T_skip ?_
                  refine T_seq ?_
                  refine T_region ?_
                  refine TL_pure rfl rfl rfl rfl (op_assign rfl) ?_
                  refine TL_pure rfl rfl rfl rfl (op_assign rfl) ?_
                  refine TL_nil ?_
                  refine T_keepH [2, 3] [] rfl rfl rfl rfl (by rw [hF]; rfl) ?_
                  refine T_ret ?_
                  obtain rfl := someI hm
                  refine ⟨[_, _], [], ⟨rfl, rfl, trivial⟩, ?_, rfl, rfl, rfl, rfl⟩
                  rfl
            · refine T_seq ?_
              refine T_region ?_
              refine TL_pure rfl rfl rfl rfl (op_eql rfl rfl) ?_
              refine TL_pure rfl rfl rfl rfl (op_assign rfl) ?_
              refine TL_nil ?_
              refine T_cond rfl (fun hq => ?_) (fun hq => ?_)
              · replace hm := condT hq hm
                refine T_skip ?_
                refine T_keepH [5, 15] [] rfl rfl rfl rfl (by rw [hF]; rfl) ?_
                exact hj2 (decide (p0.Op = (4 : Int))) hm
              · replace hm := condF hq hm
                refine T_region ?_
                refine TL_pure rfl rfl rfl rfl (op_eql rfl rfl) ?_
                refine TL_pure rfl rfl rfl rfl (op_assign rfl) ?_
                refine TL_nil ?_
                refine T_keepH [5, 15] [] rfl rfl rfl rfl (by rw [hF]; rfl) ?_
                exact hj2 (decide (p0.Op = (7 : Int))) hm
      · refine T_seq ?_
        refine T_region ?_
        refine TL_pure rfl rfl rfl rfl (op_eql rfl rfl) ?_
        refine TL_pure rfl rfl rfl rfl (op_assign rfl) ?_
        refine TL_nil ?_
        refine T_cond rfl (fun hq => ?_) (fun hq => ?_)
        · replace hm := condT hq hm
          refine T_skip ?_
          refine T_keepH [5, 9] [] rfl rfl rfl rfl (by rw [hF]; rfl) ?_
          exact hj1 (decide (p0.Op = (2 : Int))) hm
        · replace hm := condF hq hm
          refine T_seq ?_
          refine T_region ?_
          refine TL_pure rfl rfl rfl rfl (op_eql rfl rfl) ?_
          refine TL_pure rfl rfl rfl rfl (op_assign rfl) ?_
          refine TL_nil ?_
          refine T_cond rfl (fun hq => ?_) (fun hq => ?_)
          · replace hm := condT hq hm
            refine T_skip ?_
            refine T_keepH [5, 9] [] rfl rfl rfl rfl (by rw [hF]; rfl) ?_
            exact hj1 (decide (p0.Op = (6 : Int))) hm
          · replace hm := condF hq hm
            refine T_region ?_
            refine TL_pure rfl rfl rfl rfl (op_eql rfl rfl) ?_
            refine TL_pure rfl rfl rfl rfl (op_assign rfl) ?_
            refine TL_nil ?_
            refine T_keepH [5, 9] [] rfl rfl rfl rfl (by rw [hF]; rfl) ?_
            exact hj1 (decide (p0.Op = (10 : Int))) hm
  · refine T_seq ?_
    refine T_region ?_
    refine TL_pure rfl rfl rfl rfl (op_eql rfl rfl) ?_
    refine TL_pure rfl rfl rfl rfl (op_assign rfl) ?_
    refine TL_nil ?_
    refine T_cond rfl (fun hq => ?_) (fun hq => ?_)
    · replace hm := condT hq hm
      refine T_skip ?_
      refine T_keepH [5, 6] [] rfl rfl rfl rfl (by rw [hF]; rfl) ?_
      exact hj0 (decide (p0.Op = (0 : Int))) hm
    · replace hm := condF hq hm
      refine T_region ?_
      refine TL_pure rfl rfl rfl rfl (op_eql rfl rfl) ?_
      refine TL_pure rfl rfl rfl rfl (op_assign rfl) ?_
      refine TL_nil ?_
      refine T_keepH [5, 6] [] rfl rfl rfl rfl (by rw [hF]; rfl) ?_
      exact hj0 (decide (p0.Op = (1 : Int))) hm
theorem c_impl_isInt (p0 : Int) (out : Bool) (hm : m_impl_isInt p0 = some out) : ACall Try.prog 126 [.int .i64 p0] [] (.bool out) [] := by
  refine ACall.intro Try.func126 rfl Try.ntmps126 rfl (fun F hF => ?_)
  unfold m_impl_isInt at hm
  refine T_seq ?_
  refine T_region ?_
  refine TL_pure rfl rfl rfl rfl (op_assign rfl) ?_
  refine TL_nil ?_
  refine T_seq ?_
  refine T_region ?_
  refine TL_pure rfl rfl rfl rfl (op_move rfl) ?_
  obtain ⟨r4, hr4, hm⟩ := bindS hm
  refine TL_callF (c_impl_within p0 (-1000000000 : Int) (1000000000 : Int) r4 hr4) Try.call72 rfl rfl rfl rfl rfl ?_
  refine TL_pure rfl rfl rfl rfl (op_assign rfl) ?_
  refine TL_nil ?_
  refine T_keepH [2] [] rfl rfl rfl rfl (by rw [hF]; rfl) ?_
  refine T_ret ?_
  obtain rfl := someI hm
  refine ⟨[_], [], ⟨rfl, trivial⟩, ?_, rfl, rfl, rfl, rfl⟩
  rfl
theorem c_impl_isWide (p0 : Int) (out : Bool) (hm : m_impl_isWide p0 = some out) : ACall Try.prog 127 [.int .i64 p0] [] (.bool out) [] := by
  refine ACall.intro Try.func127 rfl Try.ntmps127 rfl (fun F hF => ?_)
  unfold m_impl_isWide at hm
  refine T_seq ?_
  refine T_region ?_
  refine TL_pure rfl rfl rfl rfl (op_assign rfl) ?_
  refine TL_nil ?_
  refine T_seq ?_
  refine T_region ?_
  refine TL_pure rfl rfl rfl rfl (op_move rfl) ?_
  obtain ⟨r4, hr4, hm⟩ := bindS hm
  refine TL_callF (c_impl_within p0 (-10000000000000000 : Int) (10000000000000000 : Int) r4 hr4) Try.call72 rfl rfl rfl rfl rfl ?_
  refine TL_pure rfl rfl rfl rfl (op_assign rfl) ?_
  refine TL_nil ?_
  refine T_keepH [2] [] rfl rfl rfl rfl (by rw [hF]; rfl) ?_
  refine T_ret ?_
  obtain rfl := someI hm
  refine ⟨[_], [], ⟨rfl, trivial⟩, ?_, rfl, rfl, rfl, rfl⟩
  rfl
theorem c_impl_absolute (p0 : Int) (out : Int) (hm : m_impl_absolute p0 = some out) : ACall Try.prog 169 [.int .i64 p0] [] (.int .i64 out) [] := by
  refine ACall.intro Try.func169 rfl Try.ntmps169 rfl (fun F hF => ?_)
  unfold m_impl_absolute at hm
  refine T_seq ?_
  refine T_region ?_
  refine TL_pure rfl rfl rfl rfl (op_assign rfl) ?_
  refine TL_nil ?_
  refine T_seq ?_
  refine T_region ?_
  refine TL_pure rfl rfl rfl rfl (op_move rfl) ?_
  refine TL_pure rfl rfl rfl rfl (op_move rfl) ?_
  refine TL_pure rfl rfl rfl rfl (op_negW rfl) ?_
  refine TL_pure rfl rfl rfl rfl (op_max rfl rfl) ?_
  refine TL_pure rfl rfl rfl rfl (op_assign rfl) ?_
  refine TL_nil ?_
  refine T_keepH [2] [] rfl rfl rfl rfl (by rw [hF]; rfl) ?_
  refine T_ret ?_
  obtain rfl := someI hm
  refine ⟨[_], [], ⟨rfl, trivial⟩, ?_, rfl, rfl, rfl, rfl⟩
  rfl
theorem c_impl_scaled (p0 : Int) (p1 : Int) (out : Int × Bool) (hm : m_impl_scaled p0 p1 = some out) : ACall Try.prog 128 [.int .i64 p0, .int .i64 p1] [] (.tup [.int .i64 out.1, .bool out.2]) [] := by
  refine ACall.intro Try.func128 rfl Try.ntmps128 rfl (fun F hF => ?_)
  unfold m_impl_scaled at hm
  refine T_seq ?_
  refine T_region ?_
  refine TL_pure rfl rfl rfl rfl (op_assign rfl) ?_
  refine TL_pure rfl rfl rfl rfl (op_assign rfl) ?_
  refine TL_nil ?_
  refine T_join (fun (j0 : Unit) => ⟨[(0, .int .i64 p0), (1, .int .i64 p1)], []⟩) (fun j0 => m_impl_scaled_J0 p0 p1 j0 = some out) (fun j0 hm => ?_) (fun hj0 => ?_)
  · unfold m_impl_scaled_J0 at hm
    refine T_seq ?_
    refine T_region ?_
    refine TL_pure rfl rfl rfl rfl (op_move rfl) ?_
    refine TL_pure rfl rfl rfl rfl (op_move rfl) ?_
    refine TL_pure rfl rfl rfl rfl (op_mulW rfl rfl) ?_
    refine TL_pure rfl rfl rfl rfl (op_move rfl) ?_
    refine TL_pure rfl rfl rfl rfl (op_move rfl) ?_
    refine TL_pure rfl rfl rfl rfl (op_mulW rfl rfl) ?_
    obtain ⟨r22, hr22, hm⟩ := bindS hm
    refine TL_callF (c_impl_isWide (w64 (p0 * p1)) r22 hr22) Try.call127 rfl rfl rfl rfl rfl ?_
    refine TL_pure rfl rfl rfl rfl (op_assign rfl) ?_
    refine TL_pure rfl rfl rfl rfl (op_assign rfl) ?_
    refine TL_nil ?_
    refine T_keepH [4, 5] [] rfl rfl rfl rfl (by rw [hF]; rfl) ?_
    refine T_ret ?_
    obtain rfl := someI hm
    refine ⟨[_, _], [], ⟨rfl, rfl, trivial⟩, ?_, rfl, rfl, rfl, rfl⟩
    rfl
  · refine T_seq ?_
    refine T_region ?_
    refine TL_pure rfl rfl rfl rfl (op_move rfl) ?_
    refine TL_pure rfl rfl rfl rfl (op_neq rfl rfl) ?_
    refine TL_pure rfl rfl rfl rfl (op_move rfl) ?_
    refine TL_split 8 rfl rfl rfl (fun hq => ?_) (fun hq => ?_)
    · replace hm := condT hq hm
      refine TL_want rfl rfl ?_
      refine TL_pure rfl rfl rfl rfl (op_move rfl) ?_
      refine TL_want rfl rfl ?_
      obtain ⟨r10, hr10, hm⟩ := bindS hm
      refine TL_callF (c_impl_absolute p1 r10 hr10) Try.call169 rfl rfl rfl rfl rfl ?_
      refine TL_want rfl rfl ?_
      refine TL_pure rfl rfl rfl rfl (op_move rfl) ?_
      refine TL_want rfl rfl ?_
      obtain ⟨r12, hr12, hm⟩ := bindS hm
      refine TL_callF (c_impl_absolute p0 r12 hr12) Try.call169 rfl rfl rfl rfl rfl ?_
      refine TL_want rfl rfl ?_
      obtain ⟨q13, hq13, hm⟩ := bindS hm
      refine TL_pure rfl rfl rfl rfl (op_quoT rfl rfl hq13) ?_
      refine TL_want rfl rfl ?_
      refine TL_pure rfl rfl rfl rfl (op_gtr rfl rfl) ?_
      refine TL_pure rfl rfl rfl rfl (op_pick_true rfl rfl) ?_
      refine TL_nil ?_
      refine T_cond rfl (fun hq => ?_) (fun hq => ?_)
      · replace hm := condT hq hm
        refine T_seq ?_
        refine T_region ?_
        refine TL_pure rfl rfl rfl rfl (op_assign rfl) ?_
        refine TL_pure rfl rfl rfl rfl (op_assign rfl) ?_
        refine TL_nil ?_
        refine T_keepH [4, 5] [] rfl rfl rfl rfl (by rw [hF]; rfl) ?_
        refine T_ret ?_
        obtain rfl := someI hm
        refine ⟨[_, _], [], ⟨rfl, rfl, trivial⟩, ?_, rfl, rfl, rfl, rfl⟩
        rfl
      · replace hm := condF hq hm
        refine T_skip ?_
        refine T_keepH [0, 1] [] rfl rfl rfl rfl (by rw [hF]; rfl) ?_
        exact hj0 () hm
    · replace hm := condF hq hm
      refine TL_pass rfl rfl rfl rfl rfl rfl rfl ?_
      refine TL_pass rfl rfl rfl rfl rfl rfl rfl ?_
      refine TL_pass rfl rfl rfl rfl rfl rfl rfl ?_
      refine TL_pass rfl rfl rfl rfl rfl rfl rfl ?_
      refine TL_pass rfl rfl rfl rfl rfl rfl rfl ?_
      refine TL_pass rfl rfl rfl rfl rfl rfl rfl ?_
      refine TL_pure rfl rfl rfl rfl (op_pick_false rfl rfl) ?_
      refine TL_nil ?_
      refine T_cond_false rfl ?_
      refine T_skip ?_
      refine T_keepH [0, 1] [] rfl rfl rfl rfl (by rw [hF]; rfl) ?_
      exact hj0 () hm
end Go.Mod
