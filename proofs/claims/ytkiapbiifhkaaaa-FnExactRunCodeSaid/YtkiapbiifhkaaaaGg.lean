import Derived.Test.YtkiapbiifhkaaaaGf
namespace Go.Mod
open Go Go.AM Go.Proofs
set_option linter.unusedVariables false
set_option linter.unusedSimpArgs false
set_option maxRecDepth 100000
set_option maxHeartbeats 8000000
theorem c_laws_FnExactRunCode (p0 : List Instr) (p1 : State) (p2 : Int) (out : Bool) (hm : m_laws_FnExactRunCode p0 p1 p2 = some out) : ACall Try.prog 5 [.sl 2 (List.map a_Instr p0), .agg [.sl 1 (List.map a_i64 p1.Vars), .sl 1 (List.map a_i64 p1.Cells)], .int .i64 p2] [] (.bool out) [] := by
  refine ACall.intro Try.func5 rfl Try.ntmps5 rfl (fun F hF => ?_)
  unfold m_laws_FnExactRunCode at hm
  refine T_seq ?_
  refine T_region ?_
  refine TL_box 11 rfl rfl rfl rfl rfl rfl rfl ?_
  refine TL_pure rfl rfl rfl rfl (op_assign rfl) ?_
  refine TL_nil ?_
  refine T_seq ?_
  refine T_region ?_
  refine TL_pure rfl rfl rfl rfl (op_assign rfl) ?_
  refine TL_nil ?_
  refine T_seq ?_
  refine T_region ?_
  refine TL_pure rfl rfl rfl rfl (op_move rfl) ?_
  refine TL_pure rfl rfl rfl rfl (op_move rfl) ?_
  obtain ⟨r27, hr27, hm⟩ := bindS hm
  refine TL_callF (c_laws_szInstrS p0 (1048576 : Int) r27 hr27) Try.call21 rfl rfl rfl rfl rfl ?_
  refine TL_pure rfl rfl rfl rfl (op_assign rfl) ?_
  refine TL_nil ?_
  refine T_seq ?_
  refine T_seq ?_
  refine T_region ?_
  refine TL_pure rfl rfl rfl rfl (op_move rfl) ?_
  refine TL_pure rfl rfl rfl rfl (op_lss rfl rfl) ?_
  refine TL_nil ?_
  refine T_cond rfl (fun hq => ?_) (fun hq => ?_)
  · replace hm := condT hq hm
    refine T_seq ?_
    refine T_region ?_
    refine TL_pure rfl rfl rfl rfl (op_assign rfl) ?_
    refine TL_nil ?_
    refine T_keepH [6] [] rfl rfl rfl rfl (by rw [hF]; rfl) ?_
    refine T_ret ?_
    obtain rfl := someI hm
    refine ⟨[_], [], ⟨rfl, trivial⟩, ?_, rfl, rfl, rfl, rfl⟩
    rfl
  · replace hm := condF hq hm
    refine T_skip ?_
    refine T_seq ?_
    refine T_region ?_
    refine TL_pure rfl rfl rfl rfl (op_load_agg ag44 sz44 rfl rfl rfl) ?_
    refine TL_pure rfl rfl rfl rfl (op_move rfl) ?_
    obtain ⟨r32, hr32, hm⟩ := bindS hm
    refine TL_callF (c_laws_szState p1 r27 r32 hr32) Try.call22 rfl rfl rfl rfl rfl ?_
    refine TL_pure rfl rfl rfl rfl (op_assign rfl) ?_
    refine TL_nil ?_
    refine T_seq ?_
    refine T_seq ?_
    refine T_region ?_
    refine TL_pure rfl rfl rfl rfl (op_move rfl) ?_
    refine TL_pure rfl rfl rfl rfl (op_lss rfl rfl) ?_
    refine TL_nil ?_
    refine T_cond rfl (fun hq => ?_) (fun hq => ?_)
    · replace hm := condT hq hm
      refine T_seq ?_
      refine T_region ?_
      refine TL_pure rfl rfl rfl rfl (op_assign rfl) ?_
      refine TL_nil ?_
      refine T_keepH [6] [] rfl rfl rfl rfl (by rw [hF]; rfl) ?_
      refine T_ret ?_
      obtain rfl := someI hm
      refine ⟨[_], [], ⟨rfl, trivial⟩, ?_, rfl, rfl, rfl, rfl⟩
      rfl
    · replace hm := condF hq hm
      refine T_skip ?_
      refine T_join (fun (j0 : (List Int) × (List Int) × (List Int) × Int × Bool) => ⟨[(0, .sl 2 (List.map a_Instr p0)), (2, .int .i64 p2), (4, .ptr 11 0 0), (8, .ptr 28 0 0), (9, .ow 26), (10, .int .i64 j0.2.2.2.1), (11, .bool j0.2.2.2.2)], [(11, .box [.sl 1 (List.map a_i64 p1.Vars), .sl 1 (List.map a_i64 p1.Cells)]), (24, .arr ⟨false, true⟩ 1 2 (List.map a_i64 j0.1)), (25, .arr ⟨false, true⟩ 1 2 (List.map a_i64 j0.2.1)), (26, .arr ⟨false, true⟩ 1 2 (List.map a_i64 j0.2.2.1)), (28, .box [.ow 24, .ow 25])]⟩) (fun j0 => m_laws_FnExactRunCode_J0 p0 p1 p2 j0 = some out) (fun j0 hm => ?_) (fun hj0 => ?_)
      · unfold m_laws_FnExactRunCode_J0 at hm
        refine T_seq ?_
        refine T_region ?_
        refine TL_pure rfl rfl rfl rfl (op_move rfl) ?_
        obtain ⟨r47, hr47, hm⟩ := bindS hm
        refine TL_callO [(1000, 43)] (c_laws_toInstrS p0 r47 hr47) Try.call24 rfl rfl rfl rfl rfl rfl rfl rfl rfl rfl rfl rfl rfl ?_
        refine TL_pure rfl rfl rfl rfl (op_assign rfl) ?_
        refine TL_nil ?_
        refine T_seq ?_
        refine T_region ?_
        refine TL_pure rfl rfl rfl rfl (op_load_agg ag44 sz44 rfl rfl rfl) ?_
        obtain ⟨r49, hr49, hm⟩ := bindS hm
        refine TL_callO [(1000, 44), (1001, 45)] (c_laws_toState p1 r49 hr49) Try.call25 rfl rfl rfl rfl rfl rfl rfl rfl rfl rfl rfl rfl rfl ?_
        refine TL_alloc 46 z28 rfl rfl rfl rfl rfl rfl rfl ?_
        refine TL_store_box sz28 rfl rfl rfl rfl rfl rfl rfl rfl rfl ?_
        refine TL_nil ?_
        refine T_seq ?_
        refine T_region ?_
        refine TL_pure rfl rfl rfl rfl (op_move rfl) ?_
        refine TL_pure rfl rfl rfl rfl (op_load_agg ag28 sz28 rfl rfl rfl) ?_
        refine TL_pure rfl rfl rfl rfl (op_move rfl) ?_
        obtain ⟨r54, hr54, hm⟩ := bindS hm
        refine TL_callO [(1000, 47), (1001, 48), (1002, 49)] (c_impl_RunCode r47 r49 p2 r54 hr54) Try.call15 rfl rfl rfl rfl rfl rfl rfl rfl rfl rfl rfl rfl rfl ?_
        refine TL_pure rfl rfl rfl rfl (op_move rfl) ?_
        refine TL_pure rfl rfl rfl rfl (op_extract rfl rfl) ?_
        refine TL_pure rfl rfl rfl rfl (op_extract rfl rfl) ?_
        refine TL_pure rfl rfl rfl rfl (op_extract rfl rfl) ?_
        refine TL_pure rfl rfl rfl rfl (op_extract rfl rfl) ?_
        refine TL_alloc 50 z28 rfl rfl rfl rfl rfl rfl rfl ?_
        refine TL_store_box sz28 rfl rfl rfl rfl rfl rfl rfl rfl rfl ?_
        refine TL_pure rfl rfl rfl rfl (op_assign rfl) ?_
        refine TL_pure rfl rfl rfl rfl (op_assign rfl) ?_
        refine TL_pure rfl rfl rfl rfl (op_assign rfl) ?_
        refine TL_nil ?_
        refine T_seq ?_
        refine T_seq ?_
        refine T_region ?_
        refine TL_pure rfl rfl rfl rfl (op_load_agg ag28 sz28 rfl rfl rfl) ?_
        refine TL_pure rfl rfl rfl rfl (op_load_agg ag28 sz28 rfl rfl rfl) ?_
        obtain ⟨r61, hr61, hm⟩ := bindS hm
        refine TL_callF (c_laws_eqState r54.1 (State.mk j0.1 j0.2.1) r61 hr61) Try.call28 rfl rfl rfl rfl rfl ?_
        refine TL_pure rfl rfl rfl rfl (op_not rfl) ?_
        refine TL_pure rfl rfl rfl rfl (op_move rfl) ?_
        refine TL_split 63 rfl rfl rfl (fun hq => ?_) (fun hq => ?_)
        · replace hm := condT hq hm
          refine TL_pass rfl rfl rfl rfl rfl rfl rfl ?_
          refine TL_pass rfl rfl rfl rfl rfl rfl rfl ?_
          refine TL_pass rfl rfl rfl rfl rfl rfl rfl ?_
          refine TL_pass rfl rfl rfl rfl rfl rfl rfl ?_
          refine TL_pure rfl rfl rfl rfl (op_pick_true rfl rfl) ?_
          refine TL_pure rfl rfl rfl rfl (op_move rfl) ?_
          refine TL_pass rfl rfl rfl rfl rfl rfl rfl ?_
          refine TL_pass rfl rfl rfl rfl rfl rfl rfl ?_
          refine TL_pass rfl rfl rfl rfl rfl rfl rfl ?_
          refine TL_pure rfl rfl rfl rfl (op_pick_true rfl rfl) ?_
          refine TL_pure rfl rfl rfl rfl (op_move rfl) ?_
          refine TL_pass rfl rfl rfl rfl rfl rfl rfl ?_
          refine TL_pass rfl rfl rfl rfl rfl rfl rfl ?_
          refine TL_pass rfl rfl rfl rfl rfl rfl rfl ?_
          refine TL_pure rfl rfl rfl rfl (op_pick_true rfl rfl) ?_
          refine TL_nil ?_
          refine T_cond_true rfl ?_
          refine T_seq ?_
          refine T_region ?_
          refine TL_pure rfl rfl rfl rfl (op_assign rfl) ?_
          refine TL_nil ?_
          refine T_keepH [6] [] rfl rfl rfl rfl (by rw [hF]; rfl) ?_
          refine T_ret ?_
          obtain rfl := someI hm
          refine ⟨[_], [], ⟨rfl, trivial⟩, ?_, rfl, rfl, rfl, rfl⟩
          rfl
        · replace hm := condF hq hm
          refine TL_want rfl rfl ?_
          refine TL_pure rfl rfl rfl rfl (op_move rfl) ?_
          refine TL_want rfl rfl ?_
          refine TL_pure rfl rfl rfl rfl (op_move rfl) ?_
          refine TL_want rfl rfl ?_
          obtain ⟨r66, hr66, hm⟩ := bindS hm
          refine TL_callF (c_laws_eqInt64S r54.2.1 j0.2.2.1 r66 hr66) Try.call26 rfl rfl rfl rfl rfl ?_
          refine TL_want rfl rfl ?_
          refine TL_pure rfl rfl rfl rfl (op_not rfl) ?_
          refine TL_pure rfl rfl rfl rfl (op_pick_false rfl rfl) ?_
          refine TL_pure rfl rfl rfl rfl (op_move rfl) ?_
          refine TL_join 4 (fun _ : Unit => ⟨[(0, .sl 2 (List.map a_Instr p0)), (2, .int .i64 p2), (4, .ptr 11 0 0), (8, .ptr 28 0 0), (9, .ow 26), (10, .int .i64 j0.2.2.2.1), (11, .bool j0.2.2.2.2), (12, .ow 43), (13, .ptr 46 0 0), (14, .ptr 50 0 0), (15, .ow 49), (16, .int .i64 r54.2.2.1), (17, .bool r54.2.2.2), (73, .bool ((!r66) || (!decide (r54.2.2.1 = j0.2.2.2.1))))], [(11, .box [.sl 1 (List.map a_i64 p1.Vars), .sl 1 (List.map a_i64 p1.Cells)]), (24, .arr ⟨false, true⟩ 1 2 (List.map a_i64 j0.1)), (25, .arr ⟨false, true⟩ 1 2 (List.map a_i64 j0.2.1)), (26, .arr ⟨false, true⟩ 1 2 (List.map a_i64 j0.2.2.1)), (28, .box [.ow 24, .ow 25]), (43, .arr ⟨false, true⟩ 2 40 (List.map a_Instr r47)), (44, .arr ⟨false, true⟩ 1 2 (List.map a_i64 r49.Vars)), (45, .arr ⟨false, true⟩ 1 2 (List.map a_i64 r49.Cells)), (46, .box [.ow 44, .ow 45]), (47, .arr ⟨false, true⟩ 1 2 (List.map a_i64 r54.1.Vars)), (48, .arr ⟨false, true⟩ 1 2 (List.map a_i64 r54.1.Cells)), (49, .arr ⟨false, true⟩ 1 2 (List.map a_i64 r54.2.1)), (50, .box [.ow 47, .ow 48])]⟩) (fun _ => True) (fun _ _ => ?_) (fun hjj => ?_)
          · refine TL_pure rfl rfl rfl rfl (op_move rfl) ?_
            refine TL_join 4 (fun _ : Unit => ⟨[(0, .sl 2 (List.map a_Instr p0)), (2, .int .i64 p2), (4, .ptr 11 0 0), (8, .ptr 28 0 0), (9, .ow 26), (10, .int .i64 j0.2.2.2.1), (11, .bool j0.2.2.2.2), (12, .ow 43), (13, .ptr 46 0 0), (14, .ptr 50 0 0), (15, .ow 49), (16, .int .i64 r54.2.2.1), (17, .bool r54.2.2.2), (78, .bool (((!r66) || (!decide (r54.2.2.1 = j0.2.2.2.1))) || (!(r54.2.2.2 == j0.2.2.2.2))))], [(11, .box [.sl 1 (List.map a_i64 p1.Vars), .sl 1 (List.map a_i64 p1.Cells)]), (24, .arr ⟨false, true⟩ 1 2 (List.map a_i64 j0.1)), (25, .arr ⟨false, true⟩ 1 2 (List.map a_i64 j0.2.1)), (26, .arr ⟨false, true⟩ 1 2 (List.map a_i64 j0.2.2.1)), (28, .box [.ow 24, .ow 25]), (43, .arr ⟨false, true⟩ 2 40 (List.map a_Instr r47)), (44, .arr ⟨false, true⟩ 1 2 (List.map a_i64 r49.Vars)), (45, .arr ⟨false, true⟩ 1 2 (List.map a_i64 r49.Cells)), (46, .box [.ow 44, .ow 45]), (47, .arr ⟨false, true⟩ 1 2 (List.map a_i64 r54.1.Vars)), (48, .arr ⟨false, true⟩ 1 2 (List.map a_i64 r54.1.Cells)), (49, .arr ⟨false, true⟩ 1 2 (List.map a_i64 r54.2.1)), (50, .box [.ow 47, .ow 48])]⟩) (fun _ => True) (fun _ _ => ?_) (fun hjj => ?_)
            · refine TL_nil ?_
              refine T_cond rfl (fun hq => ?_) (fun hq => ?_)
              · replace hm := condT hq hm
                refine T_seq ?_
                refine T_region ?_
                refine TL_pure rfl rfl rfl rfl (op_assign rfl) ?_
                refine TL_nil ?_
                refine T_keepH [6] [] rfl rfl rfl rfl (by rw [hF]; rfl) ?_
                refine T_ret ?_
                obtain rfl := someI hm
                refine ⟨[_], [], ⟨rfl, trivial⟩, ?_, rfl, rfl, rfl, rfl⟩
                rfl
              · replace hm := condF hq hm
                refine T_skip ?_
                refine T_seq ?_
                refine T_seq ?_
                refine T_region ?_
                refine TL_pure rfl rfl rfl rfl (op_move rfl) ?_
                refine TL_pure rfl rfl rfl rfl (op_move rfl) ?_
                obtain ⟨r81, hr81, hm⟩ := bindS hm
                refine TL_callO [(1000, 51)] (c_laws_toInstrS p0 r81 hr81) Try.call24 rfl rfl rfl rfl rfl rfl rfl rfl rfl rfl rfl rfl rfl ?_
                obtain ⟨r82, hr82, hm⟩ := bindS hm
                refine TL_callF (c_laws_eqInstrS r47 r81 r82 hr82) Try.call27 rfl rfl rfl rfl rfl ?_
                refine TL_pure rfl rfl rfl rfl (op_not rfl) ?_
                refine TL_nil ?_
                refine T_cond rfl (fun hq => ?_) (fun hq => ?_)
                · replace hm := condT hq hm
                  refine T_seq ?_
                  refine T_region ?_
                  refine TL_pure rfl rfl rfl rfl (op_assign rfl) ?_
                  refine TL_nil ?_
                  refine T_keepH [6] [] rfl rfl rfl rfl (by rw [hF]; rfl) ?_
                  refine T_ret ?_
                  obtain rfl := someI hm
                  refine ⟨[_], [], ⟨rfl, trivial⟩, ?_, rfl, rfl, rfl, rfl⟩
                  rfl
                · replace hm := condF hq hm
                  refine T_skip ?_
                  refine T_seq ?_
                  refine T_seq ?_
                  refine T_drawZ [] mix (by kernel_rfl) rfl ?_
                  obtain ⟨r86, hr86, hm⟩ := bindS hm
                  obtain ⟨r87, hr87, hm⟩ := bindS hm
                  refine TZ_pure 0 (by kernel_rfl) rfl rfl rfl rfl rfl (op_load_agg ag28 sz28 rfl rfl rfl) ?_
                  refine TZ_pure 1 (by kernel_rfl) rfl rfl rfl rfl rfl (op_load_agg ag44 sz44 rfl rfl rfl) ?_
                  refine TZ_one 2 (by kernel_rfl) rfl ?_
                  refine TL_callO [(1000, 58), (1001, 59)] (c_laws_toState p1 r86 hr86) Try.call25 rfl rfl rfl rfl rfl rfl rfl rfl rfl rfl rfl rfl rfl ?_
                  refine TL_nil ?_
                  refine TZ_one 3 (by kernel_rfl) rfl ?_
                  refine TL_callF (c_laws_eqState r49 r86 r87 hr87) Try.call28 rfl rfl rfl rfl rfl ?_
                  refine TL_nil ?_
                  refine TZ_pure 4 (by kernel_rfl) rfl rfl rfl rfl rfl (op_not rfl) ?_
                  refine TZ_done (by kernel_rfl) ?_
                  refine T_cond rfl (fun hq => ?_) (fun hq => ?_)
                  · replace hm := condT hq hm
                    refine T_seq ?_
                    refine T_region ?_
                    refine TL_pure rfl rfl rfl rfl (op_assign rfl) ?_
                    refine TL_nil ?_
                    refine T_keepH [6] [] rfl rfl rfl rfl (by rw [hF]; rfl) ?_
                    refine T_ret ?_
                    obtain rfl := someI hm
                    refine ⟨[_], [], ⟨rfl, trivial⟩, ?_, rfl, rfl, rfl, rfl⟩
                    rfl
                  · replace hm := condF hq hm
                    refine T_skip ?_
                    refine T_seq ?_
                    refine T_region ?_
                    refine TL_pure rfl rfl rfl rfl (op_assign rfl) ?_
                    refine TL_nil ?_
                    refine T_seq ?_
                    refine T_region ?_
                    refine TL_pure rfl rfl rfl rfl (op_move rfl) ?_
                    refine TL_pure rfl rfl rfl rfl (op_move rfl) ?_
                    refine TL_pin 43 (k' := ⟨true, true⟩) (by rw [hF]; rfl) rfl rfl rfl ?_
                    obtain ⟨r91, hr91, hm⟩ := bindS hm
                    refine TL_call [(0, 43)] [] [] (c_laws_markInstrS r47 (1 : Int) r91 hr91 _) Try.call29 rfl rfl rfl rfl rfl ⟨rfl, trivial⟩ rfl rfl rfl rfl rfl rfl rfl rfl rfl rfl rfl ?_
                    refine TL_pure rfl rfl rfl rfl (op_assign rfl) ?_
                    refine TL_nil ?_
                    refine T_seq ?_
                    refine T_region ?_
                    refine TL_pure rfl rfl rfl rfl (op_load_agg ag28 sz28 rfl rfl rfl) ?_
                    refine TL_pure rfl rfl rfl rfl (op_move rfl) ?_
                    refine TL_pin 44 (k' := ⟨true, true⟩) (by rw [hF]; rfl) rfl rfl rfl ?_
                    refine TL_pin 45 (k' := ⟨true, true⟩) (by rw [hF]; rfl) rfl rfl rfl ?_
                    obtain ⟨r94, hr94, hm⟩ := bindS hm
                    refine TL_call [(0, 44), (1, 45)] [] [] (c_laws_markState r49 r91.1 r94 hr94 _ _) Try.call30 rfl rfl rfl rfl rfl ⟨rfl, rfl, trivial⟩ rfl rfl rfl rfl rfl rfl rfl rfl rfl rfl rfl ?_
                    refine TL_pure rfl rfl rfl rfl (op_assign rfl) ?_
                    refine TL_nil ?_
                    refine T_seq ?_
                    refine T_seq ?_
                    refine T_region ?_
                    refine TL_pure rfl rfl rfl rfl (op_move rfl) ?_
                    refine TL_pure rfl rfl rfl rfl (op_lss rfl rfl) ?_
                    refine TL_pure rfl rfl rfl rfl (op_move rfl) ?_
                    refine TL_split 97 rfl rfl rfl (fun hq => ?_) (fun hq => ?_)
                    · replace hm := condT hq hm
                      refine TL_pass rfl rfl rfl rfl rfl rfl rfl ?_
                      refine TL_pass rfl rfl rfl rfl rfl rfl rfl ?_
                      refine TL_pass rfl rfl rfl rfl rfl rfl rfl ?_
                      refine TL_pass rfl rfl rfl rfl rfl rfl rfl ?_
                      refine TL_pure rfl rfl rfl rfl (op_pick_true rfl rfl) ?_
                      refine TL_pure rfl rfl rfl rfl (op_move rfl) ?_
                      refine TL_pass rfl rfl rfl rfl rfl rfl rfl ?_
                      refine TL_pass rfl rfl rfl rfl rfl rfl rfl ?_
                      refine TL_pass rfl rfl rfl rfl rfl rfl rfl ?_
                      refine TL_pass rfl rfl rfl rfl rfl rfl rfl ?_
                      refine TL_pure rfl rfl rfl rfl (op_pick_true rfl rfl) ?_
                      refine TL_pure rfl rfl rfl rfl (op_move rfl) ?_
                      refine TL_pass rfl rfl rfl rfl rfl rfl rfl ?_
                      refine TL_pass rfl rfl rfl rfl rfl rfl rfl ?_
                      refine TL_pass rfl rfl rfl rfl rfl rfl rfl ?_
                      refine TL_pure rfl rfl rfl rfl (op_pick_true rfl rfl) ?_
                      refine TL_pure rfl rfl rfl rfl (op_move rfl) ?_
                      refine TL_pass rfl rfl rfl rfl rfl rfl rfl ?_
                      refine TL_pass rfl rfl rfl rfl rfl rfl rfl ?_
                      refine TL_pass rfl rfl rfl rfl rfl rfl rfl ?_
                      refine TL_pure rfl rfl rfl rfl (op_pick_true rfl rfl) ?_
                      refine TL_nil ?_
                      refine T_cond_true rfl ?_
                      refine T_seq ?_
                      refine T_region ?_
                      refine TL_pure rfl rfl rfl rfl (op_assign rfl) ?_
                      refine TL_nil ?_
                      refine T_keepH [6] [] rfl rfl rfl rfl (by rw [hF]; rfl) ?_
                      refine T_ret ?_
                      obtain rfl := someI hm
                      refine ⟨[_], [], ⟨rfl, trivial⟩, ?_, rfl, rfl, rfl, rfl⟩
                      rfl
                    · replace hm := condF hq hm
                      refine TL_want rfl rfl ?_
                      refine TL_pure rfl rfl rfl rfl (op_load_agg ag28 sz28 rfl rfl rfl) ?_
                      refine TL_want rfl rfl ?_
                      refine TL_pure rfl rfl rfl rfl (op_load_agg ag28 sz28 rfl rfl rfl) ?_
                      refine TL_want rfl rfl ?_
                      obtain ⟨r100, hr100, hm⟩ := bindS hm
                      refine TL_callF (c_laws_eqState r54.1 (State.mk j0.1 j0.2.1) r100 hr100) Try.call28 rfl rfl rfl rfl rfl ?_
                      refine TL_want rfl rfl ?_
                      refine TL_pure rfl rfl rfl rfl (op_not rfl) ?_
                      refine TL_pure rfl rfl rfl rfl (op_pick_false rfl rfl) ?_
                      refine TL_pure rfl rfl rfl rfl (op_move rfl) ?_
                      refine TL_split 103 rfl rfl rfl (fun hq => ?_) (fun hq => ?_)
                      · replace hm := condT hq hm
                        refine TL_pass rfl rfl rfl rfl rfl rfl rfl ?_
                        refine TL_pass rfl rfl rfl rfl rfl rfl rfl ?_
                        refine TL_pass rfl rfl rfl rfl rfl rfl rfl ?_
                        refine TL_pass rfl rfl rfl rfl rfl rfl rfl ?_
                        refine TL_pure rfl rfl rfl rfl (op_pick_true rfl rfl) ?_
                        refine TL_pure rfl rfl rfl rfl (op_move rfl) ?_
                        refine TL_pass rfl rfl rfl rfl rfl rfl rfl ?_
                        refine TL_pass rfl rfl rfl rfl rfl rfl rfl ?_
                        refine TL_pass rfl rfl rfl rfl rfl rfl rfl ?_
                        refine TL_pure rfl rfl rfl rfl (op_pick_true rfl rfl) ?_
                        refine TL_pure rfl rfl rfl rfl (op_move rfl) ?_
                        refine TL_pass rfl rfl rfl rfl rfl rfl rfl ?_
                        refine TL_pass rfl rfl rfl rfl rfl rfl rfl ?_
                        refine TL_pass rfl rfl rfl rfl rfl rfl rfl ?_
                        refine TL_pure rfl rfl rfl rfl (op_pick_true rfl rfl) ?_
                        refine TL_nil ?_
                        refine T_cond_true rfl ?_
                        refine T_seq ?_
                        refine T_region ?_
                        refine TL_pure rfl rfl rfl rfl (op_assign rfl) ?_
                        refine TL_nil ?_
                        refine T_keepH [6] [] rfl rfl rfl rfl (by rw [hF]; rfl) ?_
                        refine T_ret ?_
                        obtain rfl := someI hm
                        refine ⟨[_], [], ⟨rfl, trivial⟩, ?_, rfl, rfl, rfl, rfl⟩
                        rfl
                      · replace hm := condF hq hm
                        refine TL_want rfl rfl ?_
                        refine TL_pure rfl rfl rfl rfl (op_move rfl) ?_
                        refine TL_want rfl rfl ?_
                        refine TL_pure rfl rfl rfl rfl (op_move rfl) ?_
                        refine TL_want rfl rfl ?_
                        obtain ⟨r106, hr106, hm⟩ := bindS hm
                        refine TL_callF (c_laws_eqInt64S r54.2.1 j0.2.2.1 r106 hr106) Try.call26 rfl rfl rfl rfl rfl ?_
                        refine TL_want rfl rfl ?_
                        refine TL_pure rfl rfl rfl rfl (op_not rfl) ?_
                        refine TL_pure rfl rfl rfl rfl (op_pick_false rfl rfl) ?_
                        refine TL_pure rfl rfl rfl rfl (op_move rfl) ?_
                        refine TL_join 4 (fun _ : Unit => ⟨[(0, .sl 2 (List.map a_Instr p0)), (2, .int .i64 p2), (4, .ptr 11 0 0), (8, .ptr 28 0 0), (9, .ow 26), (10, .int .i64 j0.2.2.2.1), (11, .bool j0.2.2.2.2), (14, .ptr 50 0 0), (15, .ow 49), (17, .bool r54.2.2.2), (113, .bool ((!r106) || (!decide (r54.2.2.1 = j0.2.2.2.1))))], [(11, .box [.sl 1 (List.map a_i64 p1.Vars), .sl 1 (List.map a_i64 p1.Cells)]), (24, .arr ⟨false, true⟩ 1 2 (List.map a_i64 j0.1)), (25, .arr ⟨false, true⟩ 1 2 (List.map a_i64 j0.2.1)), (26, .arr ⟨false, true⟩ 1 2 (List.map a_i64 j0.2.2.1)), (28, .box [.ow 24, .ow 25]), (47, .arr ⟨false, true⟩ 1 2 (List.map a_i64 r54.1.Vars)), (48, .arr ⟨false, true⟩ 1 2 (List.map a_i64 r54.1.Cells)), (49, .arr ⟨false, true⟩ 1 2 (List.map a_i64 r54.2.1)), (50, .box [.ow 47, .ow 48])]⟩) (fun _ => True) (fun _ _ => ?_) (fun hjj => ?_)
                        · refine TL_pure rfl rfl rfl rfl (op_move rfl) ?_
                          refine TL_join 4 (fun _ : Unit => ⟨[(0, .sl 2 (List.map a_Instr p0)), (2, .int .i64 p2), (4, .ptr 11 0 0), (8, .ptr 28 0 0), (9, .ow 26), (10, .int .i64 j0.2.2.2.1), (11, .bool j0.2.2.2.2), (14, .ptr 50 0 0), (15, .ow 49), (118, .bool (((!r106) || (!decide (r54.2.2.1 = j0.2.2.2.1))) || (!(r54.2.2.2 == j0.2.2.2.2))))], [(11, .box [.sl 1 (List.map a_i64 p1.Vars), .sl 1 (List.map a_i64 p1.Cells)]), (24, .arr ⟨false, true⟩ 1 2 (List.map a_i64 j0.1)), (25, .arr ⟨false, true⟩ 1 2 (List.map a_i64 j0.2.1)), (26, .arr ⟨false, true⟩ 1 2 (List.map a_i64 j0.2.2.1)), (28, .box [.ow 24, .ow 25]), (47, .arr ⟨false, true⟩ 1 2 (List.map a_i64 r54.1.Vars)), (48, .arr ⟨false, true⟩ 1 2 (List.map a_i64 r54.1.Cells)), (49, .arr ⟨false, true⟩ 1 2 (List.map a_i64 r54.2.1)), (50, .box [.ow 47, .ow 48])]⟩) (fun _ => True) (fun _ _ => ?_) (fun hjj => ?_)
                          · refine TL_nil ?_
                            refine T_cond rfl (fun hq => ?_) (fun hq => ?_)
                            · replace hm := condT hq hm
                              refine T_seq ?_
                              refine T_region ?_
                              refine TL_pure rfl rfl rfl rfl (op_assign rfl) ?_
                              refine TL_nil ?_
                              refine T_keepH [6] [] rfl rfl rfl rfl (by rw [hF]; rfl) ?_
                              refine T_ret ?_
                              obtain rfl := someI hm
                              refine ⟨[_], [], ⟨rfl, trivial⟩, ?_, rfl, rfl, rfl, rfl⟩
                              rfl
                            · replace hm := condF hq hm
                              refine T_skip ?_
                              refine T_seq ?_
                              refine T_region ?_
                              refine TL_pure rfl rfl rfl rfl (op_assign rfl) ?_
                              refine TL_nil ?_
                              refine T_seq ?_
                              refine T_region ?_
                              refine TL_pure rfl rfl rfl rfl (op_load_agg ag28 sz28 rfl rfl rfl) ?_
                              refine TL_pure rfl rfl rfl rfl (op_move rfl) ?_
                              refine TL_pin 47 (k' := ⟨true, true⟩) (by rw [hF]; rfl) rfl rfl rfl ?_
                              refine TL_pin 48 (k' := ⟨true, true⟩) (by rw [hF]; rfl) rfl rfl rfl ?_
                              obtain ⟨r121, hr121, hm⟩ := bindS hm
                              refine TL_call [(0, 47), (1, 48)] [] [] (c_laws_markState r54.1 (1 : Int) r121 hr121 _ _) Try.call30 rfl rfl rfl rfl rfl ⟨rfl, rfl, trivial⟩ rfl rfl rfl rfl rfl rfl rfl rfl rfl rfl rfl ?_
                              refine TL_pure rfl rfl rfl rfl (op_assign rfl) ?_
                              refine TL_nil ?_
                              refine T_seq ?_
                              refine T_region ?_
                              refine TL_pure rfl rfl rfl rfl (op_move rfl) ?_
                              refine TL_pure rfl rfl rfl rfl (op_move rfl) ?_
                              refine TL_pin 49 (k' := ⟨true, true⟩) (by rw [hF]; rfl) rfl rfl rfl ?_
                              obtain ⟨r124, hr124, hm⟩ := bindS hm
                              refine TL_call [(0, 49)] [] [] (c_laws_markInt64S r54.2.1 r121.1 r124 hr124 _) Try.call31 rfl rfl rfl rfl rfl ⟨rfl, trivial⟩ rfl rfl rfl rfl rfl rfl rfl rfl rfl rfl rfl ?_
                              refine TL_pure rfl rfl rfl rfl (op_assign rfl) ?_
                              refine TL_nil ?_
                              refine T_seq ?_
                              refine T_region ?_
                              refine TL_pure rfl rfl rfl rfl (op_assign rfl) ?_
                              refine TL_nil ?_
                              refine T_seq ?_
                              refine T_region ?_
                              refine TL_pure rfl rfl rfl rfl (op_load_agg ag28 sz28 rfl rfl rfl) ?_
                              refine TL_pure rfl rfl rfl rfl (op_move rfl) ?_
                              obtain ⟨r127, hr127, hm⟩ := bindS hm
                              refine TL_callF (c_laws_heldState (State.mk r121.2.1 r121.2.2) (1 : Int) r127 hr127) Try.call34 rfl rfl rfl rfl rfl ?_
                              refine TL_pure rfl rfl rfl rfl (op_assign rfl) ?_
                              refine TL_nil ?_
                              refine T_seq ?_
                              refine T_seq ?_
                              refine T_region ?_
                              refine TL_pure rfl rfl rfl rfl (op_move rfl) ?_
                              refine TL_pure rfl rfl rfl rfl (op_lss rfl rfl) ?_
                              refine TL_nil ?_
                              refine T_cond rfl (fun hq => ?_) (fun hq => ?_)
                              · replace hm := condT hq hm
                                refine T_seq ?_
                                refine T_region ?_
                                refine TL_pure rfl rfl rfl rfl (op_assign rfl) ?_
                                refine TL_nil ?_
                                refine T_keepH [6] [] rfl rfl rfl rfl (by rw [hF]; rfl) ?_
                                refine T_ret ?_
                                obtain rfl := someI hm
                                refine ⟨[_], [], ⟨rfl, trivial⟩, ?_, rfl, rfl, rfl, rfl⟩
                                rfl
                              · replace hm := condF hq hm
                                refine T_skip ?_
                                refine T_seq ?_
                                refine T_region ?_
                                refine TL_pure rfl rfl rfl rfl (op_move rfl) ?_
                                refine TL_pure rfl rfl rfl rfl (op_move rfl) ?_
                                obtain ⟨r132, hr132, hm⟩ := bindS hm
                                refine TL_callF (c_laws_heldInt64S r124.2 r127 r132 hr132) Try.call32 rfl rfl rfl rfl rfl ?_
                                refine TL_pure rfl rfl rfl rfl (op_assign rfl) ?_
                                refine TL_nil ?_
                                refine T_seq ?_
                                refine T_seq ?_
                                refine T_region ?_
                                refine TL_pure rfl rfl rfl rfl (op_move rfl) ?_
                                refine TL_pure rfl rfl rfl rfl (op_lss rfl rfl) ?_
                                refine TL_nil ?_
                                refine T_cond rfl (fun hq => ?_) (fun hq => ?_)
                                · replace hm := condT hq hm
                                  refine T_seq ?_
                                  refine T_region ?_
                                  refine TL_pure rfl rfl rfl rfl (op_assign rfl) ?_
                                  refine TL_nil ?_
                                  refine T_keepH [6] [] rfl rfl rfl rfl (by rw [hF]; rfl) ?_
                                  refine T_ret ?_
                                  obtain rfl := someI hm
                                  refine ⟨[_], [], ⟨rfl, trivial⟩, ?_, rfl, rfl, rfl, rfl⟩
                                  rfl
                                · replace hm := condF hq hm
                                  refine T_skip ?_
                                  refine T_seq ?_
                                  refine T_seq ?_
                                  refine T_region ?_
                                  refine TL_pure rfl rfl rfl rfl (op_move rfl) ?_
                                  refine TL_pure rfl rfl rfl rfl (op_move rfl) ?_
                                  refine TL_pure rfl rfl rfl rfl (op_neq rfl rfl) ?_
                                  refine TL_nil ?_
                                  refine T_cond rfl (fun hq => ?_) (fun hq => ?_)
                                  · replace hm := condT hq hm
                                    refine T_seq ?_
                                    refine T_region ?_
                                    refine TL_pure rfl rfl rfl rfl (op_assign rfl) ?_
                                    refine TL_nil ?_
                                    refine T_keepH [6] [] rfl rfl rfl rfl (by rw [hF]; rfl) ?_
                                    refine T_ret ?_
                                    obtain rfl := someI hm
                                    refine ⟨[_], [], ⟨rfl, trivial⟩, ?_, rfl, rfl, rfl, rfl⟩
                                    rfl
                                  · replace hm := condF hq hm
                                    refine T_skip ?_
                                    refine T_join (fun (j1 : (List Int) × (List Int) × (List Int) × Int × Bool) => ⟨[(8, .ptr 28 0 0), (9, .ow 26), (10, .int .i64 j0.2.2.2.1), (11, .bool j0.2.2.2.2), (14, .ptr 50 0 0), (15, .ow 49), (19, .int .i64 r124.1), (21, .ptr 76 0 0), (22, .ow 74), (23, .int .i64 j1.2.2.2.1), (24, .bool j1.2.2.2.2)], [(24, .arr ⟨false, true⟩ 1 2 (List.map a_i64 j0.1)), (25, .arr ⟨false, true⟩ 1 2 (List.map a_i64 j0.2.1)), (26, .arr ⟨false, true⟩ 1 2 (List.map a_i64 j0.2.2.1)), (28, .box [.ow 24, .ow 25]), (47, .arr ⟨true, true⟩ 1 2 (List.map a_i64 r121.2.1)), (48, .arr ⟨true, true⟩ 1 2 (List.map a_i64 r121.2.2)), (49, .arr ⟨true, true⟩ 1 2 (List.map a_i64 r124.2)), (50, .box [.ow 47, .ow 48]), (72, .arr ⟨false, true⟩ 1 2 (List.map a_i64 j1.1)), (73, .arr ⟨false, true⟩ 1 2 (List.map a_i64 j1.2.1)), (74, .arr ⟨false, true⟩ 1 2 (List.map a_i64 j1.2.2.1)), (76, .box [.ow 72, .ow 73])]⟩) (fun j1 => m_laws_FnExactRunCode_J1 j0 r121 r124 j1 = some out) (fun j1 hm => ?_) (fun hj1 => ?_)
                                    · unfold m_laws_FnExactRunCode_J1 at hm
                                      refine T_seq ?_
                                      refine T_seq ?_
                                      refine T_region ?_
                                      refine TL_pure rfl rfl rfl rfl (op_load_agg ag28 sz28 rfl rfl rfl) ?_
                                      refine TL_pure rfl rfl rfl rfl (op_load_agg ag28 sz28 rfl rfl rfl) ?_
                                      obtain ⟨r151, hr151, hm⟩ := bindS hm
                                      refine TL_callF (c_laws_eqState (State.mk j1.1 j1.2.1) (State.mk j0.1 j0.2.1) r151 hr151) Try.call28 rfl rfl rfl rfl rfl ?_
                                      refine TL_pure rfl rfl rfl rfl (op_not rfl) ?_
                                      refine TL_pure rfl rfl rfl rfl (op_move rfl) ?_
                                      refine TL_split 153 rfl rfl rfl (fun hq => ?_) (fun hq => ?_)
                                      · replace hm := condT hq hm
                                        refine TL_pass rfl rfl rfl rfl rfl rfl rfl ?_
                                        refine TL_pass rfl rfl rfl rfl rfl rfl rfl ?_
                                        refine TL_pass rfl rfl rfl rfl rfl rfl rfl ?_
                                        refine TL_pass rfl rfl rfl rfl rfl rfl rfl ?_
                                        refine TL_pure rfl rfl rfl rfl (op_pick_true rfl rfl) ?_
                                        refine TL_pure rfl rfl rfl rfl (op_move rfl) ?_
                                        refine TL_pass rfl rfl rfl rfl rfl rfl rfl ?_
                                        refine TL_pass rfl rfl rfl rfl rfl rfl rfl ?_
                                        refine TL_pass rfl rfl rfl rfl rfl rfl rfl ?_
                                        refine TL_pure rfl rfl rfl rfl (op_pick_true rfl rfl) ?_
                                        refine TL_pure rfl rfl rfl rfl (op_move rfl) ?_
                                        refine TL_pass rfl rfl rfl rfl rfl rfl rfl ?_
                                        refine TL_pass rfl rfl rfl rfl rfl rfl rfl ?_
                                        refine TL_pass rfl rfl rfl rfl rfl rfl rfl ?_
                                        refine TL_pure rfl rfl rfl rfl (op_pick_true rfl rfl) ?_
                                        refine TL_nil ?_
                                        refine T_cond_true rfl ?_
                                        refine T_seq ?_
                                        refine T_region ?_
                                        refine TL_pure rfl rfl rfl rfl (op_assign rfl) ?_
                                        refine TL_nil ?_
                                        refine T_keepH [6] [] rfl rfl rfl rfl (by rw [hF]; rfl) ?_
                                        refine T_ret ?_
                                        obtain rfl := someI hm
                                        refine ⟨[_], [], ⟨rfl, trivial⟩, ?_, rfl, rfl, rfl, rfl⟩
                                        rfl
                                      · replace hm := condF hq hm
                                        refine TL_want rfl rfl ?_
                                        refine TL_pure rfl rfl rfl rfl (op_move rfl) ?_
                                        refine TL_want rfl rfl ?_
                                        refine TL_pure rfl rfl rfl rfl (op_move rfl) ?_
                                        refine TL_want rfl rfl ?_
                                        obtain ⟨r156, hr156, hm⟩ := bindS hm
                                        refine TL_callF (c_laws_eqInt64S j1.2.2.1 j0.2.2.1 r156 hr156) Try.call26 rfl rfl rfl rfl rfl ?_
                                        refine TL_want rfl rfl ?_
                                        refine TL_pure rfl rfl rfl rfl (op_not rfl) ?_
                                        refine TL_pure rfl rfl rfl rfl (op_pick_false rfl rfl) ?_
                                        refine TL_pure rfl rfl rfl rfl (op_move rfl) ?_
                                        refine TL_join 4 (fun _ : Unit => ⟨[(11, .bool j0.2.2.2.2), (14, .ptr 50 0 0), (15, .ow 49), (19, .int .i64 r124.1), (24, .bool j1.2.2.2.2), (163, .bool ((!r156) || (!decide (j1.2.2.2.1 = j0.2.2.2.1))))], [(47, .arr ⟨true, true⟩ 1 2 (List.map a_i64 r121.2.1)), (48, .arr ⟨true, true⟩ 1 2 (List.map a_i64 r121.2.2)), (49, .arr ⟨true, true⟩ 1 2 (List.map a_i64 r124.2)), (50, .box [.ow 47, .ow 48])]⟩) (fun _ => True) (fun _ _ => ?_) (fun hjj => ?_)
                                        · refine TL_pure rfl rfl rfl rfl (op_move rfl) ?_
                                          refine TL_join 4 (fun _ : Unit => ⟨[(14, .ptr 50 0 0), (15, .ow 49), (19, .int .i64 r124.1), (168, .bool (((!r156) || (!decide (j1.2.2.2.1 = j0.2.2.2.1))) || (!(j1.2.2.2.2 == j0.2.2.2.2))))], [(47, .arr ⟨true, true⟩ 1 2 (List.map a_i64 r121.2.1)), (48, .arr ⟨true, true⟩ 1 2 (List.map a_i64 r121.2.2)), (49, .arr ⟨true, true⟩ 1 2 (List.map a_i64 r124.2)), (50, .box [.ow 47, .ow 48])]⟩) (fun _ => True) (fun _ _ => ?_) (fun hjj => ?_)
                                          · refine TL_nil ?_
                                            refine T_cond rfl (fun hq => ?_) (fun hq => ?_)
                                            · replace hm := condT hq hm
                                              refine T_seq ?_
                                              refine T_region ?_
                                              refine TL_pure rfl rfl rfl rfl (op_assign rfl) ?_
                                              refine TL_nil ?_
                                              refine T_keepH [6] [] rfl rfl rfl rfl (by rw [hF]; rfl) ?_
                                              refine T_ret ?_
                                              obtain rfl := someI hm
                                              refine ⟨[_], [], ⟨rfl, trivial⟩, ?_, rfl, rfl, rfl, rfl⟩
                                              rfl
                                            · replace hm := condF hq hm
                                              refine T_skip ?_
                                              refine T_seq ?_
                                              refine T_region ?_
                                              refine TL_pure rfl rfl rfl rfl (op_assign rfl) ?_
                                              refine TL_nil ?_
                                              refine T_seq ?_
                                              refine T_region ?_
                                              refine TL_pure rfl rfl rfl rfl (op_load_agg ag28 sz28 rfl rfl rfl) ?_
                                              refine TL_pure rfl rfl rfl rfl (op_move rfl) ?_
                                              obtain ⟨r171, hr171, hm⟩ := bindS hm
                                              refine TL_callF (c_laws_heldState (State.mk r121.2.1 r121.2.2) (1 : Int) r171 hr171) Try.call34 rfl rfl rfl rfl rfl ?_
                                              refine TL_pure rfl rfl rfl rfl (op_assign rfl) ?_
                                              refine TL_nil ?_
                                              refine T_seq ?_
                                              refine T_seq ?_
                                              refine T_region ?_
                                              refine TL_pure rfl rfl rfl rfl (op_move rfl) ?_
                                              refine TL_pure rfl rfl rfl rfl (op_lss rfl rfl) ?_
                                              refine TL_nil ?_
                                              refine T_cond rfl (fun hq => ?_) (fun hq => ?_)
                                              · replace hm := condT hq hm
                                                refine T_seq ?_
                                                refine T_region ?_
                                                refine TL_pure rfl rfl rfl rfl (op_assign rfl) ?_
                                                refine TL_nil ?_
                                                refine T_keepH [6] [] rfl rfl rfl rfl (by rw [hF]; rfl) ?_
                                                refine T_ret ?_
                                                obtain rfl := someI hm
                                                refine ⟨[_], [], ⟨rfl, trivial⟩, ?_, rfl, rfl, rfl, rfl⟩
                                                rfl
                                              · replace hm := condF hq hm
                                                refine T_skip ?_
                                                refine T_seq ?_
                                                refine T_region ?_
                                                refine TL_pure rfl rfl rfl rfl (op_move rfl) ?_
                                                refine TL_pure rfl rfl rfl rfl (op_move rfl) ?_
                                                obtain ⟨r176, hr176, hm⟩ := bindS hm
                                                refine TL_callF (c_laws_heldInt64S r124.2 r171 r176 hr176) Try.call32 rfl rfl rfl rfl rfl ?_
                                                refine TL_pure rfl rfl rfl rfl (op_assign rfl) ?_
                                                refine TL_nil ?_
                                                refine T_seq ?_
                                                refine T_seq ?_
                                                refine T_region ?_
                                                refine TL_pure rfl rfl rfl rfl (op_move rfl) ?_
                                                refine TL_pure rfl rfl rfl rfl (op_lss rfl rfl) ?_
                                                refine TL_nil ?_
                                                refine T_cond rfl (fun hq => ?_) (fun hq => ?_)
                                                · replace hm := condT hq hm
                                                  refine T_seq ?_
                                                  refine T_region ?_
                                                  refine TL_pure rfl rfl rfl rfl (op_assign rfl) ?_
                                                  refine TL_nil ?_
                                                  refine T_keepH [6] [] rfl rfl rfl rfl (by rw [hF]; rfl) ?_
                                                  refine T_ret ?_
                                                  obtain rfl := someI hm
                                                  refine ⟨[_], [], ⟨rfl, trivial⟩, ?_, rfl, rfl, rfl, rfl⟩
                                                  rfl
                                                · replace hm := condF hq hm
                                                  refine T_skip ?_
                                                  refine T_seq ?_
                                                  refine T_seq ?_
                                                  refine T_region ?_
                                                  refine TL_pure rfl rfl rfl rfl (op_move rfl) ?_
                                                  refine TL_pure rfl rfl rfl rfl (op_move rfl) ?_
                                                  refine TL_pure rfl rfl rfl rfl (op_neq rfl rfl) ?_
                                                  refine TL_nil ?_
                                                  refine T_cond rfl (fun hq => ?_) (fun hq => ?_)
                                                  · replace hm := condT hq hm
                                                    refine T_seq ?_
                                                    refine T_region ?_
                                                    refine TL_pure rfl rfl rfl rfl (op_assign rfl) ?_
                                                    refine TL_nil ?_
                                                    refine T_keepH [6] [] rfl rfl rfl rfl (by rw [hF]; rfl) ?_
                                                    refine T_ret ?_
                                                    obtain rfl := someI hm
                                                    refine ⟨[_], [], ⟨rfl, trivial⟩, ?_, rfl, rfl, rfl, rfl⟩
                                                    rfl
                                                  · replace hm := condF hq hm
                                                    refine T_skip ?_
                                                    refine T_seq ?_
                                                    refine T_region ?_
                                                    refine TL_pure rfl rfl rfl rfl (op_assign rfl) ?_
                                                    refine TL_nil ?_
                                                    refine T_keepH [6] [] rfl rfl rfl rfl (by rw [hF]; rfl) ?_
                                                    refine T_ret ?_
                                                    obtain rfl := someI hm
                                                    refine ⟨[_], [], ⟨rfl, trivial⟩, ?_, rfl, rfl, rfl, rfl⟩
                                                    rfl
                                          · refine TL_split 164 rfl rfl rfl (fun hq => ?_) (fun hq => ?_)
                                            · refine TL_pass rfl rfl rfl rfl rfl rfl rfl ?_
                                              refine TL_pass rfl rfl rfl rfl rfl rfl rfl ?_
                                              refine TL_pass rfl rfl rfl rfl rfl rfl rfl ?_
                                              refine TL_pure rfl rfl rfl rfl (op_pick_true rfl rfl) ?_
                                              refine TL_keepH [14, 15, 19, 168] [47, 48, 49, 50] rfl rfl rfl rfl (by rw [hF]; rfl) ?_
                                              exact TL_cast _ (by rw [hq]; rfl) (hjj () trivial)
                                            · refine TL_want rfl rfl ?_
                                              refine TL_pure rfl rfl rfl rfl (op_move rfl) ?_
                                              refine TL_want rfl rfl ?_
                                              refine TL_pure rfl rfl rfl rfl (op_move rfl) ?_
                                              refine TL_want rfl rfl ?_
                                              refine TL_pure rfl rfl rfl rfl (op_neqB Try.underlying4 rfl rfl) ?_
                                              refine TL_pure rfl rfl rfl rfl (op_pick_false rfl rfl) ?_
                                              refine TL_keepH [14, 15, 19, 168] [47, 48, 49, 50] rfl rfl rfl rfl (by rw [hF]; rfl) ?_
                                              exact TL_cast _ (by rw [hq]; rfl) (hjj () trivial)
                                        · refine TL_split 159 rfl rfl rfl (fun hq => ?_) (fun hq => ?_)
                                          · refine TL_pass rfl rfl rfl rfl rfl rfl rfl ?_
                                            refine TL_pass rfl rfl rfl rfl rfl rfl rfl ?_
                                            refine TL_pass rfl rfl rfl rfl rfl rfl rfl ?_
                                            refine TL_pure rfl rfl rfl rfl (op_pick_true rfl rfl) ?_
                                            refine TL_keepH [11, 14, 15, 19, 24, 163] [47, 48, 49, 50] rfl rfl rfl rfl (by rw [hF]; rfl) ?_
                                            exact TL_cast _ (by rw [hq]; rfl) (hjj () trivial)
                                          · refine TL_want rfl rfl ?_
                                            refine TL_pure rfl rfl rfl rfl (op_move rfl) ?_
                                            refine TL_want rfl rfl ?_
                                            refine TL_pure rfl rfl rfl rfl (op_move rfl) ?_
                                            refine TL_want rfl rfl ?_
                                            refine TL_pure rfl rfl rfl rfl (op_neq rfl rfl) ?_
                                            refine TL_pure rfl rfl rfl rfl (op_pick_false rfl rfl) ?_
                                            refine TL_keepH [11, 14, 15, 19, 24, 163] [47, 48, 49, 50] rfl rfl rfl rfl (by rw [hF]; rfl) ?_
                                            exact TL_cast _ (by rw [hq]; rfl) (hjj () trivial)
                                    · refine T_drawZ [12] mix (by kernel_rfl) rfl ?_
                                      obtain ⟨r140, hr140, hm⟩ := bindS hm
                                      obtain ⟨r142, hr142, hm⟩ := bindS hm
                                      obtain ⟨r144, hr144, hm⟩ := bindS hm
                                      refine TZ_pure 0 (by kernel_rfl) rfl rfl rfl rfl rfl (op_move rfl) ?_
                                      refine TZ_pure 2 (by kernel_rfl) rfl rfl rfl rfl rfl (op_load_agg ag44 sz44 rfl rfl rfl) ?_
                                      refine TZ_pure 4 (by kernel_rfl) rfl rfl rfl rfl rfl (op_move rfl) ?_
                                      refine TZ_each [1, 11] (by kernel_rfl) rfl ?_
                                      refine ⟨?_, ?_⟩
                                      · refine ⟨_, rfl, ?_⟩
                                        refine TL_callO [(1000, 98)] (c_laws_toInstrS p0 r140 hr140) Try.call24 rfl rfl rfl rfl rfl rfl rfl rfl rfl rfl rfl rfl rfl ?_
                                        refine TL_nil ?_
                                        refine TZ_each [3, 11] (by kernel_rfl) rfl ?_
                                        refine ⟨?_, ?_⟩
                                        · refine ⟨_, rfl, ?_⟩
                                          refine TL_callO [(1000, 100), (1001, 101)] (c_laws_toState p1 r142 hr142) Try.call25 rfl rfl rfl rfl rfl rfl rfl rfl rfl rfl rfl rfl rfl ?_
                                          refine TL_nil ?_
                                          refine TZ_each [5, 11] (by kernel_rfl) rfl ?_
                                          refine ⟨?_, ?_⟩
                                          · refine ⟨_, rfl, ?_⟩
                                            refine TL_callO [(1000, 103), (1001, 104), (1002, 105)] (c_impl_RunCode r140 r142 p2 r144 hr144) Try.call15 rfl rfl rfl rfl rfl rfl rfl rfl rfl rfl rfl rfl rfl ?_
                                            refine TL_nil ?_
                                            refine TZ_pure 6 (by kernel_rfl) rfl rfl rfl rfl rfl (op_move rfl) ?_
                                            refine TZ_pure 7 (by kernel_rfl) rfl rfl rfl rfl rfl (op_extract rfl rfl) ?_
                                            refine TZ_pure 8 (by kernel_rfl) rfl rfl rfl rfl rfl (op_extract rfl rfl) ?_
                                            refine TZ_pure 9 (by kernel_rfl) rfl rfl rfl rfl rfl (op_extract rfl rfl) ?_
                                            refine TZ_pure 10 (by kernel_rfl) rfl rfl rfl rfl rfl (op_extract rfl rfl) ?_
                                            refine TZ_one 11 (by kernel_rfl) rfl ?_
                                            refine TL_alloc 107 z28 rfl rfl rfl rfl rfl rfl rfl ?_
                                            refine TL_nil ?_
                                            refine TZ_one 12 (by kernel_rfl) rfl ?_
                                            refine TL_store_box sz28 rfl rfl rfl rfl rfl rfl rfl rfl rfl ?_
                                            refine TL_nil ?_
                                            refine TZ_pure 13 (by kernel_rfl) rfl rfl rfl rfl rfl (op_assign rfl) ?_
                                            refine TZ_pure 14 (by kernel_rfl) rfl rfl rfl rfl rfl (op_assign rfl) ?_
                                            refine TZ_pure 15 (by kernel_rfl) rfl rfl rfl rfl rfl (op_assign rfl) ?_
                                            refine TZ_done (by kernel_rfl) ?_
                                            refine T_keepH [8, 9, 10, 11, 14, 15, 19, 21, 22, 23, 24] [24, 25, 26, 28, 47, 48, 49, 50, 103, 104, 105, 107] rfl rfl rfl rfl (by rw [hF]; rfl) ?_
                                            refine T_ren [(24, 24), (25, 25), (26, 26), (28, 28), (47, 47), (48, 48), (49, 49), (50, 50), (103, 72), (104, 73), (105, 74), (107, 76)] rfl rfl rfl (by rw [hF]; rfl) ?_
                                            exact hj1 (r144.1.Vars, r144.1.Cells, r144.2.1, r144.2.2.1, r144.2.2.2) hm
                                          · refine ⟨_, rfl, ?_⟩
                                            refine TL_alloc 106 z28 rfl rfl rfl rfl rfl rfl rfl ?_
                                            refine TL_nil ?_
                                            refine TZ_one 5 (by kernel_rfl) rfl ?_
                                            refine TL_callO [(1000, 108), (1001, 109), (1002, 110)] (c_impl_RunCode r140 r142 p2 r144 hr144) Try.call15 rfl rfl rfl rfl rfl rfl rfl rfl rfl rfl rfl rfl rfl ?_
                                            refine TL_nil ?_
                                            refine TZ_pure 6 (by kernel_rfl) rfl rfl rfl rfl rfl (op_move rfl) ?_
                                            refine TZ_pure 7 (by kernel_rfl) rfl rfl rfl rfl rfl (op_extract rfl rfl) ?_
                                            refine TZ_pure 8 (by kernel_rfl) rfl rfl rfl rfl rfl (op_extract rfl rfl) ?_
                                            refine TZ_pure 9 (by kernel_rfl) rfl rfl rfl rfl rfl (op_extract rfl rfl) ?_
                                            refine TZ_pure 10 (by kernel_rfl) rfl rfl rfl rfl rfl (op_extract rfl rfl) ?_
                                            refine TZ_one 12 (by kernel_rfl) rfl ?_
                                            refine TL_store_box sz28 rfl rfl rfl rfl rfl rfl rfl rfl rfl ?_
                                            refine TL_nil ?_
                                            refine TZ_pure 13 (by kernel_rfl) rfl rfl rfl rfl rfl (op_assign rfl) ?_
                                            refine TZ_pure 14 (by kernel_rfl) rfl rfl rfl rfl rfl (op_assign rfl) ?_
                                            refine TZ_pure 15 (by kernel_rfl) rfl rfl rfl rfl rfl (op_assign rfl) ?_
                                            refine TZ_done (by kernel_rfl) ?_
                                            refine T_keepH [8, 9, 10, 11, 14, 15, 19, 21, 22, 23, 24] [24, 25, 26, 28, 47, 48, 49, 50, 106, 108, 109, 110] rfl rfl rfl rfl (by rw [hF]; rfl) ?_
                                            refine T_ren [(24, 24), (25, 25), (26, 26), (28, 28), (47, 47), (48, 48), (49, 49), (50, 50), (106, 76), (108, 72), (109, 73), (110, 74)] rfl rfl rfl (by rw [hF]; rfl) ?_
                                            refine T_keepH [8, 9, 10, 11, 14, 15, 19, 21, 22, 23, 24] [24, 25, 26, 28, 47, 48, 49, 50, 72, 73, 74, 76] rfl rfl rfl rfl (by rw [hF]; rfl) ?_
                                            exact hj1 (r144.1.Vars, r144.1.Cells, r144.2.1, r144.2.2.1, r144.2.2.2) hm
                                        · refine ⟨_, rfl, ?_⟩
                                          refine TL_alloc 102 z28 rfl rfl rfl rfl rfl rfl rfl ?_
                                          refine TL_nil ?_
                                          refine TZ_one 3 (by kernel_rfl) rfl ?_
                                          refine TL_callO [(1000, 111), (1001, 112)] (c_laws_toState p1 r142 hr142) Try.call25 rfl rfl rfl rfl rfl rfl rfl rfl rfl rfl rfl rfl rfl ?_
                                          refine TL_nil ?_
                                          refine TZ_one 5 (by kernel_rfl) rfl ?_
                                          refine TL_callO [(1000, 113), (1001, 114), (1002, 115)] (c_impl_RunCode r140 r142 p2 r144 hr144) Try.call15 rfl rfl rfl rfl rfl rfl rfl rfl rfl rfl rfl rfl rfl ?_
                                          refine TL_nil ?_
                                          refine TZ_pure 6 (by kernel_rfl) rfl rfl rfl rfl rfl (op_move rfl) ?_
                                          refine TZ_pure 7 (by kernel_rfl) rfl rfl rfl rfl rfl (op_extract rfl rfl) ?_
                                          refine TZ_pure 8 (by kernel_rfl) rfl rfl rfl rfl rfl (op_extract rfl rfl) ?_
                                          refine TZ_pure 9 (by kernel_rfl) rfl rfl rfl rfl rfl (op_extract rfl rfl) ?_
                                          refine TZ_pure 10 (by kernel_rfl) rfl rfl rfl rfl rfl (op_extract rfl rfl) ?_
                                          refine TZ_one 12 (by kernel_rfl) rfl ?_
                                          refine TL_store_box sz28 rfl rfl rfl rfl rfl rfl rfl rfl rfl ?_
                                          refine TL_nil ?_
                                          refine TZ_pure 13 (by kernel_rfl) rfl rfl rfl rfl rfl (op_assign rfl) ?_
                                          refine TZ_pure 14 (by kernel_rfl) rfl rfl rfl rfl rfl (op_assign rfl) ?_
                                          refine TZ_pure 15 (by kernel_rfl) rfl rfl rfl rfl rfl (op_assign rfl) ?_
                                          refine TZ_done (by kernel_rfl) ?_
                                          refine T_keepH [8, 9, 10, 11, 14, 15, 19, 21, 22, 23, 24] [24, 25, 26, 28, 47, 48, 49, 50, 102, 113, 114, 115] rfl rfl rfl rfl (by rw [hF]; rfl) ?_
                                          refine T_ren [(24, 24), (25, 25), (26, 26), (28, 28), (47, 47), (48, 48), (49, 49), (50, 50), (102, 76), (113, 72), (114, 73), (115, 74)] rfl rfl rfl (by rw [hF]; rfl) ?_
                                          refine T_keepH [8, 9, 10, 11, 14, 15, 19, 21, 22, 23, 24] [24, 25, 26, 28, 47, 48, 49, 50, 72, 73, 74, 76] rfl rfl rfl rfl (by rw [hF]; rfl) ?_
                                          exact hj1 (r144.1.Vars, r144.1.Cells, r144.2.1, r144.2.2.1, r144.2.2.2) hm
                                      · refine ⟨_, rfl, ?_⟩
                                        refine TL_alloc 99 z28 rfl rfl rfl rfl rfl rfl rfl ?_
                                        refine TL_nil ?_
                                        refine TZ_one 1 (by kernel_rfl) rfl ?_
                                        refine TL_callO [(1000, 116)] (c_laws_toInstrS p0 r140 hr140) Try.call24 rfl rfl rfl rfl rfl rfl rfl rfl rfl rfl rfl rfl rfl ?_
                                        refine TL_nil ?_
                                        refine TZ_one 3 (by kernel_rfl) rfl ?_
                                        refine TL_callO [(1000, 117), (1001, 118)] (c_laws_toState p1 r142 hr142) Try.call25 rfl rfl rfl rfl rfl rfl rfl rfl rfl rfl rfl rfl rfl ?_
                                        refine TL_nil ?_
                                        refine TZ_one 5 (by kernel_rfl) rfl ?_
                                        refine TL_callO [(1000, 119), (1001, 120), (1002, 121)] (c_impl_RunCode r140 r142 p2 r144 hr144) Try.call15 rfl rfl rfl rfl rfl rfl rfl rfl rfl rfl rfl rfl rfl ?_
                                        refine TL_nil ?_
                                        refine TZ_pure 6 (by kernel_rfl) rfl rfl rfl rfl rfl (op_move rfl) ?_
                                        refine TZ_pure 7 (by kernel_rfl) rfl rfl rfl rfl rfl (op_extract rfl rfl) ?_
                                        refine TZ_pure 8 (by kernel_rfl) rfl rfl rfl rfl rfl (op_extract rfl rfl) ?_
                                        refine TZ_pure 9 (by kernel_rfl) rfl rfl rfl rfl rfl (op_extract rfl rfl) ?_
                                        refine TZ_pure 10 (by kernel_rfl) rfl rfl rfl rfl rfl (op_extract rfl rfl) ?_
                                        refine TZ_one 12 (by kernel_rfl) rfl ?_
                                        refine TL_store_box sz28 rfl rfl rfl rfl rfl rfl rfl rfl rfl ?_
                                        refine TL_nil ?_
                                        refine TZ_pure 13 (by kernel_rfl) rfl rfl rfl rfl rfl (op_assign rfl) ?_
                                        refine TZ_pure 14 (by kernel_rfl) rfl rfl rfl rfl rfl (op_assign rfl) ?_
                                        refine TZ_pure 15 (by kernel_rfl) rfl rfl rfl rfl rfl (op_assign rfl) ?_
                                        refine TZ_done (by kernel_rfl) ?_
                                        refine T_keepH [8, 9, 10, 11, 14, 15, 19, 21, 22, 23, 24] [24, 25, 26, 28, 47, 48, 49, 50, 99, 119, 120, 121] rfl rfl rfl rfl (by rw [hF]; rfl) ?_
                                        refine T_ren [(24, 24), (25, 25), (26, 26), (28, 28), (47, 47), (48, 48), (49, 49), (50, 50), (99, 76), (119, 72), (120, 73), (121, 74)] rfl rfl rfl (by rw [hF]; rfl) ?_
                                        refine T_keepH [8, 9, 10, 11, 14, 15, 19, 21, 22, 23, 24] [24, 25, 26, 28, 47, 48, 49, 50, 72, 73, 74, 76] rfl rfl rfl rfl (by rw [hF]; rfl) ?_
                                        exact hj1 (r144.1.Vars, r144.1.Cells, r144.2.1, r144.2.2.1, r144.2.2.2) hm
                          · refine TL_split 114 rfl rfl rfl (fun hq => ?_) (fun hq => ?_)
                            · refine TL_pass rfl rfl rfl rfl rfl rfl rfl ?_
                              refine TL_pass rfl rfl rfl rfl rfl rfl rfl ?_
                              refine TL_pass rfl rfl rfl rfl rfl rfl rfl ?_
                              refine TL_pure rfl rfl rfl rfl (op_pick_true rfl rfl) ?_
                              refine TL_keepH [0, 2, 4, 8, 9, 10, 11, 14, 15, 118] [11, 24, 25, 26, 28, 47, 48, 49, 50] rfl rfl rfl rfl (by rw [hF]; rfl) ?_
                              exact TL_cast _ (by rw [hq]; rfl) (hjj () trivial)
                            · refine TL_want rfl rfl ?_
                              refine TL_pure rfl rfl rfl rfl (op_move rfl) ?_
                              refine TL_want rfl rfl ?_
                              refine TL_pure rfl rfl rfl rfl (op_move rfl) ?_
                              refine TL_want rfl rfl ?_
                              refine TL_pure rfl rfl rfl rfl (op_neqB Try.underlying4 rfl rfl) ?_
                              refine TL_pure rfl rfl rfl rfl (op_pick_false rfl rfl) ?_
                              refine TL_keepH [0, 2, 4, 8, 9, 10, 11, 14, 15, 118] [11, 24, 25, 26, 28, 47, 48, 49, 50] rfl rfl rfl rfl (by rw [hF]; rfl) ?_
                              exact TL_cast _ (by rw [hq]; rfl) (hjj () trivial)
                        · refine TL_split 109 rfl rfl rfl (fun hq => ?_) (fun hq => ?_)
                          · refine TL_pass rfl rfl rfl rfl rfl rfl rfl ?_
                            refine TL_pass rfl rfl rfl rfl rfl rfl rfl ?_
                            refine TL_pass rfl rfl rfl rfl rfl rfl rfl ?_
                            refine TL_pure rfl rfl rfl rfl (op_pick_true rfl rfl) ?_
                            refine TL_keepH [0, 2, 4, 8, 9, 10, 11, 14, 15, 17, 113] [11, 24, 25, 26, 28, 47, 48, 49, 50] rfl rfl rfl rfl (by rw [hF]; rfl) ?_
                            exact TL_cast _ (by rw [hq]; rfl) (hjj () trivial)
                          · refine TL_want rfl rfl ?_
                            refine TL_pure rfl rfl rfl rfl (op_move rfl) ?_
                            refine TL_want rfl rfl ?_
                            refine TL_pure rfl rfl rfl rfl (op_move rfl) ?_
                            refine TL_want rfl rfl ?_
                            refine TL_pure rfl rfl rfl rfl (op_neq rfl rfl) ?_
                            refine TL_pure rfl rfl rfl rfl (op_pick_false rfl rfl) ?_
                            refine TL_keepH [0, 2, 4, 8, 9, 10, 11, 14, 15, 17, 113] [11, 24, 25, 26, 28, 47, 48, 49, 50] rfl rfl rfl rfl (by rw [hF]; rfl) ?_
                            exact TL_cast _ (by rw [hq]; rfl) (hjj () trivial)
            · refine TL_split 74 rfl rfl rfl (fun hq => ?_) (fun hq => ?_)
              · refine TL_pass rfl rfl rfl rfl rfl rfl rfl ?_
                refine TL_pass rfl rfl rfl rfl rfl rfl rfl ?_
                refine TL_pass rfl rfl rfl rfl rfl rfl rfl ?_
                refine TL_pure rfl rfl rfl rfl (op_pick_true rfl rfl) ?_
                refine TL_keepH [0, 2, 4, 8, 9, 10, 11, 12, 13, 14, 15, 16, 17, 78] [11, 24, 25, 26, 28, 43, 44, 45, 46, 47, 48, 49, 50] rfl rfl rfl rfl (by rw [hF]; rfl) ?_
                exact TL_cast _ (by rw [hq]; rfl) (hjj () trivial)
              · refine TL_want rfl rfl ?_
                refine TL_pure rfl rfl rfl rfl (op_move rfl) ?_
                refine TL_want rfl rfl ?_
                refine TL_pure rfl rfl rfl rfl (op_move rfl) ?_
                refine TL_want rfl rfl ?_
                refine TL_pure rfl rfl rfl rfl (op_neqB Try.underlying4 rfl rfl) ?_
                refine TL_pure rfl rfl rfl rfl (op_pick_false rfl rfl) ?_
                refine TL_keepH [0, 2, 4, 8, 9, 10, 11, 12, 13, 14, 15, 16, 17, 78] [11, 24, 25, 26, 28, 43, 44, 45, 46, 47, 48, 49, 50] rfl rfl rfl rfl (by rw [hF]; rfl) ?_
                exact TL_cast _ (by rw [hq]; rfl) (hjj () trivial)
          · refine TL_split 69 rfl rfl rfl (fun hq => ?_) (fun hq => ?_)
            · refine TL_pass rfl rfl rfl rfl rfl rfl rfl ?_
              refine TL_pass rfl rfl rfl rfl rfl rfl rfl ?_
              refine TL_pass rfl rfl rfl rfl rfl rfl rfl ?_
              refine TL_pure rfl rfl rfl rfl (op_pick_true rfl rfl) ?_
              refine TL_keepH [0, 2, 4, 8, 9, 10, 11, 12, 13, 14, 15, 16, 17, 73] [11, 24, 25, 26, 28, 43, 44, 45, 46, 47, 48, 49, 50] rfl rfl rfl rfl (by rw [hF]; rfl) ?_
              exact TL_cast _ (by rw [hq]; rfl) (hjj () trivial)
            · refine TL_want rfl rfl ?_
              refine TL_pure rfl rfl rfl rfl (op_move rfl) ?_
              refine TL_want rfl rfl ?_
              refine TL_pure rfl rfl rfl rfl (op_move rfl) ?_
              refine TL_want rfl rfl ?_
              refine TL_pure rfl rfl rfl rfl (op_neq rfl rfl) ?_
              refine TL_pure rfl rfl rfl rfl (op_pick_false rfl rfl) ?_
              refine TL_keepH [0, 2, 4, 8, 9, 10, 11, 12, 13, 14, 15, 16, 17, 73] [11, 24, 25, 26, 28, 43, 44, 45, 46, 47, 48, 49, 50] rfl rfl rfl rfl (by rw [hF]; rfl) ?_
              exact TL_cast _ (by rw [hq]; rfl) (hjj () trivial)
      · refine T_drawZ [12] mix (by kernel_rfl) rfl ?_
        obtain ⟨r37, hr37, hm⟩ := bindS hm
        obtain ⟨r39, hr39, hm⟩ := bindS hm
        obtain ⟨r41, hr41, hm⟩ := bindS hm
        refine TZ_pure 0 (by kernel_rfl) rfl rfl rfl rfl rfl (op_move rfl) ?_
        refine TZ_pure 2 (by kernel_rfl) rfl rfl rfl rfl rfl (op_load_agg ag44 sz44 rfl rfl rfl) ?_
        refine TZ_pure 4 (by kernel_rfl) rfl rfl rfl rfl rfl (op_move rfl) ?_
        refine TZ_each [1, 11] (by kernel_rfl) rfl ?_
        refine ⟨?_, ?_⟩
        · refine ⟨_, rfl, ?_⟩
          refine TL_callO [(1000, 129)] (c_laws_toInstrS p0 r37 hr37) Try.call24 rfl rfl rfl rfl rfl rfl rfl rfl rfl rfl rfl rfl rfl ?_
          refine TL_nil ?_
          refine TZ_each [3, 11] (by kernel_rfl) rfl ?_
          refine ⟨?_, ?_⟩
          · refine ⟨_, rfl, ?_⟩
            refine TL_callO [(1000, 131), (1001, 132)] (c_laws_toState p1 r39 hr39) Try.call25 rfl rfl rfl rfl rfl rfl rfl rfl rfl rfl rfl rfl rfl ?_
            refine TL_nil ?_
            refine TZ_each [5, 11] (by kernel_rfl) rfl ?_
            refine ⟨?_, ?_⟩
            · refine ⟨_, rfl, ?_⟩
              refine TL_callO [(1000, 134), (1001, 135), (1002, 136)] (c_spec_RunCode r37 r39 p2 r41 hr41) Try.call33 rfl rfl rfl rfl rfl rfl rfl rfl rfl rfl rfl rfl rfl ?_
              refine TL_nil ?_
              refine TZ_pure 6 (by kernel_rfl) rfl rfl rfl rfl rfl (op_move rfl) ?_
              refine TZ_pure 7 (by kernel_rfl) rfl rfl rfl rfl rfl (op_extract rfl rfl) ?_
              refine TZ_pure 8 (by kernel_rfl) rfl rfl rfl rfl rfl (op_extract rfl rfl) ?_
              refine TZ_pure 9 (by kernel_rfl) rfl rfl rfl rfl rfl (op_extract rfl rfl) ?_
              refine TZ_pure 10 (by kernel_rfl) rfl rfl rfl rfl rfl (op_extract rfl rfl) ?_
              refine TZ_one 11 (by kernel_rfl) rfl ?_
              refine TL_alloc 138 z28 rfl rfl rfl rfl rfl rfl rfl ?_
              refine TL_nil ?_
              refine TZ_one 12 (by kernel_rfl) rfl ?_
              refine TL_store_box sz28 rfl rfl rfl rfl rfl rfl rfl rfl rfl ?_
              refine TL_nil ?_
              refine TZ_pure 13 (by kernel_rfl) rfl rfl rfl rfl rfl (op_assign rfl) ?_
              refine TZ_pure 14 (by kernel_rfl) rfl rfl rfl rfl rfl (op_assign rfl) ?_
              refine TZ_pure 15 (by kernel_rfl) rfl rfl rfl rfl rfl (op_assign rfl) ?_
              refine TZ_done (by kernel_rfl) ?_
              refine T_keepH [0, 2, 4, 8, 9, 10, 11] [11, 134, 135, 136, 138] rfl rfl rfl rfl (by rw [hF]; rfl) ?_
              refine T_ren [(11, 11), (134, 24), (135, 25), (136, 26), (138, 28)] rfl rfl rfl (by rw [hF]; rfl) ?_
              exact hj0 (r41.1.Vars, r41.1.Cells, r41.2.1, r41.2.2.1, r41.2.2.2) hm
            · refine ⟨_, rfl, ?_⟩
              refine TL_alloc 137 z28 rfl rfl rfl rfl rfl rfl rfl ?_
              refine TL_nil ?_
              refine TZ_one 5 (by kernel_rfl) rfl ?_
              refine TL_callO [(1000, 139), (1001, 140), (1002, 141)] (c_spec_RunCode r37 r39 p2 r41 hr41) Try.call33 rfl rfl rfl rfl rfl rfl rfl rfl rfl rfl rfl rfl rfl ?_
              refine TL_nil ?_
              refine TZ_pure 6 (by kernel_rfl) rfl rfl rfl rfl rfl (op_move rfl) ?_
              refine TZ_pure 7 (by kernel_rfl) rfl rfl rfl rfl rfl (op_extract rfl rfl) ?_
              refine TZ_pure 8 (by kernel_rfl) rfl rfl rfl rfl rfl (op_extract rfl rfl) ?_
              refine TZ_pure 9 (by kernel_rfl) rfl rfl rfl rfl rfl (op_extract rfl rfl) ?_
              refine TZ_pure 10 (by kernel_rfl) rfl rfl rfl rfl rfl (op_extract rfl rfl) ?_
              refine TZ_one 12 (by kernel_rfl) rfl ?_
              refine TL_store_box sz28 rfl rfl rfl rfl rfl rfl rfl rfl rfl ?_
              refine TL_nil ?_
              refine TZ_pure 13 (by kernel_rfl) rfl rfl rfl rfl rfl (op_assign rfl) ?_
              refine TZ_pure 14 (by kernel_rfl) rfl rfl rfl rfl rfl (op_assign rfl) ?_
              refine TZ_pure 15 (by kernel_rfl) rfl rfl rfl rfl rfl (op_assign rfl) ?_
              refine TZ_done (by kernel_rfl) ?_
              refine T_keepH [0, 2, 4, 8, 9, 10, 11] [11, 137, 139, 140, 141] rfl rfl rfl rfl (by rw [hF]; rfl) ?_
              refine T_ren [(11, 11), (137, 28), (139, 24), (140, 25), (141, 26)] rfl rfl rfl (by rw [hF]; rfl) ?_
              refine T_keepH [0, 2, 4, 8, 9, 10, 11] [11, 24, 25, 26, 28] rfl rfl rfl rfl (by rw [hF]; rfl) ?_
              exact hj0 (r41.1.Vars, r41.1.Cells, r41.2.1, r41.2.2.1, r41.2.2.2) hm
          · refine ⟨_, rfl, ?_⟩
            refine TL_alloc 133 z28 rfl rfl rfl rfl rfl rfl rfl ?_
            refine TL_nil ?_
            refine TZ_one 3 (by kernel_rfl) rfl ?_
            refine TL_callO [(1000, 142), (1001, 143)] (c_laws_toState p1 r39 hr39) Try.call25 rfl rfl rfl rfl rfl rfl rfl rfl rfl rfl rfl rfl rfl ?_
            refine TL_nil ?_
            refine TZ_one 5 (by kernel_rfl) rfl ?_
            refine TL_callO [(1000, 144), (1001, 145), (1002, 146)] (c_spec_RunCode r37 r39 p2 r41 hr41) Try.call33 rfl rfl rfl rfl rfl rfl rfl rfl rfl rfl rfl rfl rfl ?_
            refine TL_nil ?_
            refine TZ_pure 6 (by kernel_rfl) rfl rfl rfl rfl rfl (op_move rfl) ?_
            refine TZ_pure 7 (by kernel_rfl) rfl rfl rfl rfl rfl (op_extract rfl rfl) ?_
            refine TZ_pure 8 (by kernel_rfl) rfl rfl rfl rfl rfl (op_extract rfl rfl) ?_
            refine TZ_pure 9 (by kernel_rfl) rfl rfl rfl rfl rfl (op_extract rfl rfl) ?_
            refine TZ_pure 10 (by kernel_rfl) rfl rfl rfl rfl rfl (op_extract rfl rfl) ?_
            refine TZ_one 12 (by kernel_rfl) rfl ?_
            refine TL_store_box sz28 rfl rfl rfl rfl rfl rfl rfl rfl rfl ?_
            refine TL_nil ?_
            refine TZ_pure 13 (by kernel_rfl) rfl rfl rfl rfl rfl (op_assign rfl) ?_
            refine TZ_pure 14 (by kernel_rfl) rfl rfl rfl rfl rfl (op_assign rfl) ?_
            refine TZ_pure 15 (by kernel_rfl) rfl rfl rfl rfl rfl (op_assign rfl) ?_
            refine TZ_done (by kernel_rfl) ?_
            refine T_keepH [0, 2, 4, 8, 9, 10, 11] [11, 133, 144, 145, 146] rfl rfl rfl rfl (by rw [hF]; rfl) ?_
            refine T_ren [(11, 11), (133, 28), (144, 24), (145, 25), (146, 26)] rfl rfl rfl (by rw [hF]; rfl) ?_
            refine T_keepH [0, 2, 4, 8, 9, 10, 11] [11, 24, 25, 26, 28] rfl rfl rfl rfl (by rw [hF]; rfl) ?_
            exact hj0 (r41.1.Vars, r41.1.Cells, r41.2.1, r41.2.2.1, r41.2.2.2) hm
        · refine ⟨_, rfl, ?_⟩
          refine TL_alloc 130 z28 rfl rfl rfl rfl rfl rfl rfl ?_
          refine TL_nil ?_
          refine TZ_one 1 (by kernel_rfl) rfl ?_
          refine TL_callO [(1000, 147)] (c_laws_toInstrS p0 r37 hr37) Try.call24 rfl rfl rfl rfl rfl rfl rfl rfl rfl rfl rfl rfl rfl ?_
          refine TL_nil ?_
          refine TZ_one 3 (by kernel_rfl) rfl ?_
          refine TL_callO [(1000, 148), (1001, 149)] (c_laws_toState p1 r39 hr39) Try.call25 rfl rfl rfl rfl rfl rfl rfl rfl rfl rfl rfl rfl rfl ?_
          refine TL_nil ?_
          refine TZ_one 5 (by kernel_rfl) rfl ?_
          refine TL_callO [(1000, 150), (1001, 151), (1002, 152)] (c_spec_RunCode r37 r39 p2 r41 hr41) Try.call33 rfl rfl rfl rfl rfl rfl rfl rfl rfl rfl rfl rfl rfl ?_
          refine TL_nil ?_
          refine TZ_pure 6 (by kernel_rfl) rfl rfl rfl rfl rfl (op_move rfl) ?_
          refine TZ_pure 7 (by kernel_rfl) rfl rfl rfl rfl rfl (op_extract rfl rfl) ?_
          refine TZ_pure 8 (by kernel_rfl) rfl rfl rfl rfl rfl (op_extract rfl rfl) ?_
          refine TZ_pure 9 (by kernel_rfl) rfl rfl rfl rfl rfl (op_extract rfl rfl) ?_
          refine TZ_pure 10 (by kernel_rfl) rfl rfl rfl rfl rfl (op_extract rfl rfl) ?_
          refine TZ_one 12 (by kernel_rfl) rfl ?_
          refine TL_store_box sz28 rfl rfl rfl rfl rfl rfl rfl rfl rfl ?_
          refine TL_nil ?_
          refine TZ_pure 13 (by kernel_rfl) rfl rfl rfl rfl rfl (op_assign rfl) ?_
          refine TZ_pure 14 (by kernel_rfl) rfl rfl rfl rfl rfl (op_assign rfl) ?_
          refine TZ_pure 15 (by kernel_rfl) rfl rfl rfl rfl rfl (op_assign rfl) ?_
          refine TZ_done (by kernel_rfl) ?_
          refine T_keepH [0, 2, 4, 8, 9, 10, 11] [11, 130, 150, 151, 152] rfl rfl rfl rfl (by rw [hF]; rfl) ?_
          refine T_ren [(11, 11), (130, 28), (150, 24), (151, 25), (152, 26)] rfl rfl rfl (by rw [hF]; rfl) ?_
          refine T_keepH [0, 2, 4, 8, 9, 10, 11] [11, 24, 25, 26, 28] rfl rfl rfl rfl (by rw [hF]; rfl) ?_
          exact hj0 (r41.1.Vars, r41.1.Cells, r41.2.1, r41.2.2.1, r41.2.2.2) hm
end Go.Mod
